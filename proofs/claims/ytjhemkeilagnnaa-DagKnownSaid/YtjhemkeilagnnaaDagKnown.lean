/- DagKnown: its walk, by the machine. -/
import Derived.Test.YtjhemkeilagnnaaMirUse
namespace Go.Proofs.Ytjhemkeilagnnaa
open Go Go.RowKit

theorem dagKnown_run : Mir.isTrue (Mir.run Try.prog Mir.noExt 40 12 [] []) = true := by kernel_rfl
theorem dagKnown_walk (w : World) : Calls Try.prog 12 #[] w fun e w' => e = .returned (.bool true) ∧ Below w.heap.size w w' :=
  (Mir.closed Mir.good (Mir.noExt_ok _) dagKnown_run w).mono fun _ _ h => ⟨h.1, h.2.below (Nat.le_refl _) (fun _ _ h => h)⟩
end Go.Proofs.Ytjhemkeilagnnaa
