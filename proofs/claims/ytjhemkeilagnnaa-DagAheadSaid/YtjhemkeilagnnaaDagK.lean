/- Chapter 11's example. -/
import Derived.Test.YtjhemkeilagnnaaHand
import Derived.Test.YtjhemkeilagnnaaMirUse
namespace Go.Proofs.Ytjhemkeilagnnaa.Mir
open Go Go.RowKit

theorem dagEx_run : isTrue (runF Try.prog noExt 60 16 [] []) = true := by kernel_rfl
theorem c_dag_known : Con Try.prog 16 [] [] fun r H' => r = D.bool true ∧ H' = [] :=
  (Con.run good (noExt_ok _) fn_law_known.has (isTrue_eq (by rw [← runF_eq]; exact dagEx_run))).mono fun _ _ h => h
end Go.Proofs.Ytjhemkeilagnnaa.Mir
