/- Texts laid into one file: DplIn. -/
import Derived.Test.YtjbkckhpoicaeaaDp11

set_option linter.unusedVariables false
set_option linter.unusedSimpArgs false
/- DiskPlays: its walk as a call. -/
namespace Go.Proofs.Ytjbkckhpoicaeaa
open Go Go.RowKit

theorem diskPlays_walk (W : World) (a0 : Option Addr) (c0 : Nat) (xs : List StpIn) (h : InS stpV (stpOk W) 56 W a0 c0 xs) :
    Calls Try.prog 5 #[.slice a0 xs.length c0] W fun e w' => e = .returned (.bool true) ∧ Below W.heap.size W w' :=
  Mir.Con.calls (Mir.c_law_DiskPlays (xs.map stpD) (stp_len h)) fun _ hA => .one (.f (rf_stps hA h)) .none
end Go.Proofs.Ytjbkckhpoicaeaa
