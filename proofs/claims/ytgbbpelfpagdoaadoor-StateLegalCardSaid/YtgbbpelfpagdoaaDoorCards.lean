/-
  DERIVED. GIVEN WITH THE SEED: THE CARDS: each row of YtgbbpelfpagdoaaDoorRows.lean that lists a variable, with what it lists TIED to the program's text (the seventh form; the later family's looks); each row that meets fmt, with fmt's text TOLD by the authors' own Lean function (tested against real Go, not proved from fmt's source: count such statements apart). THE CARD IS WHAT COUNTS. Prove the row's statement (the work); the ties are given (YtgbbpelfpagdoaaDoorTie.lean); close each card by the builder's one call (the guide's Derived/Test/ToyasCard.lean, 'card_holds'). Laid BY PROGRAM, IN A SANDBOX (cutbox-door.mjs). By AI agents, Wed Nov 11 2026. No macro, syntax, notation, axiom, sorry.
-/
import Derived.Test.YtgbbpelfpagdoaaDoorRows
import GoSem.ClaimSeven
namespace Go.Proofs.YtgbbpelfpagdoaaDoor
namespace Rows

/-- THE TIED CARD OF 'cutoverlaw12.StateSignals'. -/
def stateSignalsCard : Claim7 := { stood := { row := stateSignalsRow, standIns := [], harness := (true, "a784f9ad621a8f67af4370c8cce5cc6b7695ab377bb0fb566d66552bef74ccc8"), looks := false }, kinds := [], alts := [], laidByText := true, laidKinds := [.data], laidTests := true, laidLooks := .later }
def StateSignalsCardSaid : Prop := Claim7.holds Tryd.pinned (.plain (OpenSpec.ofChange stateSignalsSpec)) stateSignalsCard

/-- THE TIED CARD OF 'cutoverlaw12.StateLegal'. -/
def stateLegalCard : Claim7 := { stood := { row := stateLegalRow, standIns := [], harness := (true, "a784f9ad621a8f67af4370c8cce5cc6b7695ab377bb0fb566d66552bef74ccc8"), looks := false }, kinds := [], alts := [], laidByText := true, laidKinds := [.data], laidTests := true, laidLooks := .later }
def StateLegalCardSaid : Prop := Claim7.holds Tryd.pinned (.plain (OpenSpec.ofChange stateLegalSpec)) stateLegalCard

/-- THE SECOND FORM's CARD OF 'cutoverlaw12.StateSignals'. -/
def stateSignalsUptoCard : Claim7 := { stood := { row := stateSignalsUptoRow, standIns := [], harness := (true, "a784f9ad621a8f67af4370c8cce5cc6b7695ab377bb0fb566d66552bef74ccc8"), looks := false }, kinds := [], alts := [], laidByText := true, laidKinds := [.data], laidTests := true, laidLooks := .later }
def StateSignalsUptoCardSaid : Prop := Claim7.holds Tryd.pinned (.plain (OpenSpec.upto stateSignalsSpec)) stateSignalsUptoCard

/-- THE SECOND FORM's CARD OF 'cutoverlaw12.StateLegal'. -/
def stateLegalUptoCard : Claim7 := { stood := { row := stateLegalUptoRow, standIns := [], harness := (true, "a784f9ad621a8f67af4370c8cce5cc6b7695ab377bb0fb566d66552bef74ccc8"), looks := false }, kinds := [], alts := [], laidByText := true, laidKinds := [.data], laidTests := true, laidLooks := .later }
def StateLegalUptoCardSaid : Prop := Claim7.holds Tryd.pinned (.plain (OpenSpec.upto stateLegalSpec)) stateLegalUptoCard
end Rows
end Go.Proofs.YtgbbpelfpagdoaaDoor
