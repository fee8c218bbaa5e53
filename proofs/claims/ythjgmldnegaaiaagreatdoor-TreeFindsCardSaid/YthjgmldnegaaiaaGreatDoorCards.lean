/-
  DERIVED. GIVEN WITH THE SEED: THE CARDS: each row of YthjgmldnegaaiaaGreatDoorRows.lean that lists a variable, with what it lists TIED to the program's text (the seventh form; the later family's looks); each row that meets fmt, with fmt's text TOLD by the authors' own Lean function (tested against real Go, not proved from fmt's source: count such statements apart). THE CARD IS WHAT COUNTS. Prove the row's statement (the work); the ties are given (YthjgmldnegaaiaaGreatDoorTie.lean); close each card by the builder's one call (the guide's Derived/Test/ToyasCard.lean, 'card_holds'). Laid BY PROGRAM, IN A SANDBOX (cutbox-door.mjs). By AI agents, Wed Nov 11 2026. No macro, syntax, notation, axiom, sorry.
-/
import Derived.Test.YthjgmldnegaaiaaGreatDoorRows
import GoSem.ClaimSeven
namespace Go.Proofs.YthjgmldnegaaiaaGreatDoor
namespace Rows

/-- THE TIED CARD OF 'cutoverlaw13.TreeParts'. -/
def treePartsCard : Claim7 := { stood := { row := treePartsRow, standIns := [], harness := (true, "6c5a2d66f2f0f5eedb5d79c97538d163e3eea4477f876f68d71fac370c0fa315"), looks := false }, kinds := [], alts := [], laidByText := true, laidKinds := [.data], laidTests := true, laidLooks := .later }
def TreePartsCardSaid : Prop := Claim7.holds Tryz.pinned (.plain (OpenSpec.ofChange treePartsSpec)) treePartsCard

/-- THE TIED CARD OF 'cutoverlaw13.TreeFinds'. -/
def treeFindsCard : Claim7 := { stood := { row := treeFindsRow, standIns := [], harness := (true, "6c5a2d66f2f0f5eedb5d79c97538d163e3eea4477f876f68d71fac370c0fa315"), looks := false }, kinds := [], alts := [], laidByText := true, laidKinds := [.data], laidTests := true, laidLooks := .later }
def TreeFindsCardSaid : Prop := Claim7.holds Tryz.pinned (.plain (OpenSpec.ofChange treeFindsSpec)) treeFindsCard

/-- THE TIED CARD OF 'cutoverlaw13.TreeTogether'. -/
def treeTogetherCard : Claim7 := { stood := { row := treeTogetherRow, standIns := [], harness := (true, "6c5a2d66f2f0f5eedb5d79c97538d163e3eea4477f876f68d71fac370c0fa315"), looks := false }, kinds := [], alts := [], laidByText := true, laidKinds := [.data], laidTests := true, laidLooks := .later }
def TreeTogetherCardSaid : Prop := Claim7.holds Tryz.pinned (.plain (OpenSpec.ofChange treeTogetherSpec)) treeTogetherCard

/-- THE TIED CARD OF 'cutoverlaw14.SignalsNone'. -/
def signalsNoneCard : Claim7 := { stood := { row := signalsNoneRow, standIns := [], harness := (true, "6c5a2d66f2f0f5eedb5d79c97538d163e3eea4477f876f68d71fac370c0fa315"), looks := false }, kinds := [], alts := [], laidByText := true, laidKinds := [.data], laidTests := true, laidLooks := .later }
def SignalsNoneCardSaid : Prop := Claim7.holds Tryz.pinned (.plain (OpenSpec.ofChange signalsNoneSpec)) signalsNoneCard

/-- THE TIED CARD OF 'cutoverlaw14.SignalsTell'. -/
def signalsTellCard : Claim7 := { stood := { row := signalsTellRow, standIns := [], harness := (true, "6c5a2d66f2f0f5eedb5d79c97538d163e3eea4477f876f68d71fac370c0fa315"), looks := false }, kinds := [], alts := [], laidByText := true, laidKinds := [.data], laidTests := true, laidLooks := .later }
def SignalsTellCardSaid : Prop := Claim7.holds Tryz.pinned (.plain (OpenSpec.ofChange signalsTellSpec)) signalsTellCard

/-- THE TIED CARD OF 'cutoverlaw14.SignalsGrow'. -/
def signalsGrowCard : Claim7 := { stood := { row := signalsGrowRow, standIns := [], harness := (true, "6c5a2d66f2f0f5eedb5d79c97538d163e3eea4477f876f68d71fac370c0fa315"), looks := false }, kinds := [], alts := [], laidByText := true, laidKinds := [.data], laidTests := true, laidLooks := .later }
def SignalsGrowCardSaid : Prop := Claim7.holds Tryz.pinned (.plain (OpenSpec.ofChange signalsGrowSpec)) signalsGrowCard

/-- THE SECOND FORM's CARD OF 'cutoverlaw13.TreeParts'. -/
def treePartsUptoCard : Claim7 := { stood := { row := treePartsUptoRow, standIns := [], harness := (true, "6c5a2d66f2f0f5eedb5d79c97538d163e3eea4477f876f68d71fac370c0fa315"), looks := false }, kinds := [], alts := [], laidByText := true, laidKinds := [.data], laidTests := true, laidLooks := .later }
def TreePartsUptoCardSaid : Prop := Claim7.holds Tryz.pinned (.plain (OpenSpec.upto treePartsSpec)) treePartsUptoCard

/-- THE SECOND FORM's CARD OF 'cutoverlaw13.TreeFinds'. -/
def treeFindsUptoCard : Claim7 := { stood := { row := treeFindsUptoRow, standIns := [], harness := (true, "6c5a2d66f2f0f5eedb5d79c97538d163e3eea4477f876f68d71fac370c0fa315"), looks := false }, kinds := [], alts := [], laidByText := true, laidKinds := [.data], laidTests := true, laidLooks := .later }
def TreeFindsUptoCardSaid : Prop := Claim7.holds Tryz.pinned (.plain (OpenSpec.upto treeFindsSpec)) treeFindsUptoCard

/-- THE SECOND FORM's CARD OF 'cutoverlaw13.TreeTogether'. -/
def treeTogetherUptoCard : Claim7 := { stood := { row := treeTogetherUptoRow, standIns := [], harness := (true, "6c5a2d66f2f0f5eedb5d79c97538d163e3eea4477f876f68d71fac370c0fa315"), looks := false }, kinds := [], alts := [], laidByText := true, laidKinds := [.data], laidTests := true, laidLooks := .later }
def TreeTogetherUptoCardSaid : Prop := Claim7.holds Tryz.pinned (.plain (OpenSpec.upto treeTogetherSpec)) treeTogetherUptoCard

/-- THE SECOND FORM's CARD OF 'cutoverlaw14.SignalsNone'. -/
def signalsNoneUptoCard : Claim7 := { stood := { row := signalsNoneUptoRow, standIns := [], harness := (true, "6c5a2d66f2f0f5eedb5d79c97538d163e3eea4477f876f68d71fac370c0fa315"), looks := false }, kinds := [], alts := [], laidByText := true, laidKinds := [.data], laidTests := true, laidLooks := .later }
def SignalsNoneUptoCardSaid : Prop := Claim7.holds Tryz.pinned (.plain (OpenSpec.upto signalsNoneSpec)) signalsNoneUptoCard

/-- THE SECOND FORM's CARD OF 'cutoverlaw14.SignalsTell'. -/
def signalsTellUptoCard : Claim7 := { stood := { row := signalsTellUptoRow, standIns := [], harness := (true, "6c5a2d66f2f0f5eedb5d79c97538d163e3eea4477f876f68d71fac370c0fa315"), looks := false }, kinds := [], alts := [], laidByText := true, laidKinds := [.data], laidTests := true, laidLooks := .later }
def SignalsTellUptoCardSaid : Prop := Claim7.holds Tryz.pinned (.plain (OpenSpec.upto signalsTellSpec)) signalsTellUptoCard

/-- THE SECOND FORM's CARD OF 'cutoverlaw14.SignalsGrow'. -/
def signalsGrowUptoCard : Claim7 := { stood := { row := signalsGrowUptoRow, standIns := [], harness := (true, "6c5a2d66f2f0f5eedb5d79c97538d163e3eea4477f876f68d71fac370c0fa315"), looks := false }, kinds := [], alts := [], laidByText := true, laidKinds := [.data], laidTests := true, laidLooks := .later }
def SignalsGrowUptoCardSaid : Prop := Claim7.holds Tryz.pinned (.plain (OpenSpec.upto signalsGrowSpec)) signalsGrowUptoCard
end Rows
end Go.Proofs.YthjgmldnegaaiaaGreatDoor
