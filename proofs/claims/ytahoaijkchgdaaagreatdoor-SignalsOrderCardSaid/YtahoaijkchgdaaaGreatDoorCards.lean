/-
  DERIVED. GIVEN WITH THE SEED: THE CARDS: each row of YtahoaijkchgdaaaGreatDoorRows.lean that lists a variable, with what it lists TIED to the program's text (the seventh form; the later family's looks); each row that meets fmt, with fmt's text TOLD by the authors' own Lean function (tested against real Go, not proved from fmt's source: count such statements apart). THE CARD IS WHAT COUNTS. Prove the row's statement (the work); the ties are given (YtahoaijkchgdaaaGreatDoorTie.lean); close each card by the builder's one call (the guide's Derived/Test/ToyasCard.lean, 'card_holds'). Laid BY PROGRAM, IN A SANDBOX (cutbox-door.mjs). By AI agents, Wed Nov 11 2026. No macro, syntax, notation, axiom, sorry.
-/
import Derived.Test.YtahoaijkchgdaaaGreatDoorRows
import GoSem.ClaimSeven
namespace Go.Proofs.YtahoaijkchgdaaaGreatDoor
namespace Rows

/-- THE TIED CARD OF 'cutoverlaw15.PlanMends'. -/
def planMendsCard : Claim7 := { stood := { row := planMendsRow, standIns := [], harness := (true, "3c1a641124b6c29ff9bcae364de9826970b144dbec1b74aba03c3c4b561130ea"), looks := false }, kinds := [], alts := [], laidByText := true, laidKinds := [.data], laidTests := true, laidLooks := .later }
def PlanMendsCardSaid : Prop := Claim7.holds Tryz.pinned (.plain (OpenSpec.ofChange planMendsSpec)) planMendsCard

/-- THE TIED CARD OF 'cutoverlaw13.TreeParts'. -/
def treePartsCard : Claim7 := { stood := { row := treePartsRow, standIns := [], harness := (true, "3c1a641124b6c29ff9bcae364de9826970b144dbec1b74aba03c3c4b561130ea"), looks := false }, kinds := [], alts := [], laidByText := true, laidKinds := [.data], laidTests := true, laidLooks := .later }
def TreePartsCardSaid : Prop := Claim7.holds Tryz.pinned (.plain (OpenSpec.ofChange treePartsSpec)) treePartsCard

/-- THE TIED CARD OF 'cutoverlaw13.TreeFinds'. -/
def treeFindsCard : Claim7 := { stood := { row := treeFindsRow, standIns := [], harness := (true, "3c1a641124b6c29ff9bcae364de9826970b144dbec1b74aba03c3c4b561130ea"), looks := false }, kinds := [], alts := [], laidByText := true, laidKinds := [.data], laidTests := true, laidLooks := .later }
def TreeFindsCardSaid : Prop := Claim7.holds Tryz.pinned (.plain (OpenSpec.ofChange treeFindsSpec)) treeFindsCard

/-- THE TIED CARD OF 'cutoverlaw13.TreeTogether'. -/
def treeTogetherCard : Claim7 := { stood := { row := treeTogetherRow, standIns := [], harness := (true, "3c1a641124b6c29ff9bcae364de9826970b144dbec1b74aba03c3c4b561130ea"), looks := false }, kinds := [], alts := [], laidByText := true, laidKinds := [.data], laidTests := true, laidLooks := .later }
def TreeTogetherCardSaid : Prop := Claim7.holds Tryz.pinned (.plain (OpenSpec.ofChange treeTogetherSpec)) treeTogetherCard

/-- THE TIED CARD OF 'cutoverlaw14.SignalsNone'. -/
def signalsNoneCard : Claim7 := { stood := { row := signalsNoneRow, standIns := [], harness := (true, "3c1a641124b6c29ff9bcae364de9826970b144dbec1b74aba03c3c4b561130ea"), looks := false }, kinds := [], alts := [], laidByText := true, laidKinds := [.data], laidTests := true, laidLooks := .later }
def SignalsNoneCardSaid : Prop := Claim7.holds Tryz.pinned (.plain (OpenSpec.ofChange signalsNoneSpec)) signalsNoneCard

/-- THE TIED CARD OF 'cutoverlaw13.TreeAdds'. -/
def treeAddsCard : Claim7 := { stood := { row := treeAddsRow, standIns := [], harness := (true, "3c1a641124b6c29ff9bcae364de9826970b144dbec1b74aba03c3c4b561130ea"), looks := false }, kinds := [], alts := [], laidByText := true, laidKinds := [.data], laidTests := true, laidLooks := .later }
def TreeAddsCardSaid : Prop := Claim7.holds Tryz.pinned (.plain (OpenSpec.ofChange treeAddsSpec)) treeAddsCard

/-- THE TIED CARD OF 'cutoverlaw14.SignalsTell'. -/
def signalsTellCard : Claim7 := { stood := { row := signalsTellRow, standIns := [], harness := (true, "3c1a641124b6c29ff9bcae364de9826970b144dbec1b74aba03c3c4b561130ea"), looks := false }, kinds := [], alts := [], laidByText := true, laidKinds := [.data], laidTests := true, laidLooks := .later }
def SignalsTellCardSaid : Prop := Claim7.holds Tryz.pinned (.plain (OpenSpec.ofChange signalsTellSpec)) signalsTellCard

/-- THE TIED CARD OF 'cutoverlaw14.SignalsOrder'. -/
def signalsOrderCard : Claim7 := { stood := { row := signalsOrderRow, standIns := [], harness := (true, "3c1a641124b6c29ff9bcae364de9826970b144dbec1b74aba03c3c4b561130ea"), looks := false }, kinds := [], alts := [], laidByText := true, laidKinds := [.data], laidTests := true, laidLooks := .later }
def SignalsOrderCardSaid : Prop := Claim7.holds Tryz.pinned (.plain (OpenSpec.ofChange signalsOrderSpec)) signalsOrderCard

/-- THE TIED CARD OF 'cutoverlaw13.TreeBytes'. -/
def treeBytesCard : Claim7 := { stood := { row := treeBytesRow, standIns := [], harness := (true, "3c1a641124b6c29ff9bcae364de9826970b144dbec1b74aba03c3c4b561130ea"), looks := false }, kinds := [], alts := [], laidByText := true, laidKinds := [.data], laidTests := true, laidLooks := .later }
def TreeBytesCardSaid : Prop := Claim7.holds Tryz.pinned (.plain (OpenSpec.ofChange treeBytesSpec)) treeBytesCard

/-- THE TIED CARD OF 'cutoverlaw13.TreeBack'. -/
def treeBackCard : Claim7 := { stood := { row := treeBackRow, standIns := [], harness := (true, "3c1a641124b6c29ff9bcae364de9826970b144dbec1b74aba03c3c4b561130ea"), looks := false }, kinds := [], alts := [], laidByText := true, laidKinds := [.data], laidTests := true, laidLooks := .later }
def TreeBackCardSaid : Prop := Claim7.holds Tryz.pinned (.plain (OpenSpec.ofChange treeBackSpec)) treeBackCard

/-- THE TIED CARD OF 'cutoverlaw15.PlanLate'. -/
def planLateCard : Claim7 := { stood := { row := planLateRow, standIns := [], harness := (true, "3c1a641124b6c29ff9bcae364de9826970b144dbec1b74aba03c3c4b561130ea"), looks := false }, kinds := [], alts := [], laidByText := true, laidKinds := [.data], laidTests := true, laidLooks := .later }
def PlanLateCardSaid : Prop := Claim7.holds Tryz.pinned (.plain (OpenSpec.ofChange planLateSpec)) planLateCard

/-- THE TIED CARD OF 'cutoverlaw15.PlanWrites'. -/
def planWritesCard : Claim7 := { stood := { row := planWritesRow, standIns := [], harness := (true, "3c1a641124b6c29ff9bcae364de9826970b144dbec1b74aba03c3c4b561130ea"), looks := false }, kinds := [], alts := [], laidByText := true, laidKinds := [.data], laidTests := true, laidLooks := .later }
def PlanWritesCardSaid : Prop := Claim7.holds Tryz.pinned (.plain (OpenSpec.ofChange planWritesSpec)) planWritesCard

/-- THE TIED CARD OF 'cutoverlaw15.PlanLegal'. -/
def planLegalCard : Claim7 := { stood := { row := planLegalRow, standIns := [], harness := (true, "3c1a641124b6c29ff9bcae364de9826970b144dbec1b74aba03c3c4b561130ea"), looks := false }, kinds := [], alts := [], laidByText := true, laidKinds := [.data], laidTests := true, laidLooks := .later }
def PlanLegalCardSaid : Prop := Claim7.holds Tryz.pinned (.plain (OpenSpec.ofChange planLegalSpec)) planLegalCard

/-- THE TIED CARD OF 'cutoverlaw14.SignalsGrow'. -/
def signalsGrowCard : Claim7 := { stood := { row := signalsGrowRow, standIns := [], harness := (true, "3c1a641124b6c29ff9bcae364de9826970b144dbec1b74aba03c3c4b561130ea"), looks := false }, kinds := [], alts := [], laidByText := true, laidKinds := [.data], laidTests := true, laidLooks := .later }
def SignalsGrowCardSaid : Prop := Claim7.holds Tryz.pinned (.plain (OpenSpec.ofChange signalsGrowSpec)) signalsGrowCard

/-- THE SECOND FORM's CARD OF 'cutoverlaw15.PlanMends'. -/
def planMendsUptoCard : Claim7 := { stood := { row := planMendsUptoRow, standIns := [], harness := (true, "3c1a641124b6c29ff9bcae364de9826970b144dbec1b74aba03c3c4b561130ea"), looks := false }, kinds := [], alts := [], laidByText := true, laidKinds := [.data], laidTests := true, laidLooks := .later }
def PlanMendsUptoCardSaid : Prop := Claim7.holds Tryz.pinned (.plain (OpenSpec.upto planMendsSpec)) planMendsUptoCard

/-- THE SECOND FORM's CARD OF 'cutoverlaw13.TreeParts'. -/
def treePartsUptoCard : Claim7 := { stood := { row := treePartsUptoRow, standIns := [], harness := (true, "3c1a641124b6c29ff9bcae364de9826970b144dbec1b74aba03c3c4b561130ea"), looks := false }, kinds := [], alts := [], laidByText := true, laidKinds := [.data], laidTests := true, laidLooks := .later }
def TreePartsUptoCardSaid : Prop := Claim7.holds Tryz.pinned (.plain (OpenSpec.upto treePartsSpec)) treePartsUptoCard

/-- THE SECOND FORM's CARD OF 'cutoverlaw13.TreeFinds'. -/
def treeFindsUptoCard : Claim7 := { stood := { row := treeFindsUptoRow, standIns := [], harness := (true, "3c1a641124b6c29ff9bcae364de9826970b144dbec1b74aba03c3c4b561130ea"), looks := false }, kinds := [], alts := [], laidByText := true, laidKinds := [.data], laidTests := true, laidLooks := .later }
def TreeFindsUptoCardSaid : Prop := Claim7.holds Tryz.pinned (.plain (OpenSpec.upto treeFindsSpec)) treeFindsUptoCard

/-- THE SECOND FORM's CARD OF 'cutoverlaw13.TreeTogether'. -/
def treeTogetherUptoCard : Claim7 := { stood := { row := treeTogetherUptoRow, standIns := [], harness := (true, "3c1a641124b6c29ff9bcae364de9826970b144dbec1b74aba03c3c4b561130ea"), looks := false }, kinds := [], alts := [], laidByText := true, laidKinds := [.data], laidTests := true, laidLooks := .later }
def TreeTogetherUptoCardSaid : Prop := Claim7.holds Tryz.pinned (.plain (OpenSpec.upto treeTogetherSpec)) treeTogetherUptoCard

/-- THE SECOND FORM's CARD OF 'cutoverlaw14.SignalsNone'. -/
def signalsNoneUptoCard : Claim7 := { stood := { row := signalsNoneUptoRow, standIns := [], harness := (true, "3c1a641124b6c29ff9bcae364de9826970b144dbec1b74aba03c3c4b561130ea"), looks := false }, kinds := [], alts := [], laidByText := true, laidKinds := [.data], laidTests := true, laidLooks := .later }
def SignalsNoneUptoCardSaid : Prop := Claim7.holds Tryz.pinned (.plain (OpenSpec.upto signalsNoneSpec)) signalsNoneUptoCard

/-- THE SECOND FORM's CARD OF 'cutoverlaw13.TreeAdds'. -/
def treeAddsUptoCard : Claim7 := { stood := { row := treeAddsUptoRow, standIns := [], harness := (true, "3c1a641124b6c29ff9bcae364de9826970b144dbec1b74aba03c3c4b561130ea"), looks := false }, kinds := [], alts := [], laidByText := true, laidKinds := [.data], laidTests := true, laidLooks := .later }
def TreeAddsUptoCardSaid : Prop := Claim7.holds Tryz.pinned (.plain (OpenSpec.upto treeAddsSpec)) treeAddsUptoCard

/-- THE SECOND FORM's CARD OF 'cutoverlaw14.SignalsTell'. -/
def signalsTellUptoCard : Claim7 := { stood := { row := signalsTellUptoRow, standIns := [], harness := (true, "3c1a641124b6c29ff9bcae364de9826970b144dbec1b74aba03c3c4b561130ea"), looks := false }, kinds := [], alts := [], laidByText := true, laidKinds := [.data], laidTests := true, laidLooks := .later }
def SignalsTellUptoCardSaid : Prop := Claim7.holds Tryz.pinned (.plain (OpenSpec.upto signalsTellSpec)) signalsTellUptoCard

/-- THE SECOND FORM's CARD OF 'cutoverlaw14.SignalsOrder'. -/
def signalsOrderUptoCard : Claim7 := { stood := { row := signalsOrderUptoRow, standIns := [], harness := (true, "3c1a641124b6c29ff9bcae364de9826970b144dbec1b74aba03c3c4b561130ea"), looks := false }, kinds := [], alts := [], laidByText := true, laidKinds := [.data], laidTests := true, laidLooks := .later }
def SignalsOrderUptoCardSaid : Prop := Claim7.holds Tryz.pinned (.plain (OpenSpec.upto signalsOrderSpec)) signalsOrderUptoCard

/-- THE SECOND FORM's CARD OF 'cutoverlaw13.TreeBytes'. -/
def treeBytesUptoCard : Claim7 := { stood := { row := treeBytesUptoRow, standIns := [], harness := (true, "3c1a641124b6c29ff9bcae364de9826970b144dbec1b74aba03c3c4b561130ea"), looks := false }, kinds := [], alts := [], laidByText := true, laidKinds := [.data], laidTests := true, laidLooks := .later }
def TreeBytesUptoCardSaid : Prop := Claim7.holds Tryz.pinned (.plain (OpenSpec.upto treeBytesSpec)) treeBytesUptoCard

/-- THE SECOND FORM's CARD OF 'cutoverlaw13.TreeBack'. -/
def treeBackUptoCard : Claim7 := { stood := { row := treeBackUptoRow, standIns := [], harness := (true, "3c1a641124b6c29ff9bcae364de9826970b144dbec1b74aba03c3c4b561130ea"), looks := false }, kinds := [], alts := [], laidByText := true, laidKinds := [.data], laidTests := true, laidLooks := .later }
def TreeBackUptoCardSaid : Prop := Claim7.holds Tryz.pinned (.plain (OpenSpec.upto treeBackSpec)) treeBackUptoCard

/-- THE SECOND FORM's CARD OF 'cutoverlaw15.PlanLate'. -/
def planLateUptoCard : Claim7 := { stood := { row := planLateUptoRow, standIns := [], harness := (true, "3c1a641124b6c29ff9bcae364de9826970b144dbec1b74aba03c3c4b561130ea"), looks := false }, kinds := [], alts := [], laidByText := true, laidKinds := [.data], laidTests := true, laidLooks := .later }
def PlanLateUptoCardSaid : Prop := Claim7.holds Tryz.pinned (.plain (OpenSpec.upto planLateSpec)) planLateUptoCard

/-- THE SECOND FORM's CARD OF 'cutoverlaw15.PlanWrites'. -/
def planWritesUptoCard : Claim7 := { stood := { row := planWritesUptoRow, standIns := [], harness := (true, "3c1a641124b6c29ff9bcae364de9826970b144dbec1b74aba03c3c4b561130ea"), looks := false }, kinds := [], alts := [], laidByText := true, laidKinds := [.data], laidTests := true, laidLooks := .later }
def PlanWritesUptoCardSaid : Prop := Claim7.holds Tryz.pinned (.plain (OpenSpec.upto planWritesSpec)) planWritesUptoCard

/-- THE SECOND FORM's CARD OF 'cutoverlaw15.PlanLegal'. -/
def planLegalUptoCard : Claim7 := { stood := { row := planLegalUptoRow, standIns := [], harness := (true, "3c1a641124b6c29ff9bcae364de9826970b144dbec1b74aba03c3c4b561130ea"), looks := false }, kinds := [], alts := [], laidByText := true, laidKinds := [.data], laidTests := true, laidLooks := .later }
def PlanLegalUptoCardSaid : Prop := Claim7.holds Tryz.pinned (.plain (OpenSpec.upto planLegalSpec)) planLegalUptoCard

/-- THE SECOND FORM's CARD OF 'cutoverlaw14.SignalsGrow'. -/
def signalsGrowUptoCard : Claim7 := { stood := { row := signalsGrowUptoRow, standIns := [], harness := (true, "3c1a641124b6c29ff9bcae364de9826970b144dbec1b74aba03c3c4b561130ea"), looks := false }, kinds := [], alts := [], laidByText := true, laidKinds := [.data], laidTests := true, laidLooks := .later }
def SignalsGrowUptoCardSaid : Prop := Claim7.holds Tryz.pinned (.plain (OpenSpec.upto signalsGrowSpec)) signalsGrowUptoCard
end Rows
end Go.Proofs.YtahoaijkchgdaaaGreatDoor
