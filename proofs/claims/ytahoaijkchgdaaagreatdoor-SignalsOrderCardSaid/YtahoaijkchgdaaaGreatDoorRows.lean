/-
  NARROWER THAN 'FOR EVERY INPUT', by the rows' own cells (each row's printed sentence says how): PlanMends: laid · TreeParts: laid · TreeFinds: laid · TreeTogether: laid · SignalsNone: laid · TreeAdds: laid · SignalsTell: laid · SignalsOrder: laid · TreeBytes: laid · TreeBack: laid · PlanLate: laid · PlanWrites: laid · PlanLegal: laid · SignalsGrow: laid.
  DERIVED. THE GIVEN ROWS OF THIS SEAT. 14 by the template 'for every input the law returns true; each argument reads behind the call as it read before'; 0 by the template 'total and deterministic' (their statements: YtahoaijkchgdaaaGreatDoorTotals.lean).
  GIVEN WITH THE SEED: the statements are not yours to turn. If you find one false, say at which input.
  Laid BY PROGRAM, IN A SANDBOX (cutbox-rows.mjs): the forced cells as the released guide's own fill.sh prints them over the translation e47757cb56f2c80c… (all of the seat's roots in one cut). By AI agents, Wed Nov 11 2026. No macro, syntax, notation, axiom, sorry.
-/
import Derived.Test.YtahoaijkchgdaaaGreatDoorChecked
import GoSem.Claim
import GoSem.ClaimJoined
import GoSem.ClaimMapViews
import Derived.JoinedTies
import Derived.KernelRfl
namespace Go.Proofs.YtahoaijkchgdaaaGreatDoor
/- THE CELL 'sum', in the pinned program and in every row, IS THE sha256 OF THE DUMP (.gsa) THAT YtahoaijkchgdaaaGreatDoorProg.lean LOADS. Nothing in Lean hashes anything: it is a label: what it is worth is what the hold of that sum in a sandbox is worth. -/
noncomputable def Tryz.pinned : Pinned := { name := "ytahoaijkchgdaaagreatdoor", sum := "e47757cb56f2c80c1283bd856f7441b2137e858e7edbeb551370db149ad26a45", checked := Tryz.checked }
namespace Rows
def none {H : Type} : Left H := { results := [], args := [] }

/- WHAT THE LISTED PACKAGE-LEVEL VARIABLES READ AS WHEN THE CALL BEGINS. Each datum BY PROGRAM (the guide's laid-datum.mjs) off the statement by which the dump's own 'gosem.cut.vars' lays the variable. In a bare row this is a premise. The card (YtahoaijkchgdaaaGreatDoorCards.lean) ties it to the program's text. -/
def laid_cutover_cutoverhand_names {H : Type} : DataW H := .agg [.lit (.string [97]), .lit (.string [98]), .lit (.string [106, 111, 98, 45, 49]), .lit (.string [122, 57]), .lit (.string [109]), .lit (.string [120, 45])]

/-- 'cutoverlaw15.PlanMends': WHATEVER THE INPUT: true; the input reads as it did. -/
def planMendsSpec : ChangeSpec := { name := "planMends", fn := fun _ => fun
  | [d1, d2, d3] => { results := [.lit (.bool true)], args := [d1, d2, d3] }
  | _ => none }
def planMendsRow : OpenClaim := { program := "ytahoaijkchgdaaagreatdoor", sum := "e47757cb56f2c80c1283bd856f7441b2137e858e7edbeb551370db149ad26a45", func := "cutover/cutoverlaw15.PlanMends", spec := "planMends", unfollowed := true, recurses := true, named := ["cutover/cutoverhand.names"], apart := false, laid := [("cutover/cutoverhand.names", laid_cutover_cutoverhand_names)] }
def PlanMendsSaid : Prop := planMendsRow.holds Tryz.pinned (OpenSpec.ofChange planMendsSpec)

/-- ITS FALSE NEIGHBOUR: 'it returns false'. Refute it at one input. -/
def planMendsWrong : ChangeSpec := { name := "planMends", fn := fun _ => fun
  | [d1, d2, d3] => { results := [.lit (.bool false)], args := [d1, d2, d3] }
  | _ => none }
def PlanMendsWrongFalsely : Prop := planMendsRow.holds Tryz.pinned (OpenSpec.ofChange planMendsWrong)

/-- 'cutoverlaw13.TreeParts': WHATEVER THE INPUT: true; the input reads as it did. -/
def treePartsSpec : ChangeSpec := { name := "treeParts", fn := fun _ => fun
  | [d1, d2, d3, d4] => { results := [.lit (.bool true)], args := [d1, d2, d3, d4] }
  | _ => none }
def treePartsRow : OpenClaim := { program := "ytahoaijkchgdaaagreatdoor", sum := "e47757cb56f2c80c1283bd856f7441b2137e858e7edbeb551370db149ad26a45", func := "cutover/cutoverlaw13.TreeParts", spec := "treeParts", inPlace := ["slices.overlaps[[]cutover/api.Event]"], unfollowed := true, recurses := true, named := ["cutover/cutoverhand.names"], apart := false, laid := [("cutover/cutoverhand.names", laid_cutover_cutoverhand_names)] }
def TreePartsSaid : Prop := treePartsRow.holds Tryz.pinned (OpenSpec.ofChange treePartsSpec)

/-- ITS FALSE NEIGHBOUR: 'it returns false'. Refute it at one input. -/
def treePartsWrong : ChangeSpec := { name := "treeParts", fn := fun _ => fun
  | [d1, d2, d3, d4] => { results := [.lit (.bool false)], args := [d1, d2, d3, d4] }
  | _ => none }
def TreePartsWrongFalsely : Prop := treePartsRow.holds Tryz.pinned (OpenSpec.ofChange treePartsWrong)

/-- 'cutoverlaw13.TreeFinds': WHATEVER THE INPUT: true; the input reads as it did. -/
def treeFindsSpec : ChangeSpec := { name := "treeFinds", fn := fun _ => fun
  | [d1, d2, d3, d4] => { results := [.lit (.bool true)], args := [d1, d2, d3, d4] }
  | _ => none }
def treeFindsRow : OpenClaim := { program := "ytahoaijkchgdaaagreatdoor", sum := "e47757cb56f2c80c1283bd856f7441b2137e858e7edbeb551370db149ad26a45", func := "cutover/cutoverlaw13.TreeFinds", spec := "treeFinds", inPlace := ["slices.overlaps[[]cutover/api.Event]"], unfollowed := true, recurses := true, named := ["cutover/cutoverhand.names"], apart := false, laid := [("cutover/cutoverhand.names", laid_cutover_cutoverhand_names)] }
def TreeFindsSaid : Prop := treeFindsRow.holds Tryz.pinned (OpenSpec.ofChange treeFindsSpec)

/-- ITS FALSE NEIGHBOUR: 'it returns false'. Refute it at one input. -/
def treeFindsWrong : ChangeSpec := { name := "treeFinds", fn := fun _ => fun
  | [d1, d2, d3, d4] => { results := [.lit (.bool false)], args := [d1, d2, d3, d4] }
  | _ => none }
def TreeFindsWrongFalsely : Prop := treeFindsRow.holds Tryz.pinned (OpenSpec.ofChange treeFindsWrong)

/-- 'cutoverlaw13.TreeTogether': WHATEVER THE INPUT: true; the input reads as it did. -/
def treeTogetherSpec : ChangeSpec := { name := "treeTogether", fn := fun _ => fun
  | [d1, d2, d3] => { results := [.lit (.bool true)], args := [d1, d2, d3] }
  | _ => none }
def treeTogetherRow : OpenClaim := { program := "ytahoaijkchgdaaagreatdoor", sum := "e47757cb56f2c80c1283bd856f7441b2137e858e7edbeb551370db149ad26a45", func := "cutover/cutoverlaw13.TreeTogether", spec := "treeTogether", inPlace := ["slices.overlaps[[]cutover/api.Event]"], unfollowed := true, recurses := true, named := ["cutover/cutoverhand.names"], apart := false, laid := [("cutover/cutoverhand.names", laid_cutover_cutoverhand_names)] }
def TreeTogetherSaid : Prop := treeTogetherRow.holds Tryz.pinned (OpenSpec.ofChange treeTogetherSpec)

/-- ITS FALSE NEIGHBOUR: 'it returns false'. Refute it at one input. -/
def treeTogetherWrong : ChangeSpec := { name := "treeTogether", fn := fun _ => fun
  | [d1, d2, d3] => { results := [.lit (.bool false)], args := [d1, d2, d3] }
  | _ => none }
def TreeTogetherWrongFalsely : Prop := treeTogetherRow.holds Tryz.pinned (OpenSpec.ofChange treeTogetherWrong)

/-- 'cutoverlaw14.SignalsNone': WHATEVER THE INPUT: true; the input reads as it did. -/
def signalsNoneSpec : ChangeSpec := { name := "signalsNone", fn := fun _ => fun
  | [d] => { results := [.lit (.bool true)], args := [d] }
  | _ => none }
def signalsNoneRow : OpenClaim := { program := "ytahoaijkchgdaaagreatdoor", sum := "e47757cb56f2c80c1283bd856f7441b2137e858e7edbeb551370db149ad26a45", func := "cutover/cutoverlaw14.SignalsNone", spec := "signalsNone", unfollowed := true, recurses := true, named := ["cutover/cutoverhand.names"], apart := false, laid := [("cutover/cutoverhand.names", laid_cutover_cutoverhand_names)] }
def SignalsNoneSaid : Prop := signalsNoneRow.holds Tryz.pinned (OpenSpec.ofChange signalsNoneSpec)

/-- ITS FALSE NEIGHBOUR: 'it returns false'. Refute it at one input. -/
def signalsNoneWrong : ChangeSpec := { name := "signalsNone", fn := fun _ => fun
  | [d] => { results := [.lit (.bool false)], args := [d] }
  | _ => none }
def SignalsNoneWrongFalsely : Prop := signalsNoneRow.holds Tryz.pinned (OpenSpec.ofChange signalsNoneWrong)

/-- 'cutoverlaw13.TreeAdds': WHATEVER THE INPUT: true; the input reads as it did. -/
def treeAddsSpec : ChangeSpec := { name := "treeAdds", fn := fun _ => fun
  | [d1, d2, d3, d4] => { results := [.lit (.bool true)], args := [d1, d2, d3, d4] }
  | _ => none }
def treeAddsRow : OpenClaim := { program := "ytahoaijkchgdaaagreatdoor", sum := "e47757cb56f2c80c1283bd856f7441b2137e858e7edbeb551370db149ad26a45", func := "cutover/cutoverlaw13.TreeAdds", spec := "treeAdds", inPlace := ["slices.overlaps[[]cutover/api.Event]"], unfollowed := true, recurses := true, named := ["cutover/cutoverhand.names"], apart := false, laid := [("cutover/cutoverhand.names", laid_cutover_cutoverhand_names)] }
def TreeAddsSaid : Prop := treeAddsRow.holds Tryz.pinned (OpenSpec.ofChange treeAddsSpec)

/-- ITS FALSE NEIGHBOUR: 'it returns false'. Refute it at one input. -/
def treeAddsWrong : ChangeSpec := { name := "treeAdds", fn := fun _ => fun
  | [d1, d2, d3, d4] => { results := [.lit (.bool false)], args := [d1, d2, d3, d4] }
  | _ => none }
def TreeAddsWrongFalsely : Prop := treeAddsRow.holds Tryz.pinned (OpenSpec.ofChange treeAddsWrong)

/-- 'cutoverlaw14.SignalsTell': WHATEVER THE INPUT: true; the input reads as it did. -/
def signalsTellSpec : ChangeSpec := { name := "signalsTell", fn := fun _ => fun
  | [d] => { results := [.lit (.bool true)], args := [d] }
  | _ => none }
def signalsTellRow : OpenClaim := { program := "ytahoaijkchgdaaagreatdoor", sum := "e47757cb56f2c80c1283bd856f7441b2137e858e7edbeb551370db149ad26a45", func := "cutover/cutoverlaw14.SignalsTell", spec := "signalsTell", unfollowed := true, recurses := true, named := ["cutover/cutoverhand.names"], apart := false, laid := [("cutover/cutoverhand.names", laid_cutover_cutoverhand_names)] }
def SignalsTellSaid : Prop := signalsTellRow.holds Tryz.pinned (OpenSpec.ofChange signalsTellSpec)

/-- ITS FALSE NEIGHBOUR: 'it returns false'. Refute it at one input. -/
def signalsTellWrong : ChangeSpec := { name := "signalsTell", fn := fun _ => fun
  | [d] => { results := [.lit (.bool false)], args := [d] }
  | _ => none }
def SignalsTellWrongFalsely : Prop := signalsTellRow.holds Tryz.pinned (OpenSpec.ofChange signalsTellWrong)

/-- 'cutoverlaw14.SignalsOrder': WHATEVER THE INPUT: true; the input reads as it did. -/
def signalsOrderSpec : ChangeSpec := { name := "signalsOrder", fn := fun _ => fun
  | [d] => { results := [.lit (.bool true)], args := [d] }
  | _ => none }
def signalsOrderRow : OpenClaim := { program := "ytahoaijkchgdaaagreatdoor", sum := "e47757cb56f2c80c1283bd856f7441b2137e858e7edbeb551370db149ad26a45", func := "cutover/cutoverlaw14.SignalsOrder", spec := "signalsOrder", unfollowed := true, recurses := true, named := ["cutover/cutoverhand.names"], apart := false, laid := [("cutover/cutoverhand.names", laid_cutover_cutoverhand_names)] }
def SignalsOrderSaid : Prop := signalsOrderRow.holds Tryz.pinned (OpenSpec.ofChange signalsOrderSpec)

/-- ITS FALSE NEIGHBOUR: 'it returns false'. Refute it at one input. -/
def signalsOrderWrong : ChangeSpec := { name := "signalsOrder", fn := fun _ => fun
  | [d] => { results := [.lit (.bool false)], args := [d] }
  | _ => none }
def SignalsOrderWrongFalsely : Prop := signalsOrderRow.holds Tryz.pinned (OpenSpec.ofChange signalsOrderWrong)

/-- 'cutoverlaw13.TreeBytes': WHATEVER THE INPUT: true; the input reads as it did. -/
def treeBytesSpec : ChangeSpec := { name := "treeBytes", fn := fun _ => fun
  | [d1, d2, d3, d4, d5] => { results := [.lit (.bool true)], args := [d1, d2, d3, d4, d5] }
  | _ => none }
def treeBytesRow : OpenClaim := { program := "ytahoaijkchgdaaagreatdoor", sum := "e47757cb56f2c80c1283bd856f7441b2137e858e7edbeb551370db149ad26a45", func := "cutover/cutoverlaw13.TreeBytes", spec := "treeBytes", inPlace := ["slices.overlaps[[]cutover/api.Event]"], unfollowed := true, recurses := true, named := ["cutover/cutoverhand.names"], apart := false, laid := [("cutover/cutoverhand.names", laid_cutover_cutoverhand_names)] }
def TreeBytesSaid : Prop := treeBytesRow.holds Tryz.pinned (OpenSpec.ofChange treeBytesSpec)

/-- ITS FALSE NEIGHBOUR: 'it returns false'. Refute it at one input. -/
def treeBytesWrong : ChangeSpec := { name := "treeBytes", fn := fun _ => fun
  | [d1, d2, d3, d4, d5] => { results := [.lit (.bool false)], args := [d1, d2, d3, d4, d5] }
  | _ => none }
def TreeBytesWrongFalsely : Prop := treeBytesRow.holds Tryz.pinned (OpenSpec.ofChange treeBytesWrong)

/-- 'cutoverlaw13.TreeBack': WHATEVER THE INPUT: true; the input reads as it did. -/
def treeBackSpec : ChangeSpec := { name := "treeBack", fn := fun _ => fun
  | [d1, d2, d3] => { results := [.lit (.bool true)], args := [d1, d2, d3] }
  | _ => none }
def treeBackRow : OpenClaim := { program := "ytahoaijkchgdaaagreatdoor", sum := "e47757cb56f2c80c1283bd856f7441b2137e858e7edbeb551370db149ad26a45", func := "cutover/cutoverlaw13.TreeBack", spec := "treeBack", inPlace := ["slices.overlaps[[]cutover/api.Event]"], unfollowed := true, recurses := true, named := ["cutover/cutoverhand.names"], apart := false, laid := [("cutover/cutoverhand.names", laid_cutover_cutoverhand_names)] }
def TreeBackSaid : Prop := treeBackRow.holds Tryz.pinned (OpenSpec.ofChange treeBackSpec)

/-- ITS FALSE NEIGHBOUR: 'it returns false'. Refute it at one input. -/
def treeBackWrong : ChangeSpec := { name := "treeBack", fn := fun _ => fun
  | [d1, d2, d3] => { results := [.lit (.bool false)], args := [d1, d2, d3] }
  | _ => none }
def TreeBackWrongFalsely : Prop := treeBackRow.holds Tryz.pinned (OpenSpec.ofChange treeBackWrong)

/-- 'cutoverlaw15.PlanLate': WHATEVER THE INPUT: true; the input reads as it did. -/
def planLateSpec : ChangeSpec := { name := "planLate", fn := fun _ => fun
  | [d1, d2, d3] => { results := [.lit (.bool true)], args := [d1, d2, d3] }
  | _ => none }
def planLateRow : OpenClaim := { program := "ytahoaijkchgdaaagreatdoor", sum := "e47757cb56f2c80c1283bd856f7441b2137e858e7edbeb551370db149ad26a45", func := "cutover/cutoverlaw15.PlanLate", spec := "planLate", unfollowed := true, recurses := true, named := ["cutover/cutoverhand.names"], apart := false, laid := [("cutover/cutoverhand.names", laid_cutover_cutoverhand_names)] }
def PlanLateSaid : Prop := planLateRow.holds Tryz.pinned (OpenSpec.ofChange planLateSpec)

/-- ITS FALSE NEIGHBOUR: 'it returns false'. Refute it at one input. -/
def planLateWrong : ChangeSpec := { name := "planLate", fn := fun _ => fun
  | [d1, d2, d3] => { results := [.lit (.bool false)], args := [d1, d2, d3] }
  | _ => none }
def PlanLateWrongFalsely : Prop := planLateRow.holds Tryz.pinned (OpenSpec.ofChange planLateWrong)

/-- 'cutoverlaw15.PlanWrites': WHATEVER THE INPUT: true; the input reads as it did. -/
def planWritesSpec : ChangeSpec := { name := "planWrites", fn := fun _ => fun
  | [d1, d2, d3, d4, d5, d6] => { results := [.lit (.bool true)], args := [d1, d2, d3, d4, d5, d6] }
  | _ => none }
def planWritesRow : OpenClaim := { program := "ytahoaijkchgdaaagreatdoor", sum := "e47757cb56f2c80c1283bd856f7441b2137e858e7edbeb551370db149ad26a45", func := "cutover/cutoverlaw15.PlanWrites", spec := "planWrites", unfollowed := true, recurses := true, named := ["cutover/cutoverhand.names"], apart := false, laid := [("cutover/cutoverhand.names", laid_cutover_cutoverhand_names)] }
def PlanWritesSaid : Prop := planWritesRow.holds Tryz.pinned (OpenSpec.ofChange planWritesSpec)

/-- ITS FALSE NEIGHBOUR: 'it returns false'. Refute it at one input. -/
def planWritesWrong : ChangeSpec := { name := "planWrites", fn := fun _ => fun
  | [d1, d2, d3, d4, d5, d6] => { results := [.lit (.bool false)], args := [d1, d2, d3, d4, d5, d6] }
  | _ => none }
def PlanWritesWrongFalsely : Prop := planWritesRow.holds Tryz.pinned (OpenSpec.ofChange planWritesWrong)

/-- 'cutoverlaw15.PlanLegal': WHATEVER THE INPUT: true; the input reads as it did. -/
def planLegalSpec : ChangeSpec := { name := "planLegal", fn := fun _ => fun
  | [d1, d2, d3, d4, d5] => { results := [.lit (.bool true)], args := [d1, d2, d3, d4, d5] }
  | _ => none }
def planLegalRow : OpenClaim := { program := "ytahoaijkchgdaaagreatdoor", sum := "e47757cb56f2c80c1283bd856f7441b2137e858e7edbeb551370db149ad26a45", func := "cutover/cutoverlaw15.PlanLegal", spec := "planLegal", unfollowed := true, recurses := true, named := ["cutover/cutoverhand.names"], apart := false, laid := [("cutover/cutoverhand.names", laid_cutover_cutoverhand_names)] }
def PlanLegalSaid : Prop := planLegalRow.holds Tryz.pinned (OpenSpec.ofChange planLegalSpec)

/-- ITS FALSE NEIGHBOUR: 'it returns false'. Refute it at one input. -/
def planLegalWrong : ChangeSpec := { name := "planLegal", fn := fun _ => fun
  | [d1, d2, d3, d4, d5] => { results := [.lit (.bool false)], args := [d1, d2, d3, d4, d5] }
  | _ => none }
def PlanLegalWrongFalsely : Prop := planLegalRow.holds Tryz.pinned (OpenSpec.ofChange planLegalWrong)

/-- 'cutoverlaw14.SignalsGrow': WHATEVER THE INPUT: true; the input reads as it did. -/
def signalsGrowSpec : ChangeSpec := { name := "signalsGrow", fn := fun _ => fun
  | [d1, d2] => { results := [.lit (.bool true)], args := [d1, d2] }
  | _ => none }
def signalsGrowRow : OpenClaim := { program := "ytahoaijkchgdaaagreatdoor", sum := "e47757cb56f2c80c1283bd856f7441b2137e858e7edbeb551370db149ad26a45", func := "cutover/cutoverlaw14.SignalsGrow", spec := "signalsGrow", inPlace := ["slices.overlaps[[]cutover/api.Event]"], unfollowed := true, recurses := true, named := ["cutover/cutoverhand.names"], apart := false, laid := [("cutover/cutoverhand.names", laid_cutover_cutoverhand_names)] }
def SignalsGrowSaid : Prop := signalsGrowRow.holds Tryz.pinned (OpenSpec.ofChange signalsGrowSpec)

/-- ITS FALSE NEIGHBOUR: 'it returns false'. Refute it at one input. -/
def signalsGrowWrong : ChangeSpec := { name := "signalsGrow", fn := fun _ => fun
  | [d1, d2] => { results := [.lit (.bool false)], args := [d1, d2] }
  | _ => none }
def SignalsGrowWrongFalsely : Prop := signalsGrowRow.holds Tryz.pinned (OpenSpec.ofChange signalsGrowWrong)

/- THE SECOND FORM. 'bulk': how many values and letters a reading holds, each counted each time it is reached (what is shared counts as often as it is met; a slice's spare places count too). A statement '..UptoSaid' is the law's where the arguments, and the package variables that the reading takes, are together of bulk at most 1048576: NARROWER than '..Said'. Prove '..Said' where nothing that the law and all that it calls make is longer than what came in: it says more and counts as full. Else prove '..UptoSaid'. A law counts once. -/
mutual
def uptoBulk {H : Type} : DataW H → Nat
  | .lit (.string bytes) => bytes.length + 1
  | .lit _ => 1
  | .nil => 1
  | .ptr d => uptoBulk d + 1
  | .slice elems spare => uptoBulkAll elems + uptoBulkAll spare + 1
  | .agg parts => uptoBulkAll parts + 1
  | .iface _ d => uptoBulk d + 1
  | .map entries => uptoBulkEntries entries + 1
  | .held _ => 1
def uptoBulkAll {H : Type} : List (DataW H) → Nat
  | [] => 0
  | d :: r => uptoBulk d + uptoBulkAll r
def uptoBulkEntries {H : Type} : List (Lit × DataW H) → Nat
  | [] => 0
  | x :: r => uptoBulkEntry x + uptoBulkEntries r
def uptoBulkEntry {H : Type} : Lit × DataW H → Nat
  | (.string bytes, d) => bytes.length + uptoBulk d + 1
  | (_, d) => uptoBulk d + 1
 end
def uptoSmall : (H : Type) → List (DataW H) → Bool := fun _ ds => decide (uptoBulkAll ds ≤ 1048576)
def OpenSpec.upto (s : _root_.Go.ChangeSpec) : _root_.Go.OpenSpec := { _root_.Go.OpenSpec.ofChange s with cond := some uptoSmall }

/-- 'cutoverlaw15.PlanMends', WHERE WHAT IT READS IS OF BULK AT MOST 1048576: true; the input reads as it did. -/
def planMendsUptoRow : OpenClaim := { program := "ytahoaijkchgdaaagreatdoor", sum := "e47757cb56f2c80c1283bd856f7441b2137e858e7edbeb551370db149ad26a45", func := "cutover/cutoverlaw15.PlanMends", spec := "planMends", unfollowed := true, recurses := true, named := ["cutover/cutoverhand.names"], apart := false, laid := [("cutover/cutoverhand.names", laid_cutover_cutoverhand_names)], narrowed := true }
def PlanMendsUptoSaid : Prop := planMendsUptoRow.holds Tryz.pinned (OpenSpec.upto planMendsSpec)

/-- 'cutoverlaw13.TreeParts', WHERE WHAT IT READS IS OF BULK AT MOST 1048576: true; the input reads as it did. -/
def treePartsUptoRow : OpenClaim := { program := "ytahoaijkchgdaaagreatdoor", sum := "e47757cb56f2c80c1283bd856f7441b2137e858e7edbeb551370db149ad26a45", func := "cutover/cutoverlaw13.TreeParts", spec := "treeParts", inPlace := ["slices.overlaps[[]cutover/api.Event]"], unfollowed := true, recurses := true, named := ["cutover/cutoverhand.names"], apart := false, laid := [("cutover/cutoverhand.names", laid_cutover_cutoverhand_names)], narrowed := true }
def TreePartsUptoSaid : Prop := treePartsUptoRow.holds Tryz.pinned (OpenSpec.upto treePartsSpec)

/-- 'cutoverlaw13.TreeFinds', WHERE WHAT IT READS IS OF BULK AT MOST 1048576: true; the input reads as it did. -/
def treeFindsUptoRow : OpenClaim := { program := "ytahoaijkchgdaaagreatdoor", sum := "e47757cb56f2c80c1283bd856f7441b2137e858e7edbeb551370db149ad26a45", func := "cutover/cutoverlaw13.TreeFinds", spec := "treeFinds", inPlace := ["slices.overlaps[[]cutover/api.Event]"], unfollowed := true, recurses := true, named := ["cutover/cutoverhand.names"], apart := false, laid := [("cutover/cutoverhand.names", laid_cutover_cutoverhand_names)], narrowed := true }
def TreeFindsUptoSaid : Prop := treeFindsUptoRow.holds Tryz.pinned (OpenSpec.upto treeFindsSpec)

/-- 'cutoverlaw13.TreeTogether', WHERE WHAT IT READS IS OF BULK AT MOST 1048576: true; the input reads as it did. -/
def treeTogetherUptoRow : OpenClaim := { program := "ytahoaijkchgdaaagreatdoor", sum := "e47757cb56f2c80c1283bd856f7441b2137e858e7edbeb551370db149ad26a45", func := "cutover/cutoverlaw13.TreeTogether", spec := "treeTogether", inPlace := ["slices.overlaps[[]cutover/api.Event]"], unfollowed := true, recurses := true, named := ["cutover/cutoverhand.names"], apart := false, laid := [("cutover/cutoverhand.names", laid_cutover_cutoverhand_names)], narrowed := true }
def TreeTogetherUptoSaid : Prop := treeTogetherUptoRow.holds Tryz.pinned (OpenSpec.upto treeTogetherSpec)

/-- 'cutoverlaw14.SignalsNone', WHERE WHAT IT READS IS OF BULK AT MOST 1048576: true; the input reads as it did. -/
def signalsNoneUptoRow : OpenClaim := { program := "ytahoaijkchgdaaagreatdoor", sum := "e47757cb56f2c80c1283bd856f7441b2137e858e7edbeb551370db149ad26a45", func := "cutover/cutoverlaw14.SignalsNone", spec := "signalsNone", unfollowed := true, recurses := true, named := ["cutover/cutoverhand.names"], apart := false, laid := [("cutover/cutoverhand.names", laid_cutover_cutoverhand_names)], narrowed := true }
def SignalsNoneUptoSaid : Prop := signalsNoneUptoRow.holds Tryz.pinned (OpenSpec.upto signalsNoneSpec)

/-- 'cutoverlaw13.TreeAdds', WHERE WHAT IT READS IS OF BULK AT MOST 1048576: true; the input reads as it did. -/
def treeAddsUptoRow : OpenClaim := { program := "ytahoaijkchgdaaagreatdoor", sum := "e47757cb56f2c80c1283bd856f7441b2137e858e7edbeb551370db149ad26a45", func := "cutover/cutoverlaw13.TreeAdds", spec := "treeAdds", inPlace := ["slices.overlaps[[]cutover/api.Event]"], unfollowed := true, recurses := true, named := ["cutover/cutoverhand.names"], apart := false, laid := [("cutover/cutoverhand.names", laid_cutover_cutoverhand_names)], narrowed := true }
def TreeAddsUptoSaid : Prop := treeAddsUptoRow.holds Tryz.pinned (OpenSpec.upto treeAddsSpec)

/-- 'cutoverlaw14.SignalsTell', WHERE WHAT IT READS IS OF BULK AT MOST 1048576: true; the input reads as it did. -/
def signalsTellUptoRow : OpenClaim := { program := "ytahoaijkchgdaaagreatdoor", sum := "e47757cb56f2c80c1283bd856f7441b2137e858e7edbeb551370db149ad26a45", func := "cutover/cutoverlaw14.SignalsTell", spec := "signalsTell", unfollowed := true, recurses := true, named := ["cutover/cutoverhand.names"], apart := false, laid := [("cutover/cutoverhand.names", laid_cutover_cutoverhand_names)], narrowed := true }
def SignalsTellUptoSaid : Prop := signalsTellUptoRow.holds Tryz.pinned (OpenSpec.upto signalsTellSpec)

/-- 'cutoverlaw14.SignalsOrder', WHERE WHAT IT READS IS OF BULK AT MOST 1048576: true; the input reads as it did. -/
def signalsOrderUptoRow : OpenClaim := { program := "ytahoaijkchgdaaagreatdoor", sum := "e47757cb56f2c80c1283bd856f7441b2137e858e7edbeb551370db149ad26a45", func := "cutover/cutoverlaw14.SignalsOrder", spec := "signalsOrder", unfollowed := true, recurses := true, named := ["cutover/cutoverhand.names"], apart := false, laid := [("cutover/cutoverhand.names", laid_cutover_cutoverhand_names)], narrowed := true }
def SignalsOrderUptoSaid : Prop := signalsOrderUptoRow.holds Tryz.pinned (OpenSpec.upto signalsOrderSpec)

/-- 'cutoverlaw13.TreeBytes', WHERE WHAT IT READS IS OF BULK AT MOST 1048576: true; the input reads as it did. -/
def treeBytesUptoRow : OpenClaim := { program := "ytahoaijkchgdaaagreatdoor", sum := "e47757cb56f2c80c1283bd856f7441b2137e858e7edbeb551370db149ad26a45", func := "cutover/cutoverlaw13.TreeBytes", spec := "treeBytes", inPlace := ["slices.overlaps[[]cutover/api.Event]"], unfollowed := true, recurses := true, named := ["cutover/cutoverhand.names"], apart := false, laid := [("cutover/cutoverhand.names", laid_cutover_cutoverhand_names)], narrowed := true }
def TreeBytesUptoSaid : Prop := treeBytesUptoRow.holds Tryz.pinned (OpenSpec.upto treeBytesSpec)

/-- 'cutoverlaw13.TreeBack', WHERE WHAT IT READS IS OF BULK AT MOST 1048576: true; the input reads as it did. -/
def treeBackUptoRow : OpenClaim := { program := "ytahoaijkchgdaaagreatdoor", sum := "e47757cb56f2c80c1283bd856f7441b2137e858e7edbeb551370db149ad26a45", func := "cutover/cutoverlaw13.TreeBack", spec := "treeBack", inPlace := ["slices.overlaps[[]cutover/api.Event]"], unfollowed := true, recurses := true, named := ["cutover/cutoverhand.names"], apart := false, laid := [("cutover/cutoverhand.names", laid_cutover_cutoverhand_names)], narrowed := true }
def TreeBackUptoSaid : Prop := treeBackUptoRow.holds Tryz.pinned (OpenSpec.upto treeBackSpec)

/-- 'cutoverlaw15.PlanLate', WHERE WHAT IT READS IS OF BULK AT MOST 1048576: true; the input reads as it did. -/
def planLateUptoRow : OpenClaim := { program := "ytahoaijkchgdaaagreatdoor", sum := "e47757cb56f2c80c1283bd856f7441b2137e858e7edbeb551370db149ad26a45", func := "cutover/cutoverlaw15.PlanLate", spec := "planLate", unfollowed := true, recurses := true, named := ["cutover/cutoverhand.names"], apart := false, laid := [("cutover/cutoverhand.names", laid_cutover_cutoverhand_names)], narrowed := true }
def PlanLateUptoSaid : Prop := planLateUptoRow.holds Tryz.pinned (OpenSpec.upto planLateSpec)

/-- 'cutoverlaw15.PlanWrites', WHERE WHAT IT READS IS OF BULK AT MOST 1048576: true; the input reads as it did. -/
def planWritesUptoRow : OpenClaim := { program := "ytahoaijkchgdaaagreatdoor", sum := "e47757cb56f2c80c1283bd856f7441b2137e858e7edbeb551370db149ad26a45", func := "cutover/cutoverlaw15.PlanWrites", spec := "planWrites", unfollowed := true, recurses := true, named := ["cutover/cutoverhand.names"], apart := false, laid := [("cutover/cutoverhand.names", laid_cutover_cutoverhand_names)], narrowed := true }
def PlanWritesUptoSaid : Prop := planWritesUptoRow.holds Tryz.pinned (OpenSpec.upto planWritesSpec)

/-- 'cutoverlaw15.PlanLegal', WHERE WHAT IT READS IS OF BULK AT MOST 1048576: true; the input reads as it did. -/
def planLegalUptoRow : OpenClaim := { program := "ytahoaijkchgdaaagreatdoor", sum := "e47757cb56f2c80c1283bd856f7441b2137e858e7edbeb551370db149ad26a45", func := "cutover/cutoverlaw15.PlanLegal", spec := "planLegal", unfollowed := true, recurses := true, named := ["cutover/cutoverhand.names"], apart := false, laid := [("cutover/cutoverhand.names", laid_cutover_cutoverhand_names)], narrowed := true }
def PlanLegalUptoSaid : Prop := planLegalUptoRow.holds Tryz.pinned (OpenSpec.upto planLegalSpec)

/-- 'cutoverlaw14.SignalsGrow', WHERE WHAT IT READS IS OF BULK AT MOST 1048576: true; the input reads as it did. -/
def signalsGrowUptoRow : OpenClaim := { program := "ytahoaijkchgdaaagreatdoor", sum := "e47757cb56f2c80c1283bd856f7441b2137e858e7edbeb551370db149ad26a45", func := "cutover/cutoverlaw14.SignalsGrow", spec := "signalsGrow", inPlace := ["slices.overlaps[[]cutover/api.Event]"], unfollowed := true, recurses := true, named := ["cutover/cutoverhand.names"], apart := false, laid := [("cutover/cutoverhand.names", laid_cutover_cutoverhand_names)], narrowed := true }
def SignalsGrowUptoSaid : Prop := signalsGrowUptoRow.holds Tryz.pinned (OpenSpec.upto signalsGrowSpec)

end Rows
end Go.Proofs.YtahoaijkchgdaaaGreatDoor
