/-
  NARROWER THAN 'FOR EVERY INPUT', by the rows' own cells (each row's printed sentence says how): TreeParts: laid · TreeFinds: laid · TreeTogether: laid · SignalsNone: laid · SignalsTell: laid · SignalsGrow: laid.
  DERIVED. THE GIVEN ROWS OF THIS SEAT. 6 by the template 'for every input the law returns true; each argument reads behind the call as it read before'; 0 by the template 'total and deterministic' (their statements: YthjgmldnegaaiaaGreatDoorTotals.lean).
  GIVEN WITH THE SEED: the statements are not yours to turn. If you find one false, say at which input.
  Laid BY PROGRAM, IN A SANDBOX (cutbox-rows.mjs): the forced cells as the released guide's own fill.sh prints them over the translation bed6ae22cd18fecd… (all of the seat's roots in one cut). By AI agents, Wed Nov 11 2026. No macro, syntax, notation, axiom, sorry.
-/
import Derived.Test.YthjgmldnegaaiaaGreatDoorChecked
import GoSem.Claim
import GoSem.ClaimJoined
import GoSem.ClaimMapViews
import Derived.JoinedTies
import Derived.KernelRfl
namespace Go.Proofs.YthjgmldnegaaiaaGreatDoor
/- THE CELL 'sum', in the pinned program and in every row, IS THE sha256 OF THE DUMP (.gsa) THAT YthjgmldnegaaiaaGreatDoorProg.lean LOADS. Nothing in Lean hashes anything: it is a label: what it is worth is what the hold of that sum in a sandbox is worth. -/
noncomputable def Tryz.pinned : Pinned := { name := "ythjgmldnegaaiaagreatdoor", sum := "bed6ae22cd18fecd19b4c1bfb996b513ae342b6cec269cc38532cc9eb9a7a971", checked := Tryz.checked }
namespace Rows
def none {H : Type} : Left H := { results := [], args := [] }

/- WHAT THE LISTED PACKAGE-LEVEL VARIABLES READ AS WHEN THE CALL BEGINS. Each datum BY PROGRAM (the guide's laid-datum.mjs) off the statement by which the dump's own 'gosem.cut.vars' lays the variable. In a bare row this is a premise. The card (YthjgmldnegaaiaaGreatDoorCards.lean) ties it to the program's text. -/
def laid_cutover_cutoverhand_names {H : Type} : DataW H := .agg [.lit (.string [97]), .lit (.string [98]), .lit (.string [106, 111, 98, 45, 49]), .lit (.string [122, 57]), .lit (.string [109]), .lit (.string [120, 45])]

/-- 'cutoverlaw13.TreeParts': WHATEVER THE INPUT: true; the input reads as it did. -/
def treePartsSpec : ChangeSpec := { name := "treeParts", fn := fun _ => fun
  | [d1, d2, d3, d4] => { results := [.lit (.bool true)], args := [d1, d2, d3, d4] }
  | _ => none }
def treePartsRow : OpenClaim := { program := "ythjgmldnegaaiaagreatdoor", sum := "bed6ae22cd18fecd19b4c1bfb996b513ae342b6cec269cc38532cc9eb9a7a971", func := "cutover/cutoverlaw13.TreeParts", spec := "treeParts", inPlace := ["slices.overlaps[[]cutover/api.Event]"], unfollowed := true, recurses := true, named := ["cutover/cutoverhand.names"], apart := false, laid := [("cutover/cutoverhand.names", laid_cutover_cutoverhand_names)] }
def TreePartsSaid : Prop := treePartsRow.holds Tryz.pinned (OpenSpec.ofChange treePartsSpec)

/-- ITS FALSE NEIGHBOUR: 'it returns false'. Refute it at one input. -/
def treePartsWrong : ChangeSpec := { name := "treeParts", fn := fun _ => fun
  | [d1, d2, d3, d4] => { results := [.lit (.bool false)], args := [d1, d2, d3, d4] }
  | _ => none }
def TreePartsWrongFalsely : Prop := treePartsRow.holds Tryz.pinned (OpenSpec.ofChange treePartsWrong)

/-- 'cutoverlaw13.TreeFinds': WHATEVER THE INPUT: true; the input reads as it did. -/
def treeFindsSpec : ChangeSpec := { name := "treeFinds", fn := fun _ => fun
  | [d1, d2, d3, d4] => { results := [.lit (.bool true)], args := [d1, d2, d3, d4] }
  | _ => none }
def treeFindsRow : OpenClaim := { program := "ythjgmldnegaaiaagreatdoor", sum := "bed6ae22cd18fecd19b4c1bfb996b513ae342b6cec269cc38532cc9eb9a7a971", func := "cutover/cutoverlaw13.TreeFinds", spec := "treeFinds", inPlace := ["slices.overlaps[[]cutover/api.Event]"], unfollowed := true, recurses := true, named := ["cutover/cutoverhand.names"], apart := false, laid := [("cutover/cutoverhand.names", laid_cutover_cutoverhand_names)] }
def TreeFindsSaid : Prop := treeFindsRow.holds Tryz.pinned (OpenSpec.ofChange treeFindsSpec)

/-- ITS FALSE NEIGHBOUR: 'it returns false'. Refute it at one input. -/
def treeFindsWrong : ChangeSpec := { name := "treeFinds", fn := fun _ => fun
  | [d1, d2, d3, d4] => { results := [.lit (.bool false)], args := [d1, d2, d3, d4] }
  | _ => none }
def TreeFindsWrongFalsely : Prop := treeFindsRow.holds Tryz.pinned (OpenSpec.ofChange treeFindsWrong)

/-- 'cutoverlaw13.TreeTogether': WHATEVER THE INPUT: true; the input reads as it did. -/
def treeTogetherSpec : ChangeSpec := { name := "treeTogether", fn := fun _ => fun
  | [d1, d2, d3] => { results := [.lit (.bool true)], args := [d1, d2, d3] }
  | _ => none }
def treeTogetherRow : OpenClaim := { program := "ythjgmldnegaaiaagreatdoor", sum := "bed6ae22cd18fecd19b4c1bfb996b513ae342b6cec269cc38532cc9eb9a7a971", func := "cutover/cutoverlaw13.TreeTogether", spec := "treeTogether", inPlace := ["slices.overlaps[[]cutover/api.Event]"], unfollowed := true, recurses := true, named := ["cutover/cutoverhand.names"], apart := false, laid := [("cutover/cutoverhand.names", laid_cutover_cutoverhand_names)] }
def TreeTogetherSaid : Prop := treeTogetherRow.holds Tryz.pinned (OpenSpec.ofChange treeTogetherSpec)

/-- ITS FALSE NEIGHBOUR: 'it returns false'. Refute it at one input. -/
def treeTogetherWrong : ChangeSpec := { name := "treeTogether", fn := fun _ => fun
  | [d1, d2, d3] => { results := [.lit (.bool false)], args := [d1, d2, d3] }
  | _ => none }
def TreeTogetherWrongFalsely : Prop := treeTogetherRow.holds Tryz.pinned (OpenSpec.ofChange treeTogetherWrong)

/-- 'cutoverlaw14.SignalsNone': WHATEVER THE INPUT: true; the input reads as it did. -/
def signalsNoneSpec : ChangeSpec := { name := "signalsNone", fn := fun _ => fun
  | [d] => { results := [.lit (.bool true)], args := [d] }
  | _ => none }
def signalsNoneRow : OpenClaim := { program := "ythjgmldnegaaiaagreatdoor", sum := "bed6ae22cd18fecd19b4c1bfb996b513ae342b6cec269cc38532cc9eb9a7a971", func := "cutover/cutoverlaw14.SignalsNone", spec := "signalsNone", unfollowed := true, recurses := true, named := ["cutover/cutoverhand.names"], apart := false, laid := [("cutover/cutoverhand.names", laid_cutover_cutoverhand_names)] }
def SignalsNoneSaid : Prop := signalsNoneRow.holds Tryz.pinned (OpenSpec.ofChange signalsNoneSpec)

/-- ITS FALSE NEIGHBOUR: 'it returns false'. Refute it at one input. -/
def signalsNoneWrong : ChangeSpec := { name := "signalsNone", fn := fun _ => fun
  | [d] => { results := [.lit (.bool false)], args := [d] }
  | _ => none }
def SignalsNoneWrongFalsely : Prop := signalsNoneRow.holds Tryz.pinned (OpenSpec.ofChange signalsNoneWrong)

/-- 'cutoverlaw14.SignalsTell': WHATEVER THE INPUT: true; the input reads as it did. -/
def signalsTellSpec : ChangeSpec := { name := "signalsTell", fn := fun _ => fun
  | [d] => { results := [.lit (.bool true)], args := [d] }
  | _ => none }
def signalsTellRow : OpenClaim := { program := "ythjgmldnegaaiaagreatdoor", sum := "bed6ae22cd18fecd19b4c1bfb996b513ae342b6cec269cc38532cc9eb9a7a971", func := "cutover/cutoverlaw14.SignalsTell", spec := "signalsTell", unfollowed := true, recurses := true, named := ["cutover/cutoverhand.names"], apart := false, laid := [("cutover/cutoverhand.names", laid_cutover_cutoverhand_names)] }
def SignalsTellSaid : Prop := signalsTellRow.holds Tryz.pinned (OpenSpec.ofChange signalsTellSpec)

/-- ITS FALSE NEIGHBOUR: 'it returns false'. Refute it at one input. -/
def signalsTellWrong : ChangeSpec := { name := "signalsTell", fn := fun _ => fun
  | [d] => { results := [.lit (.bool false)], args := [d] }
  | _ => none }
def SignalsTellWrongFalsely : Prop := signalsTellRow.holds Tryz.pinned (OpenSpec.ofChange signalsTellWrong)

/-- 'cutoverlaw14.SignalsGrow': WHATEVER THE INPUT: true; the input reads as it did. -/
def signalsGrowSpec : ChangeSpec := { name := "signalsGrow", fn := fun _ => fun
  | [d1, d2] => { results := [.lit (.bool true)], args := [d1, d2] }
  | _ => none }
def signalsGrowRow : OpenClaim := { program := "ythjgmldnegaaiaagreatdoor", sum := "bed6ae22cd18fecd19b4c1bfb996b513ae342b6cec269cc38532cc9eb9a7a971", func := "cutover/cutoverlaw14.SignalsGrow", spec := "signalsGrow", inPlace := ["slices.overlaps[[]cutover/api.Event]"], unfollowed := true, recurses := true, named := ["cutover/cutoverhand.names"], apart := false, laid := [("cutover/cutoverhand.names", laid_cutover_cutoverhand_names)] }
def SignalsGrowSaid : Prop := signalsGrowRow.holds Tryz.pinned (OpenSpec.ofChange signalsGrowSpec)

/-- ITS FALSE NEIGHBOUR: 'it returns false'. Refute it at one input. -/
def signalsGrowWrong : ChangeSpec := { name := "signalsGrow", fn := fun _ => fun
  | [d1, d2] => { results := [.lit (.bool false)], args := [d1, d2] }
  | _ => none }
def SignalsGrowWrongFalsely : Prop := signalsGrowRow.holds Tryz.pinned (OpenSpec.ofChange signalsGrowWrong)

/- THE SECOND FORM. 'bulk': how many values and letters a reading holds, each counted each time it is reached (what is shared counts as often as it is met; a slice's spare places count too). A statement '..UptoSaid' is the law's where the arguments, and the package variables that the reading takes, are together of bulk at most 1048576: NARROWER than '..Said'. Prove '..Said' where nothing that the law and all that it calls make is longer than what came in: it says more and counts as full. Else prove '..UptoSaid'. A law counts once. -/
mutual
def uptoBulk {H : Type} : DataW H → Nat
  | .lit (.string bytes) => bytes.length + 1
  | .lit _ => 1
  | .nil => 1
  | .ptr d => uptoBulk d + 1
  | .slice elems spare => uptoBulkAll elems + uptoBulkAll spare + 1
  | .agg parts => uptoBulkAll parts + 1
  | .iface _ d => uptoBulk d + 1
  | .map entries => uptoBulkEntries entries + 1
  | .held _ => 1
def uptoBulkAll {H : Type} : List (DataW H) → Nat
  | [] => 0
  | d :: r => uptoBulk d + uptoBulkAll r
def uptoBulkEntries {H : Type} : List (Lit × DataW H) → Nat
  | [] => 0
  | x :: r => uptoBulkEntry x + uptoBulkEntries r
def uptoBulkEntry {H : Type} : Lit × DataW H → Nat
  | (.string bytes, d) => bytes.length + uptoBulk d + 1
  | (_, d) => uptoBulk d + 1
 end
def uptoSmall : (H : Type) → List (DataW H) → Bool := fun _ ds => decide (uptoBulkAll ds ≤ 1048576)
def OpenSpec.upto (s : _root_.Go.ChangeSpec) : _root_.Go.OpenSpec := { _root_.Go.OpenSpec.ofChange s with cond := some uptoSmall }

/-- 'cutoverlaw13.TreeParts', WHERE WHAT IT READS IS OF BULK AT MOST 1048576: true; the input reads as it did. -/
def treePartsUptoRow : OpenClaim := { program := "ythjgmldnegaaiaagreatdoor", sum := "bed6ae22cd18fecd19b4c1bfb996b513ae342b6cec269cc38532cc9eb9a7a971", func := "cutover/cutoverlaw13.TreeParts", spec := "treeParts", inPlace := ["slices.overlaps[[]cutover/api.Event]"], unfollowed := true, recurses := true, named := ["cutover/cutoverhand.names"], apart := false, laid := [("cutover/cutoverhand.names", laid_cutover_cutoverhand_names)], narrowed := true }
def TreePartsUptoSaid : Prop := treePartsUptoRow.holds Tryz.pinned (OpenSpec.upto treePartsSpec)

/-- 'cutoverlaw13.TreeFinds', WHERE WHAT IT READS IS OF BULK AT MOST 1048576: true; the input reads as it did. -/
def treeFindsUptoRow : OpenClaim := { program := "ythjgmldnegaaiaagreatdoor", sum := "bed6ae22cd18fecd19b4c1bfb996b513ae342b6cec269cc38532cc9eb9a7a971", func := "cutover/cutoverlaw13.TreeFinds", spec := "treeFinds", inPlace := ["slices.overlaps[[]cutover/api.Event]"], unfollowed := true, recurses := true, named := ["cutover/cutoverhand.names"], apart := false, laid := [("cutover/cutoverhand.names", laid_cutover_cutoverhand_names)], narrowed := true }
def TreeFindsUptoSaid : Prop := treeFindsUptoRow.holds Tryz.pinned (OpenSpec.upto treeFindsSpec)

/-- 'cutoverlaw13.TreeTogether', WHERE WHAT IT READS IS OF BULK AT MOST 1048576: true; the input reads as it did. -/
def treeTogetherUptoRow : OpenClaim := { program := "ythjgmldnegaaiaagreatdoor", sum := "bed6ae22cd18fecd19b4c1bfb996b513ae342b6cec269cc38532cc9eb9a7a971", func := "cutover/cutoverlaw13.TreeTogether", spec := "treeTogether", inPlace := ["slices.overlaps[[]cutover/api.Event]"], unfollowed := true, recurses := true, named := ["cutover/cutoverhand.names"], apart := false, laid := [("cutover/cutoverhand.names", laid_cutover_cutoverhand_names)], narrowed := true }
def TreeTogetherUptoSaid : Prop := treeTogetherUptoRow.holds Tryz.pinned (OpenSpec.upto treeTogetherSpec)

/-- 'cutoverlaw14.SignalsNone', WHERE WHAT IT READS IS OF BULK AT MOST 1048576: true; the input reads as it did. -/
def signalsNoneUptoRow : OpenClaim := { program := "ythjgmldnegaaiaagreatdoor", sum := "bed6ae22cd18fecd19b4c1bfb996b513ae342b6cec269cc38532cc9eb9a7a971", func := "cutover/cutoverlaw14.SignalsNone", spec := "signalsNone", unfollowed := true, recurses := true, named := ["cutover/cutoverhand.names"], apart := false, laid := [("cutover/cutoverhand.names", laid_cutover_cutoverhand_names)], narrowed := true }
def SignalsNoneUptoSaid : Prop := signalsNoneUptoRow.holds Tryz.pinned (OpenSpec.upto signalsNoneSpec)

/-- 'cutoverlaw14.SignalsTell', WHERE WHAT IT READS IS OF BULK AT MOST 1048576: true; the input reads as it did. -/
def signalsTellUptoRow : OpenClaim := { program := "ythjgmldnegaaiaagreatdoor", sum := "bed6ae22cd18fecd19b4c1bfb996b513ae342b6cec269cc38532cc9eb9a7a971", func := "cutover/cutoverlaw14.SignalsTell", spec := "signalsTell", unfollowed := true, recurses := true, named := ["cutover/cutoverhand.names"], apart := false, laid := [("cutover/cutoverhand.names", laid_cutover_cutoverhand_names)], narrowed := true }
def SignalsTellUptoSaid : Prop := signalsTellUptoRow.holds Tryz.pinned (OpenSpec.upto signalsTellSpec)

/-- 'cutoverlaw14.SignalsGrow', WHERE WHAT IT READS IS OF BULK AT MOST 1048576: true; the input reads as it did. -/
def signalsGrowUptoRow : OpenClaim := { program := "ythjgmldnegaaiaagreatdoor", sum := "bed6ae22cd18fecd19b4c1bfb996b513ae342b6cec269cc38532cc9eb9a7a971", func := "cutover/cutoverlaw14.SignalsGrow", spec := "signalsGrow", inPlace := ["slices.overlaps[[]cutover/api.Event]"], unfollowed := true, recurses := true, named := ["cutover/cutoverhand.names"], apart := false, laid := [("cutover/cutoverhand.names", laid_cutover_cutoverhand_names)], narrowed := true }
def SignalsGrowUptoSaid : Prop := signalsGrowUptoRow.holds Tryz.pinned (OpenSpec.upto signalsGrowSpec)

end Rows
end Go.Proofs.YthjgmldnegaaiaaGreatDoor
