/-
  NARROWER THAN 'FOR EVERY INPUT', by the rows' own cells (each row's printed sentence says how): StateSame: laid · StateParts: laid.
  DERIVED. THE GIVEN ROWS OF THIS SEAT. 2 by the template 'for every input the law returns true; each argument reads behind the call as it read before'; 0 by the template 'total and deterministic' (their statements: YtgbbpelfpagdoaaGreatDoorTotals.lean).
  GIVEN WITH THE SEED: the statements are not yours to turn. If you find one false, say at which input.
  Laid BY PROGRAM, IN A SANDBOX (cutbox-rows.mjs): the forced cells as the released guide's own fill.sh prints them over the translation 2a2d51490cddabd9… (all of the seat's roots in one cut). By AI agents, Wed Nov 11 2026. No macro, syntax, notation, axiom, sorry.
-/
import Derived.Test.YtgbbpelfpagdoaaGreatDoorChecked
import GoSem.Claim
import GoSem.ClaimJoined
import GoSem.ClaimMapViews
import Derived.JoinedTies
import Derived.KernelRfl
namespace Go.Proofs.YtgbbpelfpagdoaaGreatDoor
/- THE CELL 'sum', in the pinned program and in every row, IS THE sha256 OF THE DUMP (.gsa) THAT YtgbbpelfpagdoaaGreatDoorProg.lean LOADS. Nothing in Lean hashes anything: it is a label: what it is worth is what the hold of that sum in a sandbox is worth. -/
noncomputable def Tryz.pinned : Pinned := { name := "ytgbbpelfpagdoaagreatdoor", sum := "2a2d51490cddabd95746138f30585426c7a6e2dfc7465d978ea1e52bc468aa70", checked := Tryz.checked }
namespace Rows
def none {H : Type} : Left H := { results := [], args := [] }

/- WHAT THE LISTED PACKAGE-LEVEL VARIABLES READ AS WHEN THE CALL BEGINS. Each datum BY PROGRAM (the guide's laid-datum.mjs) off the statement by which the dump's own 'gosem.cut.vars' lays the variable. In a bare row this is a premise. The card (YtgbbpelfpagdoaaGreatDoorCards.lean) ties it to the program's text. -/
def laid_cutover_cutoverhand_names {H : Type} : DataW H := .agg [.lit (.string [97]), .lit (.string [98]), .lit (.string [106, 111, 98, 45, 49]), .lit (.string [122, 57]), .lit (.string [109]), .lit (.string [120, 45])]

/-- 'cutoverlaw12.StateSame': WHATEVER THE INPUT: true; the input reads as it did. -/
def stateSameSpec : ChangeSpec := { name := "stateSame", fn := fun _ => fun
  | [d1, d2, d3, d4, d5] => { results := [.lit (.bool true)], args := [d1, d2, d3, d4, d5] }
  | _ => none }
def stateSameRow : OpenClaim := { program := "ytgbbpelfpagdoaagreatdoor", sum := "2a2d51490cddabd95746138f30585426c7a6e2dfc7465d978ea1e52bc468aa70", func := "cutover/cutoverlaw12.StateSame", spec := "stateSame", unfollowed := true, recurses := true, named := ["cutover/cutoverhand.names"], apart := false, laid := [("cutover/cutoverhand.names", laid_cutover_cutoverhand_names)] }
def StateSameSaid : Prop := stateSameRow.holds Tryz.pinned (OpenSpec.ofChange stateSameSpec)

/-- ITS FALSE NEIGHBOUR: 'it returns false'. Refute it at one input. -/
def stateSameWrong : ChangeSpec := { name := "stateSame", fn := fun _ => fun
  | [d1, d2, d3, d4, d5] => { results := [.lit (.bool false)], args := [d1, d2, d3, d4, d5] }
  | _ => none }
def StateSameWrongFalsely : Prop := stateSameRow.holds Tryz.pinned (OpenSpec.ofChange stateSameWrong)

/-- 'cutoverlaw12.StateParts': WHATEVER THE INPUT: true; the input reads as it did. -/
def statePartsSpec : ChangeSpec := { name := "stateParts", fn := fun _ => fun
  | [d1, d2, d3] => { results := [.lit (.bool true)], args := [d1, d2, d3] }
  | _ => none }
def statePartsRow : OpenClaim := { program := "ytgbbpelfpagdoaagreatdoor", sum := "2a2d51490cddabd95746138f30585426c7a6e2dfc7465d978ea1e52bc468aa70", func := "cutover/cutoverlaw12.StateParts", spec := "stateParts", unfollowed := true, recurses := true, named := ["cutover/cutoverhand.names"], apart := false, laid := [("cutover/cutoverhand.names", laid_cutover_cutoverhand_names)] }
def StatePartsSaid : Prop := statePartsRow.holds Tryz.pinned (OpenSpec.ofChange statePartsSpec)

/-- ITS FALSE NEIGHBOUR: 'it returns false'. Refute it at one input. -/
def statePartsWrong : ChangeSpec := { name := "stateParts", fn := fun _ => fun
  | [d1, d2, d3] => { results := [.lit (.bool false)], args := [d1, d2, d3] }
  | _ => none }
def StatePartsWrongFalsely : Prop := statePartsRow.holds Tryz.pinned (OpenSpec.ofChange statePartsWrong)

/- THE SECOND FORM. 'bulk': how many values and letters a reading holds, each counted each time it is reached (what is shared counts as often as it is met; a slice's spare places count too). A statement '..UptoSaid' is the law's where the arguments, and the package variables that the reading takes, are together of bulk at most 1048576: NARROWER than '..Said'. Prove '..Said' where nothing that the law and all that it calls make is longer than what came in: it says more and counts as full. Else prove '..UptoSaid'. A law counts once. -/
mutual
def uptoBulk {H : Type} : DataW H → Nat
  | .lit (.string bytes) => bytes.length + 1
  | .lit _ => 1
  | .nil => 1
  | .ptr d => uptoBulk d + 1
  | .slice elems spare => uptoBulkAll elems + uptoBulkAll spare + 1
  | .agg parts => uptoBulkAll parts + 1
  | .iface _ d => uptoBulk d + 1
  | .map entries => uptoBulkEntries entries + 1
  | .held _ => 1
def uptoBulkAll {H : Type} : List (DataW H) → Nat
  | [] => 0
  | d :: r => uptoBulk d + uptoBulkAll r
def uptoBulkEntries {H : Type} : List (Lit × DataW H) → Nat
  | [] => 0
  | x :: r => uptoBulkEntry x + uptoBulkEntries r
def uptoBulkEntry {H : Type} : Lit × DataW H → Nat
  | (.string bytes, d) => bytes.length + uptoBulk d + 1
  | (_, d) => uptoBulk d + 1
 end
def uptoSmall : (H : Type) → List (DataW H) → Bool := fun _ ds => decide (uptoBulkAll ds ≤ 1048576)
def OpenSpec.upto (s : _root_.Go.ChangeSpec) : _root_.Go.OpenSpec := { _root_.Go.OpenSpec.ofChange s with cond := some uptoSmall }

/-- 'cutoverlaw12.StateSame', WHERE WHAT IT READS IS OF BULK AT MOST 1048576: true; the input reads as it did. -/
def stateSameUptoRow : OpenClaim := { program := "ytgbbpelfpagdoaagreatdoor", sum := "2a2d51490cddabd95746138f30585426c7a6e2dfc7465d978ea1e52bc468aa70", func := "cutover/cutoverlaw12.StateSame", spec := "stateSame", unfollowed := true, recurses := true, named := ["cutover/cutoverhand.names"], apart := false, laid := [("cutover/cutoverhand.names", laid_cutover_cutoverhand_names)], narrowed := true }
def StateSameUptoSaid : Prop := stateSameUptoRow.holds Tryz.pinned (OpenSpec.upto stateSameSpec)

/-- 'cutoverlaw12.StateParts', WHERE WHAT IT READS IS OF BULK AT MOST 1048576: true; the input reads as it did. -/
def statePartsUptoRow : OpenClaim := { program := "ytgbbpelfpagdoaagreatdoor", sum := "2a2d51490cddabd95746138f30585426c7a6e2dfc7465d978ea1e52bc468aa70", func := "cutover/cutoverlaw12.StateParts", spec := "stateParts", unfollowed := true, recurses := true, named := ["cutover/cutoverhand.names"], apart := false, laid := [("cutover/cutoverhand.names", laid_cutover_cutoverhand_names)], narrowed := true }
def StatePartsUptoSaid : Prop := statePartsUptoRow.holds Tryz.pinned (OpenSpec.upto statePartsSpec)

end Rows
end Go.Proofs.YtgbbpelfpagdoaaGreatDoor
