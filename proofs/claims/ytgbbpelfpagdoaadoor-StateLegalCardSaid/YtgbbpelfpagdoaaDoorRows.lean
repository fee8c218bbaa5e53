/-
  NARROWER THAN 'FOR EVERY INPUT', by the rows' own cells (each row's printed sentence says how): StateSignals: laid · StateLegal: laid.
  DERIVED. THE GIVEN ROWS OF THIS SEAT. 2 by the template 'for every input the law returns true; each argument reads behind the call as it read before'; 0 by the template 'total and deterministic' (their statements: YtgbbpelfpagdoaaDoorTotals.lean).
  GIVEN WITH THE SEED: the statements are not yours to turn. If you find one false, say at which input.
  Laid BY PROGRAM, IN A SANDBOX (cutbox-rows.mjs): the forced cells as the released guide's own fill.sh prints them over the translation 8871163e3b56b957… (all of the seat's roots in one cut). By AI agents, Wed Nov 11 2026. No macro, syntax, notation, axiom, sorry.
-/
import Derived.Test.YtgbbpelfpagdoaaDoorChecked
import GoSem.Claim
import GoSem.ClaimJoined
import GoSem.ClaimMapViews
import Derived.JoinedTies
import Derived.KernelRfl
namespace Go.Proofs.YtgbbpelfpagdoaaDoor
/- THE CELL 'sum', in the pinned program and in every row, IS THE sha256 OF THE DUMP (.gsa) THAT YtgbbpelfpagdoaaDoorProg.lean LOADS. Nothing in Lean hashes anything: it is a label: what it is worth is what the hold of that sum in a sandbox is worth. -/
noncomputable def Tryd.pinned : Pinned := { name := "ytgbbpelfpagdoaadoor", sum := "8871163e3b56b95717aa6be004d42b61cc28b1876fa5fdafe370284d2126d6cc", checked := Tryd.checked }
namespace Rows
def none {H : Type} : Left H := { results := [], args := [] }

/- WHAT THE LISTED PACKAGE-LEVEL VARIABLES READ AS WHEN THE CALL BEGINS. Each datum BY PROGRAM (the guide's laid-datum.mjs) off the statement by which the dump's own 'gosem.cut.vars' lays the variable. In a bare row this is a premise. The card (YtgbbpelfpagdoaaDoorCards.lean) ties it to the program's text. -/
def laid_cutover_cutoverhand_names {H : Type} : DataW H := .agg [.lit (.string [97]), .lit (.string [98]), .lit (.string [106, 111, 98, 45, 49]), .lit (.string [122, 57]), .lit (.string [109]), .lit (.string [120, 45])]

/-- 'cutoverlaw12.StateSignals': WHATEVER THE INPUT: true; the input reads as it did. -/
def stateSignalsSpec : ChangeSpec := { name := "stateSignals", fn := fun _ => fun
  | [d1, d2] => { results := [.lit (.bool true)], args := [d1, d2] }
  | _ => none }
def stateSignalsRow : OpenClaim := { program := "ytgbbpelfpagdoaadoor", sum := "8871163e3b56b95717aa6be004d42b61cc28b1876fa5fdafe370284d2126d6cc", func := "cutover/cutoverlaw12.StateSignals", spec := "stateSignals", unfollowed := true, recurses := true, named := ["cutover/cutoverhand.names"], apart := false, laid := [("cutover/cutoverhand.names", laid_cutover_cutoverhand_names)] }
def StateSignalsSaid : Prop := stateSignalsRow.holds Tryd.pinned (OpenSpec.ofChange stateSignalsSpec)

/-- ITS FALSE NEIGHBOUR: 'it returns false'. Refute it at one input. -/
def stateSignalsWrong : ChangeSpec := { name := "stateSignals", fn := fun _ => fun
  | [d1, d2] => { results := [.lit (.bool false)], args := [d1, d2] }
  | _ => none }
def StateSignalsWrongFalsely : Prop := stateSignalsRow.holds Tryd.pinned (OpenSpec.ofChange stateSignalsWrong)

/-- 'cutoverlaw12.StateLegal': WHATEVER THE INPUT: true; the input reads as it did. -/
def stateLegalSpec : ChangeSpec := { name := "stateLegal", fn := fun _ => fun
  | [d1, d2, d3] => { results := [.lit (.bool true)], args := [d1, d2, d3] }
  | _ => none }
def stateLegalRow : OpenClaim := { program := "ytgbbpelfpagdoaadoor", sum := "8871163e3b56b95717aa6be004d42b61cc28b1876fa5fdafe370284d2126d6cc", func := "cutover/cutoverlaw12.StateLegal", spec := "stateLegal", unfollowed := true, recurses := true, named := ["cutover/cutoverhand.names"], apart := false, laid := [("cutover/cutoverhand.names", laid_cutover_cutoverhand_names)] }
def StateLegalSaid : Prop := stateLegalRow.holds Tryd.pinned (OpenSpec.ofChange stateLegalSpec)

/-- ITS FALSE NEIGHBOUR: 'it returns false'. Refute it at one input. -/
def stateLegalWrong : ChangeSpec := { name := "stateLegal", fn := fun _ => fun
  | [d1, d2, d3] => { results := [.lit (.bool false)], args := [d1, d2, d3] }
  | _ => none }
def StateLegalWrongFalsely : Prop := stateLegalRow.holds Tryd.pinned (OpenSpec.ofChange stateLegalWrong)

/- THE SECOND FORM. 'bulk': how many values and letters a reading holds, each counted each time it is reached (what is shared counts as often as it is met; a slice's spare places count too). A statement '..UptoSaid' is the law's where the arguments, and the package variables that the reading takes, are together of bulk at most 1048576: NARROWER than '..Said'. Prove '..Said' where nothing that the law and all that it calls make is longer than what came in: it says more and counts as full. Else prove '..UptoSaid'. A law counts once. -/
mutual
def uptoBulk {H : Type} : DataW H → Nat
  | .lit (.string bytes) => bytes.length + 1
  | .lit _ => 1
  | .nil => 1
  | .ptr d => uptoBulk d + 1
  | .slice elems spare => uptoBulkAll elems + uptoBulkAll spare + 1
  | .agg parts => uptoBulkAll parts + 1
  | .iface _ d => uptoBulk d + 1
  | .map entries => uptoBulkEntries entries + 1
  | .held _ => 1
def uptoBulkAll {H : Type} : List (DataW H) → Nat
  | [] => 0
  | d :: r => uptoBulk d + uptoBulkAll r
def uptoBulkEntries {H : Type} : List (Lit × DataW H) → Nat
  | [] => 0
  | x :: r => uptoBulkEntry x + uptoBulkEntries r
def uptoBulkEntry {H : Type} : Lit × DataW H → Nat
  | (.string bytes, d) => bytes.length + uptoBulk d + 1
  | (_, d) => uptoBulk d + 1
 end
def uptoSmall : (H : Type) → List (DataW H) → Bool := fun _ ds => decide (uptoBulkAll ds ≤ 1048576)
def OpenSpec.upto (s : _root_.Go.ChangeSpec) : _root_.Go.OpenSpec := { _root_.Go.OpenSpec.ofChange s with cond := some uptoSmall }

/-- 'cutoverlaw12.StateSignals', WHERE WHAT IT READS IS OF BULK AT MOST 1048576: true; the input reads as it did. -/
def stateSignalsUptoRow : OpenClaim := { program := "ytgbbpelfpagdoaadoor", sum := "8871163e3b56b95717aa6be004d42b61cc28b1876fa5fdafe370284d2126d6cc", func := "cutover/cutoverlaw12.StateSignals", spec := "stateSignals", unfollowed := true, recurses := true, named := ["cutover/cutoverhand.names"], apart := false, laid := [("cutover/cutoverhand.names", laid_cutover_cutoverhand_names)], narrowed := true }
def StateSignalsUptoSaid : Prop := stateSignalsUptoRow.holds Tryd.pinned (OpenSpec.upto stateSignalsSpec)

/-- 'cutoverlaw12.StateLegal', WHERE WHAT IT READS IS OF BULK AT MOST 1048576: true; the input reads as it did. -/
def stateLegalUptoRow : OpenClaim := { program := "ytgbbpelfpagdoaadoor", sum := "8871163e3b56b95717aa6be004d42b61cc28b1876fa5fdafe370284d2126d6cc", func := "cutover/cutoverlaw12.StateLegal", spec := "stateLegal", unfollowed := true, recurses := true, named := ["cutover/cutoverhand.names"], apart := false, laid := [("cutover/cutoverhand.names", laid_cutover_cutoverhand_names)], narrowed := true }
def StateLegalUptoSaid : Prop := stateLegalUptoRow.holds Tryd.pinned (OpenSpec.upto stateLegalSpec)

end Rows
end Go.Proofs.YtgbbpelfpagdoaaDoor
