/-
  No cell of these rows narrows 'for every input' (looked for: loops, veiled, ifaces, maps, wideKeys, modest, calm, conditions, laid).
  DERIVED. THE GIVEN ROWS OF THIS SEAT. 11 by the template 'for every input the law returns true; each argument reads behind the call as it read before'; 0 by the template 'total and deterministic' (their statements: YtjhemkeilagnnaaTotals.lean).
  GIVEN WITH THE SEED: the statements are not yours to turn. If you find one false, say at which input.
  Laid BY PROGRAM, IN A SANDBOX (cutbox-rows.mjs): the forced cells as the released guide's own fill.sh prints them over the translation 8b6895bafa5c7358… (all of the seat's roots in one cut). By AI agents, Wed Nov 11 2026. No macro, syntax, notation, axiom, sorry.
-/
import Derived.Test.YtjhemkeilagnnaaChecked
import GoSem.Claim
import GoSem.ClaimJoined
import GoSem.ClaimMapViews
import Derived.JoinedTies
import Derived.KernelRfl
namespace Go.Proofs.Ytjhemkeilagnnaa
/- THE CELL 'sum', in the pinned program and in every row, IS THE sha256 OF THE DUMP (.gsa) THAT YtjhemkeilagnnaaProg.lean LOADS. Nothing in Lean hashes anything: it is a label: what it is worth is what the hold of that sum in a sandbox is worth. -/
noncomputable def Try.pinned : Pinned := { name := "ytjhemkeilagnnaa", sum := "8b6895bafa5c73586e22f4759ae15e4a429799b9a38656e55b79c1f0b86234db", checked := Try.checked }
namespace Rows
def none {H : Type} : Left H := { results := [], args := [] }

/-- 'cutoverlaw11.DagOrders': WHATEVER THE INPUT: true; the input reads as it did. -/
def dagOrdersSpec : ChangeSpec := { name := "dagOrders", fn := fun _ => fun
  | [d1, d2, d3] => { results := [.lit (.bool true)], args := [d1, d2, d3] }
  | _ => none }
def dagOrdersRow : OpenClaim := { program := "ytjhemkeilagnnaa", sum := "8b6895bafa5c73586e22f4759ae15e4a429799b9a38656e55b79c1f0b86234db", func := "cutover/cutoverlaw11.DagOrders", spec := "dagOrders", unfollowed := true, recurses := true, apart := false }
def DagOrdersSaid : Prop := dagOrdersRow.holds Try.pinned (OpenSpec.ofChange dagOrdersSpec)

/-- ITS FALSE NEIGHBOUR: 'it returns false'. Refute it at one input. -/
def dagOrdersWrong : ChangeSpec := { name := "dagOrders", fn := fun _ => fun
  | [d1, d2, d3] => { results := [.lit (.bool false)], args := [d1, d2, d3] }
  | _ => none }
def DagOrdersWrongFalsely : Prop := dagOrdersRow.holds Try.pinned (OpenSpec.ofChange dagOrdersWrong)

/-- 'cutoverlaw5.DiskOrder': WHATEVER THE INPUT: true; the input reads as it did. -/
def diskOrderSpec : ChangeSpec := { name := "diskOrder", fn := fun _ => fun
  | [d1, d2, d3] => { results := [.lit (.bool true)], args := [d1, d2, d3] }
  | _ => none }
def diskOrderRow : OpenClaim := { program := "ytjhemkeilagnnaa", sum := "8b6895bafa5c73586e22f4759ae15e4a429799b9a38656e55b79c1f0b86234db", func := "cutover/cutoverlaw5.DiskOrder", spec := "diskOrder", inPlace := ["maps.clone"], apart := false }
def DiskOrderSaid : Prop := diskOrderRow.holds Try.pinned (OpenSpec.ofChange diskOrderSpec)

/-- ITS FALSE NEIGHBOUR: 'it returns false'. Refute it at one input. -/
def diskOrderWrong : ChangeSpec := { name := "diskOrder", fn := fun _ => fun
  | [d1, d2, d3] => { results := [.lit (.bool false)], args := [d1, d2, d3] }
  | _ => none }
def DiskOrderWrongFalsely : Prop := diskOrderRow.holds Try.pinned (OpenSpec.ofChange diskOrderWrong)

/-- 'cutoverlaw5.DiskSynced': WHATEVER THE INPUT: true; the input reads as it did. -/
def diskSyncedSpec : ChangeSpec := { name := "diskSynced", fn := fun _ => fun
  | [d1, d2, d3] => { results := [.lit (.bool true)], args := [d1, d2, d3] }
  | _ => none }
def diskSyncedRow : OpenClaim := { program := "ytjhemkeilagnnaa", sum := "8b6895bafa5c73586e22f4759ae15e4a429799b9a38656e55b79c1f0b86234db", func := "cutover/cutoverlaw5.DiskSynced", spec := "diskSynced", inPlace := ["maps.clone"], apart := false }
def DiskSyncedSaid : Prop := diskSyncedRow.holds Try.pinned (OpenSpec.ofChange diskSyncedSpec)

/-- ITS FALSE NEIGHBOUR: 'it returns false'. Refute it at one input. -/
def diskSyncedWrong : ChangeSpec := { name := "diskSynced", fn := fun _ => fun
  | [d1, d2, d3] => { results := [.lit (.bool false)], args := [d1, d2, d3] }
  | _ => none }
def DiskSyncedWrongFalsely : Prop := diskSyncedRow.holds Try.pinned (OpenSpec.ofChange diskSyncedWrong)

/-- 'cutoverlaw5.DiskFuses': WHATEVER THE INPUT: true; the input reads as it did. -/
def diskFusesSpec : ChangeSpec := { name := "diskFuses", fn := fun _ => fun
  | [d1, d2] => { results := [.lit (.bool true)], args := [d1, d2] }
  | _ => none }
def diskFusesRow : OpenClaim := { program := "ytjhemkeilagnnaa", sum := "8b6895bafa5c73586e22f4759ae15e4a429799b9a38656e55b79c1f0b86234db", func := "cutover/cutoverlaw5.DiskFuses", spec := "diskFuses", inPlace := ["maps.clone"], apart := false }
def DiskFusesSaid : Prop := diskFusesRow.holds Try.pinned (OpenSpec.ofChange diskFusesSpec)

/-- ITS FALSE NEIGHBOUR: 'it returns false'. Refute it at one input. -/
def diskFusesWrong : ChangeSpec := { name := "diskFuses", fn := fun _ => fun
  | [d1, d2] => { results := [.lit (.bool false)], args := [d1, d2] }
  | _ => none }
def DiskFusesWrongFalsely : Prop := diskFusesRow.holds Try.pinned (OpenSpec.ofChange diskFusesWrong)

/-- 'cutoverlaw11.DagAhead': WHATEVER THE INPUT: true; the input reads as it did. -/
def dagAheadSpec : ChangeSpec := { name := "dagAhead", fn := fun _ => fun
  | [d1, d2, d3] => { results := [.lit (.bool true)], args := [d1, d2, d3] }
  | _ => none }
def dagAheadRow : OpenClaim := { program := "ytjhemkeilagnnaa", sum := "8b6895bafa5c73586e22f4759ae15e4a429799b9a38656e55b79c1f0b86234db", func := "cutover/cutoverlaw11.DagAhead", spec := "dagAhead", unfollowed := true, recurses := true, apart := false }
def DagAheadSaid : Prop := dagAheadRow.holds Try.pinned (OpenSpec.ofChange dagAheadSpec)

/-- ITS FALSE NEIGHBOUR: 'it returns false'. Refute it at one input. -/
def dagAheadWrong : ChangeSpec := { name := "dagAhead", fn := fun _ => fun
  | [d1, d2, d3] => { results := [.lit (.bool false)], args := [d1, d2, d3] }
  | _ => none }
def DagAheadWrongFalsely : Prop := dagAheadRow.holds Try.pinned (OpenSpec.ofChange dagAheadWrong)

/-- 'cutoverlaw11.DagGrows': WHATEVER THE INPUT: true; the input reads as it did. -/
def dagGrowsSpec : ChangeSpec := { name := "dagGrows", fn := fun _ => fun
  | [d1, d2] => { results := [.lit (.bool true)], args := [d1, d2] }
  | _ => none }
def dagGrowsRow : OpenClaim := { program := "ytjhemkeilagnnaa", sum := "8b6895bafa5c73586e22f4759ae15e4a429799b9a38656e55b79c1f0b86234db", func := "cutover/cutoverlaw11.DagGrows", spec := "dagGrows", unfollowed := true, recurses := true, apart := false }
def DagGrowsSaid : Prop := dagGrowsRow.holds Try.pinned (OpenSpec.ofChange dagGrowsSpec)

/-- ITS FALSE NEIGHBOUR: 'it returns false'. Refute it at one input. -/
def dagGrowsWrong : ChangeSpec := { name := "dagGrows", fn := fun _ => fun
  | [d1, d2] => { results := [.lit (.bool false)], args := [d1, d2] }
  | _ => none }
def DagGrowsWrongFalsely : Prop := dagGrowsRow.holds Try.pinned (OpenSpec.ofChange dagGrowsWrong)

/-- 'cutoverlaw5.DiskFiles': WHATEVER THE INPUT: true; the input reads as it did. -/
def diskFilesSpec : ChangeSpec := { name := "diskFiles", fn := fun _ => fun
  | [d] => { results := [.lit (.bool true)], args := [d] }
  | _ => none }
def diskFilesRow : OpenClaim := { program := "ytjhemkeilagnnaa", sum := "8b6895bafa5c73586e22f4759ae15e4a429799b9a38656e55b79c1f0b86234db", func := "cutover/cutoverlaw5.DiskFiles", spec := "diskFiles", inPlace := ["maps.clone"], unfollowed := true, recurses := true, apart := false }
def DiskFilesSaid : Prop := diskFilesRow.holds Try.pinned (OpenSpec.ofChange diskFilesSpec)

/-- ITS FALSE NEIGHBOUR: 'it returns false'. Refute it at one input. -/
def diskFilesWrong : ChangeSpec := { name := "diskFiles", fn := fun _ => fun
  | [d] => { results := [.lit (.bool false)], args := [d] }
  | _ => none }
def DiskFilesWrongFalsely : Prop := diskFilesRow.holds Try.pinned (OpenSpec.ofChange diskFilesWrong)

/-- 'cutoverlaw5.DiskKnown': WHATEVER THE INPUT: true; the input reads as it did. -/
def diskKnownSpec : ChangeSpec := { name := "diskKnown", fn := fun _ => fun
  | [] => { results := [.lit (.bool true)], args := [] }
  | _ => none }
def diskKnownRow : OpenClaim := { program := "ytjhemkeilagnnaa", sum := "8b6895bafa5c73586e22f4759ae15e4a429799b9a38656e55b79c1f0b86234db", func := "cutover/cutoverlaw5.DiskKnown", spec := "diskKnown", inPlace := ["maps.clone"], unfollowed := true, recurses := true, apart := false }
def DiskKnownSaid : Prop := diskKnownRow.holds Try.pinned (OpenSpec.ofChange diskKnownSpec)

/-- ITS FALSE NEIGHBOUR: 'it returns false'. Refute it at one input. -/
def diskKnownWrong : ChangeSpec := { name := "diskKnown", fn := fun _ => fun
  | [] => { results := [.lit (.bool false)], args := [] }
  | _ => none }
def DiskKnownWrongFalsely : Prop := diskKnownRow.holds Try.pinned (OpenSpec.ofChange diskKnownWrong)

/-- 'cutoverlaw5.DiskPlays': WHATEVER THE INPUT: true; the input reads as it did. -/
def diskPlaysSpec : ChangeSpec := { name := "diskPlays", fn := fun _ => fun
  | [d] => { results := [.lit (.bool true)], args := [d] }
  | _ => none }
def diskPlaysRow : OpenClaim := { program := "ytjhemkeilagnnaa", sum := "8b6895bafa5c73586e22f4759ae15e4a429799b9a38656e55b79c1f0b86234db", func := "cutover/cutoverlaw5.DiskPlays", spec := "diskPlays", inPlace := ["maps.clone"], unfollowed := true, recurses := true, apart := false }
def DiskPlaysSaid : Prop := diskPlaysRow.holds Try.pinned (OpenSpec.ofChange diskPlaysSpec)

/-- ITS FALSE NEIGHBOUR: 'it returns false'. Refute it at one input. -/
def diskPlaysWrong : ChangeSpec := { name := "diskPlays", fn := fun _ => fun
  | [d] => { results := [.lit (.bool false)], args := [d] }
  | _ => none }
def DiskPlaysWrongFalsely : Prop := diskPlaysRow.holds Try.pinned (OpenSpec.ofChange diskPlaysWrong)

/-- 'cutoverlaw11.DagKnown': WHATEVER THE INPUT: true; the input reads as it did. -/
def dagKnownSpec : ChangeSpec := { name := "dagKnown", fn := fun _ => fun
  | [] => { results := [.lit (.bool true)], args := [] }
  | _ => none }
def dagKnownRow : OpenClaim := { program := "ytjhemkeilagnnaa", sum := "8b6895bafa5c73586e22f4759ae15e4a429799b9a38656e55b79c1f0b86234db", func := "cutover/cutoverlaw11.DagKnown", spec := "dagKnown", unfollowed := true, recurses := true, apart := false }
def DagKnownSaid : Prop := dagKnownRow.holds Try.pinned (OpenSpec.ofChange dagKnownSpec)

/-- ITS FALSE NEIGHBOUR: 'it returns false'. Refute it at one input. -/
def dagKnownWrong : ChangeSpec := { name := "dagKnown", fn := fun _ => fun
  | [] => { results := [.lit (.bool false)], args := [] }
  | _ => none }
def DagKnownWrongFalsely : Prop := dagKnownRow.holds Try.pinned (OpenSpec.ofChange dagKnownWrong)

/-- 'cutoverlaw11.DagTells': WHATEVER THE INPUT: true; the input reads as it did. -/
def dagTellsSpec : ChangeSpec := { name := "dagTells", fn := fun _ => fun
  | [d1, d2, d3, d4, d5] => { results := [.lit (.bool true)], args := [d1, d2, d3, d4, d5] }
  | _ => none }
def dagTellsRow : OpenClaim := { program := "ytjhemkeilagnnaa", sum := "8b6895bafa5c73586e22f4759ae15e4a429799b9a38656e55b79c1f0b86234db", func := "cutover/cutoverlaw11.DagTells", spec := "dagTells", unfollowed := true, recurses := true, apart := false }
def DagTellsSaid : Prop := dagTellsRow.holds Try.pinned (OpenSpec.ofChange dagTellsSpec)

/-- ITS FALSE NEIGHBOUR: 'it returns false'. Refute it at one input. -/
def dagTellsWrong : ChangeSpec := { name := "dagTells", fn := fun _ => fun
  | [d1, d2, d3, d4, d5] => { results := [.lit (.bool false)], args := [d1, d2, d3, d4, d5] }
  | _ => none }
def DagTellsWrongFalsely : Prop := dagTellsRow.holds Try.pinned (OpenSpec.ofChange dagTellsWrong)

/- THE SECOND FORM. 'bulk': how many values and letters a reading holds, each counted each time it is reached (what is shared counts as often as it is met; a slice's spare places count too). A statement '..UptoSaid' is the law's where the arguments, and the package variables that the reading takes, are together of bulk at most 1048576: NARROWER than '..Said'. Prove '..Said' where nothing that the law and all that it calls make is longer than what came in: it says more and counts as full. Else prove '..UptoSaid'. A law counts once. -/
mutual
def uptoBulk {H : Type} : DataW H → Nat
  | .lit (.string bytes) => bytes.length + 1
  | .lit _ => 1
  | .nil => 1
  | .ptr d => uptoBulk d + 1
  | .slice elems spare => uptoBulkAll elems + uptoBulkAll spare + 1
  | .agg parts => uptoBulkAll parts + 1
  | .iface _ d => uptoBulk d + 1
  | .map entries => uptoBulkEntries entries + 1
  | .held _ => 1
def uptoBulkAll {H : Type} : List (DataW H) → Nat
  | [] => 0
  | d :: r => uptoBulk d + uptoBulkAll r
def uptoBulkEntries {H : Type} : List (Lit × DataW H) → Nat
  | [] => 0
  | x :: r => uptoBulkEntry x + uptoBulkEntries r
def uptoBulkEntry {H : Type} : Lit × DataW H → Nat
  | (.string bytes, d) => bytes.length + uptoBulk d + 1
  | (_, d) => uptoBulk d + 1
 end
def uptoSmall : (H : Type) → List (DataW H) → Bool := fun _ ds => decide (uptoBulkAll ds ≤ 1048576)
def OpenSpec.upto (s : _root_.Go.ChangeSpec) : _root_.Go.OpenSpec := { _root_.Go.OpenSpec.ofChange s with cond := some uptoSmall }

/-- 'cutoverlaw11.DagOrders', WHERE WHAT IT READS IS OF BULK AT MOST 1048576: true; the input reads as it did. -/
def dagOrdersUptoRow : OpenClaim := { program := "ytjhemkeilagnnaa", sum := "8b6895bafa5c73586e22f4759ae15e4a429799b9a38656e55b79c1f0b86234db", func := "cutover/cutoverlaw11.DagOrders", spec := "dagOrders", unfollowed := true, recurses := true, apart := false, narrowed := true }
def DagOrdersUptoSaid : Prop := dagOrdersUptoRow.holds Try.pinned (OpenSpec.upto dagOrdersSpec)

/-- 'cutoverlaw5.DiskOrder', WHERE WHAT IT READS IS OF BULK AT MOST 1048576: true; the input reads as it did. -/
def diskOrderUptoRow : OpenClaim := { program := "ytjhemkeilagnnaa", sum := "8b6895bafa5c73586e22f4759ae15e4a429799b9a38656e55b79c1f0b86234db", func := "cutover/cutoverlaw5.DiskOrder", spec := "diskOrder", inPlace := ["maps.clone"], apart := false, narrowed := true }
def DiskOrderUptoSaid : Prop := diskOrderUptoRow.holds Try.pinned (OpenSpec.upto diskOrderSpec)

/-- 'cutoverlaw5.DiskSynced', WHERE WHAT IT READS IS OF BULK AT MOST 1048576: true; the input reads as it did. -/
def diskSyncedUptoRow : OpenClaim := { program := "ytjhemkeilagnnaa", sum := "8b6895bafa5c73586e22f4759ae15e4a429799b9a38656e55b79c1f0b86234db", func := "cutover/cutoverlaw5.DiskSynced", spec := "diskSynced", inPlace := ["maps.clone"], apart := false, narrowed := true }
def DiskSyncedUptoSaid : Prop := diskSyncedUptoRow.holds Try.pinned (OpenSpec.upto diskSyncedSpec)

/-- 'cutoverlaw5.DiskFuses', WHERE WHAT IT READS IS OF BULK AT MOST 1048576: true; the input reads as it did. -/
def diskFusesUptoRow : OpenClaim := { program := "ytjhemkeilagnnaa", sum := "8b6895bafa5c73586e22f4759ae15e4a429799b9a38656e55b79c1f0b86234db", func := "cutover/cutoverlaw5.DiskFuses", spec := "diskFuses", inPlace := ["maps.clone"], apart := false, narrowed := true }
def DiskFusesUptoSaid : Prop := diskFusesUptoRow.holds Try.pinned (OpenSpec.upto diskFusesSpec)

/-- 'cutoverlaw11.DagAhead', WHERE WHAT IT READS IS OF BULK AT MOST 1048576: true; the input reads as it did. -/
def dagAheadUptoRow : OpenClaim := { program := "ytjhemkeilagnnaa", sum := "8b6895bafa5c73586e22f4759ae15e4a429799b9a38656e55b79c1f0b86234db", func := "cutover/cutoverlaw11.DagAhead", spec := "dagAhead", unfollowed := true, recurses := true, apart := false, narrowed := true }
def DagAheadUptoSaid : Prop := dagAheadUptoRow.holds Try.pinned (OpenSpec.upto dagAheadSpec)

/-- 'cutoverlaw11.DagGrows', WHERE WHAT IT READS IS OF BULK AT MOST 1048576: true; the input reads as it did. -/
def dagGrowsUptoRow : OpenClaim := { program := "ytjhemkeilagnnaa", sum := "8b6895bafa5c73586e22f4759ae15e4a429799b9a38656e55b79c1f0b86234db", func := "cutover/cutoverlaw11.DagGrows", spec := "dagGrows", unfollowed := true, recurses := true, apart := false, narrowed := true }
def DagGrowsUptoSaid : Prop := dagGrowsUptoRow.holds Try.pinned (OpenSpec.upto dagGrowsSpec)

/-- 'cutoverlaw5.DiskFiles', WHERE WHAT IT READS IS OF BULK AT MOST 1048576: true; the input reads as it did. -/
def diskFilesUptoRow : OpenClaim := { program := "ytjhemkeilagnnaa", sum := "8b6895bafa5c73586e22f4759ae15e4a429799b9a38656e55b79c1f0b86234db", func := "cutover/cutoverlaw5.DiskFiles", spec := "diskFiles", inPlace := ["maps.clone"], unfollowed := true, recurses := true, apart := false, narrowed := true }
def DiskFilesUptoSaid : Prop := diskFilesUptoRow.holds Try.pinned (OpenSpec.upto diskFilesSpec)

/-- 'cutoverlaw5.DiskKnown', WHERE WHAT IT READS IS OF BULK AT MOST 1048576: true; the input reads as it did. -/
def diskKnownUptoRow : OpenClaim := { program := "ytjhemkeilagnnaa", sum := "8b6895bafa5c73586e22f4759ae15e4a429799b9a38656e55b79c1f0b86234db", func := "cutover/cutoverlaw5.DiskKnown", spec := "diskKnown", inPlace := ["maps.clone"], unfollowed := true, recurses := true, apart := false, narrowed := true }
def DiskKnownUptoSaid : Prop := diskKnownUptoRow.holds Try.pinned (OpenSpec.upto diskKnownSpec)

/-- 'cutoverlaw5.DiskPlays', WHERE WHAT IT READS IS OF BULK AT MOST 1048576: true; the input reads as it did. -/
def diskPlaysUptoRow : OpenClaim := { program := "ytjhemkeilagnnaa", sum := "8b6895bafa5c73586e22f4759ae15e4a429799b9a38656e55b79c1f0b86234db", func := "cutover/cutoverlaw5.DiskPlays", spec := "diskPlays", inPlace := ["maps.clone"], unfollowed := true, recurses := true, apart := false, narrowed := true }
def DiskPlaysUptoSaid : Prop := diskPlaysUptoRow.holds Try.pinned (OpenSpec.upto diskPlaysSpec)

/-- 'cutoverlaw11.DagKnown', WHERE WHAT IT READS IS OF BULK AT MOST 1048576: true; the input reads as it did. -/
def dagKnownUptoRow : OpenClaim := { program := "ytjhemkeilagnnaa", sum := "8b6895bafa5c73586e22f4759ae15e4a429799b9a38656e55b79c1f0b86234db", func := "cutover/cutoverlaw11.DagKnown", spec := "dagKnown", unfollowed := true, recurses := true, apart := false, narrowed := true }
def DagKnownUptoSaid : Prop := dagKnownUptoRow.holds Try.pinned (OpenSpec.upto dagKnownSpec)

/-- 'cutoverlaw11.DagTells', WHERE WHAT IT READS IS OF BULK AT MOST 1048576: true; the input reads as it did. -/
def dagTellsUptoRow : OpenClaim := { program := "ytjhemkeilagnnaa", sum := "8b6895bafa5c73586e22f4759ae15e4a429799b9a38656e55b79c1f0b86234db", func := "cutover/cutoverlaw11.DagTells", spec := "dagTells", unfollowed := true, recurses := true, apart := false, narrowed := true }
def DagTellsUptoSaid : Prop := dagTellsUptoRow.holds Try.pinned (OpenSpec.upto dagTellsSpec)

end Rows
end Go.Proofs.Ytjhemkeilagnnaa
