/-
  No cell of these rows narrows 'for every input' (looked for: loops, veiled, ifaces, maps, wideKeys, modest, calm, conditions, laid).
  DERIVED. THE GIVEN ROWS OF THIS SEAT. 11 by the template 'for every input the law returns true; each argument reads behind the call as it read before'; 0 by the template 'total and deterministic' (their statements: YtedjnjgnadbkaaaTotals.lean).
  GIVEN WITH THE SEED: the statements are not yours to turn. If you find one false, say at which input.
  Laid BY PROGRAM, IN A SANDBOX (cutbox-rows.mjs): the forced cells as the released guide's own fill.sh prints them over the translation 14a05c1012afeb55… (all of the seat's roots in one cut). By AI agents, Wed Nov 11 2026. No macro, syntax, notation, axiom, sorry.
-/
import Derived.Test.YtedjnjgnadbkaaaChecked
import GoSem.Claim
import GoSem.ClaimJoined
import GoSem.ClaimMapViews
import Derived.JoinedTies
import Derived.KernelRfl
namespace Go.Proofs.Ytedjnjgnadbkaaa
/- THE CELL 'sum', in the pinned program and in every row, IS THE sha256 OF THE DUMP (.gsa) THAT YtedjnjgnadbkaaaProg.lean LOADS. Nothing in Lean hashes anything: it is a label: what it is worth is what the hold of that sum in a sandbox is worth. -/
noncomputable def Try.pinned : Pinned := { name := "ytedjnjgnadbkaaa", sum := "14a05c1012afeb5538c0b54022e29d5b7680cf77f3bae6f650e061d51cbe4dbd", checked := Try.checked }
namespace Rows
def none {H : Type} : Left H := { results := [], args := [] }

/-- 'printworkslaw2.ReedsolomonField': WHATEVER THE INPUT: true; the input reads as it did. -/
def reedsolomonFieldSpec : ChangeSpec := { name := "reedsolomonField", fn := fun _ => fun
  | [d1, d2] => { results := [.lit (.bool true)], args := [d1, d2] }
  | _ => none }
def reedsolomonFieldRow : OpenClaim := { program := "ytedjnjgnadbkaaa", sum := "14a05c1012afeb5538c0b54022e29d5b7680cf77f3bae6f650e061d51cbe4dbd", func := "printworks/printworkslaw2.ReedsolomonField", spec := "reedsolomonField", apart := false }
def ReedsolomonFieldSaid : Prop := reedsolomonFieldRow.holds Try.pinned (OpenSpec.ofChange reedsolomonFieldSpec)

/-- ITS FALSE NEIGHBOUR: 'it returns false'. Refute it at one input. -/
def reedsolomonFieldWrong : ChangeSpec := { name := "reedsolomonField", fn := fun _ => fun
  | [d1, d2] => { results := [.lit (.bool false)], args := [d1, d2] }
  | _ => none }
def ReedsolomonFieldWrongFalsely : Prop := reedsolomonFieldRow.holds Try.pinned (OpenSpec.ofChange reedsolomonFieldWrong)

/-- 'printworkslaw2.ReedsolomonNearest': WHATEVER THE INPUT: true; the input reads as it did. -/
def reedsolomonNearestSpec : ChangeSpec := { name := "reedsolomonNearest", fn := fun _ => fun
  | [d1, d2, d3] => { results := [.lit (.bool true)], args := [d1, d2, d3] }
  | _ => none }
def reedsolomonNearestRow : OpenClaim := { program := "ytedjnjgnadbkaaa", sum := "14a05c1012afeb5538c0b54022e29d5b7680cf77f3bae6f650e061d51cbe4dbd", func := "printworks/printworkslaw2.ReedsolomonNearest", spec := "reedsolomonNearest", apart := false }
def ReedsolomonNearestSaid : Prop := reedsolomonNearestRow.holds Try.pinned (OpenSpec.ofChange reedsolomonNearestSpec)

/-- ITS FALSE NEIGHBOUR: 'it returns false'. Refute it at one input. -/
def reedsolomonNearestWrong : ChangeSpec := { name := "reedsolomonNearest", fn := fun _ => fun
  | [d1, d2, d3] => { results := [.lit (.bool false)], args := [d1, d2, d3] }
  | _ => none }
def ReedsolomonNearestWrongFalsely : Prop := reedsolomonNearestRow.holds Try.pinned (OpenSpec.ofChange reedsolomonNearestWrong)

/-- 'printworkslaw2.ReedsolomonChecks': WHATEVER THE INPUT: true; the input reads as it did. -/
def reedsolomonChecksSpec : ChangeSpec := { name := "reedsolomonChecks", fn := fun _ => fun
  | [d1, d2] => { results := [.lit (.bool true)], args := [d1, d2] }
  | _ => none }
def reedsolomonChecksRow : OpenClaim := { program := "ytedjnjgnadbkaaa", sum := "14a05c1012afeb5538c0b54022e29d5b7680cf77f3bae6f650e061d51cbe4dbd", func := "printworks/printworkslaw2.ReedsolomonChecks", spec := "reedsolomonChecks", apart := false }
def ReedsolomonChecksSaid : Prop := reedsolomonChecksRow.holds Try.pinned (OpenSpec.ofChange reedsolomonChecksSpec)

/-- ITS FALSE NEIGHBOUR: 'it returns false'. Refute it at one input. -/
def reedsolomonChecksWrong : ChangeSpec := { name := "reedsolomonChecks", fn := fun _ => fun
  | [d1, d2] => { results := [.lit (.bool false)], args := [d1, d2] }
  | _ => none }
def ReedsolomonChecksWrongFalsely : Prop := reedsolomonChecksRow.holds Try.pinned (OpenSpec.ofChange reedsolomonChecksWrong)

/-- 'printworkslaw2.LinearReads': WHATEVER THE INPUT: true; the input reads as it did. -/
def linearReadsSpec : ChangeSpec := { name := "linearReads", fn := fun _ => fun
  | [d] => { results := [.lit (.bool true)], args := [d] }
  | _ => none }
def linearReadsRow : OpenClaim := { program := "ytedjnjgnadbkaaa", sum := "14a05c1012afeb5538c0b54022e29d5b7680cf77f3bae6f650e061d51cbe4dbd", func := "printworks/printworkslaw2.LinearReads", spec := "linearReads", unfollowed := true, recurses := true, apart := false }
def LinearReadsSaid : Prop := linearReadsRow.holds Try.pinned (OpenSpec.ofChange linearReadsSpec)

/-- ITS FALSE NEIGHBOUR: 'it returns false'. Refute it at one input. -/
def linearReadsWrong : ChangeSpec := { name := "linearReads", fn := fun _ => fun
  | [d] => { results := [.lit (.bool false)], args := [d] }
  | _ => none }
def LinearReadsWrongFalsely : Prop := linearReadsRow.holds Try.pinned (OpenSpec.ofChange linearReadsWrong)

/-- 'printworkslaw2.LinearWidths': WHATEVER THE INPUT: true; the input reads as it did. -/
def linearWidthsSpec : ChangeSpec := { name := "linearWidths", fn := fun _ => fun
  | [d1, d2, d3, d4] => { results := [.lit (.bool true)], args := [d1, d2, d3, d4] }
  | _ => none }
def linearWidthsRow : OpenClaim := { program := "ytedjnjgnadbkaaa", sum := "14a05c1012afeb5538c0b54022e29d5b7680cf77f3bae6f650e061d51cbe4dbd", func := "printworks/printworkslaw2.LinearWidths", spec := "linearWidths", unfollowed := true, recurses := true, apart := false }
def LinearWidthsSaid : Prop := linearWidthsRow.holds Try.pinned (OpenSpec.ofChange linearWidthsSpec)

/-- ITS FALSE NEIGHBOUR: 'it returns false'. Refute it at one input. -/
def linearWidthsWrong : ChangeSpec := { name := "linearWidths", fn := fun _ => fun
  | [d1, d2, d3, d4] => { results := [.lit (.bool false)], args := [d1, d2, d3, d4] }
  | _ => none }
def LinearWidthsWrongFalsely : Prop := linearWidthsRow.holds Try.pinned (OpenSpec.ofChange linearWidthsWrong)

/-- 'printworkslaw2.RangecoderBytes': WHATEVER THE INPUT: true; the input reads as it did. -/
def rangecoderBytesSpec : ChangeSpec := { name := "rangecoderBytes", fn := fun _ => fun
  | [d1, d2, d3] => { results := [.lit (.bool true)], args := [d1, d2, d3] }
  | _ => none }
def rangecoderBytesRow : OpenClaim := { program := "ytedjnjgnadbkaaa", sum := "14a05c1012afeb5538c0b54022e29d5b7680cf77f3bae6f650e061d51cbe4dbd", func := "printworks/printworkslaw2.RangecoderBytes", spec := "rangecoderBytes", apart := false }
def RangecoderBytesSaid : Prop := rangecoderBytesRow.holds Try.pinned (OpenSpec.ofChange rangecoderBytesSpec)

/-- ITS FALSE NEIGHBOUR: 'it returns false'. Refute it at one input. -/
def rangecoderBytesWrong : ChangeSpec := { name := "rangecoderBytes", fn := fun _ => fun
  | [d1, d2, d3] => { results := [.lit (.bool false)], args := [d1, d2, d3] }
  | _ => none }
def RangecoderBytesWrongFalsely : Prop := rangecoderBytesRow.holds Try.pinned (OpenSpec.ofChange rangecoderBytesWrong)

/-- 'printworkslaw2.ControlFeeds': WHATEVER THE INPUT: true; the input reads as it did. -/
def controlFeedsSpec : ChangeSpec := { name := "controlFeeds", fn := fun _ => fun
  | [d1, d2] => { results := [.lit (.bool true)], args := [d1, d2] }
  | _ => none }
def controlFeedsRow : OpenClaim := { program := "ytedjnjgnadbkaaa", sum := "14a05c1012afeb5538c0b54022e29d5b7680cf77f3bae6f650e061d51cbe4dbd", func := "printworks/printworkslaw2.ControlFeeds", spec := "controlFeeds", apart := false }
def ControlFeedsSaid : Prop := controlFeedsRow.holds Try.pinned (OpenSpec.ofChange controlFeedsSpec)

/-- ITS FALSE NEIGHBOUR: 'it returns false'. Refute it at one input. -/
def controlFeedsWrong : ChangeSpec := { name := "controlFeeds", fn := fun _ => fun
  | [d1, d2] => { results := [.lit (.bool false)], args := [d1, d2] }
  | _ => none }
def ControlFeedsWrongFalsely : Prop := controlFeedsRow.holds Try.pinned (OpenSpec.ofChange controlFeedsWrong)

/-- 'printworkslaw2.ControlLoops': WHATEVER THE INPUT: true; the input reads as it did. -/
def controlLoopsSpec : ChangeSpec := { name := "controlLoops", fn := fun _ => fun
  | [d1, d2, d3, d4] => { results := [.lit (.bool true)], args := [d1, d2, d3, d4] }
  | _ => none }
def controlLoopsRow : OpenClaim := { program := "ytedjnjgnadbkaaa", sum := "14a05c1012afeb5538c0b54022e29d5b7680cf77f3bae6f650e061d51cbe4dbd", func := "printworks/printworkslaw2.ControlLoops", spec := "controlLoops", unfollowed := true, recurses := true, apart := false }
def ControlLoopsSaid : Prop := controlLoopsRow.holds Try.pinned (OpenSpec.ofChange controlLoopsSpec)

/-- ITS FALSE NEIGHBOUR: 'it returns false'. Refute it at one input. -/
def controlLoopsWrong : ChangeSpec := { name := "controlLoops", fn := fun _ => fun
  | [d1, d2, d3, d4] => { results := [.lit (.bool false)], args := [d1, d2, d3, d4] }
  | _ => none }
def ControlLoopsWrongFalsely : Prop := controlLoopsRow.holds Try.pinned (OpenSpec.ofChange controlLoopsWrong)

/-- 'printworkslaw2.PressRuns': WHATEVER THE INPUT: true; the input reads as it did. -/
def pressRunsSpec : ChangeSpec := { name := "pressRuns", fn := fun _ => fun
  | [d1, d2, d3] => { results := [.lit (.bool true)], args := [d1, d2, d3] }
  | _ => none }
def pressRunsRow : OpenClaim := { program := "ytedjnjgnadbkaaa", sum := "14a05c1012afeb5538c0b54022e29d5b7680cf77f3bae6f650e061d51cbe4dbd", func := "printworks/printworkslaw2.PressRuns", spec := "pressRuns", apart := false }
def PressRunsSaid : Prop := pressRunsRow.holds Try.pinned (OpenSpec.ofChange pressRunsSpec)

/-- ITS FALSE NEIGHBOUR: 'it returns false'. Refute it at one input. -/
def pressRunsWrong : ChangeSpec := { name := "pressRuns", fn := fun _ => fun
  | [d1, d2, d3] => { results := [.lit (.bool false)], args := [d1, d2, d3] }
  | _ => none }
def PressRunsWrongFalsely : Prop := pressRunsRow.holds Try.pinned (OpenSpec.ofChange pressRunsWrong)

/-- 'printworkslaw2.PressEvents': WHATEVER THE INPUT: true; the input reads as it did. -/
def pressEventsSpec : ChangeSpec := { name := "pressEvents", fn := fun _ => fun
  | [d1, d2, d3, d4] => { results := [.lit (.bool true)], args := [d1, d2, d3, d4] }
  | _ => none }
def pressEventsRow : OpenClaim := { program := "ytedjnjgnadbkaaa", sum := "14a05c1012afeb5538c0b54022e29d5b7680cf77f3bae6f650e061d51cbe4dbd", func := "printworks/printworkslaw2.PressEvents", spec := "pressEvents", apart := false }
def PressEventsSaid : Prop := pressEventsRow.holds Try.pinned (OpenSpec.ofChange pressEventsSpec)

/-- ITS FALSE NEIGHBOUR: 'it returns false'. Refute it at one input. -/
def pressEventsWrong : ChangeSpec := { name := "pressEvents", fn := fun _ => fun
  | [d1, d2, d3, d4] => { results := [.lit (.bool false)], args := [d1, d2, d3, d4] }
  | _ => none }
def PressEventsWrongFalsely : Prop := pressEventsRow.holds Try.pinned (OpenSpec.ofChange pressEventsWrong)

/-- 'printworkslaw2.PressPresets': WHATEVER THE INPUT: true; the input reads as it did. -/
def pressPresetsSpec : ChangeSpec := { name := "pressPresets", fn := fun _ => fun
  | [d1, d2, d3] => { results := [.lit (.bool true)], args := [d1, d2, d3] }
  | _ => none }
def pressPresetsRow : OpenClaim := { program := "ytedjnjgnadbkaaa", sum := "14a05c1012afeb5538c0b54022e29d5b7680cf77f3bae6f650e061d51cbe4dbd", func := "printworks/printworkslaw2.PressPresets", spec := "pressPresets", apart := false }
def PressPresetsSaid : Prop := pressPresetsRow.holds Try.pinned (OpenSpec.ofChange pressPresetsSpec)

/-- ITS FALSE NEIGHBOUR: 'it returns false'. Refute it at one input. -/
def pressPresetsWrong : ChangeSpec := { name := "pressPresets", fn := fun _ => fun
  | [d1, d2, d3] => { results := [.lit (.bool false)], args := [d1, d2, d3] }
  | _ => none }
def PressPresetsWrongFalsely : Prop := pressPresetsRow.holds Try.pinned (OpenSpec.ofChange pressPresetsWrong)

/- THE SECOND FORM. 'bulk': how many values and letters a reading holds, each counted each time it is reached (what is shared counts as often as it is met; a slice's spare places count too). A statement '..UptoSaid' is the law's where the arguments, and the package variables that the reading takes, are together of bulk at most 1048576: NARROWER than '..Said'. Prove '..Said' where nothing that the law and all that it calls make is longer than what came in: it says more and counts as full. Else prove '..UptoSaid'. A law counts once. -/
mutual
def uptoBulk {H : Type} : DataW H → Nat
  | .lit (.string bytes) => bytes.length + 1
  | .lit _ => 1
  | .nil => 1
  | .ptr d => uptoBulk d + 1
  | .slice elems spare => uptoBulkAll elems + uptoBulkAll spare + 1
  | .agg parts => uptoBulkAll parts + 1
  | .iface _ d => uptoBulk d + 1
  | .map entries => uptoBulkEntries entries + 1
  | .held _ => 1
def uptoBulkAll {H : Type} : List (DataW H) → Nat
  | [] => 0
  | d :: r => uptoBulk d + uptoBulkAll r
def uptoBulkEntries {H : Type} : List (Lit × DataW H) → Nat
  | [] => 0
  | x :: r => uptoBulkEntry x + uptoBulkEntries r
def uptoBulkEntry {H : Type} : Lit × DataW H → Nat
  | (.string bytes, d) => bytes.length + uptoBulk d + 1
  | (_, d) => uptoBulk d + 1
 end
def uptoSmall : (H : Type) → List (DataW H) → Bool := fun _ ds => decide (uptoBulkAll ds ≤ 1048576)
def OpenSpec.upto (s : _root_.Go.ChangeSpec) : _root_.Go.OpenSpec := { _root_.Go.OpenSpec.ofChange s with cond := some uptoSmall }

/-- 'printworkslaw2.ReedsolomonField', WHERE WHAT IT READS IS OF BULK AT MOST 1048576: true; the input reads as it did. -/
def reedsolomonFieldUptoRow : OpenClaim := { program := "ytedjnjgnadbkaaa", sum := "14a05c1012afeb5538c0b54022e29d5b7680cf77f3bae6f650e061d51cbe4dbd", func := "printworks/printworkslaw2.ReedsolomonField", spec := "reedsolomonField", apart := false, narrowed := true }
def ReedsolomonFieldUptoSaid : Prop := reedsolomonFieldUptoRow.holds Try.pinned (OpenSpec.upto reedsolomonFieldSpec)

/-- 'printworkslaw2.ReedsolomonNearest', WHERE WHAT IT READS IS OF BULK AT MOST 1048576: true; the input reads as it did. -/
def reedsolomonNearestUptoRow : OpenClaim := { program := "ytedjnjgnadbkaaa", sum := "14a05c1012afeb5538c0b54022e29d5b7680cf77f3bae6f650e061d51cbe4dbd", func := "printworks/printworkslaw2.ReedsolomonNearest", spec := "reedsolomonNearest", apart := false, narrowed := true }
def ReedsolomonNearestUptoSaid : Prop := reedsolomonNearestUptoRow.holds Try.pinned (OpenSpec.upto reedsolomonNearestSpec)

/-- 'printworkslaw2.ReedsolomonChecks', WHERE WHAT IT READS IS OF BULK AT MOST 1048576: true; the input reads as it did. -/
def reedsolomonChecksUptoRow : OpenClaim := { program := "ytedjnjgnadbkaaa", sum := "14a05c1012afeb5538c0b54022e29d5b7680cf77f3bae6f650e061d51cbe4dbd", func := "printworks/printworkslaw2.ReedsolomonChecks", spec := "reedsolomonChecks", apart := false, narrowed := true }
def ReedsolomonChecksUptoSaid : Prop := reedsolomonChecksUptoRow.holds Try.pinned (OpenSpec.upto reedsolomonChecksSpec)

/-- 'printworkslaw2.LinearReads', WHERE WHAT IT READS IS OF BULK AT MOST 1048576: true; the input reads as it did. -/
def linearReadsUptoRow : OpenClaim := { program := "ytedjnjgnadbkaaa", sum := "14a05c1012afeb5538c0b54022e29d5b7680cf77f3bae6f650e061d51cbe4dbd", func := "printworks/printworkslaw2.LinearReads", spec := "linearReads", unfollowed := true, recurses := true, apart := false, narrowed := true }
def LinearReadsUptoSaid : Prop := linearReadsUptoRow.holds Try.pinned (OpenSpec.upto linearReadsSpec)

/-- 'printworkslaw2.LinearWidths', WHERE WHAT IT READS IS OF BULK AT MOST 1048576: true; the input reads as it did. -/
def linearWidthsUptoRow : OpenClaim := { program := "ytedjnjgnadbkaaa", sum := "14a05c1012afeb5538c0b54022e29d5b7680cf77f3bae6f650e061d51cbe4dbd", func := "printworks/printworkslaw2.LinearWidths", spec := "linearWidths", unfollowed := true, recurses := true, apart := false, narrowed := true }
def LinearWidthsUptoSaid : Prop := linearWidthsUptoRow.holds Try.pinned (OpenSpec.upto linearWidthsSpec)

/-- 'printworkslaw2.RangecoderBytes', WHERE WHAT IT READS IS OF BULK AT MOST 1048576: true; the input reads as it did. -/
def rangecoderBytesUptoRow : OpenClaim := { program := "ytedjnjgnadbkaaa", sum := "14a05c1012afeb5538c0b54022e29d5b7680cf77f3bae6f650e061d51cbe4dbd", func := "printworks/printworkslaw2.RangecoderBytes", spec := "rangecoderBytes", apart := false, narrowed := true }
def RangecoderBytesUptoSaid : Prop := rangecoderBytesUptoRow.holds Try.pinned (OpenSpec.upto rangecoderBytesSpec)

/-- 'printworkslaw2.ControlFeeds', WHERE WHAT IT READS IS OF BULK AT MOST 1048576: true; the input reads as it did. -/
def controlFeedsUptoRow : OpenClaim := { program := "ytedjnjgnadbkaaa", sum := "14a05c1012afeb5538c0b54022e29d5b7680cf77f3bae6f650e061d51cbe4dbd", func := "printworks/printworkslaw2.ControlFeeds", spec := "controlFeeds", apart := false, narrowed := true }
def ControlFeedsUptoSaid : Prop := controlFeedsUptoRow.holds Try.pinned (OpenSpec.upto controlFeedsSpec)

/-- 'printworkslaw2.ControlLoops', WHERE WHAT IT READS IS OF BULK AT MOST 1048576: true; the input reads as it did. -/
def controlLoopsUptoRow : OpenClaim := { program := "ytedjnjgnadbkaaa", sum := "14a05c1012afeb5538c0b54022e29d5b7680cf77f3bae6f650e061d51cbe4dbd", func := "printworks/printworkslaw2.ControlLoops", spec := "controlLoops", unfollowed := true, recurses := true, apart := false, narrowed := true }
def ControlLoopsUptoSaid : Prop := controlLoopsUptoRow.holds Try.pinned (OpenSpec.upto controlLoopsSpec)

/-- 'printworkslaw2.PressRuns', WHERE WHAT IT READS IS OF BULK AT MOST 1048576: true; the input reads as it did. -/
def pressRunsUptoRow : OpenClaim := { program := "ytedjnjgnadbkaaa", sum := "14a05c1012afeb5538c0b54022e29d5b7680cf77f3bae6f650e061d51cbe4dbd", func := "printworks/printworkslaw2.PressRuns", spec := "pressRuns", apart := false, narrowed := true }
def PressRunsUptoSaid : Prop := pressRunsUptoRow.holds Try.pinned (OpenSpec.upto pressRunsSpec)

/-- 'printworkslaw2.PressEvents', WHERE WHAT IT READS IS OF BULK AT MOST 1048576: true; the input reads as it did. -/
def pressEventsUptoRow : OpenClaim := { program := "ytedjnjgnadbkaaa", sum := "14a05c1012afeb5538c0b54022e29d5b7680cf77f3bae6f650e061d51cbe4dbd", func := "printworks/printworkslaw2.PressEvents", spec := "pressEvents", apart := false, narrowed := true }
def PressEventsUptoSaid : Prop := pressEventsUptoRow.holds Try.pinned (OpenSpec.upto pressEventsSpec)

/-- 'printworkslaw2.PressPresets', WHERE WHAT IT READS IS OF BULK AT MOST 1048576: true; the input reads as it did. -/
def pressPresetsUptoRow : OpenClaim := { program := "ytedjnjgnadbkaaa", sum := "14a05c1012afeb5538c0b54022e29d5b7680cf77f3bae6f650e061d51cbe4dbd", func := "printworks/printworkslaw2.PressPresets", spec := "pressPresets", apart := false, narrowed := true }
def PressPresetsUptoSaid : Prop := pressPresetsUptoRow.holds Try.pinned (OpenSpec.upto pressPresetsSpec)

end Rows
end Go.Proofs.Ytedjnjgnadbkaaa
