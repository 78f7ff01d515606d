/-
  No cell of these rows narrows 'for every input' (looked for: loops, veiled, ifaces, maps, wideKeys, modest, calm, conditions, laid).
  DERIVED. THE GIVEN ROWS OF THIS SEAT. 11 by the template 'for every input the law returns true; each argument reads behind the call as it read before'; 0 by the template 'total and deterministic' (their statements: YtdfocbeejgcglaaTotals.lean).
  GIVEN WITH THE SEED: the statements are not yours to turn. If you find one false, say at which input.
  Laid BY PROGRAM, IN A SANDBOX (cutbox-rows.mjs): the forced cells as the released guide's own fill.sh prints them over the translation d38eaa96d782cf05… (all of the seat's roots in one cut). By AI agents, Wed Nov 11 2026. No macro, syntax, notation, axiom, sorry.
-/
import Derived.Test.YtdfocbeejgcglaaChecked
import GoSem.Claim
import GoSem.ClaimJoined
import GoSem.ClaimMapViews
import Derived.JoinedTies
import Derived.KernelRfl
namespace Go.Proofs.Ytdfocbeejgcglaa
/- THE CELL 'sum', in the pinned program and in every row, IS THE sha256 OF THE DUMP (.gsa) THAT YtdfocbeejgcglaaProg.lean LOADS. Nothing in Lean hashes anything: it is a label: what it is worth is what the hold of that sum in a sandbox is worth. -/
noncomputable def Try.pinned : Pinned := { name := "ytdfocbeejgcglaa", sum := "d38eaa96d782cf05eccbea1440c62989e3794c596c411edab76158cf5dd268b3", checked := Try.checked }
namespace Rows
def none {H : Type} : Left H := { results := [], args := [] }

/-- 'printworkslaw2.RefspaceLabs': WHATEVER THE INPUT: true; the input reads as it did. -/
def refspaceLabsSpec : ChangeSpec := { name := "refspaceLabs", fn := fun _ => fun
  | [d1, d2] => { results := [.lit (.bool true)], args := [d1, d2] }
  | _ => none }
def refspaceLabsRow : OpenClaim := { program := "ytdfocbeejgcglaa", sum := "d38eaa96d782cf05eccbea1440c62989e3794c596c411edab76158cf5dd268b3", func := "printworks/printworkslaw2.RefspaceLabs", spec := "refspaceLabs", unfollowed := true, recurses := true, apart := false }
def RefspaceLabsSaid : Prop := refspaceLabsRow.holds Try.pinned (OpenSpec.ofChange refspaceLabsSpec)

/-- ITS FALSE NEIGHBOUR: 'it returns false'. Refute it at one input. -/
def refspaceLabsWrong : ChangeSpec := { name := "refspaceLabs", fn := fun _ => fun
  | [d1, d2] => { results := [.lit (.bool false)], args := [d1, d2] }
  | _ => none }
def RefspaceLabsWrongFalsely : Prop := refspaceLabsRow.holds Try.pinned (OpenSpec.ofChange refspaceLabsWrong)

/-- 'printworkslaw2.RefspaceTristimulus': WHATEVER THE INPUT: true; the input reads as it did. -/
def refspaceTristimulusSpec : ChangeSpec := { name := "refspaceTristimulus", fn := fun _ => fun
  | [d1, d2] => { results := [.lit (.bool true)], args := [d1, d2] }
  | _ => none }
def refspaceTristimulusRow : OpenClaim := { program := "ytdfocbeejgcglaa", sum := "d38eaa96d782cf05eccbea1440c62989e3794c596c411edab76158cf5dd268b3", func := "printworks/printworkslaw2.RefspaceTristimulus", spec := "refspaceTristimulus", unfollowed := true, recurses := true, apart := false }
def RefspaceTristimulusSaid : Prop := refspaceTristimulusRow.holds Try.pinned (OpenSpec.ofChange refspaceTristimulusSpec)

/-- ITS FALSE NEIGHBOUR: 'it returns false'. Refute it at one input. -/
def refspaceTristimulusWrong : ChangeSpec := { name := "refspaceTristimulus", fn := fun _ => fun
  | [d1, d2] => { results := [.lit (.bool false)], args := [d1, d2] }
  | _ => none }
def RefspaceTristimulusWrongFalsely : Prop := refspaceTristimulusRow.holds Try.pinned (OpenSpec.ofChange refspaceTristimulusWrong)

/-- 'printworkslaw2.RefspaceDistances': WHATEVER THE INPUT: true; the input reads as it did. -/
def refspaceDistancesSpec : ChangeSpec := { name := "refspaceDistances", fn := fun _ => fun
  | [d1, d2, d3, d4] => { results := [.lit (.bool true)], args := [d1, d2, d3, d4] }
  | _ => none }
def refspaceDistancesRow : OpenClaim := { program := "ytdfocbeejgcglaa", sum := "d38eaa96d782cf05eccbea1440c62989e3794c596c411edab76158cf5dd268b3", func := "printworks/printworkslaw2.RefspaceDistances", spec := "refspaceDistances", unfollowed := true, recurses := true, apart := false }
def RefspaceDistancesSaid : Prop := refspaceDistancesRow.holds Try.pinned (OpenSpec.ofChange refspaceDistancesSpec)

/-- ITS FALSE NEIGHBOUR: 'it returns false'. Refute it at one input. -/
def refspaceDistancesWrong : ChangeSpec := { name := "refspaceDistances", fn := fun _ => fun
  | [d1, d2, d3, d4] => { results := [.lit (.bool false)], args := [d1, d2, d3, d4] }
  | _ => none }
def RefspaceDistancesWrongFalsely : Prop := refspaceDistancesRow.holds Try.pinned (OpenSpec.ofChange refspaceDistancesWrong)

/-- 'printworkslaw2.SpotTints': WHATEVER THE INPUT: true; the input reads as it did. -/
def spotTintsSpec : ChangeSpec := { name := "spotTints", fn := fun _ => fun
  | [d1, d2, d3] => { results := [.lit (.bool true)], args := [d1, d2, d3] }
  | _ => none }
def spotTintsRow : OpenClaim := { program := "ytdfocbeejgcglaa", sum := "d38eaa96d782cf05eccbea1440c62989e3794c596c411edab76158cf5dd268b3", func := "printworks/printworkslaw2.SpotTints", spec := "spotTints", unfollowed := true, recurses := true, apart := false }
def SpotTintsSaid : Prop := spotTintsRow.holds Try.pinned (OpenSpec.ofChange spotTintsSpec)

/-- ITS FALSE NEIGHBOUR: 'it returns false'. Refute it at one input. -/
def spotTintsWrong : ChangeSpec := { name := "spotTints", fn := fun _ => fun
  | [d1, d2, d3] => { results := [.lit (.bool false)], args := [d1, d2, d3] }
  | _ => none }
def SpotTintsWrongFalsely : Prop := spotTintsRow.holds Try.pinned (OpenSpec.ofChange spotTintsWrong)

/-- 'printworkslaw2.SpotExpansions': WHATEVER THE INPUT: true; the input reads as it did. -/
def spotExpansionsSpec : ChangeSpec := { name := "spotExpansions", fn := fun _ => fun
  | [d1, d2, d3, d4] => { results := [.lit (.bool true)], args := [d1, d2, d3, d4] }
  | _ => none }
def spotExpansionsRow : OpenClaim := { program := "ytdfocbeejgcglaa", sum := "d38eaa96d782cf05eccbea1440c62989e3794c596c411edab76158cf5dd268b3", func := "printworks/printworkslaw2.SpotExpansions", spec := "spotExpansions", unfollowed := true, recurses := true, apart := false }
def SpotExpansionsSaid : Prop := spotExpansionsRow.holds Try.pinned (OpenSpec.ofChange spotExpansionsSpec)

/-- ITS FALSE NEIGHBOUR: 'it returns false'. Refute it at one input. -/
def spotExpansionsWrong : ChangeSpec := { name := "spotExpansions", fn := fun _ => fun
  | [d1, d2, d3, d4] => { results := [.lit (.bool false)], args := [d1, d2, d3, d4] }
  | _ => none }
def SpotExpansionsWrongFalsely : Prop := spotExpansionsRow.holds Try.pinned (OpenSpec.ofChange spotExpansionsWrong)

/-- 'printworkslaw2.SpotMerges': WHATEVER THE INPUT: true; the input reads as it did. -/
def spotMergesSpec : ChangeSpec := { name := "spotMerges", fn := fun _ => fun
  | [d1, d2] => { results := [.lit (.bool true)], args := [d1, d2] }
  | _ => none }
def spotMergesRow : OpenClaim := { program := "ytdfocbeejgcglaa", sum := "d38eaa96d782cf05eccbea1440c62989e3794c596c411edab76158cf5dd268b3", func := "printworks/printworkslaw2.SpotMerges", spec := "spotMerges", unfollowed := true, recurses := true, apart := false }
def SpotMergesSaid : Prop := spotMergesRow.holds Try.pinned (OpenSpec.ofChange spotMergesSpec)

/-- ITS FALSE NEIGHBOUR: 'it returns false'. Refute it at one input. -/
def spotMergesWrong : ChangeSpec := { name := "spotMerges", fn := fun _ => fun
  | [d1, d2] => { results := [.lit (.bool false)], args := [d1, d2] }
  | _ => none }
def SpotMergesWrongFalsely : Prop := spotMergesRow.holds Try.pinned (OpenSpec.ofChange spotMergesWrong)

/-- 'printworkslaw2.SpotSearches': WHATEVER THE INPUT: true; the input reads as it did. -/
def spotSearchesSpec : ChangeSpec := { name := "spotSearches", fn := fun _ => fun
  | [d1, d2, d3] => { results := [.lit (.bool true)], args := [d1, d2, d3] }
  | _ => none }
def spotSearchesRow : OpenClaim := { program := "ytdfocbeejgcglaa", sum := "d38eaa96d782cf05eccbea1440c62989e3794c596c411edab76158cf5dd268b3", func := "printworks/printworkslaw2.SpotSearches", spec := "spotSearches", unfollowed := true, recurses := true, apart := false }
def SpotSearchesSaid : Prop := spotSearchesRow.holds Try.pinned (OpenSpec.ofChange spotSearchesSpec)

/-- ITS FALSE NEIGHBOUR: 'it returns false'. Refute it at one input. -/
def spotSearchesWrong : ChangeSpec := { name := "spotSearches", fn := fun _ => fun
  | [d1, d2, d3] => { results := [.lit (.bool false)], args := [d1, d2, d3] }
  | _ => none }
def SpotSearchesWrongFalsely : Prop := spotSearchesRow.holds Try.pinned (OpenSpec.ofChange spotSearchesWrong)

/-- 'printworkslaw2.GridBoxes': WHATEVER THE INPUT: true; the input reads as it did. -/
def gridBoxesSpec : ChangeSpec := { name := "gridBoxes", fn := fun _ => fun
  | [d1, d2, d3] => { results := [.lit (.bool true)], args := [d1, d2, d3] }
  | _ => none }
def gridBoxesRow : OpenClaim := { program := "ytdfocbeejgcglaa", sum := "d38eaa96d782cf05eccbea1440c62989e3794c596c411edab76158cf5dd268b3", func := "printworks/printworkslaw2.GridBoxes", spec := "gridBoxes", apart := false }
def GridBoxesSaid : Prop := gridBoxesRow.holds Try.pinned (OpenSpec.ofChange gridBoxesSpec)

/-- ITS FALSE NEIGHBOUR: 'it returns false'. Refute it at one input. -/
def gridBoxesWrong : ChangeSpec := { name := "gridBoxes", fn := fun _ => fun
  | [d1, d2, d3] => { results := [.lit (.bool false)], args := [d1, d2, d3] }
  | _ => none }
def GridBoxesWrongFalsely : Prop := gridBoxesRow.holds Try.pinned (OpenSpec.ofChange gridBoxesWrong)

/-- 'printworkslaw2.GridNodes': WHATEVER THE INPUT: true; the input reads as it did. -/
def gridNodesSpec : ChangeSpec := { name := "gridNodes", fn := fun _ => fun
  | [d1, d2] => { results := [.lit (.bool true)], args := [d1, d2] }
  | _ => none }
def gridNodesRow : OpenClaim := { program := "ytdfocbeejgcglaa", sum := "d38eaa96d782cf05eccbea1440c62989e3794c596c411edab76158cf5dd268b3", func := "printworks/printworkslaw2.GridNodes", spec := "gridNodes", apart := false }
def GridNodesSaid : Prop := gridNodesRow.holds Try.pinned (OpenSpec.ofChange gridNodesSpec)

/-- ITS FALSE NEIGHBOUR: 'it returns false'. Refute it at one input. -/
def gridNodesWrong : ChangeSpec := { name := "gridNodes", fn := fun _ => fun
  | [d1, d2] => { results := [.lit (.bool false)], args := [d1, d2] }
  | _ => none }
def GridNodesWrongFalsely : Prop := gridNodesRow.holds Try.pinned (OpenSpec.ofChange gridNodesWrong)

/-- 'printworkslaw2.GridInterpolation': WHATEVER THE INPUT: true; the input reads as it did. -/
def gridInterpolationSpec : ChangeSpec := { name := "gridInterpolation", fn := fun _ => fun
  | [d1, d2] => { results := [.lit (.bool true)], args := [d1, d2] }
  | _ => none }
def gridInterpolationRow : OpenClaim := { program := "ytdfocbeejgcglaa", sum := "d38eaa96d782cf05eccbea1440c62989e3794c596c411edab76158cf5dd268b3", func := "printworks/printworkslaw2.GridInterpolation", spec := "gridInterpolation", apart := false }
def GridInterpolationSaid : Prop := gridInterpolationRow.holds Try.pinned (OpenSpec.ofChange gridInterpolationSpec)

/-- ITS FALSE NEIGHBOUR: 'it returns false'. Refute it at one input. -/
def gridInterpolationWrong : ChangeSpec := { name := "gridInterpolation", fn := fun _ => fun
  | [d1, d2] => { results := [.lit (.bool false)], args := [d1, d2] }
  | _ => none }
def GridInterpolationWrongFalsely : Prop := gridInterpolationRow.holds Try.pinned (OpenSpec.ofChange gridInterpolationWrong)

/-- 'printworkslaw2.GridResampled': WHATEVER THE INPUT: true; the input reads as it did. -/
def gridResampledSpec : ChangeSpec := { name := "gridResampled", fn := fun _ => fun
  | [d1, d2, d3] => { results := [.lit (.bool true)], args := [d1, d2, d3] }
  | _ => none }
def gridResampledRow : OpenClaim := { program := "ytdfocbeejgcglaa", sum := "d38eaa96d782cf05eccbea1440c62989e3794c596c411edab76158cf5dd268b3", func := "printworks/printworkslaw2.GridResampled", spec := "gridResampled", unfollowed := true, recurses := true, apart := false }
def GridResampledSaid : Prop := gridResampledRow.holds Try.pinned (OpenSpec.ofChange gridResampledSpec)

/-- ITS FALSE NEIGHBOUR: 'it returns false'. Refute it at one input. -/
def gridResampledWrong : ChangeSpec := { name := "gridResampled", fn := fun _ => fun
  | [d1, d2, d3] => { results := [.lit (.bool false)], args := [d1, d2, d3] }
  | _ => none }
def GridResampledWrongFalsely : Prop := gridResampledRow.holds Try.pinned (OpenSpec.ofChange gridResampledWrong)

/- THE SECOND FORM. 'bulk': how many values and letters a reading holds, each counted each time it is reached (what is shared counts as often as it is met; a slice's spare places count too). A statement '..UptoSaid' is the law's where the arguments, and the package variables that the reading takes, are together of bulk at most 1048576: NARROWER than '..Said'. Prove '..Said' where nothing that the law and all that it calls make is longer than what came in: it says more and counts as full. Else prove '..UptoSaid'. A law counts once. -/
mutual
def uptoBulk {H : Type} : DataW H → Nat
  | .lit (.string bytes) => bytes.length + 1
  | .lit _ => 1
  | .nil => 1
  | .ptr d => uptoBulk d + 1
  | .slice elems spare => uptoBulkAll elems + uptoBulkAll spare + 1
  | .agg parts => uptoBulkAll parts + 1
  | .iface _ d => uptoBulk d + 1
  | .map entries => uptoBulkEntries entries + 1
  | .held _ => 1
def uptoBulkAll {H : Type} : List (DataW H) → Nat
  | [] => 0
  | d :: r => uptoBulk d + uptoBulkAll r
def uptoBulkEntries {H : Type} : List (Lit × DataW H) → Nat
  | [] => 0
  | x :: r => uptoBulkEntry x + uptoBulkEntries r
def uptoBulkEntry {H : Type} : Lit × DataW H → Nat
  | (.string bytes, d) => bytes.length + uptoBulk d + 1
  | (_, d) => uptoBulk d + 1
 end
def uptoSmall : (H : Type) → List (DataW H) → Bool := fun _ ds => decide (uptoBulkAll ds ≤ 1048576)
def OpenSpec.upto (s : _root_.Go.ChangeSpec) : _root_.Go.OpenSpec := { _root_.Go.OpenSpec.ofChange s with cond := some uptoSmall }

/-- 'printworkslaw2.RefspaceLabs', WHERE WHAT IT READS IS OF BULK AT MOST 1048576: true; the input reads as it did. -/
def refspaceLabsUptoRow : OpenClaim := { program := "ytdfocbeejgcglaa", sum := "d38eaa96d782cf05eccbea1440c62989e3794c596c411edab76158cf5dd268b3", func := "printworks/printworkslaw2.RefspaceLabs", spec := "refspaceLabs", unfollowed := true, recurses := true, apart := false, narrowed := true }
def RefspaceLabsUptoSaid : Prop := refspaceLabsUptoRow.holds Try.pinned (OpenSpec.upto refspaceLabsSpec)

/-- 'printworkslaw2.RefspaceTristimulus', WHERE WHAT IT READS IS OF BULK AT MOST 1048576: true; the input reads as it did. -/
def refspaceTristimulusUptoRow : OpenClaim := { program := "ytdfocbeejgcglaa", sum := "d38eaa96d782cf05eccbea1440c62989e3794c596c411edab76158cf5dd268b3", func := "printworks/printworkslaw2.RefspaceTristimulus", spec := "refspaceTristimulus", unfollowed := true, recurses := true, apart := false, narrowed := true }
def RefspaceTristimulusUptoSaid : Prop := refspaceTristimulusUptoRow.holds Try.pinned (OpenSpec.upto refspaceTristimulusSpec)

/-- 'printworkslaw2.RefspaceDistances', WHERE WHAT IT READS IS OF BULK AT MOST 1048576: true; the input reads as it did. -/
def refspaceDistancesUptoRow : OpenClaim := { program := "ytdfocbeejgcglaa", sum := "d38eaa96d782cf05eccbea1440c62989e3794c596c411edab76158cf5dd268b3", func := "printworks/printworkslaw2.RefspaceDistances", spec := "refspaceDistances", unfollowed := true, recurses := true, apart := false, narrowed := true }
def RefspaceDistancesUptoSaid : Prop := refspaceDistancesUptoRow.holds Try.pinned (OpenSpec.upto refspaceDistancesSpec)

/-- 'printworkslaw2.SpotTints', WHERE WHAT IT READS IS OF BULK AT MOST 1048576: true; the input reads as it did. -/
def spotTintsUptoRow : OpenClaim := { program := "ytdfocbeejgcglaa", sum := "d38eaa96d782cf05eccbea1440c62989e3794c596c411edab76158cf5dd268b3", func := "printworks/printworkslaw2.SpotTints", spec := "spotTints", unfollowed := true, recurses := true, apart := false, narrowed := true }
def SpotTintsUptoSaid : Prop := spotTintsUptoRow.holds Try.pinned (OpenSpec.upto spotTintsSpec)

/-- 'printworkslaw2.SpotExpansions', WHERE WHAT IT READS IS OF BULK AT MOST 1048576: true; the input reads as it did. -/
def spotExpansionsUptoRow : OpenClaim := { program := "ytdfocbeejgcglaa", sum := "d38eaa96d782cf05eccbea1440c62989e3794c596c411edab76158cf5dd268b3", func := "printworks/printworkslaw2.SpotExpansions", spec := "spotExpansions", unfollowed := true, recurses := true, apart := false, narrowed := true }
def SpotExpansionsUptoSaid : Prop := spotExpansionsUptoRow.holds Try.pinned (OpenSpec.upto spotExpansionsSpec)

/-- 'printworkslaw2.SpotMerges', WHERE WHAT IT READS IS OF BULK AT MOST 1048576: true; the input reads as it did. -/
def spotMergesUptoRow : OpenClaim := { program := "ytdfocbeejgcglaa", sum := "d38eaa96d782cf05eccbea1440c62989e3794c596c411edab76158cf5dd268b3", func := "printworks/printworkslaw2.SpotMerges", spec := "spotMerges", unfollowed := true, recurses := true, apart := false, narrowed := true }
def SpotMergesUptoSaid : Prop := spotMergesUptoRow.holds Try.pinned (OpenSpec.upto spotMergesSpec)

/-- 'printworkslaw2.SpotSearches', WHERE WHAT IT READS IS OF BULK AT MOST 1048576: true; the input reads as it did. -/
def spotSearchesUptoRow : OpenClaim := { program := "ytdfocbeejgcglaa", sum := "d38eaa96d782cf05eccbea1440c62989e3794c596c411edab76158cf5dd268b3", func := "printworks/printworkslaw2.SpotSearches", spec := "spotSearches", unfollowed := true, recurses := true, apart := false, narrowed := true }
def SpotSearchesUptoSaid : Prop := spotSearchesUptoRow.holds Try.pinned (OpenSpec.upto spotSearchesSpec)

/-- 'printworkslaw2.GridBoxes', WHERE WHAT IT READS IS OF BULK AT MOST 1048576: true; the input reads as it did. -/
def gridBoxesUptoRow : OpenClaim := { program := "ytdfocbeejgcglaa", sum := "d38eaa96d782cf05eccbea1440c62989e3794c596c411edab76158cf5dd268b3", func := "printworks/printworkslaw2.GridBoxes", spec := "gridBoxes", apart := false, narrowed := true }
def GridBoxesUptoSaid : Prop := gridBoxesUptoRow.holds Try.pinned (OpenSpec.upto gridBoxesSpec)

/-- 'printworkslaw2.GridNodes', WHERE WHAT IT READS IS OF BULK AT MOST 1048576: true; the input reads as it did. -/
def gridNodesUptoRow : OpenClaim := { program := "ytdfocbeejgcglaa", sum := "d38eaa96d782cf05eccbea1440c62989e3794c596c411edab76158cf5dd268b3", func := "printworks/printworkslaw2.GridNodes", spec := "gridNodes", apart := false, narrowed := true }
def GridNodesUptoSaid : Prop := gridNodesUptoRow.holds Try.pinned (OpenSpec.upto gridNodesSpec)

/-- 'printworkslaw2.GridInterpolation', WHERE WHAT IT READS IS OF BULK AT MOST 1048576: true; the input reads as it did. -/
def gridInterpolationUptoRow : OpenClaim := { program := "ytdfocbeejgcglaa", sum := "d38eaa96d782cf05eccbea1440c62989e3794c596c411edab76158cf5dd268b3", func := "printworks/printworkslaw2.GridInterpolation", spec := "gridInterpolation", apart := false, narrowed := true }
def GridInterpolationUptoSaid : Prop := gridInterpolationUptoRow.holds Try.pinned (OpenSpec.upto gridInterpolationSpec)

/-- 'printworkslaw2.GridResampled', WHERE WHAT IT READS IS OF BULK AT MOST 1048576: true; the input reads as it did. -/
def gridResampledUptoRow : OpenClaim := { program := "ytdfocbeejgcglaa", sum := "d38eaa96d782cf05eccbea1440c62989e3794c596c411edab76158cf5dd268b3", func := "printworks/printworkslaw2.GridResampled", spec := "gridResampled", unfollowed := true, recurses := true, apart := false, narrowed := true }
def GridResampledUptoSaid : Prop := gridResampledUptoRow.holds Try.pinned (OpenSpec.upto gridResampledSpec)

end Rows
end Go.Proofs.Ytdfocbeejgcglaa
