/-
  No cell of these rows narrows 'for every input' (looked for: loops, veiled, ifaces, maps, wideKeys, modest, calm, conditions, laid).
  DERIVED. THE GIVEN ROWS OF THIS SEAT. 11 by the template 'for every input the law returns true; each argument reads behind the call as it read before'; 0 by the template 'total and deterministic' (their statements: YtnbmldnahacnlaaTotals.lean).
  GIVEN WITH THE SEED: the statements are not yours to turn. If you find one false, say at which input.
  Laid BY PROGRAM, IN A SANDBOX (cutbox-rows.mjs): the forced cells as the released guide's own fill.sh prints them over the translation 5ae2da92be51153a… (all of the seat's roots in one cut). By AI agents, Wed Nov 11 2026. No macro, syntax, notation, axiom, sorry.
-/
import Derived.Test.YtnbmldnahacnlaaChecked
import GoSem.Claim
import GoSem.ClaimJoined
import GoSem.ClaimMapViews
import Derived.JoinedTies
import Derived.KernelRfl
namespace Go.Proofs.Ytnbmldnahacnlaa
/- THE CELL 'sum', in the pinned program and in every row, IS THE sha256 OF THE DUMP (.gsa) THAT YtnbmldnahacnlaaProg.lean LOADS. Nothing in Lean hashes anything: it is a label: what it is worth is what the hold of that sum in a sandbox is worth. -/
noncomputable def Try.pinned : Pinned := { name := "ytnbmldnahacnlaa", sum := "5ae2da92be51153a36c8200896dcc09a2d78c30193a60ca2ea1df628dfec6372", checked := Try.checked }
namespace Rows
def none {H : Type} : Left H := { results := [], args := [] }

/-- 'printworkslaw2.StripMarks': WHATEVER THE INPUT: true; the input reads as it did. -/
def stripMarksSpec : ChangeSpec := { name := "stripMarks", fn := fun _ => fun
  | [d1, d2] => { results := [.lit (.bool true)], args := [d1, d2] }
  | _ => none }
def stripMarksRow : OpenClaim := { program := "ytnbmldnahacnlaa", sum := "5ae2da92be51153a36c8200896dcc09a2d78c30193a60ca2ea1df628dfec6372", func := "printworks/printworkslaw2.StripMarks", spec := "stripMarks", apart := false }
def StripMarksSaid : Prop := stripMarksRow.holds Try.pinned (OpenSpec.ofChange stripMarksSpec)

/-- ITS FALSE NEIGHBOUR: 'it returns false'. Refute it at one input. -/
def stripMarksWrong : ChangeSpec := { name := "stripMarks", fn := fun _ => fun
  | [d1, d2] => { results := [.lit (.bool false)], args := [d1, d2] }
  | _ => none }
def StripMarksWrongFalsely : Prop := stripMarksRow.holds Try.pinned (OpenSpec.ofChange stripMarksWrong)

/-- 'printworkslaw2.StripLayouts': WHATEVER THE INPUT: true; the input reads as it did. -/
def stripLayoutsSpec : ChangeSpec := { name := "stripLayouts", fn := fun _ => fun
  | [d1, d2, d3, d4] => { results := [.lit (.bool true)], args := [d1, d2, d3, d4] }
  | _ => none }
def stripLayoutsRow : OpenClaim := { program := "ytnbmldnahacnlaa", sum := "5ae2da92be51153a36c8200896dcc09a2d78c30193a60ca2ea1df628dfec6372", func := "printworks/printworkslaw2.StripLayouts", spec := "stripLayouts", apart := false }
def StripLayoutsSaid : Prop := stripLayoutsRow.holds Try.pinned (OpenSpec.ofChange stripLayoutsSpec)

/-- ITS FALSE NEIGHBOUR: 'it returns false'. Refute it at one input. -/
def stripLayoutsWrong : ChangeSpec := { name := "stripLayouts", fn := fun _ => fun
  | [d1, d2, d3, d4] => { results := [.lit (.bool false)], args := [d1, d2, d3, d4] }
  | _ => none }
def StripLayoutsWrongFalsely : Prop := stripLayoutsRow.holds Try.pinned (OpenSpec.ofChange stripLayoutsWrong)

/-- 'printworkslaw2.StripReadings': WHATEVER THE INPUT: true; the input reads as it did. -/
def stripReadingsSpec : ChangeSpec := { name := "stripReadings", fn := fun _ => fun
  | [d1, d2] => { results := [.lit (.bool true)], args := [d1, d2] }
  | _ => none }
def stripReadingsRow : OpenClaim := { program := "ytnbmldnahacnlaa", sum := "5ae2da92be51153a36c8200896dcc09a2d78c30193a60ca2ea1df628dfec6372", func := "printworks/printworkslaw2.StripReadings", spec := "stripReadings", apart := false }
def StripReadingsSaid : Prop := stripReadingsRow.holds Try.pinned (OpenSpec.ofChange stripReadingsSpec)

/-- ITS FALSE NEIGHBOUR: 'it returns false'. Refute it at one input. -/
def stripReadingsWrong : ChangeSpec := { name := "stripReadings", fn := fun _ => fun
  | [d1, d2] => { results := [.lit (.bool false)], args := [d1, d2] }
  | _ => none }
def StripReadingsWrongFalsely : Prop := stripReadingsRow.holds Try.pinned (OpenSpec.ofChange stripReadingsWrong)

/-- 'printworkslaw2.BitmapGrowth': WHATEVER THE INPUT: true; the input reads as it did. -/
def bitmapGrowthSpec : ChangeSpec := { name := "bitmapGrowth", fn := fun _ => fun
  | [d1, d2, d3] => { results := [.lit (.bool true)], args := [d1, d2, d3] }
  | _ => none }
def bitmapGrowthRow : OpenClaim := { program := "ytnbmldnahacnlaa", sum := "5ae2da92be51153a36c8200896dcc09a2d78c30193a60ca2ea1df628dfec6372", func := "printworks/printworkslaw2.BitmapGrowth", spec := "bitmapGrowth", unfollowed := true, recurses := true, apart := false }
def BitmapGrowthSaid : Prop := bitmapGrowthRow.holds Try.pinned (OpenSpec.ofChange bitmapGrowthSpec)

/-- ITS FALSE NEIGHBOUR: 'it returns false'. Refute it at one input. -/
def bitmapGrowthWrong : ChangeSpec := { name := "bitmapGrowth", fn := fun _ => fun
  | [d1, d2, d3] => { results := [.lit (.bool false)], args := [d1, d2, d3] }
  | _ => none }
def BitmapGrowthWrongFalsely : Prop := bitmapGrowthRow.holds Try.pinned (OpenSpec.ofChange bitmapGrowthWrong)

/-- 'printworkslaw2.BitmapPixels': WHATEVER THE INPUT: true; the input reads as it did. -/
def bitmapPixelsSpec : ChangeSpec := { name := "bitmapPixels", fn := fun _ => fun
  | [d1, d2, d3, d4] => { results := [.lit (.bool true)], args := [d1, d2, d3, d4] }
  | _ => none }
def bitmapPixelsRow : OpenClaim := { program := "ytnbmldnahacnlaa", sum := "5ae2da92be51153a36c8200896dcc09a2d78c30193a60ca2ea1df628dfec6372", func := "printworks/printworkslaw2.BitmapPixels", spec := "bitmapPixels", unfollowed := true, recurses := true, apart := false }
def BitmapPixelsSaid : Prop := bitmapPixelsRow.holds Try.pinned (OpenSpec.ofChange bitmapPixelsSpec)

/-- ITS FALSE NEIGHBOUR: 'it returns false'. Refute it at one input. -/
def bitmapPixelsWrong : ChangeSpec := { name := "bitmapPixels", fn := fun _ => fun
  | [d1, d2, d3, d4] => { results := [.lit (.bool false)], args := [d1, d2, d3, d4] }
  | _ => none }
def BitmapPixelsWrongFalsely : Prop := bitmapPixelsRow.holds Try.pinned (OpenSpec.ofChange bitmapPixelsWrong)

/-- 'printworkslaw2.BitmapFromRuns': WHATEVER THE INPUT: true; the input reads as it did. -/
def bitmapFromRunsSpec : ChangeSpec := { name := "bitmapFromRuns", fn := fun _ => fun
  | [d1, d2, d3] => { results := [.lit (.bool true)], args := [d1, d2, d3] }
  | _ => none }
def bitmapFromRunsRow : OpenClaim := { program := "ytnbmldnahacnlaa", sum := "5ae2da92be51153a36c8200896dcc09a2d78c30193a60ca2ea1df628dfec6372", func := "printworks/printworkslaw2.BitmapFromRuns", spec := "bitmapFromRuns", unfollowed := true, recurses := true, apart := false }
def BitmapFromRunsSaid : Prop := bitmapFromRunsRow.holds Try.pinned (OpenSpec.ofChange bitmapFromRunsSpec)

/-- ITS FALSE NEIGHBOUR: 'it returns false'. Refute it at one input. -/
def bitmapFromRunsWrong : ChangeSpec := { name := "bitmapFromRuns", fn := fun _ => fun
  | [d1, d2, d3] => { results := [.lit (.bool false)], args := [d1, d2, d3] }
  | _ => none }
def BitmapFromRunsWrongFalsely : Prop := bitmapFromRunsRow.holds Try.pinned (OpenSpec.ofChange bitmapFromRunsWrong)

/-- 'printworkslaw2.BitmapMoves': WHATEVER THE INPUT: true; the input reads as it did. -/
def bitmapMovesSpec : ChangeSpec := { name := "bitmapMoves", fn := fun _ => fun
  | [d1, d2, d3, d4, d5] => { results := [.lit (.bool true)], args := [d1, d2, d3, d4, d5] }
  | _ => none }
def bitmapMovesRow : OpenClaim := { program := "ytnbmldnahacnlaa", sum := "5ae2da92be51153a36c8200896dcc09a2d78c30193a60ca2ea1df628dfec6372", func := "printworks/printworkslaw2.BitmapMoves", spec := "bitmapMoves", unfollowed := true, recurses := true, apart := false }
def BitmapMovesSaid : Prop := bitmapMovesRow.holds Try.pinned (OpenSpec.ofChange bitmapMovesSpec)

/-- ITS FALSE NEIGHBOUR: 'it returns false'. Refute it at one input. -/
def bitmapMovesWrong : ChangeSpec := { name := "bitmapMoves", fn := fun _ => fun
  | [d1, d2, d3, d4, d5] => { results := [.lit (.bool false)], args := [d1, d2, d3, d4, d5] }
  | _ => none }
def BitmapMovesWrongFalsely : Prop := bitmapMovesRow.holds Try.pinned (OpenSpec.ofChange bitmapMovesWrong)

/-- 'printworkslaw2.BitmapPlates': WHATEVER THE INPUT: true; the input reads as it did. -/
def bitmapPlatesSpec : ChangeSpec := { name := "bitmapPlates", fn := fun _ => fun
  | [d1, d2, d3] => { results := [.lit (.bool true)], args := [d1, d2, d3] }
  | _ => none }
def bitmapPlatesRow : OpenClaim := { program := "ytnbmldnahacnlaa", sum := "5ae2da92be51153a36c8200896dcc09a2d78c30193a60ca2ea1df628dfec6372", func := "printworks/printworkslaw2.BitmapPlates", spec := "bitmapPlates", unfollowed := true, recurses := true, apart := false }
def BitmapPlatesSaid : Prop := bitmapPlatesRow.holds Try.pinned (OpenSpec.ofChange bitmapPlatesSpec)

/-- ITS FALSE NEIGHBOUR: 'it returns false'. Refute it at one input. -/
def bitmapPlatesWrong : ChangeSpec := { name := "bitmapPlates", fn := fun _ => fun
  | [d1, d2, d3] => { results := [.lit (.bool false)], args := [d1, d2, d3] }
  | _ => none }
def BitmapPlatesWrongFalsely : Prop := bitmapPlatesRow.holds Try.pinned (OpenSpec.ofChange bitmapPlatesWrong)

/-- 'printworkslaw2.SheetGaps': WHATEVER THE INPUT: true; the input reads as it did. -/
def sheetGapsSpec : ChangeSpec := { name := "sheetGaps", fn := fun _ => fun
  | [d1, d2, d3] => { results := [.lit (.bool true)], args := [d1, d2, d3] }
  | _ => none }
def sheetGapsRow : OpenClaim := { program := "ytnbmldnahacnlaa", sum := "5ae2da92be51153a36c8200896dcc09a2d78c30193a60ca2ea1df628dfec6372", func := "printworks/printworkslaw2.SheetGaps", spec := "sheetGaps", unfollowed := true, recurses := true, apart := false }
def SheetGapsSaid : Prop := sheetGapsRow.holds Try.pinned (OpenSpec.ofChange sheetGapsSpec)

/-- ITS FALSE NEIGHBOUR: 'it returns false'. Refute it at one input. -/
def sheetGapsWrong : ChangeSpec := { name := "sheetGaps", fn := fun _ => fun
  | [d1, d2, d3] => { results := [.lit (.bool false)], args := [d1, d2, d3] }
  | _ => none }
def SheetGapsWrongFalsely : Prop := sheetGapsRow.holds Try.pinned (OpenSpec.ofChange sheetGapsWrong)

/-- 'printworkslaw2.SheetPrints': WHATEVER THE INPUT: true; the input reads as it did. -/
def sheetPrintsSpec : ChangeSpec := { name := "sheetPrints", fn := fun _ => fun
  | [d1, d2, d3, d4] => { results := [.lit (.bool true)], args := [d1, d2, d3, d4] }
  | _ => none }
def sheetPrintsRow : OpenClaim := { program := "ytnbmldnahacnlaa", sum := "5ae2da92be51153a36c8200896dcc09a2d78c30193a60ca2ea1df628dfec6372", func := "printworks/printworkslaw2.SheetPrints", spec := "sheetPrints", unfollowed := true, recurses := true, apart := false }
def SheetPrintsSaid : Prop := sheetPrintsRow.holds Try.pinned (OpenSpec.ofChange sheetPrintsSpec)

/-- ITS FALSE NEIGHBOUR: 'it returns false'. Refute it at one input. -/
def sheetPrintsWrong : ChangeSpec := { name := "sheetPrints", fn := fun _ => fun
  | [d1, d2, d3, d4] => { results := [.lit (.bool false)], args := [d1, d2, d3, d4] }
  | _ => none }
def SheetPrintsWrongFalsely : Prop := sheetPrintsRow.holds Try.pinned (OpenSpec.ofChange sheetPrintsWrong)

/-- 'printworkslaw2.SheetMeans': WHATEVER THE INPUT: true; the input reads as it did. -/
def sheetMeansSpec : ChangeSpec := { name := "sheetMeans", fn := fun _ => fun
  | [d1, d2, d3] => { results := [.lit (.bool true)], args := [d1, d2, d3] }
  | _ => none }
def sheetMeansRow : OpenClaim := { program := "ytnbmldnahacnlaa", sum := "5ae2da92be51153a36c8200896dcc09a2d78c30193a60ca2ea1df628dfec6372", func := "printworks/printworkslaw2.SheetMeans", spec := "sheetMeans", unfollowed := true, recurses := true, apart := false }
def SheetMeansSaid : Prop := sheetMeansRow.holds Try.pinned (OpenSpec.ofChange sheetMeansSpec)

/-- ITS FALSE NEIGHBOUR: 'it returns false'. Refute it at one input. -/
def sheetMeansWrong : ChangeSpec := { name := "sheetMeans", fn := fun _ => fun
  | [d1, d2, d3] => { results := [.lit (.bool false)], args := [d1, d2, d3] }
  | _ => none }
def SheetMeansWrongFalsely : Prop := sheetMeansRow.holds Try.pinned (OpenSpec.ofChange sheetMeansWrong)

/- THE SECOND FORM. 'bulk': how many values and letters a reading holds, each counted each time it is reached (what is shared counts as often as it is met; a slice's spare places count too). A statement '..UptoSaid' is the law's where the arguments, and the package variables that the reading takes, are together of bulk at most 1048576: NARROWER than '..Said'. Prove '..Said' where nothing that the law and all that it calls make is longer than what came in: it says more and counts as full. Else prove '..UptoSaid'. A law counts once. -/
mutual
def uptoBulk {H : Type} : DataW H → Nat
  | .lit (.string bytes) => bytes.length + 1
  | .lit _ => 1
  | .nil => 1
  | .ptr d => uptoBulk d + 1
  | .slice elems spare => uptoBulkAll elems + uptoBulkAll spare + 1
  | .agg parts => uptoBulkAll parts + 1
  | .iface _ d => uptoBulk d + 1
  | .map entries => uptoBulkEntries entries + 1
  | .held _ => 1
def uptoBulkAll {H : Type} : List (DataW H) → Nat
  | [] => 0
  | d :: r => uptoBulk d + uptoBulkAll r
def uptoBulkEntries {H : Type} : List (Lit × DataW H) → Nat
  | [] => 0
  | x :: r => uptoBulkEntry x + uptoBulkEntries r
def uptoBulkEntry {H : Type} : Lit × DataW H → Nat
  | (.string bytes, d) => bytes.length + uptoBulk d + 1
  | (_, d) => uptoBulk d + 1
 end
def uptoSmall : (H : Type) → List (DataW H) → Bool := fun _ ds => decide (uptoBulkAll ds ≤ 1048576)
def OpenSpec.upto (s : _root_.Go.ChangeSpec) : _root_.Go.OpenSpec := { _root_.Go.OpenSpec.ofChange s with cond := some uptoSmall }

/-- 'printworkslaw2.StripMarks', WHERE WHAT IT READS IS OF BULK AT MOST 1048576: true; the input reads as it did. -/
def stripMarksUptoRow : OpenClaim := { program := "ytnbmldnahacnlaa", sum := "5ae2da92be51153a36c8200896dcc09a2d78c30193a60ca2ea1df628dfec6372", func := "printworks/printworkslaw2.StripMarks", spec := "stripMarks", apart := false, narrowed := true }
def StripMarksUptoSaid : Prop := stripMarksUptoRow.holds Try.pinned (OpenSpec.upto stripMarksSpec)

/-- 'printworkslaw2.StripLayouts', WHERE WHAT IT READS IS OF BULK AT MOST 1048576: true; the input reads as it did. -/
def stripLayoutsUptoRow : OpenClaim := { program := "ytnbmldnahacnlaa", sum := "5ae2da92be51153a36c8200896dcc09a2d78c30193a60ca2ea1df628dfec6372", func := "printworks/printworkslaw2.StripLayouts", spec := "stripLayouts", apart := false, narrowed := true }
def StripLayoutsUptoSaid : Prop := stripLayoutsUptoRow.holds Try.pinned (OpenSpec.upto stripLayoutsSpec)

/-- 'printworkslaw2.StripReadings', WHERE WHAT IT READS IS OF BULK AT MOST 1048576: true; the input reads as it did. -/
def stripReadingsUptoRow : OpenClaim := { program := "ytnbmldnahacnlaa", sum := "5ae2da92be51153a36c8200896dcc09a2d78c30193a60ca2ea1df628dfec6372", func := "printworks/printworkslaw2.StripReadings", spec := "stripReadings", apart := false, narrowed := true }
def StripReadingsUptoSaid : Prop := stripReadingsUptoRow.holds Try.pinned (OpenSpec.upto stripReadingsSpec)

/-- 'printworkslaw2.BitmapGrowth', WHERE WHAT IT READS IS OF BULK AT MOST 1048576: true; the input reads as it did. -/
def bitmapGrowthUptoRow : OpenClaim := { program := "ytnbmldnahacnlaa", sum := "5ae2da92be51153a36c8200896dcc09a2d78c30193a60ca2ea1df628dfec6372", func := "printworks/printworkslaw2.BitmapGrowth", spec := "bitmapGrowth", unfollowed := true, recurses := true, apart := false, narrowed := true }
def BitmapGrowthUptoSaid : Prop := bitmapGrowthUptoRow.holds Try.pinned (OpenSpec.upto bitmapGrowthSpec)

/-- 'printworkslaw2.BitmapPixels', WHERE WHAT IT READS IS OF BULK AT MOST 1048576: true; the input reads as it did. -/
def bitmapPixelsUptoRow : OpenClaim := { program := "ytnbmldnahacnlaa", sum := "5ae2da92be51153a36c8200896dcc09a2d78c30193a60ca2ea1df628dfec6372", func := "printworks/printworkslaw2.BitmapPixels", spec := "bitmapPixels", unfollowed := true, recurses := true, apart := false, narrowed := true }
def BitmapPixelsUptoSaid : Prop := bitmapPixelsUptoRow.holds Try.pinned (OpenSpec.upto bitmapPixelsSpec)

/-- 'printworkslaw2.BitmapFromRuns', WHERE WHAT IT READS IS OF BULK AT MOST 1048576: true; the input reads as it did. -/
def bitmapFromRunsUptoRow : OpenClaim := { program := "ytnbmldnahacnlaa", sum := "5ae2da92be51153a36c8200896dcc09a2d78c30193a60ca2ea1df628dfec6372", func := "printworks/printworkslaw2.BitmapFromRuns", spec := "bitmapFromRuns", unfollowed := true, recurses := true, apart := false, narrowed := true }
def BitmapFromRunsUptoSaid : Prop := bitmapFromRunsUptoRow.holds Try.pinned (OpenSpec.upto bitmapFromRunsSpec)

/-- 'printworkslaw2.BitmapMoves', WHERE WHAT IT READS IS OF BULK AT MOST 1048576: true; the input reads as it did. -/
def bitmapMovesUptoRow : OpenClaim := { program := "ytnbmldnahacnlaa", sum := "5ae2da92be51153a36c8200896dcc09a2d78c30193a60ca2ea1df628dfec6372", func := "printworks/printworkslaw2.BitmapMoves", spec := "bitmapMoves", unfollowed := true, recurses := true, apart := false, narrowed := true }
def BitmapMovesUptoSaid : Prop := bitmapMovesUptoRow.holds Try.pinned (OpenSpec.upto bitmapMovesSpec)

/-- 'printworkslaw2.BitmapPlates', WHERE WHAT IT READS IS OF BULK AT MOST 1048576: true; the input reads as it did. -/
def bitmapPlatesUptoRow : OpenClaim := { program := "ytnbmldnahacnlaa", sum := "5ae2da92be51153a36c8200896dcc09a2d78c30193a60ca2ea1df628dfec6372", func := "printworks/printworkslaw2.BitmapPlates", spec := "bitmapPlates", unfollowed := true, recurses := true, apart := false, narrowed := true }
def BitmapPlatesUptoSaid : Prop := bitmapPlatesUptoRow.holds Try.pinned (OpenSpec.upto bitmapPlatesSpec)

/-- 'printworkslaw2.SheetGaps', WHERE WHAT IT READS IS OF BULK AT MOST 1048576: true; the input reads as it did. -/
def sheetGapsUptoRow : OpenClaim := { program := "ytnbmldnahacnlaa", sum := "5ae2da92be51153a36c8200896dcc09a2d78c30193a60ca2ea1df628dfec6372", func := "printworks/printworkslaw2.SheetGaps", spec := "sheetGaps", unfollowed := true, recurses := true, apart := false, narrowed := true }
def SheetGapsUptoSaid : Prop := sheetGapsUptoRow.holds Try.pinned (OpenSpec.upto sheetGapsSpec)

/-- 'printworkslaw2.SheetPrints', WHERE WHAT IT READS IS OF BULK AT MOST 1048576: true; the input reads as it did. -/
def sheetPrintsUptoRow : OpenClaim := { program := "ytnbmldnahacnlaa", sum := "5ae2da92be51153a36c8200896dcc09a2d78c30193a60ca2ea1df628dfec6372", func := "printworks/printworkslaw2.SheetPrints", spec := "sheetPrints", unfollowed := true, recurses := true, apart := false, narrowed := true }
def SheetPrintsUptoSaid : Prop := sheetPrintsUptoRow.holds Try.pinned (OpenSpec.upto sheetPrintsSpec)

/-- 'printworkslaw2.SheetMeans', WHERE WHAT IT READS IS OF BULK AT MOST 1048576: true; the input reads as it did. -/
def sheetMeansUptoRow : OpenClaim := { program := "ytnbmldnahacnlaa", sum := "5ae2da92be51153a36c8200896dcc09a2d78c30193a60ca2ea1df628dfec6372", func := "printworks/printworkslaw2.SheetMeans", spec := "sheetMeans", unfollowed := true, recurses := true, apart := false, narrowed := true }
def SheetMeansUptoSaid : Prop := sheetMeansUptoRow.holds Try.pinned (OpenSpec.upto sheetMeansSpec)

end Rows
end Go.Proofs.Ytnbmldnahacnlaa
