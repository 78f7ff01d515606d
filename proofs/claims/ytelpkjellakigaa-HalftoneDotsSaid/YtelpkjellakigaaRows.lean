/-
  No cell of these rows narrows 'for every input' (looked for: loops, veiled, ifaces, maps, wideKeys, modest, calm, conditions, laid).
  DERIVED. THE GIVEN ROWS OF THIS SEAT. 11 by the template 'for every input the law returns true; each argument reads behind the call as it read before'; 0 by the template 'total and deterministic' (their statements: YtelpkjellakigaaTotals.lean).
  GIVEN WITH THE SEED: the statements are not yours to turn. If you find one false, say at which input.
  Laid BY PROGRAM, IN A SANDBOX (cutbox-rows.mjs): the forced cells as the released guide's own fill.sh prints them over the translation 7ee76b9d30124548… (all of the seat's roots in one cut). By AI agents, Wed Nov 11 2026. No macro, syntax, notation, axiom, sorry.
-/
import Derived.Test.YtelpkjellakigaaChecked
import GoSem.Claim
import GoSem.ClaimJoined
import GoSem.ClaimMapViews
import Derived.JoinedTies
import Derived.KernelRfl
namespace Go.Proofs.Ytelpkjellakigaa
/- THE CELL 'sum', in the pinned program and in every row, IS THE sha256 OF THE DUMP (.gsa) THAT YtelpkjellakigaaProg.lean LOADS. Nothing in Lean hashes anything: it is a label: what it is worth is what the hold of that sum in a sandbox is worth. -/
noncomputable def Try.pinned : Pinned := { name := "ytelpkjellakigaa", sum := "7ee76b9d3012454886089306b590a96919392de582a611c92d4234fb099af464", checked := Try.checked }
namespace Rows
def none {H : Type} : Left H := { results := [], args := [] }

/-- 'printworkslaw2.ScreenRanks': WHATEVER THE INPUT: true; the input reads as it did. -/
def screenRanksSpec : ChangeSpec := { name := "screenRanks", fn := fun _ => fun
  | [d1, d2] => { results := [.lit (.bool true)], args := [d1, d2] }
  | _ => none }
def screenRanksRow : OpenClaim := { program := "ytelpkjellakigaa", sum := "7ee76b9d3012454886089306b590a96919392de582a611c92d4234fb099af464", func := "printworks/printworkslaw2.ScreenRanks", spec := "screenRanks", unfollowed := true, recurses := true, leaving := true, apart := false }
def ScreenRanksSaid : Prop := screenRanksRow.holds Try.pinned (OpenSpec.ofChange screenRanksSpec)

/-- ITS FALSE NEIGHBOUR: 'it returns false'. Refute it at one input. -/
def screenRanksWrong : ChangeSpec := { name := "screenRanks", fn := fun _ => fun
  | [d1, d2] => { results := [.lit (.bool false)], args := [d1, d2] }
  | _ => none }
def ScreenRanksWrongFalsely : Prop := screenRanksRow.holds Try.pinned (OpenSpec.ofChange screenRanksWrong)

/-- 'printworkslaw2.ScreenLattices': WHATEVER THE INPUT: true; the input reads as it did. -/
def screenLatticesSpec : ChangeSpec := { name := "screenLattices", fn := fun _ => fun
  | [d1, d2] => { results := [.lit (.bool true)], args := [d1, d2] }
  | _ => none }
def screenLatticesRow : OpenClaim := { program := "ytelpkjellakigaa", sum := "7ee76b9d3012454886089306b590a96919392de582a611c92d4234fb099af464", func := "printworks/printworkslaw2.ScreenLattices", spec := "screenLattices", unfollowed := true, recurses := true, leaving := true, apart := false }
def ScreenLatticesSaid : Prop := screenLatticesRow.holds Try.pinned (OpenSpec.ofChange screenLatticesSpec)

/-- ITS FALSE NEIGHBOUR: 'it returns false'. Refute it at one input. -/
def screenLatticesWrong : ChangeSpec := { name := "screenLattices", fn := fun _ => fun
  | [d1, d2] => { results := [.lit (.bool false)], args := [d1, d2] }
  | _ => none }
def ScreenLatticesWrongFalsely : Prop := screenLatticesRow.holds Try.pinned (OpenSpec.ofChange screenLatticesWrong)

/-- 'printworkslaw2.ScreenPlaces': WHATEVER THE INPUT: true; the input reads as it did. -/
def screenPlacesSpec : ChangeSpec := { name := "screenPlaces", fn := fun _ => fun
  | [d1, d2, d3] => { results := [.lit (.bool true)], args := [d1, d2, d3] }
  | _ => none }
def screenPlacesRow : OpenClaim := { program := "ytelpkjellakigaa", sum := "7ee76b9d3012454886089306b590a96919392de582a611c92d4234fb099af464", func := "printworks/printworkslaw2.ScreenPlaces", spec := "screenPlaces", unfollowed := true, recurses := true, leaving := true, apart := false }
def ScreenPlacesSaid : Prop := screenPlacesRow.holds Try.pinned (OpenSpec.ofChange screenPlacesSpec)

/-- ITS FALSE NEIGHBOUR: 'it returns false'. Refute it at one input. -/
def screenPlacesWrong : ChangeSpec := { name := "screenPlaces", fn := fun _ => fun
  | [d1, d2, d3] => { results := [.lit (.bool false)], args := [d1, d2, d3] }
  | _ => none }
def ScreenPlacesWrongFalsely : Prop := screenPlacesRow.holds Try.pinned (OpenSpec.ofChange screenPlacesWrong)

/-- 'printworkslaw2.HalftoneMeans': WHATEVER THE INPUT: true; the input reads as it did. -/
def halftoneMeansSpec : ChangeSpec := { name := "halftoneMeans", fn := fun _ => fun
  | [d1, d2] => { results := [.lit (.bool true)], args := [d1, d2] }
  | _ => none }
def halftoneMeansRow : OpenClaim := { program := "ytelpkjellakigaa", sum := "7ee76b9d3012454886089306b590a96919392de582a611c92d4234fb099af464", func := "printworks/printworkslaw2.HalftoneMeans", spec := "halftoneMeans", unfollowed := true, recurses := true, leaving := true, apart := false }
def HalftoneMeansSaid : Prop := halftoneMeansRow.holds Try.pinned (OpenSpec.ofChange halftoneMeansSpec)

/-- ITS FALSE NEIGHBOUR: 'it returns false'. Refute it at one input. -/
def halftoneMeansWrong : ChangeSpec := { name := "halftoneMeans", fn := fun _ => fun
  | [d1, d2] => { results := [.lit (.bool false)], args := [d1, d2] }
  | _ => none }
def HalftoneMeansWrongFalsely : Prop := halftoneMeansRow.holds Try.pinned (OpenSpec.ofChange halftoneMeansWrong)

/-- 'printworkslaw2.HalftoneDots': WHATEVER THE INPUT: true; the input reads as it did. -/
def halftoneDotsSpec : ChangeSpec := { name := "halftoneDots", fn := fun _ => fun
  | [d1, d2] => { results := [.lit (.bool true)], args := [d1, d2] }
  | _ => none }
def halftoneDotsRow : OpenClaim := { program := "ytelpkjellakigaa", sum := "7ee76b9d3012454886089306b590a96919392de582a611c92d4234fb099af464", func := "printworks/printworkslaw2.HalftoneDots", spec := "halftoneDots", unfollowed := true, recurses := true, leaving := true, apart := false }
def HalftoneDotsSaid : Prop := halftoneDotsRow.holds Try.pinned (OpenSpec.ofChange halftoneDotsSpec)

/-- ITS FALSE NEIGHBOUR: 'it returns false'. Refute it at one input. -/
def halftoneDotsWrong : ChangeSpec := { name := "halftoneDots", fn := fun _ => fun
  | [d1, d2] => { results := [.lit (.bool false)], args := [d1, d2] }
  | _ => none }
def HalftoneDotsWrongFalsely : Prop := halftoneDotsRow.holds Try.pinned (OpenSpec.ofChange halftoneDotsWrong)

/-- 'printworkslaw2.DiffuseErrors': WHATEVER THE INPUT: true; the input reads as it did. -/
def diffuseErrorsSpec : ChangeSpec := { name := "diffuseErrors", fn := fun _ => fun
  | [d1, d2] => { results := [.lit (.bool true)], args := [d1, d2] }
  | _ => none }
def diffuseErrorsRow : OpenClaim := { program := "ytelpkjellakigaa", sum := "7ee76b9d3012454886089306b590a96919392de582a611c92d4234fb099af464", func := "printworks/printworkslaw2.DiffuseErrors", spec := "diffuseErrors", inPlace := ["(*sync.WaitGroup).Go", "(*sync.WaitGroup).Add", "internal/race.ReleaseMerge", "internal/race.Disable", "internal/race.Enable", "internal/synctest.IsInBubble", "internal/synctest.Associate[sync.WaitGroup]", "sync.fatal", "sync/atomic.OrUint64", "sync/atomic.AddUint64", "internal/race.Read", "sync/atomic.LoadUint64", "sync/atomic.StoreUint64", "internal/synctest.Disassociate[sync.WaitGroup]", "sync.runtime_Semrelease", "(*sync.WaitGroup).Go$1", "(*sync.WaitGroup).Go$1$1", "(*sync.WaitGroup).Done", "(*sync.WaitGroup).Wait", "internal/race.Acquire", "internal/synctest.IsAssociated[sync.WaitGroup]", "sync/atomic.CompareAndSwapUint64", "internal/race.Write", "sync.runtime_SemacquireWaitGroup"], unfollowed := true, recurses := true, leaving := true, apart := false }
def DiffuseErrorsSaid : Prop := diffuseErrorsRow.holds Try.pinned (OpenSpec.ofChange diffuseErrorsSpec)

/-- ITS FALSE NEIGHBOUR: 'it returns false'. Refute it at one input. -/
def diffuseErrorsWrong : ChangeSpec := { name := "diffuseErrors", fn := fun _ => fun
  | [d1, d2] => { results := [.lit (.bool false)], args := [d1, d2] }
  | _ => none }
def DiffuseErrorsWrongFalsely : Prop := diffuseErrorsRow.holds Try.pinned (OpenSpec.ofChange diffuseErrorsWrong)

/-- 'printworkslaw2.BilevelFiles': WHATEVER THE INPUT: true; the input reads as it did. -/
def bilevelFilesSpec : ChangeSpec := { name := "bilevelFiles", fn := fun _ => fun
  | [d1, d2] => { results := [.lit (.bool true)], args := [d1, d2] }
  | _ => none }
def bilevelFilesRow : OpenClaim := { program := "ytelpkjellakigaa", sum := "7ee76b9d3012454886089306b590a96919392de582a611c92d4234fb099af464", func := "printworks/printworkslaw2.BilevelFiles", spec := "bilevelFiles", unfollowed := true, recurses := true, leaving := true, apart := false }
def BilevelFilesSaid : Prop := bilevelFilesRow.holds Try.pinned (OpenSpec.ofChange bilevelFilesSpec)

/-- ITS FALSE NEIGHBOUR: 'it returns false'. Refute it at one input. -/
def bilevelFilesWrong : ChangeSpec := { name := "bilevelFiles", fn := fun _ => fun
  | [d1, d2] => { results := [.lit (.bool false)], args := [d1, d2] }
  | _ => none }
def BilevelFilesWrongFalsely : Prop := bilevelFilesRow.holds Try.pinned (OpenSpec.ofChange bilevelFilesWrong)

/-- 'printworkslaw2.BilevelHeads': WHATEVER THE INPUT: true; the input reads as it did. -/
def bilevelHeadsSpec : ChangeSpec := { name := "bilevelHeads", fn := fun _ => fun
  | [d1, d2, d3, d4, d5] => { results := [.lit (.bool true)], args := [d1, d2, d3, d4, d5] }
  | _ => none }
def bilevelHeadsRow : OpenClaim := { program := "ytelpkjellakigaa", sum := "7ee76b9d3012454886089306b590a96919392de582a611c92d4234fb099af464", func := "printworks/printworkslaw2.BilevelHeads", spec := "bilevelHeads", unfollowed := true, recurses := true, leaving := true, apart := false }
def BilevelHeadsSaid : Prop := bilevelHeadsRow.holds Try.pinned (OpenSpec.ofChange bilevelHeadsSpec)

/-- ITS FALSE NEIGHBOUR: 'it returns false'. Refute it at one input. -/
def bilevelHeadsWrong : ChangeSpec := { name := "bilevelHeads", fn := fun _ => fun
  | [d1, d2, d3, d4, d5] => { results := [.lit (.bool false)], args := [d1, d2, d3, d4, d5] }
  | _ => none }
def BilevelHeadsWrongFalsely : Prop := bilevelHeadsRow.holds Try.pinned (OpenSpec.ofChange bilevelHeadsWrong)

/-- 'printworkslaw2.CameraImages': WHATEVER THE INPUT: true; the input reads as it did. -/
def cameraImagesSpec : ChangeSpec := { name := "cameraImages", fn := fun _ => fun
  | [d1, d2] => { results := [.lit (.bool true)], args := [d1, d2] }
  | _ => none }
def cameraImagesRow : OpenClaim := { program := "ytelpkjellakigaa", sum := "7ee76b9d3012454886089306b590a96919392de582a611c92d4234fb099af464", func := "printworks/printworkslaw2.CameraImages", spec := "cameraImages", unfollowed := true, recurses := true, leaving := true, apart := false }
def CameraImagesSaid : Prop := cameraImagesRow.holds Try.pinned (OpenSpec.ofChange cameraImagesSpec)

/-- ITS FALSE NEIGHBOUR: 'it returns false'. Refute it at one input. -/
def cameraImagesWrong : ChangeSpec := { name := "cameraImages", fn := fun _ => fun
  | [d1, d2] => { results := [.lit (.bool false)], args := [d1, d2] }
  | _ => none }
def CameraImagesWrongFalsely : Prop := cameraImagesRow.holds Try.pinned (OpenSpec.ofChange cameraImagesWrong)

/-- 'printworkslaw2.CameraSurroundings': WHATEVER THE INPUT: true; the input reads as it did. -/
def cameraSurroundingsSpec : ChangeSpec := { name := "cameraSurroundings", fn := fun _ => fun
  | [d1, d2, d3] => { results := [.lit (.bool true)], args := [d1, d2, d3] }
  | _ => none }
def cameraSurroundingsRow : OpenClaim := { program := "ytelpkjellakigaa", sum := "7ee76b9d3012454886089306b590a96919392de582a611c92d4234fb099af464", func := "printworks/printworkslaw2.CameraSurroundings", spec := "cameraSurroundings", unfollowed := true, recurses := true, leaving := true, apart := false }
def CameraSurroundingsSaid : Prop := cameraSurroundingsRow.holds Try.pinned (OpenSpec.ofChange cameraSurroundingsSpec)

/-- ITS FALSE NEIGHBOUR: 'it returns false'. Refute it at one input. -/
def cameraSurroundingsWrong : ChangeSpec := { name := "cameraSurroundings", fn := fun _ => fun
  | [d1, d2, d3] => { results := [.lit (.bool false)], args := [d1, d2, d3] }
  | _ => none }
def CameraSurroundingsWrongFalsely : Prop := cameraSurroundingsRow.holds Try.pinned (OpenSpec.ofChange cameraSurroundingsWrong)

/-- 'printworkslaw2.MatrixModules': WHATEVER THE INPUT: true; the input reads as it did. -/
def matrixModulesSpec : ChangeSpec := { name := "matrixModules", fn := fun _ => fun
  | [d1, d2] => { results := [.lit (.bool true)], args := [d1, d2] }
  | _ => none }
def matrixModulesRow : OpenClaim := { program := "ytelpkjellakigaa", sum := "7ee76b9d3012454886089306b590a96919392de582a611c92d4234fb099af464", func := "printworks/printworkslaw2.MatrixModules", spec := "matrixModules", unfollowed := true, recurses := true, leaving := true, apart := false }
def MatrixModulesSaid : Prop := matrixModulesRow.holds Try.pinned (OpenSpec.ofChange matrixModulesSpec)

/-- ITS FALSE NEIGHBOUR: 'it returns false'. Refute it at one input. -/
def matrixModulesWrong : ChangeSpec := { name := "matrixModules", fn := fun _ => fun
  | [d1, d2] => { results := [.lit (.bool false)], args := [d1, d2] }
  | _ => none }
def MatrixModulesWrongFalsely : Prop := matrixModulesRow.holds Try.pinned (OpenSpec.ofChange matrixModulesWrong)

/- THE SECOND FORM. 'bulk': how many values and letters a reading holds, each counted each time it is reached (what is shared counts as often as it is met; a slice's spare places count too). A statement '..UptoSaid' is the law's where the arguments, and the package variables that the reading takes, are together of bulk at most 1048576: NARROWER than '..Said'. Prove '..Said' where nothing that the law and all that it calls make is longer than what came in: it says more and counts as full. Else prove '..UptoSaid'. A law counts once. -/
mutual
def uptoBulk {H : Type} : DataW H → Nat
  | .lit (.string bytes) => bytes.length + 1
  | .lit _ => 1
  | .nil => 1
  | .ptr d => uptoBulk d + 1
  | .slice elems spare => uptoBulkAll elems + uptoBulkAll spare + 1
  | .agg parts => uptoBulkAll parts + 1
  | .iface _ d => uptoBulk d + 1
  | .map entries => uptoBulkEntries entries + 1
  | .held _ => 1
def uptoBulkAll {H : Type} : List (DataW H) → Nat
  | [] => 0
  | d :: r => uptoBulk d + uptoBulkAll r
def uptoBulkEntries {H : Type} : List (Lit × DataW H) → Nat
  | [] => 0
  | x :: r => uptoBulkEntry x + uptoBulkEntries r
def uptoBulkEntry {H : Type} : Lit × DataW H → Nat
  | (.string bytes, d) => bytes.length + uptoBulk d + 1
  | (_, d) => uptoBulk d + 1
 end
def uptoSmall : (H : Type) → List (DataW H) → Bool := fun _ ds => decide (uptoBulkAll ds ≤ 1048576)
def OpenSpec.upto (s : _root_.Go.ChangeSpec) : _root_.Go.OpenSpec := { _root_.Go.OpenSpec.ofChange s with cond := some uptoSmall }

/-- 'printworkslaw2.ScreenRanks', WHERE WHAT IT READS IS OF BULK AT MOST 1048576: true; the input reads as it did. -/
def screenRanksUptoRow : OpenClaim := { program := "ytelpkjellakigaa", sum := "7ee76b9d3012454886089306b590a96919392de582a611c92d4234fb099af464", func := "printworks/printworkslaw2.ScreenRanks", spec := "screenRanks", unfollowed := true, recurses := true, leaving := true, apart := false, narrowed := true }
def ScreenRanksUptoSaid : Prop := screenRanksUptoRow.holds Try.pinned (OpenSpec.upto screenRanksSpec)

/-- 'printworkslaw2.ScreenLattices', WHERE WHAT IT READS IS OF BULK AT MOST 1048576: true; the input reads as it did. -/
def screenLatticesUptoRow : OpenClaim := { program := "ytelpkjellakigaa", sum := "7ee76b9d3012454886089306b590a96919392de582a611c92d4234fb099af464", func := "printworks/printworkslaw2.ScreenLattices", spec := "screenLattices", unfollowed := true, recurses := true, leaving := true, apart := false, narrowed := true }
def ScreenLatticesUptoSaid : Prop := screenLatticesUptoRow.holds Try.pinned (OpenSpec.upto screenLatticesSpec)

/-- 'printworkslaw2.ScreenPlaces', WHERE WHAT IT READS IS OF BULK AT MOST 1048576: true; the input reads as it did. -/
def screenPlacesUptoRow : OpenClaim := { program := "ytelpkjellakigaa", sum := "7ee76b9d3012454886089306b590a96919392de582a611c92d4234fb099af464", func := "printworks/printworkslaw2.ScreenPlaces", spec := "screenPlaces", unfollowed := true, recurses := true, leaving := true, apart := false, narrowed := true }
def ScreenPlacesUptoSaid : Prop := screenPlacesUptoRow.holds Try.pinned (OpenSpec.upto screenPlacesSpec)

/-- 'printworkslaw2.HalftoneMeans', WHERE WHAT IT READS IS OF BULK AT MOST 1048576: true; the input reads as it did. -/
def halftoneMeansUptoRow : OpenClaim := { program := "ytelpkjellakigaa", sum := "7ee76b9d3012454886089306b590a96919392de582a611c92d4234fb099af464", func := "printworks/printworkslaw2.HalftoneMeans", spec := "halftoneMeans", unfollowed := true, recurses := true, leaving := true, apart := false, narrowed := true }
def HalftoneMeansUptoSaid : Prop := halftoneMeansUptoRow.holds Try.pinned (OpenSpec.upto halftoneMeansSpec)

/-- 'printworkslaw2.HalftoneDots', WHERE WHAT IT READS IS OF BULK AT MOST 1048576: true; the input reads as it did. -/
def halftoneDotsUptoRow : OpenClaim := { program := "ytelpkjellakigaa", sum := "7ee76b9d3012454886089306b590a96919392de582a611c92d4234fb099af464", func := "printworks/printworkslaw2.HalftoneDots", spec := "halftoneDots", unfollowed := true, recurses := true, leaving := true, apart := false, narrowed := true }
def HalftoneDotsUptoSaid : Prop := halftoneDotsUptoRow.holds Try.pinned (OpenSpec.upto halftoneDotsSpec)

/-- 'printworkslaw2.DiffuseErrors', WHERE WHAT IT READS IS OF BULK AT MOST 1048576: true; the input reads as it did. -/
def diffuseErrorsUptoRow : OpenClaim := { program := "ytelpkjellakigaa", sum := "7ee76b9d3012454886089306b590a96919392de582a611c92d4234fb099af464", func := "printworks/printworkslaw2.DiffuseErrors", spec := "diffuseErrors", inPlace := ["(*sync.WaitGroup).Go", "(*sync.WaitGroup).Add", "internal/race.ReleaseMerge", "internal/race.Disable", "internal/race.Enable", "internal/synctest.IsInBubble", "internal/synctest.Associate[sync.WaitGroup]", "sync.fatal", "sync/atomic.OrUint64", "sync/atomic.AddUint64", "internal/race.Read", "sync/atomic.LoadUint64", "sync/atomic.StoreUint64", "internal/synctest.Disassociate[sync.WaitGroup]", "sync.runtime_Semrelease", "(*sync.WaitGroup).Go$1", "(*sync.WaitGroup).Go$1$1", "(*sync.WaitGroup).Done", "(*sync.WaitGroup).Wait", "internal/race.Acquire", "internal/synctest.IsAssociated[sync.WaitGroup]", "sync/atomic.CompareAndSwapUint64", "internal/race.Write", "sync.runtime_SemacquireWaitGroup"], unfollowed := true, recurses := true, leaving := true, apart := false, narrowed := true }
def DiffuseErrorsUptoSaid : Prop := diffuseErrorsUptoRow.holds Try.pinned (OpenSpec.upto diffuseErrorsSpec)

/-- 'printworkslaw2.BilevelFiles', WHERE WHAT IT READS IS OF BULK AT MOST 1048576: true; the input reads as it did. -/
def bilevelFilesUptoRow : OpenClaim := { program := "ytelpkjellakigaa", sum := "7ee76b9d3012454886089306b590a96919392de582a611c92d4234fb099af464", func := "printworks/printworkslaw2.BilevelFiles", spec := "bilevelFiles", unfollowed := true, recurses := true, leaving := true, apart := false, narrowed := true }
def BilevelFilesUptoSaid : Prop := bilevelFilesUptoRow.holds Try.pinned (OpenSpec.upto bilevelFilesSpec)

/-- 'printworkslaw2.BilevelHeads', WHERE WHAT IT READS IS OF BULK AT MOST 1048576: true; the input reads as it did. -/
def bilevelHeadsUptoRow : OpenClaim := { program := "ytelpkjellakigaa", sum := "7ee76b9d3012454886089306b590a96919392de582a611c92d4234fb099af464", func := "printworks/printworkslaw2.BilevelHeads", spec := "bilevelHeads", unfollowed := true, recurses := true, leaving := true, apart := false, narrowed := true }
def BilevelHeadsUptoSaid : Prop := bilevelHeadsUptoRow.holds Try.pinned (OpenSpec.upto bilevelHeadsSpec)

/-- 'printworkslaw2.CameraImages', WHERE WHAT IT READS IS OF BULK AT MOST 1048576: true; the input reads as it did. -/
def cameraImagesUptoRow : OpenClaim := { program := "ytelpkjellakigaa", sum := "7ee76b9d3012454886089306b590a96919392de582a611c92d4234fb099af464", func := "printworks/printworkslaw2.CameraImages", spec := "cameraImages", unfollowed := true, recurses := true, leaving := true, apart := false, narrowed := true }
def CameraImagesUptoSaid : Prop := cameraImagesUptoRow.holds Try.pinned (OpenSpec.upto cameraImagesSpec)

/-- 'printworkslaw2.CameraSurroundings', WHERE WHAT IT READS IS OF BULK AT MOST 1048576: true; the input reads as it did. -/
def cameraSurroundingsUptoRow : OpenClaim := { program := "ytelpkjellakigaa", sum := "7ee76b9d3012454886089306b590a96919392de582a611c92d4234fb099af464", func := "printworks/printworkslaw2.CameraSurroundings", spec := "cameraSurroundings", unfollowed := true, recurses := true, leaving := true, apart := false, narrowed := true }
def CameraSurroundingsUptoSaid : Prop := cameraSurroundingsUptoRow.holds Try.pinned (OpenSpec.upto cameraSurroundingsSpec)

/-- 'printworkslaw2.MatrixModules', WHERE WHAT IT READS IS OF BULK AT MOST 1048576: true; the input reads as it did. -/
def matrixModulesUptoRow : OpenClaim := { program := "ytelpkjellakigaa", sum := "7ee76b9d3012454886089306b590a96919392de582a611c92d4234fb099af464", func := "printworks/printworkslaw2.MatrixModules", spec := "matrixModules", unfollowed := true, recurses := true, leaving := true, apart := false, narrowed := true }
def MatrixModulesUptoSaid : Prop := matrixModulesUptoRow.holds Try.pinned (OpenSpec.upto matrixModulesSpec)

end Rows
end Go.Proofs.Ytelpkjellakigaa
