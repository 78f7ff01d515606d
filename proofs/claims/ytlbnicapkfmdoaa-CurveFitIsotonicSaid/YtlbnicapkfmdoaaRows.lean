/-
  No cell of these rows narrows 'for every input' (looked for: loops, veiled, ifaces, maps, wideKeys, modest, calm, conditions, laid).
  DERIVED. THE GIVEN ROWS OF THIS SEAT. 10 by the template 'for every input the law returns true; each argument reads behind the call as it read before'; 0 by the template 'total and deterministic' (their statements: YtlbnicapkfmdoaaTotals.lean).
  GIVEN WITH THE SEED: the statements are not yours to turn. If you find one false, say at which input.
  Laid BY PROGRAM, IN A SANDBOX (cutbox-rows.mjs): the forced cells as the released guide's own fill.sh prints them over the translation 651c5b9e6adb9fe8… (all of the seat's roots in one cut). By AI agents, Wed Nov 11 2026. No macro, syntax, notation, axiom, sorry.
-/
import Derived.Test.YtlbnicapkfmdoaaChecked
import GoSem.Claim
import GoSem.ClaimJoined
import GoSem.ClaimMapViews
import Derived.JoinedTies
import Derived.KernelRfl
namespace Go.Proofs.Ytlbnicapkfmdoaa
/- THE CELL 'sum', in the pinned program and in every row, IS THE sha256 OF THE DUMP (.gsa) THAT YtlbnicapkfmdoaaProg.lean LOADS. Nothing in Lean hashes anything: it is a label: what it is worth is what the hold of that sum in a sandbox is worth. -/
noncomputable def Try.pinned : Pinned := { name := "ytlbnicapkfmdoaa", sum := "651c5b9e6adb9fe8e11b56ba96ecdd175048da1cbc539d4b89920ac4932d3234", checked := Try.checked }
namespace Rows
def none {H : Type} : Left H := { results := [], args := [] }

/-- 'printworkslaw2.DensityLogarithms': WHATEVER THE INPUT: true; the input reads as it did. -/
def densityLogarithmsSpec : ChangeSpec := { name := "densityLogarithms", fn := fun _ => fun
  | [d1, d2] => { results := [.lit (.bool true)], args := [d1, d2] }
  | _ => none }
def densityLogarithmsRow : OpenClaim := { program := "ytlbnicapkfmdoaa", sum := "651c5b9e6adb9fe8e11b56ba96ecdd175048da1cbc539d4b89920ac4932d3234", func := "printworks/printworkslaw2.DensityLogarithms", spec := "densityLogarithms", apart := false }
def DensityLogarithmsSaid : Prop := densityLogarithmsRow.holds Try.pinned (OpenSpec.ofChange densityLogarithmsSpec)

/-- ITS FALSE NEIGHBOUR: 'it returns false'. Refute it at one input. -/
def densityLogarithmsWrong : ChangeSpec := { name := "densityLogarithms", fn := fun _ => fun
  | [d1, d2] => { results := [.lit (.bool false)], args := [d1, d2] }
  | _ => none }
def DensityLogarithmsWrongFalsely : Prop := densityLogarithmsRow.holds Try.pinned (OpenSpec.ofChange densityLogarithmsWrong)

/-- 'printworkslaw2.DensityAreas': WHATEVER THE INPUT: true; the input reads as it did. -/
def densityAreasSpec : ChangeSpec := { name := "densityAreas", fn := fun _ => fun
  | [d1, d2, d3] => { results := [.lit (.bool true)], args := [d1, d2, d3] }
  | _ => none }
def densityAreasRow : OpenClaim := { program := "ytlbnicapkfmdoaa", sum := "651c5b9e6adb9fe8e11b56ba96ecdd175048da1cbc539d4b89920ac4932d3234", func := "printworks/printworkslaw2.DensityAreas", spec := "densityAreas", apart := false }
def DensityAreasSaid : Prop := densityAreasRow.holds Try.pinned (OpenSpec.ofChange densityAreasSpec)

/-- ITS FALSE NEIGHBOUR: 'it returns false'. Refute it at one input. -/
def densityAreasWrong : ChangeSpec := { name := "densityAreas", fn := fun _ => fun
  | [d1, d2, d3] => { results := [.lit (.bool false)], args := [d1, d2, d3] }
  | _ => none }
def DensityAreasWrongFalsely : Prop := densityAreasRow.holds Try.pinned (OpenSpec.ofChange densityAreasWrong)

/-- 'printworkslaw2.OverprintCombines': WHATEVER THE INPUT: true; the input reads as it did. -/
def overprintCombinesSpec : ChangeSpec := { name := "overprintCombines", fn := fun _ => fun
  | [d1, d2, d3] => { results := [.lit (.bool true)], args := [d1, d2, d3] }
  | _ => none }
def overprintCombinesRow : OpenClaim := { program := "ytlbnicapkfmdoaa", sum := "651c5b9e6adb9fe8e11b56ba96ecdd175048da1cbc539d4b89920ac4932d3234", func := "printworks/printworkslaw2.OverprintCombines", spec := "overprintCombines", unfollowed := true, recurses := true, apart := false }
def OverprintCombinesSaid : Prop := overprintCombinesRow.holds Try.pinned (OpenSpec.ofChange overprintCombinesSpec)

/-- ITS FALSE NEIGHBOUR: 'it returns false'. Refute it at one input. -/
def overprintCombinesWrong : ChangeSpec := { name := "overprintCombines", fn := fun _ => fun
  | [d1, d2, d3] => { results := [.lit (.bool false)], args := [d1, d2, d3] }
  | _ => none }
def OverprintCombinesWrongFalsely : Prop := overprintCombinesRow.holds Try.pinned (OpenSpec.ofChange overprintCombinesWrong)

/-- 'printworkslaw2.OverprintMeans': WHATEVER THE INPUT: true; the input reads as it did. -/
def overprintMeansSpec : ChangeSpec := { name := "overprintMeans", fn := fun _ => fun
  | [d1, d2] => { results := [.lit (.bool true)], args := [d1, d2] }
  | _ => none }
def overprintMeansRow : OpenClaim := { program := "ytlbnicapkfmdoaa", sum := "651c5b9e6adb9fe8e11b56ba96ecdd175048da1cbc539d4b89920ac4932d3234", func := "printworks/printworkslaw2.OverprintMeans", spec := "overprintMeans", unfollowed := true, recurses := true, apart := false }
def OverprintMeansSaid : Prop := overprintMeansRow.holds Try.pinned (OpenSpec.ofChange overprintMeansSpec)

/-- ITS FALSE NEIGHBOUR: 'it returns false'. Refute it at one input. -/
def overprintMeansWrong : ChangeSpec := { name := "overprintMeans", fn := fun _ => fun
  | [d1, d2] => { results := [.lit (.bool false)], args := [d1, d2] }
  | _ => none }
def OverprintMeansWrongFalsely : Prop := overprintMeansRow.holds Try.pinned (OpenSpec.ofChange overprintMeansWrong)

/-- 'printworkslaw2.InklimitSeparations': WHATEVER THE INPUT: true; the input reads as it did. -/
def inklimitSeparationsSpec : ChangeSpec := { name := "inklimitSeparations", fn := fun _ => fun
  | [d1, d2, d3] => { results := [.lit (.bool true)], args := [d1, d2, d3] }
  | _ => none }
def inklimitSeparationsRow : OpenClaim := { program := "ytlbnicapkfmdoaa", sum := "651c5b9e6adb9fe8e11b56ba96ecdd175048da1cbc539d4b89920ac4932d3234", func := "printworks/printworkslaw2.InklimitSeparations", spec := "inklimitSeparations", apart := false }
def InklimitSeparationsSaid : Prop := inklimitSeparationsRow.holds Try.pinned (OpenSpec.ofChange inklimitSeparationsSpec)

/-- ITS FALSE NEIGHBOUR: 'it returns false'. Refute it at one input. -/
def inklimitSeparationsWrong : ChangeSpec := { name := "inklimitSeparations", fn := fun _ => fun
  | [d1, d2, d3] => { results := [.lit (.bool false)], args := [d1, d2, d3] }
  | _ => none }
def InklimitSeparationsWrongFalsely : Prop := inklimitSeparationsRow.holds Try.pinned (OpenSpec.ofChange inklimitSeparationsWrong)

/-- 'printworkslaw2.InklimitLimits': WHATEVER THE INPUT: true; the input reads as it did. -/
def inklimitLimitsSpec : ChangeSpec := { name := "inklimitLimits", fn := fun _ => fun
  | [d1, d2, d3] => { results := [.lit (.bool true)], args := [d1, d2, d3] }
  | _ => none }
def inklimitLimitsRow : OpenClaim := { program := "ytlbnicapkfmdoaa", sum := "651c5b9e6adb9fe8e11b56ba96ecdd175048da1cbc539d4b89920ac4932d3234", func := "printworks/printworkslaw2.InklimitLimits", spec := "inklimitLimits", apart := false }
def InklimitLimitsSaid : Prop := inklimitLimitsRow.holds Try.pinned (OpenSpec.ofChange inklimitLimitsSpec)

/-- ITS FALSE NEIGHBOUR: 'it returns false'. Refute it at one input. -/
def inklimitLimitsWrong : ChangeSpec := { name := "inklimitLimits", fn := fun _ => fun
  | [d1, d2, d3] => { results := [.lit (.bool false)], args := [d1, d2, d3] }
  | _ => none }
def InklimitLimitsWrongFalsely : Prop := inklimitLimitsRow.holds Try.pinned (OpenSpec.ofChange inklimitLimitsWrong)

/-- 'printworkslaw2.CurveValues': WHATEVER THE INPUT: true; the input reads as it did. -/
def curveValuesSpec : ChangeSpec := { name := "curveValues", fn := fun _ => fun
  | [d1, d2] => { results := [.lit (.bool true)], args := [d1, d2] }
  | _ => none }
def curveValuesRow : OpenClaim := { program := "ytlbnicapkfmdoaa", sum := "651c5b9e6adb9fe8e11b56ba96ecdd175048da1cbc539d4b89920ac4932d3234", func := "printworks/printworkslaw2.CurveValues", spec := "curveValues", apart := false }
def CurveValuesSaid : Prop := curveValuesRow.holds Try.pinned (OpenSpec.ofChange curveValuesSpec)

/-- ITS FALSE NEIGHBOUR: 'it returns false'. Refute it at one input. -/
def curveValuesWrong : ChangeSpec := { name := "curveValues", fn := fun _ => fun
  | [d1, d2] => { results := [.lit (.bool false)], args := [d1, d2] }
  | _ => none }
def CurveValuesWrongFalsely : Prop := curveValuesRow.holds Try.pinned (OpenSpec.ofChange curveValuesWrong)

/-- 'printworkslaw2.CurveLeastArgument': WHATEVER THE INPUT: true; the input reads as it did. -/
def curveLeastArgumentSpec : ChangeSpec := { name := "curveLeastArgument", fn := fun _ => fun
  | [d1, d2] => { results := [.lit (.bool true)], args := [d1, d2] }
  | _ => none }
def curveLeastArgumentRow : OpenClaim := { program := "ytlbnicapkfmdoaa", sum := "651c5b9e6adb9fe8e11b56ba96ecdd175048da1cbc539d4b89920ac4932d3234", func := "printworks/printworkslaw2.CurveLeastArgument", spec := "curveLeastArgument", apart := false }
def CurveLeastArgumentSaid : Prop := curveLeastArgumentRow.holds Try.pinned (OpenSpec.ofChange curveLeastArgumentSpec)

/-- ITS FALSE NEIGHBOUR: 'it returns false'. Refute it at one input. -/
def curveLeastArgumentWrong : ChangeSpec := { name := "curveLeastArgument", fn := fun _ => fun
  | [d1, d2] => { results := [.lit (.bool false)], args := [d1, d2] }
  | _ => none }
def CurveLeastArgumentWrongFalsely : Prop := curveLeastArgumentRow.holds Try.pinned (OpenSpec.ofChange curveLeastArgumentWrong)

/-- 'printworkslaw2.CurveFitIsotonic': WHATEVER THE INPUT: true; the input reads as it did. -/
def curveFitIsotonicSpec : ChangeSpec := { name := "curveFitIsotonic", fn := fun _ => fun
  | [d] => { results := [.lit (.bool true)], args := [d] }
  | _ => none }
def curveFitIsotonicRow : OpenClaim := { program := "ytlbnicapkfmdoaa", sum := "651c5b9e6adb9fe8e11b56ba96ecdd175048da1cbc539d4b89920ac4932d3234", func := "printworks/printworkslaw2.CurveFitIsotonic", spec := "curveFitIsotonic", apart := false }
def CurveFitIsotonicSaid : Prop := curveFitIsotonicRow.holds Try.pinned (OpenSpec.ofChange curveFitIsotonicSpec)

/-- ITS FALSE NEIGHBOUR: 'it returns false'. Refute it at one input. -/
def curveFitIsotonicWrong : ChangeSpec := { name := "curveFitIsotonic", fn := fun _ => fun
  | [d] => { results := [.lit (.bool false)], args := [d] }
  | _ => none }
def CurveFitIsotonicWrongFalsely : Prop := curveFitIsotonicRow.holds Try.pinned (OpenSpec.ofChange curveFitIsotonicWrong)

/-- 'printworkslaw2.CurveTables': WHATEVER THE INPUT: true; the input reads as it did. -/
def curveTablesSpec : ChangeSpec := { name := "curveTables", fn := fun _ => fun
  | [d] => { results := [.lit (.bool true)], args := [d] }
  | _ => none }
def curveTablesRow : OpenClaim := { program := "ytlbnicapkfmdoaa", sum := "651c5b9e6adb9fe8e11b56ba96ecdd175048da1cbc539d4b89920ac4932d3234", func := "printworks/printworkslaw2.CurveTables", spec := "curveTables", apart := false }
def CurveTablesSaid : Prop := curveTablesRow.holds Try.pinned (OpenSpec.ofChange curveTablesSpec)

/-- ITS FALSE NEIGHBOUR: 'it returns false'. Refute it at one input. -/
def curveTablesWrong : ChangeSpec := { name := "curveTables", fn := fun _ => fun
  | [d] => { results := [.lit (.bool false)], args := [d] }
  | _ => none }
def CurveTablesWrongFalsely : Prop := curveTablesRow.holds Try.pinned (OpenSpec.ofChange curveTablesWrong)

/- THE SECOND FORM. 'bulk': how many values and letters a reading holds, each counted each time it is reached (what is shared counts as often as it is met; a slice's spare places count too). A statement '..UptoSaid' is the law's where the arguments, and the package variables that the reading takes, are together of bulk at most 1048576: NARROWER than '..Said'. Prove '..Said' where nothing that the law and all that it calls make is longer than what came in: it says more and counts as full. Else prove '..UptoSaid'. A law counts once. -/
mutual
def uptoBulk {H : Type} : DataW H → Nat
  | .lit (.string bytes) => bytes.length + 1
  | .lit _ => 1
  | .nil => 1
  | .ptr d => uptoBulk d + 1
  | .slice elems spare => uptoBulkAll elems + uptoBulkAll spare + 1
  | .agg parts => uptoBulkAll parts + 1
  | .iface _ d => uptoBulk d + 1
  | .map entries => uptoBulkEntries entries + 1
  | .held _ => 1
def uptoBulkAll {H : Type} : List (DataW H) → Nat
  | [] => 0
  | d :: r => uptoBulk d + uptoBulkAll r
def uptoBulkEntries {H : Type} : List (Lit × DataW H) → Nat
  | [] => 0
  | x :: r => uptoBulkEntry x + uptoBulkEntries r
def uptoBulkEntry {H : Type} : Lit × DataW H → Nat
  | (.string bytes, d) => bytes.length + uptoBulk d + 1
  | (_, d) => uptoBulk d + 1
 end
def uptoSmall : (H : Type) → List (DataW H) → Bool := fun _ ds => decide (uptoBulkAll ds ≤ 1048576)
def OpenSpec.upto (s : _root_.Go.ChangeSpec) : _root_.Go.OpenSpec := { _root_.Go.OpenSpec.ofChange s with cond := some uptoSmall }

/-- 'printworkslaw2.DensityLogarithms', WHERE WHAT IT READS IS OF BULK AT MOST 1048576: true; the input reads as it did. -/
def densityLogarithmsUptoRow : OpenClaim := { program := "ytlbnicapkfmdoaa", sum := "651c5b9e6adb9fe8e11b56ba96ecdd175048da1cbc539d4b89920ac4932d3234", func := "printworks/printworkslaw2.DensityLogarithms", spec := "densityLogarithms", apart := false, narrowed := true }
def DensityLogarithmsUptoSaid : Prop := densityLogarithmsUptoRow.holds Try.pinned (OpenSpec.upto densityLogarithmsSpec)

/-- 'printworkslaw2.DensityAreas', WHERE WHAT IT READS IS OF BULK AT MOST 1048576: true; the input reads as it did. -/
def densityAreasUptoRow : OpenClaim := { program := "ytlbnicapkfmdoaa", sum := "651c5b9e6adb9fe8e11b56ba96ecdd175048da1cbc539d4b89920ac4932d3234", func := "printworks/printworkslaw2.DensityAreas", spec := "densityAreas", apart := false, narrowed := true }
def DensityAreasUptoSaid : Prop := densityAreasUptoRow.holds Try.pinned (OpenSpec.upto densityAreasSpec)

/-- 'printworkslaw2.OverprintCombines', WHERE WHAT IT READS IS OF BULK AT MOST 1048576: true; the input reads as it did. -/
def overprintCombinesUptoRow : OpenClaim := { program := "ytlbnicapkfmdoaa", sum := "651c5b9e6adb9fe8e11b56ba96ecdd175048da1cbc539d4b89920ac4932d3234", func := "printworks/printworkslaw2.OverprintCombines", spec := "overprintCombines", unfollowed := true, recurses := true, apart := false, narrowed := true }
def OverprintCombinesUptoSaid : Prop := overprintCombinesUptoRow.holds Try.pinned (OpenSpec.upto overprintCombinesSpec)

/-- 'printworkslaw2.OverprintMeans', WHERE WHAT IT READS IS OF BULK AT MOST 1048576: true; the input reads as it did. -/
def overprintMeansUptoRow : OpenClaim := { program := "ytlbnicapkfmdoaa", sum := "651c5b9e6adb9fe8e11b56ba96ecdd175048da1cbc539d4b89920ac4932d3234", func := "printworks/printworkslaw2.OverprintMeans", spec := "overprintMeans", unfollowed := true, recurses := true, apart := false, narrowed := true }
def OverprintMeansUptoSaid : Prop := overprintMeansUptoRow.holds Try.pinned (OpenSpec.upto overprintMeansSpec)

/-- 'printworkslaw2.InklimitSeparations', WHERE WHAT IT READS IS OF BULK AT MOST 1048576: true; the input reads as it did. -/
def inklimitSeparationsUptoRow : OpenClaim := { program := "ytlbnicapkfmdoaa", sum := "651c5b9e6adb9fe8e11b56ba96ecdd175048da1cbc539d4b89920ac4932d3234", func := "printworks/printworkslaw2.InklimitSeparations", spec := "inklimitSeparations", apart := false, narrowed := true }
def InklimitSeparationsUptoSaid : Prop := inklimitSeparationsUptoRow.holds Try.pinned (OpenSpec.upto inklimitSeparationsSpec)

/-- 'printworkslaw2.InklimitLimits', WHERE WHAT IT READS IS OF BULK AT MOST 1048576: true; the input reads as it did. -/
def inklimitLimitsUptoRow : OpenClaim := { program := "ytlbnicapkfmdoaa", sum := "651c5b9e6adb9fe8e11b56ba96ecdd175048da1cbc539d4b89920ac4932d3234", func := "printworks/printworkslaw2.InklimitLimits", spec := "inklimitLimits", apart := false, narrowed := true }
def InklimitLimitsUptoSaid : Prop := inklimitLimitsUptoRow.holds Try.pinned (OpenSpec.upto inklimitLimitsSpec)

/-- 'printworkslaw2.CurveValues', WHERE WHAT IT READS IS OF BULK AT MOST 1048576: true; the input reads as it did. -/
def curveValuesUptoRow : OpenClaim := { program := "ytlbnicapkfmdoaa", sum := "651c5b9e6adb9fe8e11b56ba96ecdd175048da1cbc539d4b89920ac4932d3234", func := "printworks/printworkslaw2.CurveValues", spec := "curveValues", apart := false, narrowed := true }
def CurveValuesUptoSaid : Prop := curveValuesUptoRow.holds Try.pinned (OpenSpec.upto curveValuesSpec)

/-- 'printworkslaw2.CurveLeastArgument', WHERE WHAT IT READS IS OF BULK AT MOST 1048576: true; the input reads as it did. -/
def curveLeastArgumentUptoRow : OpenClaim := { program := "ytlbnicapkfmdoaa", sum := "651c5b9e6adb9fe8e11b56ba96ecdd175048da1cbc539d4b89920ac4932d3234", func := "printworks/printworkslaw2.CurveLeastArgument", spec := "curveLeastArgument", apart := false, narrowed := true }
def CurveLeastArgumentUptoSaid : Prop := curveLeastArgumentUptoRow.holds Try.pinned (OpenSpec.upto curveLeastArgumentSpec)

/-- 'printworkslaw2.CurveFitIsotonic', WHERE WHAT IT READS IS OF BULK AT MOST 1048576: true; the input reads as it did. -/
def curveFitIsotonicUptoRow : OpenClaim := { program := "ytlbnicapkfmdoaa", sum := "651c5b9e6adb9fe8e11b56ba96ecdd175048da1cbc539d4b89920ac4932d3234", func := "printworks/printworkslaw2.CurveFitIsotonic", spec := "curveFitIsotonic", apart := false, narrowed := true }
def CurveFitIsotonicUptoSaid : Prop := curveFitIsotonicUptoRow.holds Try.pinned (OpenSpec.upto curveFitIsotonicSpec)

/-- 'printworkslaw2.CurveTables', WHERE WHAT IT READS IS OF BULK AT MOST 1048576: true; the input reads as it did. -/
def curveTablesUptoRow : OpenClaim := { program := "ytlbnicapkfmdoaa", sum := "651c5b9e6adb9fe8e11b56ba96ecdd175048da1cbc539d4b89920ac4932d3234", func := "printworks/printworkslaw2.CurveTables", spec := "curveTables", apart := false, narrowed := true }
def CurveTablesUptoSaid : Prop := curveTablesUptoRow.holds Try.pinned (OpenSpec.upto curveTablesSpec)

end Rows
end Go.Proofs.Ytlbnicapkfmdoaa
