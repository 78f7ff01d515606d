/-
  No cell of these rows narrows 'for every input' (looked for: loops, veiled, ifaces, maps, wideKeys, modest, calm, conditions, laid).
  DERIVED. THE GIVEN ROWS OF THIS SEAT. 12 by the template 'for every input the law returns true; each argument reads behind the call as it read before'; 0 by the template 'total and deterministic' (their statements: YtjhdjjoacedlpaaTotals.lean).
  GIVEN WITH THE SEED: the statements are not yours to turn. If you find one false, say at which input.
  Laid BY PROGRAM, IN A SANDBOX (cutbox-rows.mjs): the forced cells as the released guide's own fill.sh prints them over the translation a92a80137d6fe0ff… (all of the seat's roots in one cut). By AI agents, Wed Nov 11 2026. No macro, syntax, notation, axiom, sorry.
-/
import Derived.Test.YtjhdjjoacedlpaaChecked
import GoSem.Claim
import GoSem.ClaimJoined
import GoSem.ClaimMapViews
import Derived.JoinedTies
import Derived.KernelRfl
namespace Go.Proofs.Ytjhdjjoacedlpaa
/- THE CELL 'sum', in the pinned program and in every row, IS THE sha256 OF THE DUMP (.gsa) THAT YtjhdjjoacedlpaaProg.lean LOADS. Nothing in Lean hashes anything: it is a label: what it is worth is what the hold of that sum in a sandbox is worth. -/
noncomputable def Try.pinned : Pinned := { name := "ytjhdjjoacedlpaa", sum := "a92a80137d6fe0ffefea8f4212cf35b2287207203b29fba17360cd8ad6fbe35d", checked := Try.checked }
namespace Rows
def none {H : Type} : Left H := { results := [], args := [] }

/-- 'printworkslaw2.GamutMembers': WHATEVER THE INPUT: true; the input reads as it did. -/
def gamutMembersSpec : ChangeSpec := { name := "gamutMembers", fn := fun _ => fun
  | [d1, d2] => { results := [.lit (.bool true)], args := [d1, d2] }
  | _ => none }
def gamutMembersRow : OpenClaim := { program := "ytjhdjjoacedlpaa", sum := "a92a80137d6fe0ffefea8f4212cf35b2287207203b29fba17360cd8ad6fbe35d", func := "printworks/printworkslaw2.GamutMembers", spec := "gamutMembers", unfollowed := true, recurses := true, apart := false }
def GamutMembersSaid : Prop := gamutMembersRow.holds Try.pinned (OpenSpec.ofChange gamutMembersSpec)

/-- ITS FALSE NEIGHBOUR: 'it returns false'. Refute it at one input. -/
def gamutMembersWrong : ChangeSpec := { name := "gamutMembers", fn := fun _ => fun
  | [d1, d2] => { results := [.lit (.bool false)], args := [d1, d2] }
  | _ => none }
def GamutMembersWrongFalsely : Prop := gamutMembersRow.holds Try.pinned (OpenSpec.ofChange gamutMembersWrong)

/-- 'printworkslaw2.GamutMapped': WHATEVER THE INPUT: true; the input reads as it did. -/
def gamutMappedSpec : ChangeSpec := { name := "gamutMapped", fn := fun _ => fun
  | [d1, d2, d3] => { results := [.lit (.bool true)], args := [d1, d2, d3] }
  | _ => none }
def gamutMappedRow : OpenClaim := { program := "ytjhdjjoacedlpaa", sum := "a92a80137d6fe0ffefea8f4212cf35b2287207203b29fba17360cd8ad6fbe35d", func := "printworks/printworkslaw2.GamutMapped", spec := "gamutMapped", unfollowed := true, recurses := true, apart := false }
def GamutMappedSaid : Prop := gamutMappedRow.holds Try.pinned (OpenSpec.ofChange gamutMappedSpec)

/-- ITS FALSE NEIGHBOUR: 'it returns false'. Refute it at one input. -/
def gamutMappedWrong : ChangeSpec := { name := "gamutMapped", fn := fun _ => fun
  | [d1, d2, d3] => { results := [.lit (.bool false)], args := [d1, d2, d3] }
  | _ => none }
def GamutMappedWrongFalsely : Prop := gamutMappedRow.holds Try.pinned (OpenSpec.ofChange gamutMappedWrong)

/-- 'printworkslaw2.InverseNearest': WHATEVER THE INPUT: true; the input reads as it did. -/
def inverseNearestSpec : ChangeSpec := { name := "inverseNearest", fn := fun _ => fun
  | [d1, d2, d3] => { results := [.lit (.bool true)], args := [d1, d2, d3] }
  | _ => none }
def inverseNearestRow : OpenClaim := { program := "ytjhdjjoacedlpaa", sum := "a92a80137d6fe0ffefea8f4212cf35b2287207203b29fba17360cd8ad6fbe35d", func := "printworks/printworkslaw2.InverseNearest", spec := "inverseNearest", recurses := true, apart := false }
def InverseNearestSaid : Prop := inverseNearestRow.holds Try.pinned (OpenSpec.ofChange inverseNearestSpec)

/-- ITS FALSE NEIGHBOUR: 'it returns false'. Refute it at one input. -/
def inverseNearestWrong : ChangeSpec := { name := "inverseNearest", fn := fun _ => fun
  | [d1, d2, d3] => { results := [.lit (.bool false)], args := [d1, d2, d3] }
  | _ => none }
def InverseNearestWrongFalsely : Prop := inverseNearestRow.holds Try.pinned (OpenSpec.ofChange inverseNearestWrong)

/-- 'printworkslaw2.ProfileChecksum': WHATEVER THE INPUT: true; the input reads as it did. -/
def profileChecksumSpec : ChangeSpec := { name := "profileChecksum", fn := fun _ => fun
  | [d] => { results := [.lit (.bool true)], args := [d] }
  | _ => none }
def profileChecksumRow : OpenClaim := { program := "ytjhdjjoacedlpaa", sum := "a92a80137d6fe0ffefea8f4212cf35b2287207203b29fba17360cd8ad6fbe35d", func := "printworks/printworkslaw2.ProfileChecksum", spec := "profileChecksum", apart := false }
def ProfileChecksumSaid : Prop := profileChecksumRow.holds Try.pinned (OpenSpec.ofChange profileChecksumSpec)

/-- ITS FALSE NEIGHBOUR: 'it returns false'. Refute it at one input. -/
def profileChecksumWrong : ChangeSpec := { name := "profileChecksum", fn := fun _ => fun
  | [d] => { results := [.lit (.bool false)], args := [d] }
  | _ => none }
def ProfileChecksumWrongFalsely : Prop := profileChecksumRow.holds Try.pinned (OpenSpec.ofChange profileChecksumWrong)

/-- 'printworkslaw2.ProfileFiles': WHATEVER THE INPUT: true; the input reads as it did. -/
def profileFilesSpec : ChangeSpec := { name := "profileFiles", fn := fun _ => fun
  | [d] => { results := [.lit (.bool true)], args := [d] }
  | _ => none }
def profileFilesRow : OpenClaim := { program := "ytjhdjjoacedlpaa", sum := "a92a80137d6fe0ffefea8f4212cf35b2287207203b29fba17360cd8ad6fbe35d", func := "printworks/printworkslaw2.ProfileFiles", spec := "profileFiles", apart := false }
def ProfileFilesSaid : Prop := profileFilesRow.holds Try.pinned (OpenSpec.ofChange profileFilesSpec)

/-- ITS FALSE NEIGHBOUR: 'it returns false'. Refute it at one input. -/
def profileFilesWrong : ChangeSpec := { name := "profileFiles", fn := fun _ => fun
  | [d] => { results := [.lit (.bool false)], args := [d] }
  | _ => none }
def ProfileFilesWrongFalsely : Prop := profileFilesRow.holds Try.pinned (OpenSpec.ofChange profileFilesWrong)

/-- 'printworkslaw2.ProfileColors': WHATEVER THE INPUT: true; the input reads as it did. -/
def profileColorsSpec : ChangeSpec := { name := "profileColors", fn := fun _ => fun
  | [d1, d2] => { results := [.lit (.bool true)], args := [d1, d2] }
  | _ => none }
def profileColorsRow : OpenClaim := { program := "ytjhdjjoacedlpaa", sum := "a92a80137d6fe0ffefea8f4212cf35b2287207203b29fba17360cd8ad6fbe35d", func := "printworks/printworkslaw2.ProfileColors", spec := "profileColors", apart := false }
def ProfileColorsSaid : Prop := profileColorsRow.holds Try.pinned (OpenSpec.ofChange profileColorsSpec)

/-- ITS FALSE NEIGHBOUR: 'it returns false'. Refute it at one input. -/
def profileColorsWrong : ChangeSpec := { name := "profileColors", fn := fun _ => fun
  | [d1, d2] => { results := [.lit (.bool false)], args := [d1, d2] }
  | _ => none }
def ProfileColorsWrongFalsely : Prop := profileColorsRow.holds Try.pinned (OpenSpec.ofChange profileColorsWrong)

/-- 'printworkslaw2.ProfileForeignFiles': WHATEVER THE INPUT: true; the input reads as it did. -/
def profileForeignFilesSpec : ChangeSpec := { name := "profileForeignFiles", fn := fun _ => fun
  | [d1, d2, d3, d4] => { results := [.lit (.bool true)], args := [d1, d2, d3, d4] }
  | _ => none }
def profileForeignFilesRow : OpenClaim := { program := "ytjhdjjoacedlpaa", sum := "a92a80137d6fe0ffefea8f4212cf35b2287207203b29fba17360cd8ad6fbe35d", func := "printworks/printworkslaw2.ProfileForeignFiles", spec := "profileForeignFiles", unfollowed := true, recurses := true, apart := false }
def ProfileForeignFilesSaid : Prop := profileForeignFilesRow.holds Try.pinned (OpenSpec.ofChange profileForeignFilesSpec)

/-- ITS FALSE NEIGHBOUR: 'it returns false'. Refute it at one input. -/
def profileForeignFilesWrong : ChangeSpec := { name := "profileForeignFiles", fn := fun _ => fun
  | [d1, d2, d3, d4] => { results := [.lit (.bool false)], args := [d1, d2, d3, d4] }
  | _ => none }
def ProfileForeignFilesWrongFalsely : Prop := profileForeignFilesRow.holds Try.pinned (OpenSpec.ofChange profileForeignFilesWrong)

/-- 'printworkslaw2.ProfileMissingTags': WHATEVER THE INPUT: true; the input reads as it did. -/
def profileMissingTagsSpec : ChangeSpec := { name := "profileMissingTags", fn := fun _ => fun
  | [d1, d2] => { results := [.lit (.bool true)], args := [d1, d2] }
  | _ => none }
def profileMissingTagsRow : OpenClaim := { program := "ytjhdjjoacedlpaa", sum := "a92a80137d6fe0ffefea8f4212cf35b2287207203b29fba17360cd8ad6fbe35d", func := "printworks/printworkslaw2.ProfileMissingTags", spec := "profileMissingTags", unfollowed := true, recurses := true, apart := false }
def ProfileMissingTagsSaid : Prop := profileMissingTagsRow.holds Try.pinned (OpenSpec.ofChange profileMissingTagsSpec)

/-- ITS FALSE NEIGHBOUR: 'it returns false'. Refute it at one input. -/
def profileMissingTagsWrong : ChangeSpec := { name := "profileMissingTags", fn := fun _ => fun
  | [d1, d2] => { results := [.lit (.bool false)], args := [d1, d2] }
  | _ => none }
def ProfileMissingTagsWrongFalsely : Prop := profileMissingTagsRow.holds Try.pinned (OpenSpec.ofChange profileMissingTagsWrong)

/-- 'printworkslaw2.ConditionColors': WHATEVER THE INPUT: true; the input reads as it did. -/
def conditionColorsSpec : ChangeSpec := { name := "conditionColors", fn := fun _ => fun
  | [d1, d2, d3, d4] => { results := [.lit (.bool true)], args := [d1, d2, d3, d4] }
  | _ => none }
def conditionColorsRow : OpenClaim := { program := "ytjhdjjoacedlpaa", sum := "a92a80137d6fe0ffefea8f4212cf35b2287207203b29fba17360cd8ad6fbe35d", func := "printworks/printworkslaw2.ConditionColors", spec := "conditionColors", apart := false }
def ConditionColorsSaid : Prop := conditionColorsRow.holds Try.pinned (OpenSpec.ofChange conditionColorsSpec)

/-- ITS FALSE NEIGHBOUR: 'it returns false'. Refute it at one input. -/
def conditionColorsWrong : ChangeSpec := { name := "conditionColors", fn := fun _ => fun
  | [d1, d2, d3, d4] => { results := [.lit (.bool false)], args := [d1, d2, d3, d4] }
  | _ => none }
def ConditionColorsWrongFalsely : Prop := conditionColorsRow.holds Try.pinned (OpenSpec.ofChange conditionColorsWrong)

/-- 'printworkslaw2.ConditionInks': WHATEVER THE INPUT: true; the input reads as it did. -/
def conditionInksSpec : ChangeSpec := { name := "conditionInks", fn := fun _ => fun
  | [d1, d2, d3, d4] => { results := [.lit (.bool true)], args := [d1, d2, d3, d4] }
  | _ => none }
def conditionInksRow : OpenClaim := { program := "ytjhdjjoacedlpaa", sum := "a92a80137d6fe0ffefea8f4212cf35b2287207203b29fba17360cd8ad6fbe35d", func := "printworks/printworkslaw2.ConditionInks", spec := "conditionInks", apart := false }
def ConditionInksSaid : Prop := conditionInksRow.holds Try.pinned (OpenSpec.ofChange conditionInksSpec)

/-- ITS FALSE NEIGHBOUR: 'it returns false'. Refute it at one input. -/
def conditionInksWrong : ChangeSpec := { name := "conditionInks", fn := fun _ => fun
  | [d1, d2, d3, d4] => { results := [.lit (.bool false)], args := [d1, d2, d3, d4] }
  | _ => none }
def ConditionInksWrongFalsely : Prop := conditionInksRow.holds Try.pinned (OpenSpec.ofChange conditionInksWrong)

/-- 'printworkslaw2.DevicelinkNodes': WHATEVER THE INPUT: true; the input reads as it did. -/
def devicelinkNodesSpec : ChangeSpec := { name := "devicelinkNodes", fn := fun _ => fun
  | [d1, d2, d3, d4] => { results := [.lit (.bool true)], args := [d1, d2, d3, d4] }
  | _ => none }
def devicelinkNodesRow : OpenClaim := { program := "ytjhdjjoacedlpaa", sum := "a92a80137d6fe0ffefea8f4212cf35b2287207203b29fba17360cd8ad6fbe35d", func := "printworks/printworkslaw2.DevicelinkNodes", spec := "devicelinkNodes", unfollowed := true, recurses := true, apart := false }
def DevicelinkNodesSaid : Prop := devicelinkNodesRow.holds Try.pinned (OpenSpec.ofChange devicelinkNodesSpec)

/-- ITS FALSE NEIGHBOUR: 'it returns false'. Refute it at one input. -/
def devicelinkNodesWrong : ChangeSpec := { name := "devicelinkNodes", fn := fun _ => fun
  | [d1, d2, d3, d4] => { results := [.lit (.bool false)], args := [d1, d2, d3, d4] }
  | _ => none }
def DevicelinkNodesWrongFalsely : Prop := devicelinkNodesRow.holds Try.pinned (OpenSpec.ofChange devicelinkNodesWrong)

/-- 'printworkslaw2.DevicelinkConversions': WHATEVER THE INPUT: true; the input reads as it did. -/
def devicelinkConversionsSpec : ChangeSpec := { name := "devicelinkConversions", fn := fun _ => fun
  | [d1, d2] => { results := [.lit (.bool true)], args := [d1, d2] }
  | _ => none }
def devicelinkConversionsRow : OpenClaim := { program := "ytjhdjjoacedlpaa", sum := "a92a80137d6fe0ffefea8f4212cf35b2287207203b29fba17360cd8ad6fbe35d", func := "printworks/printworkslaw2.DevicelinkConversions", spec := "devicelinkConversions", unfollowed := true, recurses := true, apart := false }
def DevicelinkConversionsSaid : Prop := devicelinkConversionsRow.holds Try.pinned (OpenSpec.ofChange devicelinkConversionsSpec)

/-- ITS FALSE NEIGHBOUR: 'it returns false'. Refute it at one input. -/
def devicelinkConversionsWrong : ChangeSpec := { name := "devicelinkConversions", fn := fun _ => fun
  | [d1, d2] => { results := [.lit (.bool false)], args := [d1, d2] }
  | _ => none }
def DevicelinkConversionsWrongFalsely : Prop := devicelinkConversionsRow.holds Try.pinned (OpenSpec.ofChange devicelinkConversionsWrong)

/- THE SECOND FORM. 'bulk': how many values and letters a reading holds, each counted each time it is reached (what is shared counts as often as it is met; a slice's spare places count too). A statement '..UptoSaid' is the law's where the arguments, and the package variables that the reading takes, are together of bulk at most 1048576: NARROWER than '..Said'. Prove '..Said' where nothing that the law and all that it calls make is longer than what came in: it says more and counts as full. Else prove '..UptoSaid'. A law counts once. -/
mutual
def uptoBulk {H : Type} : DataW H → Nat
  | .lit (.string bytes) => bytes.length + 1
  | .lit _ => 1
  | .nil => 1
  | .ptr d => uptoBulk d + 1
  | .slice elems spare => uptoBulkAll elems + uptoBulkAll spare + 1
  | .agg parts => uptoBulkAll parts + 1
  | .iface _ d => uptoBulk d + 1
  | .map entries => uptoBulkEntries entries + 1
  | .held _ => 1
def uptoBulkAll {H : Type} : List (DataW H) → Nat
  | [] => 0
  | d :: r => uptoBulk d + uptoBulkAll r
def uptoBulkEntries {H : Type} : List (Lit × DataW H) → Nat
  | [] => 0
  | x :: r => uptoBulkEntry x + uptoBulkEntries r
def uptoBulkEntry {H : Type} : Lit × DataW H → Nat
  | (.string bytes, d) => bytes.length + uptoBulk d + 1
  | (_, d) => uptoBulk d + 1
 end
def uptoSmall : (H : Type) → List (DataW H) → Bool := fun _ ds => decide (uptoBulkAll ds ≤ 1048576)
def OpenSpec.upto (s : _root_.Go.ChangeSpec) : _root_.Go.OpenSpec := { _root_.Go.OpenSpec.ofChange s with cond := some uptoSmall }

/-- 'printworkslaw2.GamutMembers', WHERE WHAT IT READS IS OF BULK AT MOST 1048576: true; the input reads as it did. -/
def gamutMembersUptoRow : OpenClaim := { program := "ytjhdjjoacedlpaa", sum := "a92a80137d6fe0ffefea8f4212cf35b2287207203b29fba17360cd8ad6fbe35d", func := "printworks/printworkslaw2.GamutMembers", spec := "gamutMembers", unfollowed := true, recurses := true, apart := false, narrowed := true }
def GamutMembersUptoSaid : Prop := gamutMembersUptoRow.holds Try.pinned (OpenSpec.upto gamutMembersSpec)

/-- 'printworkslaw2.GamutMapped', WHERE WHAT IT READS IS OF BULK AT MOST 1048576: true; the input reads as it did. -/
def gamutMappedUptoRow : OpenClaim := { program := "ytjhdjjoacedlpaa", sum := "a92a80137d6fe0ffefea8f4212cf35b2287207203b29fba17360cd8ad6fbe35d", func := "printworks/printworkslaw2.GamutMapped", spec := "gamutMapped", unfollowed := true, recurses := true, apart := false, narrowed := true }
def GamutMappedUptoSaid : Prop := gamutMappedUptoRow.holds Try.pinned (OpenSpec.upto gamutMappedSpec)

/-- 'printworkslaw2.InverseNearest', WHERE WHAT IT READS IS OF BULK AT MOST 1048576: true; the input reads as it did. -/
def inverseNearestUptoRow : OpenClaim := { program := "ytjhdjjoacedlpaa", sum := "a92a80137d6fe0ffefea8f4212cf35b2287207203b29fba17360cd8ad6fbe35d", func := "printworks/printworkslaw2.InverseNearest", spec := "inverseNearest", recurses := true, apart := false, narrowed := true }
def InverseNearestUptoSaid : Prop := inverseNearestUptoRow.holds Try.pinned (OpenSpec.upto inverseNearestSpec)

/-- 'printworkslaw2.ProfileChecksum', WHERE WHAT IT READS IS OF BULK AT MOST 1048576: true; the input reads as it did. -/
def profileChecksumUptoRow : OpenClaim := { program := "ytjhdjjoacedlpaa", sum := "a92a80137d6fe0ffefea8f4212cf35b2287207203b29fba17360cd8ad6fbe35d", func := "printworks/printworkslaw2.ProfileChecksum", spec := "profileChecksum", apart := false, narrowed := true }
def ProfileChecksumUptoSaid : Prop := profileChecksumUptoRow.holds Try.pinned (OpenSpec.upto profileChecksumSpec)

/-- 'printworkslaw2.ProfileFiles', WHERE WHAT IT READS IS OF BULK AT MOST 1048576: true; the input reads as it did. -/
def profileFilesUptoRow : OpenClaim := { program := "ytjhdjjoacedlpaa", sum := "a92a80137d6fe0ffefea8f4212cf35b2287207203b29fba17360cd8ad6fbe35d", func := "printworks/printworkslaw2.ProfileFiles", spec := "profileFiles", apart := false, narrowed := true }
def ProfileFilesUptoSaid : Prop := profileFilesUptoRow.holds Try.pinned (OpenSpec.upto profileFilesSpec)

/-- 'printworkslaw2.ProfileColors', WHERE WHAT IT READS IS OF BULK AT MOST 1048576: true; the input reads as it did. -/
def profileColorsUptoRow : OpenClaim := { program := "ytjhdjjoacedlpaa", sum := "a92a80137d6fe0ffefea8f4212cf35b2287207203b29fba17360cd8ad6fbe35d", func := "printworks/printworkslaw2.ProfileColors", spec := "profileColors", apart := false, narrowed := true }
def ProfileColorsUptoSaid : Prop := profileColorsUptoRow.holds Try.pinned (OpenSpec.upto profileColorsSpec)

/-- 'printworkslaw2.ProfileForeignFiles', WHERE WHAT IT READS IS OF BULK AT MOST 1048576: true; the input reads as it did. -/
def profileForeignFilesUptoRow : OpenClaim := { program := "ytjhdjjoacedlpaa", sum := "a92a80137d6fe0ffefea8f4212cf35b2287207203b29fba17360cd8ad6fbe35d", func := "printworks/printworkslaw2.ProfileForeignFiles", spec := "profileForeignFiles", unfollowed := true, recurses := true, apart := false, narrowed := true }
def ProfileForeignFilesUptoSaid : Prop := profileForeignFilesUptoRow.holds Try.pinned (OpenSpec.upto profileForeignFilesSpec)

/-- 'printworkslaw2.ProfileMissingTags', WHERE WHAT IT READS IS OF BULK AT MOST 1048576: true; the input reads as it did. -/
def profileMissingTagsUptoRow : OpenClaim := { program := "ytjhdjjoacedlpaa", sum := "a92a80137d6fe0ffefea8f4212cf35b2287207203b29fba17360cd8ad6fbe35d", func := "printworks/printworkslaw2.ProfileMissingTags", spec := "profileMissingTags", unfollowed := true, recurses := true, apart := false, narrowed := true }
def ProfileMissingTagsUptoSaid : Prop := profileMissingTagsUptoRow.holds Try.pinned (OpenSpec.upto profileMissingTagsSpec)

/-- 'printworkslaw2.ConditionColors', WHERE WHAT IT READS IS OF BULK AT MOST 1048576: true; the input reads as it did. -/
def conditionColorsUptoRow : OpenClaim := { program := "ytjhdjjoacedlpaa", sum := "a92a80137d6fe0ffefea8f4212cf35b2287207203b29fba17360cd8ad6fbe35d", func := "printworks/printworkslaw2.ConditionColors", spec := "conditionColors", apart := false, narrowed := true }
def ConditionColorsUptoSaid : Prop := conditionColorsUptoRow.holds Try.pinned (OpenSpec.upto conditionColorsSpec)

/-- 'printworkslaw2.ConditionInks', WHERE WHAT IT READS IS OF BULK AT MOST 1048576: true; the input reads as it did. -/
def conditionInksUptoRow : OpenClaim := { program := "ytjhdjjoacedlpaa", sum := "a92a80137d6fe0ffefea8f4212cf35b2287207203b29fba17360cd8ad6fbe35d", func := "printworks/printworkslaw2.ConditionInks", spec := "conditionInks", apart := false, narrowed := true }
def ConditionInksUptoSaid : Prop := conditionInksUptoRow.holds Try.pinned (OpenSpec.upto conditionInksSpec)

/-- 'printworkslaw2.DevicelinkNodes', WHERE WHAT IT READS IS OF BULK AT MOST 1048576: true; the input reads as it did. -/
def devicelinkNodesUptoRow : OpenClaim := { program := "ytjhdjjoacedlpaa", sum := "a92a80137d6fe0ffefea8f4212cf35b2287207203b29fba17360cd8ad6fbe35d", func := "printworks/printworkslaw2.DevicelinkNodes", spec := "devicelinkNodes", unfollowed := true, recurses := true, apart := false, narrowed := true }
def DevicelinkNodesUptoSaid : Prop := devicelinkNodesUptoRow.holds Try.pinned (OpenSpec.upto devicelinkNodesSpec)

/-- 'printworkslaw2.DevicelinkConversions', WHERE WHAT IT READS IS OF BULK AT MOST 1048576: true; the input reads as it did. -/
def devicelinkConversionsUptoRow : OpenClaim := { program := "ytjhdjjoacedlpaa", sum := "a92a80137d6fe0ffefea8f4212cf35b2287207203b29fba17360cd8ad6fbe35d", func := "printworks/printworkslaw2.DevicelinkConversions", spec := "devicelinkConversions", unfollowed := true, recurses := true, apart := false, narrowed := true }
def DevicelinkConversionsUptoSaid : Prop := devicelinkConversionsUptoRow.holds Try.pinned (OpenSpec.upto devicelinkConversionsSpec)

end Rows
end Go.Proofs.Ytjhdjjoacedlpaa
