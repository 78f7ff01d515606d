/-
  No cell of these rows narrows 'for every input' (looked for: loops, veiled, ifaces, maps, wideKeys, modest, calm, conditions, laid).
  DERIVED. THE GIVEN ROWS OF THIS SEAT. 3 by the template 'for every input the law returns true; each argument reads behind the call as it read before'; 0 by the template 'total and deterministic' (their statements: YtjffbecpikfdgaaTotals.lean).
  GIVEN WITH THE SEED: the statements are not yours to turn. If you find one false, say at which input.
  Laid BY PROGRAM, IN A SANDBOX (cutbox-rows.mjs): the forced cells as the released guide's own fill.sh prints them over the translation 5a0b713be02ac340… (all of the seat's roots in one cut). By AI agents, Wed Nov 11 2026. No macro, syntax, notation, axiom, sorry.
-/
import Derived.Test.YtjffbecpikfdgaaChecked
import GoSem.Claim
import GoSem.ClaimJoined
import GoSem.ClaimMapViews
import Derived.JoinedTies
import Derived.KernelRfl
namespace Go.Proofs.Ytjffbecpikfdgaa
/- THE CELL 'sum', in the pinned program and in every row, IS THE sha256 OF THE DUMP (.gsa) THAT YtjffbecpikfdgaaProg.lean LOADS. Nothing in Lean hashes anything: it is a label: what it is worth is what the hold of that sum in a sandbox is worth. -/
noncomputable def Try.pinned : Pinned := { name := "ytjffbecpikfdgaa", sum := "5a0b713be02ac340d561ba59924b22cf163e09d59a3f4713b6d491edcc298c0a", checked := Try.checked }
namespace Rows
def none {H : Type} : Left H := { results := [], args := [] }

/-- 'printworkslaw2.ConditionInks': WHATEVER THE INPUT: true; the input reads as it did. -/
def conditionInksSpec : ChangeSpec := { name := "conditionInks", fn := fun _ => fun
  | [d1, d2, d3, d4] => { results := [.lit (.bool true)], args := [d1, d2, d3, d4] }
  | _ => none }
def conditionInksRow : OpenClaim := { program := "ytjffbecpikfdgaa", sum := "5a0b713be02ac340d561ba59924b22cf163e09d59a3f4713b6d491edcc298c0a", func := "printworks/printworkslaw2.ConditionInks", spec := "conditionInks", apart := false }
def ConditionInksSaid : Prop := conditionInksRow.holds Try.pinned (OpenSpec.ofChange conditionInksSpec)

/-- ITS FALSE NEIGHBOUR: 'it returns false'. Refute it at one input. -/
def conditionInksWrong : ChangeSpec := { name := "conditionInks", fn := fun _ => fun
  | [d1, d2, d3, d4] => { results := [.lit (.bool false)], args := [d1, d2, d3, d4] }
  | _ => none }
def ConditionInksWrongFalsely : Prop := conditionInksRow.holds Try.pinned (OpenSpec.ofChange conditionInksWrong)

/-- 'printworkslaw2.HalftoneDots': WHATEVER THE INPUT: true; the input reads as it did. -/
def halftoneDotsSpec : ChangeSpec := { name := "halftoneDots", fn := fun _ => fun
  | [d1, d2] => { results := [.lit (.bool true)], args := [d1, d2] }
  | _ => none }
def halftoneDotsRow : OpenClaim := { program := "ytjffbecpikfdgaa", sum := "5a0b713be02ac340d561ba59924b22cf163e09d59a3f4713b6d491edcc298c0a", func := "printworks/printworkslaw2.HalftoneDots", spec := "halftoneDots", unfollowed := true, recurses := true, apart := false }
def HalftoneDotsSaid : Prop := halftoneDotsRow.holds Try.pinned (OpenSpec.ofChange halftoneDotsSpec)

/-- ITS FALSE NEIGHBOUR: 'it returns false'. Refute it at one input. -/
def halftoneDotsWrong : ChangeSpec := { name := "halftoneDots", fn := fun _ => fun
  | [d1, d2] => { results := [.lit (.bool false)], args := [d1, d2] }
  | _ => none }
def HalftoneDotsWrongFalsely : Prop := halftoneDotsRow.holds Try.pinned (OpenSpec.ofChange halftoneDotsWrong)

/-- 'printworkstop.TopInkLimit': WHATEVER THE INPUT: true; the input reads as it did. -/
def topInkLimitSpec : ChangeSpec := { name := "topInkLimit", fn := fun _ => fun
  | [d1, d2, d3] => { results := [.lit (.bool true)], args := [d1, d2, d3] }
  | _ => none }
def topInkLimitRow : OpenClaim := { program := "ytjffbecpikfdgaa", sum := "5a0b713be02ac340d561ba59924b22cf163e09d59a3f4713b6d491edcc298c0a", func := "printworks/printworkstop.TopInkLimit", spec := "topInkLimit", unfollowed := true, recurses := true, apart := false }
def TopInkLimitSaid : Prop := topInkLimitRow.holds Try.pinned (OpenSpec.ofChange topInkLimitSpec)

/-- ITS FALSE NEIGHBOUR: 'it returns false'. Refute it at one input. -/
def topInkLimitWrong : ChangeSpec := { name := "topInkLimit", fn := fun _ => fun
  | [d1, d2, d3] => { results := [.lit (.bool false)], args := [d1, d2, d3] }
  | _ => none }
def TopInkLimitWrongFalsely : Prop := topInkLimitRow.holds Try.pinned (OpenSpec.ofChange topInkLimitWrong)

/- THE SECOND FORM. 'bulk': how many values and letters a reading holds, each counted each time it is reached (what is shared counts as often as it is met; a slice's spare places count too). A statement '..UptoSaid' is the law's where the arguments, and the package variables that the reading takes, are together of bulk at most 1048576: NARROWER than '..Said'. Prove '..Said' where nothing that the law and all that it calls make is longer than what came in: it says more and counts as full. Else prove '..UptoSaid'. A law counts once. -/
mutual
def uptoBulk {H : Type} : DataW H → Nat
  | .lit (.string bytes) => bytes.length + 1
  | .lit _ => 1
  | .nil => 1
  | .ptr d => uptoBulk d + 1
  | .slice elems spare => uptoBulkAll elems + uptoBulkAll spare + 1
  | .agg parts => uptoBulkAll parts + 1
  | .iface _ d => uptoBulk d + 1
  | .map entries => uptoBulkEntries entries + 1
  | .held _ => 1
def uptoBulkAll {H : Type} : List (DataW H) → Nat
  | [] => 0
  | d :: r => uptoBulk d + uptoBulkAll r
def uptoBulkEntries {H : Type} : List (Lit × DataW H) → Nat
  | [] => 0
  | x :: r => uptoBulkEntry x + uptoBulkEntries r
def uptoBulkEntry {H : Type} : Lit × DataW H → Nat
  | (.string bytes, d) => bytes.length + uptoBulk d + 1
  | (_, d) => uptoBulk d + 1
 end
def uptoSmall : (H : Type) → List (DataW H) → Bool := fun _ ds => decide (uptoBulkAll ds ≤ 1048576)
def OpenSpec.upto (s : _root_.Go.ChangeSpec) : _root_.Go.OpenSpec := { _root_.Go.OpenSpec.ofChange s with cond := some uptoSmall }

/-- 'printworkslaw2.ConditionInks', WHERE WHAT IT READS IS OF BULK AT MOST 1048576: true; the input reads as it did. -/
def conditionInksUptoRow : OpenClaim := { program := "ytjffbecpikfdgaa", sum := "5a0b713be02ac340d561ba59924b22cf163e09d59a3f4713b6d491edcc298c0a", func := "printworks/printworkslaw2.ConditionInks", spec := "conditionInks", apart := false, narrowed := true }
def ConditionInksUptoSaid : Prop := conditionInksUptoRow.holds Try.pinned (OpenSpec.upto conditionInksSpec)

/-- 'printworkslaw2.HalftoneDots', WHERE WHAT IT READS IS OF BULK AT MOST 1048576: true; the input reads as it did. -/
def halftoneDotsUptoRow : OpenClaim := { program := "ytjffbecpikfdgaa", sum := "5a0b713be02ac340d561ba59924b22cf163e09d59a3f4713b6d491edcc298c0a", func := "printworks/printworkslaw2.HalftoneDots", spec := "halftoneDots", unfollowed := true, recurses := true, apart := false, narrowed := true }
def HalftoneDotsUptoSaid : Prop := halftoneDotsUptoRow.holds Try.pinned (OpenSpec.upto halftoneDotsSpec)

/-- 'printworkstop.TopInkLimit', WHERE WHAT IT READS IS OF BULK AT MOST 1048576: true; the input reads as it did. -/
def topInkLimitUptoRow : OpenClaim := { program := "ytjffbecpikfdgaa", sum := "5a0b713be02ac340d561ba59924b22cf163e09d59a3f4713b6d491edcc298c0a", func := "printworks/printworkstop.TopInkLimit", spec := "topInkLimit", unfollowed := true, recurses := true, apart := false, narrowed := true }
def TopInkLimitUptoSaid : Prop := topInkLimitUptoRow.holds Try.pinned (OpenSpec.upto topInkLimitSpec)

end Rows
end Go.Proofs.Ytjffbecpikfdgaa
