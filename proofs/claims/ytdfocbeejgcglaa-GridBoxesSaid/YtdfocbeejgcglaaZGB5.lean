/- GridBoxes: for every input this law returns true and leaves its arguments as they were. -/
import Derived.Test.YtdfocbeejgcglaaZGB4
import Derived.Test.YtdfocbeejgcglaaRows
import Derived.WalkKit
import Derived.ProofKit
import Derived.SizedLaws
import Derived.BigQuiet
import Derived.Deep.QuietTactic
import Derived.Deep.Slices
import Derived.OpenShut
/- Residual programs of functions (printed by a program out of the code), checked by the kernel, and the contracts that follow. -/
namespace Go.Proofs.Ytdfocbeejgcglaa
open Go Go.RowKit
set_option linter.unusedVariables false
def R_SameInts_l1 (fu : Nat) (a : (List (Int)) × ((List (Int)) × (Unit))) (j0 : (Int) → Option ((Bool) × (Unit))) (v0 : Int) : Option ((Bool) × (Unit)) :=
  bif (decide (v0 < (List.length a.1 : Int))) then
    bif ((decide ((0 : Int) ≤ v0)) && (decide (v0 < (List.length a.1 : Int)))) then
    let v1 : Int := (List.getD a.1 (Int.toNat v0) 0)
    bif ((decide ((0 : Int) ≤ v0)) && (decide (v0 < (List.length a.2.1 : Int)))) then
    let v2 : Int := (List.getD a.2.1 (Int.toNat v0) 0)
    bif (decide (v1 ≠ v2)) then
      some ((false, ()))
    else
    j0 ((IntKind.i64.wrap (v0 + (1 : Int))))
    else none
    else none
  else
  some ((true, ()))
def R_SameInts_r (fu : Nat) (a : (List (Int)) × ((List (Int)) × (Unit))) : Option ((Bool) × (Unit)) :=
  bif (decide ((List.length a.1 : Int) ≠ (List.length a.2.1 : Int))) then
    some ((false, ()))
  else
  loopF (R_SameInts_l1 fu a) fu ((0 : Int))
def R_SameInts_an : An := (.n none .z (.n none (.n none .z (.n none (.n none .z .z) .z)) (.n none (.n none .z (.n none (.n (some ⟨[0, 1, 12], [], [], [.reg 13 (.int .i64)], 0, []⟩) (.n none .z (.n none .z (.n none (.n none (.n none .z (.n none (.dr [] []) (.n none (.n none .z .z) .z))) .z) .z))) .z) .z)) (.n none .z .z))))
noncomputable def R_SameInts_dc : List (Nat × Ctr) := []
def R_SameInts_ctr : Ctr := ⟨(.pair (.list (.int .i64)) (.pair (.list (.int .i64)) .unit)), (.pair .bool .unit), R_SameInts_r, 43⟩
theorem R_SameInts_ok : CtrOk Try.prog 43 R_SameInts_ctr := ctr_ok (l := R_SameInts_dc) (f := 12) (an := R_SameInts_an) trivial fun fu x => by kernel_rfl
def law_none_r (fu : Nat) (a : (Bool) × ((Int) × ((Int) × (Unit)))) : Option ((Bool) × (Unit)) :=
  bif a.1 then
    let v0 : Bool := (decide (a.2.1 = a.2.2.1))
    some ((v0, ()))
  else
  some ((false, ()))
def law_none_an : An := (.n none .z (.n none .z .z))
noncomputable def law_none_dc : List (Nat × Ctr) := []
def law_none_ctr : Ctr := ⟨(.pair .bool (.pair (.int .i64) (.pair (.int .i64) .unit))), (.pair .bool .unit), law_none_r, 21⟩
theorem law_none_ok : CtrOk Try.prog 21 law_none_ctr := ctr_ok (l := law_none_dc) (f := 12) (an := law_none_an) trivial fun fu x => by kernel_rfl
def R_Within_r (fu : Nat) (a : (Int) × ((Int) × ((Int) × (Unit)))) : Option ((Bool) × (Unit)) :=
  bif (decide (a.2.1 ≤ a.1)) then
    let v0 : Bool := (decide (a.1 ≤ a.2.2.1))
    some ((v0, ()))
  else
  some ((false, ()))
def R_Within_an : An := (.n none .z (.n none .z .z))
noncomputable def R_Within_dc : List (Nat × Ctr) := []
def R_Within_ctr : Ctr := ⟨(.pair (.int .i64) (.pair (.int .i64) (.pair (.int .i64) .unit))), (.pair .bool .unit), R_Within_r, 20⟩
theorem R_Within_ok : CtrOk Try.prog 20 R_Within_ctr := ctr_ok (l := R_Within_dc) (f := 12) (an := R_Within_an) trivial fun fu x => by kernel_rfl
def R_TonesErr_l1 (fu : Nat) (a : (List (Int)) × ((Int) × ((Int) × (Unit)))) (j0 : (Int) → Option ((Int) × (Unit))) (v0 : Int) : Option ((Int) × (Unit)) :=
  bif (decide (v0 < (List.length a.1 : Int))) then
    bif ((decide ((0 : Int) ≤ v0)) && (decide (v0 < (List.length a.1 : Int)))) then
    let v1 : Int := (List.getD a.1 (Int.toNat v0) 0)
    bindO (R_Within_r fu ((v1, ((0 : Int), (a.2.2.1, ()))))) fun v2 =>
    bif (!v2.1) then
      some (((3 : Int), ()))
    else
    j0 ((IntKind.i64.wrap (v0 + (1 : Int))))
    else none
  else
  some (((0 : Int), ()))
def R_TonesErr_r (fu : Nat) (a : (List (Int)) × ((Int) × ((Int) × (Unit)))) : Option ((Int) × (Unit)) :=
  bif (decide ((List.length a.1 : Int) ≠ a.2.1)) then
    some (((4 : Int), ()))
  else
  loopF (R_TonesErr_l1 fu a) fu ((0 : Int))
def R_TonesErr_an : An := (.n none .z (.n none (.n none .z (.n none (.n none .z .z) .z)) (.n none (.n none .z (.n none (.n (some ⟨[13, 2, 14], [], [], [.reg 15 (.int .i64)], 0, []⟩) (.n none .z (.n none .z (.n none (.n none (.n none .z (.n none .z (.n none (.n none .z .z) .z))) .z) .z))) .z) .z)) (.n none .z .z))))
noncomputable def R_TonesErr_dc : List (Nat × Ctr) := [(20, R_Within_ctr)]
def R_TonesErr_ctr : Ctr := ⟨(.pair (.list (.int .i64)) (.pair (.int .i64) (.pair (.int .i64) .unit))), (.pair (.int .i64) .unit), R_TonesErr_r, 46⟩
theorem R_TonesErr_ok : CtrOk Try.prog 46 R_TonesErr_ctr := ctr_ok (l := R_TonesErr_dc) (f := 12) (an := R_TonesErr_an) ⟨R_Within_ok, trivial⟩ fun fu x => by kernel_rfl
def grid_nodes_l3 (fu : Nat) (a : (Int) × ((Int) × ((Int) × (Unit)))) (j2 : ((Int) × (Int)) → Option ((Int) × ((Int) × (Unit)))) (v2 : (Int) × (Int)) : Option ((Int) × ((Int) × (Unit))) :=
  bif (decide (v2.2 < a.1)) then
    let v3 : Int := (IntKind.i64.wrap (v2.1 * a.2.2.1))
    j2 ((v3, (IntKind.i64.wrap (v2.2 + (1 : Int)))))
  else
  bif (decide ((32768 : Int) < (IntKind.i64.wrap (v2.1 * a.2.1)))) then
    some (((0 : Int), ((2 : Int), ())))
  else
  let v3 : Int := v2.1
  some ((v3, ((0 : Int), ())))
def grid_nodes_j2 (fu : Nat) (a : (Int) × ((Int) × ((Int) × (Unit)))) (v1 : Bool) : Option ((Int) × ((Int) × (Unit))) :=
  bif v1 then
    loopF (grid_nodes_l3 fu a) fu (((1 : Int), (0 : Int)))
  else
  some (((0 : Int), ((3 : Int), ())))
def grid_nodes_j1 (fu : Nat) (a : (Int) × ((Int) × ((Int) × (Unit)))) (v0 : Bool) : Option ((Int) × ((Int) × (Unit))) :=
  bif v0 then
    some (((0 : Int), ((3 : Int), ())))
  else
  joinF (grid_nodes_j2 fu a) fun j1 =>
  let v2 : Bool := (decide (a.2.2.1 = (2 : Int)))
  bif v2 then
    j1 (v2)
  else
  let v3 : Bool := (decide (a.2.2.1 = (3 : Int)))
  bif v3 then
    j1 (v3)
  else
  let v4 : Bool := (decide (a.2.2.1 = (4 : Int)))
  bif v4 then
    j1 (v4)
  else
  let v5 : Bool := (decide (a.2.2.1 = (5 : Int)))
  bif v5 then
    j1 (v5)
  else
  let v6 : Bool := (decide (a.2.2.1 = (6 : Int)))
  bif v6 then
    j1 (v6)
  else
  let v7 : Bool := (decide (a.2.2.1 = (7 : Int)))
  bif v7 then
    j1 (v7)
  else
  let v8 : Bool := (decide (a.2.2.1 = (9 : Int)))
  j1 (v8)
def grid_nodes_r (fu : Nat) (a : (Int) × ((Int) × ((Int) × (Unit)))) : Option ((Int) × ((Int) × (Unit))) :=
  joinF (grid_nodes_j1 fu a) fun j0 =>
  bif (decide (a.1 < (1 : Int))) then
    j0 (true)
  else
  bif (decide ((4 : Int) < a.1)) then
    j0 (true)
  else
  bif (decide (a.2.1 < (1 : Int))) then
    j0 (true)
  else
  j0 ((decide ((8 : Int) < a.2.1)))
def grid_nodes_an : An := (.n none .z (.n none (.n (some ⟨[2, 1, 0], [], [], [.reg 22 .bool], 0, []⟩) .z (.n none (.n none .z .z) .z)) (.n none (.n none .z (.n none (.n (some ⟨[2, 1, 0], [], [], [.reg 24 .bool], 0, []⟩) (.n none .z (.n none .z (.n none .z (.n none .z (.n none .z (.n none .z (.n none .z (.n none .z (.n none .z (.n none .z (.n none .z (.n none .z .z)))))))))))) (.n none .z (.n none .z .z))) .z)) (.n none .z (.n none (.n none .z (.n none (.n (some ⟨[1, 2, 32], [], [], [.reg 8 (.int .i64), .reg 33 (.int .i64)], 0, []⟩) (.n none .z (.n none .z (.n none (.n none .z .z) .z))) .z) .z)) (.n none (.n none .z (.n none (.n none .z .z) .z)) (.n none .z .z)))))))
noncomputable def grid_nodes_dc : List (Nat × Ctr) := []
def grid_nodes_ctr : Ctr := ⟨(.pair (.int .i64) (.pair (.int .i64) (.pair (.int .i64) .unit))), (.pair (.int .i64) (.pair (.int .i64) .unit)), grid_nodes_r, 88⟩
theorem grid_nodes_ok : CtrOk Try.prog 88 grid_nodes_ctr := ctr_ok (l := grid_nodes_dc) (f := 12) (an := grid_nodes_an) trivial fun fu x => by kernel_rfl
def grid_Check_j2 (fu : Nat) (v3 : Int) (j3 : (Int) → Option ((Int) × (Unit))) (v5 : Bool) : Option ((Int) × (Unit)) :=
  bif v5 then
    some (((3 : Int), ()))
  else
  j3 ((IntKind.i64.wrap (v3 + (1 : Int))))
def grid_Check_l1 (fu : Nat) (a : ((Int) × ((Int) × ((Int) × (List (Int))))) × (Unit)) (j3 : (Int) → Option ((Int) × (Unit))) (v3 : Int) : Option ((Int) × (Unit)) :=
  bif (decide (v3 < (List.length a.1.2.2.2 : Int))) then
    bif ((decide ((0 : Int) ≤ v3)) && (decide (v3 < (List.length a.1.2.2.2 : Int)))) then
    let v4 : Int := (List.getD a.1.2.2.2 (Int.toNat v3) 0)
    joinF (grid_Check_j2 fu v3 j3) fun j5 =>
    bif (decide (v4 < (-32768 : Int))) then
      j5 (true)
    else
    j5 ((decide ((65535 : Int) < v4)))
    else none
  else
  some (((0 : Int), ()))
def grid_Check_r (fu : Nat) (a : ((Int) × ((Int) × ((Int) × (List (Int))))) × (Unit)) : Option ((Int) × (Unit)) :=
  bindO (grid_nodes_r fu ((a.1.1, (a.1.2.1, (a.1.2.2.1, ()))))) fun v0 =>
  let v1 : Int := v0.1
  let v2 : Int := v0.2.1
  bif (decide (v2 ≠ (0 : Int))) then
    some ((v2, ()))
  else
  bif (decide ((List.length a.1.2.2.2 : Int) ≠ (IntKind.i64.wrap (v1 * a.1.2.1)))) then
    some (((4 : Int), ()))
  else
  loopF (grid_Check_l1 fu a) fu ((0 : Int))
def grid_Check_an : An := (.n none .z (.n none .z (.n none (.n none .z (.n none (.n none .z .z) .z)) (.n none (.n none .z (.n none (.n none .z .z) .z)) (.n none (.n none .z (.n none (.n (some ⟨[29, 30], [0], [], [.reg 31 (.int .i64)], 0, []⟩) (.n none .z (.n none .z (.n none (.n none (.n none .z (.n (some ⟨[31], [], [], [.reg 40 .bool], 0, []⟩) .z (.n none (.n none .z .z) .z))) .z) .z))) .z) .z)) (.n none .z .z))))))
noncomputable def grid_Check_dc : List (Nat × Ctr) := [(88, grid_nodes_ctr)]
def grid_Check_ctr : Ctr := ⟨(.pair (.agg (.pair (.int .i64) (.pair (.int .i64) (.pair (.int .i64) (.list (.int .i64)))))) .unit), (.pair (.int .i64) .unit), grid_Check_r, 60⟩
theorem grid_Check_ok : CtrOk Try.prog 60 grid_Check_ctr := ctr_ok (l := grid_Check_dc) (f := 12) (an := grid_Check_an) ⟨grid_nodes_ok, trivial⟩ fun fu x => by kernel_rfl
def R_Power_l1 (fu : Nat) (a : (Int) × ((Int) × (Unit))) (j0 : ((Int) × (Int)) → Option ((Int) × (Unit))) (v0 : (Int) × (Int)) : Option ((Int) × (Unit)) :=
  bif (decide (v0.2 < a.2.1)) then
    let v1 : Int := (IntKind.i64.wrap (v0.1 * a.1))
    j0 ((v1, (IntKind.i64.wrap (v0.2 + (1 : Int)))))
  else
  let v1 : Int := v0.1
  some ((v1, ()))
def R_Power_r (fu : Nat) (a : (Int) × ((Int) × (Unit))) : Option ((Int) × (Unit)) :=
  loopF (R_Power_l1 fu a) fu (((1 : Int), (0 : Int)))
def R_Power_an : An := (.n none .z (.n none .z (.n none (.n none .z (.n none (.n (some ⟨[0, 6, 4], [], [], [.reg 5 (.int .i64), .reg 7 (.int .i64)], 0, []⟩) (.n none .z (.n none .z (.n none (.n none .z .z) .z))) .z) .z)) (.n none .z .z))))
noncomputable def R_Power_dc : List (Nat × Ctr) := []
def R_Power_ctr : Ctr := ⟨(.pair (.int .i64) (.pair (.int .i64) .unit)), (.pair (.int .i64) .unit), R_Power_r, 65⟩
theorem R_Power_ok : CtrOk Try.prog 65 R_Power_ctr := ctr_ok (l := R_Power_dc) (f := 12) (an := R_Power_an) trivial fun fu x => by kernel_rfl
def R_ShapeErr_j1 (fu : Nat) (a : (Int) × ((Int) × ((Int) × (Unit)))) (v0 : Bool) : Option ((Int) × (Unit)) :=
  bif v0 then
    some (((3 : Int), ()))
  else
  bindO (R_Power_r fu ((a.2.2.1, (a.1, ())))) fun v1 =>
  bif (decide ((32768 : Int) < (IntKind.i64.wrap (v1.1 * a.2.1)))) then
    some (((2 : Int), ()))
  else
  some (((0 : Int), ()))
def R_ShapeErr_r (fu : Nat) (a : (Int) × ((Int) × ((Int) × (Unit)))) : Option ((Int) × (Unit)) :=
  joinF (R_ShapeErr_j1 fu a) fun j0 =>
  bindO (R_Within_r fu ((a.1, ((1 : Int), ((4 : Int), ()))))) fun v1 =>
  bif (!v1.1) then
    j0 (true)
  else
  bindO (R_Within_r fu ((a.2.1, ((1 : Int), ((8 : Int), ()))))) fun v2 =>
  bif (!v2.1) then
    j0 (true)
  else
  bindO (R_Within_r fu ((a.2.2.1, ((2 : Int), ((9 : Int), ()))))) fun v3 =>
  bif (!v3.1) then
    j0 (true)
  else
  j0 ((decide (a.2.2.1 = (8 : Int))))
def R_ShapeErr_an : An := (.n none .z (.n none (.n (some ⟨[2, 0, 1], [], [], [.reg 23 .bool], 0, []⟩) .z (.n none (.n none .z .z) .z)) (.n none (.n none .z (.n none (.n none .z .z) .z)) (.n none .z .z))))
noncomputable def R_ShapeErr_dc : List (Nat × Ctr) := [(20, R_Within_ctr), (65, R_Power_ctr)]
def R_ShapeErr_ctr : Ctr := ⟨(.pair (.int .i64) (.pair (.int .i64) (.pair (.int .i64) .unit))), (.pair (.int .i64) .unit), R_ShapeErr_r, 64⟩
theorem R_ShapeErr_ok : CtrOk Try.prog 64 R_ShapeErr_ctr := ctr_ok (l := R_ShapeErr_dc) (f := 12) (an := R_ShapeErr_an) ⟨R_Within_ok, ⟨R_Power_ok, trivial⟩⟩ fun fu x => by kernel_rfl
def R_GridErr_l1 (fu : Nat) (a : ((Int) × ((Int) × ((Int) × (List (Int))))) × (Unit)) (j3 : (Int) → Option ((Int) × (Unit))) (v3 : Int) : Option ((Int) × (Unit)) :=
  bif (decide (v3 < (List.length a.1.2.2.2 : Int))) then
    bif ((decide ((0 : Int) ≤ v3)) && (decide (v3 < (List.length a.1.2.2.2 : Int)))) then
    let v4 : Int := (List.getD a.1.2.2.2 (Int.toNat v3) 0)
    bindO (R_Within_r fu ((v4, ((-32768 : Int), ((65535 : Int), ()))))) fun v5 =>
    bif (!v5.1) then
      some (((3 : Int), ()))
    else
    j3 ((IntKind.i64.wrap (v3 + (1 : Int))))
    else none
  else
  some (((0 : Int), ()))
def R_GridErr_r (fu : Nat) (a : ((Int) × ((Int) × ((Int) × (List (Int))))) × (Unit)) : Option ((Int) × (Unit)) :=
  bindO (R_ShapeErr_r fu ((a.1.1, (a.1.2.1, (a.1.2.2.1, ()))))) fun v0 =>
  let v1 : Int := v0.1
  bif (decide (v1 ≠ (0 : Int))) then
    some ((v1, ()))
  else
  bindO (R_Power_r fu ((a.1.2.2.1, (a.1.1, ())))) fun v2 =>
  bif (decide ((List.length a.1.2.2.2 : Int) ≠ (IntKind.i64.wrap (v2.1 * a.1.2.1)))) then
    some (((4 : Int), ()))
  else
  loopF (R_GridErr_l1 fu a) fu ((0 : Int))
def R_GridErr_an : An := (.n none .z (.n none (.n none .z (.n none .z (.n none (.n none .z .z) .z))) (.n none (.n none (.dr [] []) (.n none (.n none .z .z) .z)) (.n none (.n none .z (.n none (.n (some ⟨[29, 30], [0], [], [.reg 31 (.int .i64)], 0, []⟩) (.n none .z (.n none .z (.n none (.n none (.n none .z (.n none .z (.n none (.n none .z .z) .z))) .z) .z))) .z) .z)) (.n none .z .z)))))
noncomputable def R_GridErr_dc : List (Nat × Ctr) := [(20, R_Within_ctr), (64, R_ShapeErr_ctr), (65, R_Power_ctr)]
def R_GridErr_ctr : Ctr := ⟨(.pair (.agg (.pair (.int .i64) (.pair (.int .i64) (.pair (.int .i64) (.list (.int .i64)))))) .unit), (.pair (.int .i64) .unit), R_GridErr_r, 54⟩
theorem R_GridErr_ok : CtrOk Try.prog 54 R_GridErr_ctr := ctr_ok (l := R_GridErr_dc) (f := 12) (an := R_GridErr_an) ⟨R_Within_ok, ⟨R_ShapeErr_ok, ⟨R_Power_ok, trivial⟩⟩⟩ fun fu x => by kernel_rfl
def curve_Nearest_j1 (fu : Nat) (v3 : Int) : Option ((Int) × (Unit)) :=
  some ((v3, ()))
def curve_Nearest_r (fu : Nat) (a : (Int) × ((Int) × (Unit))) : Option ((Int) × (Unit)) :=
  let v0 : Int := (IntKind.i64.wrap ((IntKind.i64.wrap ((2 : Int) * a.1)) + a.2.1))
  let v1 : Int := (IntKind.i64.wrap ((2 : Int) * a.2.1))
  bif (decide (v1 ≠ (0 : Int))) then
  let v2 : Int := (IntKind.i64.wrap (Int.tdiv v0 v1))
  joinF (curve_Nearest_j1 fu) fun j3 =>
  bif (decide (v1 ≠ (0 : Int))) then
  bif (decide ((Int.tmod v0 v1) < (0 : Int))) then
    let v4 : Int := (IntKind.i64.wrap (v2 - (1 : Int)))
    j3 (v4)
  else
  j3 (v2)
  else none
  else none
def curve_Nearest_an : An := (.n none .z (.n none .z (.n none .z (.n (some ⟨[], [], [], [.reg 5 (.int .i64)], 0, []⟩) (.n none .z (.n none .z .z)) (.n none .z .z)))))
noncomputable def curve_Nearest_dc : List (Nat × Ctr) := []
def curve_Nearest_ctr : Ctr := ⟨(.pair (.int .i64) (.pair (.int .i64) .unit)), (.pair (.int .i64) .unit), curve_Nearest_r, 70⟩
theorem curve_Nearest_ok : CtrOk Try.prog 70 curve_Nearest_ctr := ctr_ok (l := curve_Nearest_dc) (f := 12) (an := curve_Nearest_an) trivial fun fu x => by kernel_rfl
def grid_at_l1 (fu : Nat) (a : ((Int) × ((Int) × ((Int) × (List (Int))))) × ((List (Int)) × (Unit))) (j0 : ((Int) × (Int)) → Option ((Int) × (Unit))) (v0 : (Int) × (Int)) : Option ((Int) × (Unit)) :=
  bif (decide (v0.2 < (List.length a.2.1 : Int))) then
    bif ((decide ((0 : Int) ≤ v0.2)) && (decide (v0.2 < (List.length a.2.1 : Int)))) then
    let v1 : Int := (List.getD a.2.1 (Int.toNat v0.2) 0)
    let v2 : Int := (IntKind.i64.wrap ((IntKind.i64.wrap (v0.1 * a.1.2.2.1)) + v1))
    j0 ((v2, (IntKind.i64.wrap (v0.2 + (1 : Int)))))
    else none
  else
  let v1 : Int := (IntKind.i64.wrap (v0.1 * a.1.2.1))
  some ((v1, ()))
def grid_at_r (fu : Nat) (a : ((Int) × ((Int) × ((Int) × (List (Int))))) × ((List (Int)) × (Unit))) : Option ((Int) × (Unit)) :=
  loopF (grid_at_l1 fu a) fu (((0 : Int), (0 : Int)))
def grid_at_an : An := (.n none .z (.n none .z (.n none (.n none .z (.n none (.n (some ⟨[0, 8, 9, 4], [], [], [.reg 5 (.int .i64), .reg 10 (.int .i64)], 0, []⟩) (.n none .z (.n none .z (.n none (.n none (.n none .z .z) .z) .z))) .z) .z)) (.n none .z .z))))
noncomputable def grid_at_dc : List (Nat × Ctr) := []
def grid_at_ctr : Ctr := ⟨(.pair (.ptr (.pair (.int .i64) (.pair (.int .i64) (.pair (.int .i64) (.list (.int .i64)))))) (.pair (.list (.int .i64)) .unit)), (.pair (.int .i64) .unit), grid_at_r, 85⟩
theorem grid_at_ok : CtrOk Try.prog 85 grid_at_ctr := ctr_ok (l := grid_at_dc) (f := 12) (an := grid_at_an) trivial fun fu x => by kernel_rfl
def grid_Quick_j3 (fu : Nat) (v1 : Int) (v3 : (Int) × ((List (Int)) × ((List (Int)) × (List (Int))))) (v4 : Int) (v5 : Int) (v6 : (Int) × (List (Int))) (j3 : ((Int) × ((List (Int)) × ((List (Int)) × (List (Int))))) → Option ((List (Int)) × (Unit))) (j6 : ((Int) × (List (Int))) → Option ((List (Int)) × (Unit))) (v7 : Bool) : Option ((List (Int)) × (Unit)) :=
  bif v7 then
    bif (((decide ((0 : Int) ≤ (IntKind.i64.wrap (v6.1 - (1 : Int))))) && (decide ((IntKind.i64.wrap (v6.1 - (1 : Int))) < (List.length v6.2 : Int)))) && (decide ((IntKind.i64.wrap (v6.1 - (1 : Int))) < (4 : Int)))) then
    bif (((decide ((0 : Int) ≤ v6.1)) && (decide (v6.1 < (List.length v6.2 : Int)))) && (decide (v6.1 < (4 : Int)))) then
    let v8 : Int := (IntKind.i64.wrap (v6.1 - (1 : Int)))
    j6 ((v8, (List.set v6.2 (Int.toNat v6.1) (List.getD v6.2 (Int.toNat (IntKind.i64.wrap (v6.1 - (1 : Int)))) 0))))
    else none
    else none
  else
  bif (((decide ((0 : Int) ≤ v6.1)) && (decide (v6.1 < (List.length v6.2 : Int)))) && (decide (v6.1 < (4 : Int)))) then
  j3 (((IntKind.i64.wrap (v3.1 + (1 : Int))), ((List.set v3.2.1 (Int.toNat v5) (Int.tmod v4 v1)), ((List.set v3.2.2.1 (Int.toNat v5) (IntKind.i64.wrap (Int.tdiv v4 v1))), (List.set v6.2 (Int.toNat v6.1) v5)))))
  else none
def grid_Quick_l2 (fu : Nat) (v1 : Int) (v3 : (Int) × ((List (Int)) × ((List (Int)) × (List (Int))))) (v4 : Int) (v5 : Int) (j3 : ((Int) × ((List (Int)) × ((List (Int)) × (List (Int))))) → Option ((List (Int)) × (Unit))) (j6 : ((Int) × (List (Int))) → Option ((List (Int)) × (Unit))) (v6 : (Int) × (List (Int))) : Option ((List (Int)) × (Unit)) :=
  joinF (grid_Quick_j3 fu v1 v3 v4 v5 v6 j3 j6) fun j7 =>
  bif (decide ((0 : Int) < v6.1)) then
    bif (((decide ((0 : Int) ≤ (IntKind.i64.wrap (v6.1 - (1 : Int))))) && (decide ((IntKind.i64.wrap (v6.1 - (1 : Int))) < (List.length v6.2 : Int)))) && (decide ((IntKind.i64.wrap (v6.1 - (1 : Int))) < (4 : Int)))) then
    bif (((decide ((0 : Int) ≤ (List.getD v6.2 (Int.toNat (IntKind.i64.wrap (v6.1 - (1 : Int)))) 0))) && (decide ((List.getD v6.2 (Int.toNat (IntKind.i64.wrap (v6.1 - (1 : Int)))) 0) < (List.length (List.set v3.2.1 (Int.toNat v5) (Int.tmod v4 v1)) : Int)))) && (decide ((List.getD v6.2 (Int.toNat (IntKind.i64.wrap (v6.1 - (1 : Int)))) 0) < (4 : Int)))) then
    bif (((decide ((0 : Int) ≤ v5)) && (decide (v5 < (List.length (List.set v3.2.1 (Int.toNat v5) (Int.tmod v4 v1)) : Int)))) && (decide (v5 < (4 : Int)))) then
    j7 ((decide ((List.getD (List.set v3.2.1 (Int.toNat v5) (Int.tmod v4 v1)) (Int.toNat (List.getD v6.2 (Int.toNat (IntKind.i64.wrap (v6.1 - (1 : Int)))) 0)) 0) < (List.getD (List.set v3.2.1 (Int.toNat v5) (Int.tmod v4 v1)) (Int.toNat v5) 0))))
    else none
    else none
    else none
  else
  j7 (false)
def grid_Quick_l5 (fu : Nat) (v0 : Int) (v4 : List (Int)) (j5 : ((Int) × (List (Int))) → Option ((List (Int)) × (Unit))) (v5 : (Int) × (List (Int))) : Option ((List (Int)) × (Unit)) :=
  bif (decide (v5.1 < (List.length v4 : Int))) then
    bif ((decide ((0 : Int) ≤ v5.1)) && (decide (v5.1 < (List.length v5.2 : Int)))) then
    let v6 : Int := v5.1
    let v7 : Int := (List.getD v5.2 (Int.toNat v5.1) 0)
    bindO (curve_Nearest_r fu ((v7, (v0, ())))) fun v8 =>
    bif ((decide ((0 : Int) ≤ v6)) && (decide (v6 < (List.length v5.2 : Int)))) then
    j5 (((IntKind.i64.wrap (v5.1 + (1 : Int))), (List.set v5.2 (Int.toNat v6) v8.1)))
    else none
    else none
  else
  some ((v5.2, ()))
def grid_Quick_j4 (fu : Nat) (v0 : Int) (v4 : List (Int)) : Option ((List (Int)) × (Unit)) :=
  loopF (grid_Quick_l5 fu v0 v4) fu (((0 : Int), v4))
def grid_Quick_j7 (fu : Nat) (j5 : ((Int) × ((Int) × ((List (Int)) × (List (Int))))) → Option ((List (Int)) × (Unit))) (v6 : (Int) × ((Int) × ((List (Int)) × (List (Int))))) : Option ((List (Int)) × (Unit)) :=
  let v7 : Int := (IntKind.i64.wrap (v6.1 + (1 : Int)))
  j5 ((v6.2.1, (v7, (v6.2.2.1, v6.2.2.2))))
def grid_Quick_j9 (fu : Nat) (v2 : Int) (v3 : (Int) × ((List (Int)) × ((List (Int)) × (List (Int))))) (v5 : (Int) × ((Int) × ((List (Int)) × (List (Int))))) (v7 : (Int) × ((Int) × ((List (Int)) × (List (Int))))) (j4 : (List (Int)) → Option ((List (Int)) × (Unit))) (j6 : ((Int) × ((Int) × ((List (Int)) × (List (Int))))) → Option ((List (Int)) × (Unit))) (v8 : (Int) × (List (Int))) : Option ((List (Int)) × (Unit)) :=
  bif (decide (v5.2.1 < v2)) then
    let v9 : Int := v7.1
    bif (decide (v7.1 = (0 : Int))) then
      j4 (v8.2)
    else
    bif (((decide ((0 : Int) ≤ v5.2.1)) && (decide (v5.2.1 < (List.length v3.2.2.2 : Int)))) && (decide (v5.2.1 < (4 : Int)))) then
    bif (((decide ((0 : Int) ≤ (List.getD v3.2.2.2 (Int.toNat v5.2.1) 0))) && (decide ((List.getD v3.2.2.2 (Int.toNat v5.2.1) 0) < (List.length v7.2.2.2 : Int)))) && (decide ((List.getD v3.2.2.2 (Int.toNat v5.2.1) 0) < (4 : Int)))) then
    bif (((decide ((0 : Int) ≤ (List.getD v3.2.2.2 (Int.toNat v5.2.1) 0))) && (decide ((List.getD v3.2.2.2 (Int.toNat v5.2.1) 0) < (List.length v7.2.2.2 : Int)))) && (decide ((List.getD v3.2.2.2 (Int.toNat v5.2.1) 0) < (4 : Int)))) then
    j6 ((v5.2.1, (v9, (v8.2, (List.set v7.2.2.2 (Int.toNat (List.getD v3.2.2.2 (Int.toNat v5.2.1) 0)) (IntKind.i64.wrap ((List.getD v7.2.2.2 (Int.toNat (List.getD v3.2.2.2 (Int.toNat v5.2.1) 0)) 0) + (1 : Int))))))))
    else none
    else none
    else none
  else
  j6 ((v5.2.1, (v8.1, (v8.2, v7.2.2.2))))
def grid_Quick_l10 (fu : Nat) (a : ((Int) × ((Int) × ((Int) × (List (Int))))) × ((List (Int)) × (Unit))) (v7 : (Int) × ((Int) × ((List (Int)) × (List (Int))))) (v9 : Int) (v11 : Int) (j8 : ((Int) × (List (Int))) → Option ((List (Int)) × (Unit))) (j12 : ((Int) × (List (Int))) → Option ((List (Int)) × (Unit))) (v12 : (Int) × (List (Int))) : Option ((List (Int)) × (Unit)) :=
  bif (decide (v12.1 < (List.length v7.2.2.1 : Int))) then
    let v13 : Int := v12.1
    bif ((decide ((0 : Int) ≤ v13)) && (decide (v13 < (List.length v12.2 : Int)))) then
    bif ((decide ((0 : Int) ≤ (IntKind.i64.wrap (v11 + v13)))) && (decide ((IntKind.i64.wrap (v11 + v13)) < (List.length a.1.2.2.2 : Int)))) then
    let v14 : Int := (List.getD a.1.2.2.2 (Int.toNat (IntKind.i64.wrap (v11 + v13))) 0)
    bif ((decide ((0 : Int) ≤ v13)) && (decide (v13 < (List.length v12.2 : Int)))) then
    j12 (((IntKind.i64.wrap (v12.1 + (1 : Int))), (List.set v12.2 (Int.toNat v13) (IntKind.i64.wrap ((List.getD v12.2 (Int.toNat v13) 0) + (IntKind.i64.wrap (v9 * v14)))))))
    else none
    else none
    else none
  else
  j8 ((v7.2.1, v12.2))
def grid_Quick_j8 (fu : Nat) (a : ((Int) × ((Int) × ((Int) × (List (Int))))) × ((List (Int)) × (Unit))) (v2 : Int) (v3 : (Int) × ((List (Int)) × ((List (Int)) × (List (Int))))) (v5 : (Int) × ((Int) × ((List (Int)) × (List (Int))))) (j4 : (List (Int)) → Option ((List (Int)) × (Unit))) (j6 : ((Int) × ((Int) × ((List (Int)) × (List (Int))))) → Option ((List (Int)) × (Unit))) (v7 : (Int) × ((Int) × ((List (Int)) × (List (Int))))) : Option ((List (Int)) × (Unit)) :=
  joinF (grid_Quick_j9 fu v2 v3 v5 v7 j4 j6) fun j8 =>
  let v9 : Int := (IntKind.i64.wrap (v7.2.1 - v7.1))
  bif (decide ((0 : Int) < v9)) then
    bif ((decide ((List.length v7.2.2.2 : Int) = (4 : Int))) && ((decide ((0 : Int) ≤ v2)) && (decide (v2 ≤ (List.length v7.2.2.2 : Int))))) then
    bindO (grid_at_r fu ((a.1, ((List.drop (Int.toNat (0 : Int)) (List.take (Int.toNat v2) v7.2.2.2)), ())))) fun v10 =>
    let v11 : Int := v10.1
    loopF (grid_Quick_l10 fu a v7 v9 v11 j8) fu (((0 : Int), v7.2.2.1))
    else none
  else
  j8 ((v7.2.1, v7.2.2.1))
def grid_Quick_l6 (fu : Nat) (a : ((Int) × ((Int) × ((Int) × (List (Int))))) × ((List (Int)) × (Unit))) (v2 : Int) (v3 : (Int) × ((List (Int)) × ((List (Int)) × (List (Int))))) (j4 : (List (Int)) → Option ((List (Int)) × (Unit))) (j5 : ((Int) × ((Int) × ((List (Int)) × (List (Int))))) → Option ((List (Int)) × (Unit))) (v5 : (Int) × ((Int) × ((List (Int)) × (List (Int))))) : Option ((List (Int)) × (Unit)) :=
  bif (decide (v5.2.1 ≤ v2)) then
    joinF (grid_Quick_j7 fu j5) fun j6 =>
    joinF (grid_Quick_j8 fu a v2 v3 v5 j4 j6) fun j7 =>
    bif (decide (v5.2.1 < v2)) then
      bif (((decide ((0 : Int) ≤ v5.2.1)) && (decide (v5.2.1 < (List.length v3.2.2.2 : Int)))) && (decide (v5.2.1 < (4 : Int)))) then
      bif (((decide ((0 : Int) ≤ (List.getD v3.2.2.2 (Int.toNat v5.2.1) 0))) && (decide ((List.getD v3.2.2.2 (Int.toNat v5.2.1) 0) < (List.length v3.2.1 : Int)))) && (decide ((List.getD v3.2.2.2 (Int.toNat v5.2.1) 0) < (4 : Int)))) then
      let v8 : Int := (List.getD v3.2.1 (Int.toNat (List.getD v3.2.2.2 (Int.toNat v5.2.1) 0)) 0)
      j7 ((v8, (v5.1, (v5.2.2.1, v5.2.2.2))))
      else none
      else none
    else
    j7 (((0 : Int), (v5.1, (v5.2.2.1, v5.2.2.2))))
  else
  j4 (v5.2.2.1)
def grid_Quick_l1 (fu : Nat) (a : ((Int) × ((Int) × ((Int) × (List (Int))))) × ((List (Int)) × (Unit))) (v0 : Int) (v1 : Int) (v2 : Int) (j3 : ((Int) × ((List (Int)) × ((List (Int)) × (List (Int))))) → Option ((List (Int)) × (Unit))) (v3 : (Int) × ((List (Int)) × ((List (Int)) × (List (Int))))) : Option ((List (Int)) × (Unit)) :=
  bif (decide (v3.1 < (List.length a.2.1 : Int))) then
    bif ((decide ((0 : Int) ≤ v3.1)) && (decide (v3.1 < (List.length a.2.1 : Int)))) then
    let v4 : Int := (List.getD a.2.1 (Int.toNat v3.1) 0)
    let v5 : Int := v3.1
    bif (decide (v1 ≠ (0 : Int))) then
    bif (decide (v1 ≠ (0 : Int))) then
    bif (((decide ((0 : Int) ≤ v5)) && (decide (v5 < (List.length v3.2.2.1 : Int)))) && (decide (v5 < (4 : Int)))) then
    bif (((decide ((0 : Int) ≤ v5)) && (decide (v5 < (List.length v3.2.1 : Int)))) && (decide (v5 < (4 : Int)))) then
    loopF (grid_Quick_l2 fu v1 v3 v4 v5 j3) fu ((v5, v3.2.2.2))
    else none
    else none
    else none
    else none
    else none
  else
  bif ((decide ((0 : Int) ≤ a.1.2.1)) && (decide (((8 : Int) * a.1.2.1) ≤ (281474976710656 : Int)))) then
  joinF (grid_Quick_j4 fu v0) fun j4 =>
  loopF (grid_Quick_l6 fu a v2 v3 j4) fu ((v1, ((0 : Int), ((List.replicate (Int.toNat a.1.2.1) (0 : Int)), v3.2.2.1))))
  else none
def grid_Quick_r (fu : Nat) (a : ((Int) × ((Int) × ((Int) × (List (Int))))) × ((List (Int)) × (Unit))) : Option ((List (Int)) × (Unit)) :=
  bif (decide ((IntKind.i64.wrap (a.1.2.2.1 - (1 : Int))) ≠ (0 : Int))) then
  let v0 : Int := (IntKind.i64.wrap (Int.tdiv (65280 : Int) (IntKind.i64.wrap (a.1.2.2.1 - (1 : Int)))))
  bif (decide ((IntKind.i64.wrap (a.1.2.2.1 - (1 : Int))) ≠ (0 : Int))) then
  let v1 : Int := (IntKind.i64.wrap (Int.tdiv (65280 : Int) (IntKind.i64.wrap (a.1.2.2.1 - (1 : Int)))))
  let v2 : Int := a.1.1
  loopF (grid_Quick_l1 fu a v0 v1 v2) fu (((0 : Int), (((0 : Int) :: ((0 : Int) :: ((0 : Int) :: ((0 : Int) :: ([] : List (Int)))))), (((0 : Int) :: ((0 : Int) :: ((0 : Int) :: ((0 : Int) :: ([] : List (Int)))))), ((0 : Int) :: ((0 : Int) :: ((0 : Int) :: ((0 : Int) :: ([] : List (Int))))))))))
  else none
  else none
def grid_Quick_an : An := (.n none .z (.n none .z (.n none (.ops [(2, (.n none (.n none .z (.n none .z (.n none .z (.n none .z (.n none (.n none .z (.n none (.n (some ⟨[8, 6, 9, 0, 7, 5, 30, 31, 4], [], [], [.reg 32 (.int .i64), .row 1 true (.int .i64) 119 0, .row 0 true (.int .i64) 119 0, .row 2 true (.int .i64) 119 0], 0, []⟩) (.n none .z (.n none .z (.n none (.n none (.n none .z (.n none (.dr [] []) (.n none .z (.n none (.n none (.n (some ⟨[32, 10], [0, 1], [], [.reg 12 (.int .i64), .row 2 true (.int .i64) 119 0], 0, []⟩) (.n none (.n (some ⟨[12], [2], [], [.reg 61 .bool], 0, []⟩) (.dr [] []) .z) (.n none (.n none .z .z) .z)) .z) .z) .z)))) .z) .z))) .z) .z)) (.n none .z (.n none .z (.n (some ⟨[13], [1, 2], [], [.row 3 true (.int .i64) 3 0], 0, []⟩) (.n none .z (.n none (.n (some ⟨[7, 0, 9, 6, 8, 4], [], [], [.reg 14 (.int .i64), .reg 15 (.int .i64), .row 3 true (.int .i64) 3 0, .row 0 true (.int .i64) 119 0], 0, []⟩) (.n none (.n none .z .z) (.n (some ⟨[], [], [], [.reg 15 (.int .i64), .reg 14 (.int .i64), .row 3 true (.int .i64) 3 0, .row 0 true (.int .i64) 119 0], 0, []⟩) (.n none (.n none .z (.n (some ⟨[15], [], [], [.reg 16 (.int .i64), .reg 14 (.int .i64), .row 3 true (.int .i64) 3 0, .row 0 true (.int .i64) 119 0], 0, []⟩) (.n none .z (.n none .z .z)) (.n (some ⟨[16], [0], [], [.reg 14 (.int .i64), .row 3 true (.int .i64) 3 0], 0, []⟩) (.n none .z (.n none .z (.n none (.n none .z (.n none .z (.n none (.n (some ⟨[14, 17, 18, 103], [], [], [.reg 104 (.int .i64), .row 3 true (.int .i64) 3 0], 0, []⟩) (.n none .z (.n none .z (.n none (.n none (.n none .z (.dr [] [])) .z) .z))) .z) .z))) .z))) (.n none .z (.n none (.n none .z (.n none (.n none .z .z) .z)) .z))))) .z) .z)) .z) .z)) (.n none .z .z))))))))) .z))]) (.n none (.n none .z (.n none (.n (some ⟨[6, 18, 5, 19, 4], [], [], [.reg 20 (.int .i64), .row 3 true (.int .i64) 3 0], 0, []⟩) (.n none .z (.n none .z (.n none (.n none (.n none .z .z) .z) .z))) .z) .z)) (.n none .z .z)))))
noncomputable def grid_Quick_dc : List (Nat × Ctr) := [(70, curve_Nearest_ctr), (85, grid_at_ctr)]
def grid_Quick_ctr : Ctr := ⟨(.pair (.ptr (.pair (.int .i64) (.pair (.int .i64) (.pair (.int .i64) (.list (.int .i64)))))) (.pair (.list (.int .i64)) .unit)), (.pair (.list (.int .i64)) .unit), grid_Quick_r, 87⟩
theorem grid_Quick_ok : CtrOk Try.prog 87 grid_Quick_ctr := ctr_ok (l := grid_Quick_dc) (f := 12) (an := grid_Quick_an) ⟨curve_Nearest_ok, ⟨grid_at_ok, trivial⟩⟩ fun fu x => by kernel_rfl
def grid_inputs_j2 (fu : Nat) (v0 : Int) (j0 : (Int) → Option ((Int) × (Unit))) (v2 : Bool) : Option ((Int) × (Unit)) :=
  bif v2 then
    some (((3 : Int), ()))
  else
  j0 ((IntKind.i64.wrap (v0 + (1 : Int))))
def grid_inputs_l1 (fu : Nat) (a : ((Int) × ((Int) × ((Int) × (List (Int))))) × ((List (Int)) × (Unit))) (j0 : (Int) → Option ((Int) × (Unit))) (v0 : Int) : Option ((Int) × (Unit)) :=
  bif (decide (v0 < (List.length a.2.1 : Int))) then
    bif ((decide ((0 : Int) ≤ v0)) && (decide (v0 < (List.length a.2.1 : Int)))) then
    let v1 : Int := (List.getD a.2.1 (Int.toNat v0) 0)
    joinF (grid_inputs_j2 fu v0 j0) fun j2 =>
    bif (decide (v1 < (0 : Int))) then
      j2 (true)
    else
    j2 ((decide ((65280 : Int) < v1)))
    else none
  else
  some (((0 : Int), ()))
def grid_inputs_r (fu : Nat) (a : ((Int) × ((Int) × ((Int) × (List (Int))))) × ((List (Int)) × (Unit))) : Option ((Int) × (Unit)) :=
  bif (decide ((List.length a.2.1 : Int) ≠ a.1.1)) then
    some (((4 : Int), ()))
  else
  loopF (grid_inputs_l1 fu a) fu ((0 : Int))
def grid_inputs_an : An := (.n none .z (.n none (.n none .z (.n none (.n none .z .z) .z)) (.n none (.n none .z (.n none (.n (some ⟨[14, 15], [], [], [.reg 16 (.int .i64)], 0, []⟩) (.n none .z (.n none .z (.n none (.n none (.n none .z (.n (some ⟨[16], [], [], [.reg 25 .bool], 0, []⟩) .z (.n none (.n none .z .z) .z))) .z) .z))) .z) .z)) (.n none .z .z))))
noncomputable def grid_inputs_dc : List (Nat × Ctr) := []
def grid_inputs_ctr : Ctr := ⟨(.pair (.ptr (.pair (.int .i64) (.pair (.int .i64) (.pair (.int .i64) (.list (.int .i64)))))) (.pair (.list (.int .i64)) .unit)), (.pair (.int .i64) .unit), grid_inputs_r, 83⟩
theorem grid_inputs_ok : CtrOk Try.prog 83 grid_inputs_ctr := ctr_ok (l := grid_inputs_dc) (f := 12) (an := grid_inputs_an) trivial fun fu x => by kernel_rfl
def grid_At_r (fu : Nat) (a : ((Int) × ((Int) × ((Int) × (List (Int))))) × ((List (Int)) × (Unit))) : Option ((List (Int)) × ((Int) × (Unit))) :=
  bindO (grid_Check_r fu (((a.1.1, (a.1.2.1, (a.1.2.2.1, a.1.2.2.2))), ()))) fun v0 =>
  let v1 : Int := v0.1
  bif (decide (v1 ≠ (0 : Int))) then
    some ((([] : List (Int)), (v1, ())))
  else
  bindO (grid_inputs_r fu (((a.1.1, (a.1.2.1, (a.1.2.2.1, a.1.2.2.2))), (a.2.1, ())))) fun v2 =>
  let v3 : Int := v2.1
  bif (decide (v3 ≠ (0 : Int))) then
    some ((([] : List (Int)), (v3, ())))
  else
  bindO (grid_Quick_r fu (((a.1.1, (a.1.2.1, (a.1.2.2.1, a.1.2.2.2))), (a.2.1, ())))) fun v4 =>
  let v5 : List (Int) := v4.1
  some ((v5, ((0 : Int), ())))
def grid_At_an : An := (.n none .z (.n none (.n none .z (.n none .z (.n none (.n none .z .z) .z))) (.n none (.n none .z (.n none .z (.n none (.n none .z .z) .z))) (.n none .z .z))))
noncomputable def grid_At_dc : List (Nat × Ctr) := [(60, grid_Check_ctr), (83, grid_inputs_ctr), (87, grid_Quick_ctr)]
def grid_At_ctr : Ctr := ⟨(.pair (.agg (.pair (.int .i64) (.pair (.int .i64) (.pair (.int .i64) (.list (.int .i64)))))) (.pair (.list (.int .i64)) .unit)), (.pair (.list (.int .i64)) (.pair (.int .i64) .unit)), grid_At_r, 59⟩
theorem grid_At_ok : CtrOk Try.prog 59 grid_At_ctr := ctr_ok (l := grid_At_dc) (f := 12) (an := grid_At_an) ⟨grid_Check_ok, ⟨grid_inputs_ok, ⟨grid_Quick_ok, trivial⟩⟩⟩ fun fu x => by kernel_rfl
def grid_Hull_j4 (fu : Nat) (j5 : ((Int) × ((List (Int)) × (List (Int)))) → Option ((List (Int)) × ((List (Int)) × (Unit)))) (v6 : (Int) × ((List (Int)) × (List (Int)))) : Option ((List (Int)) × ((List (Int)) × (Unit))) :=
  j5 (((IntKind.i64.wrap (v6.1 + (1 : Int))), (v6.2.1, v6.2.2)))
def grid_Hull_j6 (fu : Nat) (v5 : (Int) × ((List (Int)) × (List (Int)))) (v7 : Int) (v8 : Int) (v9 : List (Int)) (j6 : ((Int) × ((List (Int)) × (List (Int)))) → Option ((List (Int)) × ((List (Int)) × (Unit)))) (v10 : Bool) : Option ((List (Int)) × ((List (Int)) × (Unit))) :=
  bif v10 then
    bif ((decide ((0 : Int) ≤ v7)) && (decide (v7 < (List.length v5.2.1 : Int)))) then
    j6 ((v5.1, ((List.set v5.2.1 (Int.toNat v7) v8), v9)))
    else none
  else
  j6 ((v5.1, (v5.2.1, v9)))
def grid_Hull_j5 (fu : Nat) (v2 : (Bool) × ((List (Int)) × ((List (Int)) × (List (Int))))) (v5 : (Int) × ((List (Int)) × (List (Int)))) (v7 : Int) (v8 : Int) (j6 : ((Int) × ((List (Int)) × (List (Int)))) → Option ((List (Int)) × ((List (Int)) × (Unit)))) (v9 : List (Int)) : Option ((List (Int)) × ((List (Int)) × (Unit))) :=
  joinF (grid_Hull_j6 fu v5 v7 v8 v9 j6) fun j10 =>
  bif v2.1 then
    j10 (true)
  else
  bif ((decide ((0 : Int) ≤ v7)) && (decide (v7 < (List.length v5.2.1 : Int)))) then
  j10 ((decide ((List.getD v5.2.1 (Int.toNat v7) 0) < v8)))
  else none
def grid_Hull_j7 (fu : Nat) (v5 : (Int) × ((List (Int)) × (List (Int)))) (v7 : Int) (v8 : Int) (j9 : (List (Int)) → Option ((List (Int)) × ((List (Int)) × (Unit)))) (v10 : Bool) : Option ((List (Int)) × ((List (Int)) × (Unit))) :=
  bif v10 then
    bif ((decide ((0 : Int) ≤ v7)) && (decide (v7 < (List.length v5.2.2 : Int)))) then
    j9 ((List.set v5.2.2 (Int.toNat v7) v8))
    else none
  else
  j9 (v5.2.2)
def grid_Hull_j9 (fu : Nat) (v1 : (Int) × ((List (Int)) × (List (Int)))) (v5 : (Int) × ((List (Int)) × (List (Int)))) (v7 : (Int) × (List (Int))) (j2 : ((Bool) × ((List (Int)) × ((List (Int)) × (List (Int))))) → Option ((List (Int)) × ((List (Int)) × (Unit)))) (j7 : ((Int) × (List (Int))) → Option ((List (Int)) × ((List (Int)) × (Unit)))) (v8 : Bool) : Option ((List (Int)) × ((List (Int)) × (Unit))) :=
  bif v8 then
    bif (((decide ((0 : Int) ≤ v7.1)) && (decide (v7.1 < (List.length v1.2.1 : Int)))) && (decide (v7.1 < (4 : Int)))) then
    bif (((decide ((0 : Int) ≤ v7.1)) && (decide (v7.1 < (List.length v7.2 : Int)))) && (decide (v7.1 < (4 : Int)))) then
    let v9 : Int := (IntKind.i64.wrap (v7.1 - (1 : Int)))
    j7 ((v9, (List.set v7.2 (Int.toNat v7.1) (List.getD v1.2.1 (Int.toNat v7.1) 0))))
    else none
    else none
  else
  bif (decide (v7.1 < (0 : Int))) then
    some ((v5.2.2, (v5.2.1, ())))
  else
  bif (((decide ((0 : Int) ≤ v7.1)) && (decide (v7.1 < (List.length v7.2 : Int)))) && (decide (v7.1 < (4 : Int)))) then
  bif (((decide ((0 : Int) ≤ v7.1)) && (decide (v7.1 < (List.length v7.2 : Int)))) && (decide (v7.1 < (4 : Int)))) then
  j2 ((false, (v5.2.1, (v5.2.2, (List.set v7.2 (Int.toNat v7.1) (IntKind.i64.wrap ((List.getD v7.2 (Int.toNat v7.1) 0) + (1 : Int))))))))
  else none
  else none
def grid_Hull_l8 (fu : Nat) (v1 : (Int) × ((List (Int)) × (List (Int)))) (v5 : (Int) × ((List (Int)) × (List (Int)))) (j2 : ((Bool) × ((List (Int)) × ((List (Int)) × (List (Int))))) → Option ((List (Int)) × ((List (Int)) × (Unit)))) (j7 : ((Int) × (List (Int))) → Option ((List (Int)) × ((List (Int)) × (Unit)))) (v7 : (Int) × (List (Int))) : Option ((List (Int)) × ((List (Int)) × (Unit))) :=
  joinF (grid_Hull_j9 fu v1 v5 v7 j2 j7) fun j8 =>
  bif (decide ((0 : Int) ≤ v7.1)) then
    bif (((decide ((0 : Int) ≤ v7.1)) && (decide (v7.1 < (List.length v7.2 : Int)))) && (decide (v7.1 < (4 : Int)))) then
    bif (((decide ((0 : Int) ≤ v7.1)) && (decide (v7.1 < (List.length v1.2.2 : Int)))) && (decide (v7.1 < (4 : Int)))) then
    j8 ((decide ((List.getD v7.2 (Int.toNat v7.1) 0) = (List.getD v1.2.2 (Int.toNat v7.1) 0))))
    else none
    else none
  else
  j8 (false)
def grid_Hull_l3 (fu : Nat) (a : ((Int) × ((Int) × ((Int) × (List (Int))))) × ((List (Int)) × ((List (Int)) × (Unit)))) (v1 : (Int) × ((List (Int)) × (List (Int)))) (v2 : (Bool) × ((List (Int)) × ((List (Int)) × (List (Int))))) (v4 : Int) (j2 : ((Bool) × ((List (Int)) × ((List (Int)) × (List (Int))))) → Option ((List (Int)) × ((List (Int)) × (Unit)))) (j5 : ((Int) × ((List (Int)) × (List (Int)))) → Option ((List (Int)) × ((List (Int)) × (Unit)))) (v5 : (Int) × ((List (Int)) × (List (Int)))) : Option ((List (Int)) × ((List (Int)) × (Unit))) :=
  bif (decide (v5.1 < a.1.2.1)) then
    joinF (grid_Hull_j4 fu j5) fun j6 =>
    let v7 : Int := v5.1
    bif ((decide ((0 : Int) ≤ (IntKind.i64.wrap (v4 + v7)))) && (decide ((IntKind.i64.wrap (v4 + v7)) < (List.length a.1.2.2.2 : Int)))) then
    let v8 : Int := (List.getD a.1.2.2.2 (Int.toNat (IntKind.i64.wrap (v4 + v7))) 0)
    joinF (grid_Hull_j5 fu v2 v5 v7 v8 j6) fun j9 =>
    joinF (grid_Hull_j7 fu v5 v7 v8 j9) fun j10 =>
    bif v2.1 then
      j10 (true)
    else
    bif ((decide ((0 : Int) ≤ v7)) && (decide (v7 < (List.length v5.2.2 : Int)))) then
    j10 ((decide (v8 < (List.getD v5.2.2 (Int.toNat v7) 0))))
    else none
    else none
  else
  let v6 : Int := (IntKind.i64.wrap (a.1.1 - (1 : Int)))
  loopF (grid_Hull_l8 fu v1 v5 j2) fu ((v6, v2.2.2.2))
def grid_Hull_l2 (fu : Nat) (a : ((Int) × ((Int) × ((Int) × (List (Int))))) × ((List (Int)) × ((List (Int)) × (Unit)))) (v1 : (Int) × ((List (Int)) × (List (Int)))) (j2 : ((Bool) × ((List (Int)) × ((List (Int)) × (List (Int))))) → Option ((List (Int)) × ((List (Int)) × (Unit)))) (v2 : (Bool) × ((List (Int)) × ((List (Int)) × (List (Int))))) : Option ((List (Int)) × ((List (Int)) × (Unit))) :=
  bif ((decide ((List.length v2.2.2.2 : Int) = (4 : Int))) && ((decide ((0 : Int) ≤ a.1.1)) && (decide (a.1.1 ≤ (List.length v2.2.2.2 : Int))))) then
  bindO (grid_at_r fu ((a.1, ((List.drop (Int.toNat (0 : Int)) (List.take (Int.toNat a.1.1) v2.2.2.2)), ())))) fun v3 =>
  let v4 : Int := v3.1
  loopF (grid_Hull_l3 fu a v1 v2 v4 j2) fu (((0 : Int), (v2.2.1, v2.2.2.1)))
  else none
def grid_Hull_l1 (fu : Nat) (a : ((Int) × ((Int) × ((Int) × (List (Int))))) × ((List (Int)) × ((List (Int)) × (Unit)))) (v0 : Int) (j1 : ((Int) × ((List (Int)) × (List (Int)))) → Option ((List (Int)) × ((List (Int)) × (Unit)))) (v1 : (Int) × ((List (Int)) × (List (Int)))) : Option ((List (Int)) × ((List (Int)) × (Unit))) :=
  bif (decide (v1.1 < (List.length a.2.1 : Int))) then
    let v2 : Int := v1.1
    bif ((decide ((0 : Int) ≤ v2)) && (decide (v2 < (List.length a.2.1 : Int)))) then
    let v3 : Int := (List.getD a.2.1 (Int.toNat v2) 0)
    bif (decide (v0 ≠ (0 : Int))) then
    bif ((decide ((0 : Int) ≤ v2)) && (decide (v2 < (List.length a.2.2.1 : Int)))) then
    let v4 : Int := (List.getD a.2.2.1 (Int.toNat v2) 0)
    bif (decide (v0 ≠ (0 : Int))) then
    bif (((decide ((0 : Int) ≤ v2)) && (decide (v2 < (List.length v1.2.1 : Int)))) && (decide (v2 < (4 : Int)))) then
    bif (((decide ((0 : Int) ≤ v2)) && (decide (v2 < (List.length v1.2.2 : Int)))) && (decide (v2 < (4 : Int)))) then
    j1 (((IntKind.i64.wrap (v1.1 + (1 : Int))), ((List.set v1.2.1 (Int.toNat v2) (IntKind.i64.wrap (Int.tdiv v3 v0))), (List.set v1.2.2 (Int.toNat v2) (IntKind.i64.wrap (Int.tdiv (IntKind.i64.wrap ((IntKind.i64.wrap (v4 + v0)) - (1 : Int))) v0))))))
    else none
    else none
    else none
    else none
    else none
    else none
  else
  bif (decide ((List.length v1.2.1 : Int) = (4 : Int))) then
  bif (decide ((List.length ((0 : Int) :: ((0 : Int) :: ((0 : Int) :: ((0 : Int) :: ([] : List (Int)))))) : Int) = (4 : Int))) then
  bif ((decide ((0 : Int) ≤ a.1.2.1)) && (decide (((8 : Int) * a.1.2.1) ≤ (281474976710656 : Int)))) then
  bif ((decide ((0 : Int) ≤ a.1.2.1)) && (decide (((8 : Int) * a.1.2.1) ≤ (281474976710656 : Int)))) then
  loopF (grid_Hull_l2 fu a v1) fu ((true, ((List.replicate (Int.toNat a.1.2.1) (0 : Int)), ((List.replicate (Int.toNat a.1.2.1) (0 : Int)), ((List.getD v1.2.1 (Int.toNat (0 : Int)) 0) :: ((List.getD v1.2.1 (Int.toNat (1 : Int)) 0) :: ((List.getD v1.2.1 (Int.toNat (2 : Int)) 0) :: ((List.getD v1.2.1 (Int.toNat (3 : Int)) 0) :: ([] : List (Int))))))))))
  else none
  else none
  else none
  else none
def grid_Hull_r (fu : Nat) (a : ((Int) × ((Int) × ((Int) × (List (Int))))) × ((List (Int)) × ((List (Int)) × (Unit)))) : Option ((List (Int)) × ((List (Int)) × (Unit))) :=
  bif (decide ((IntKind.i64.wrap (a.1.2.2.1 - (1 : Int))) ≠ (0 : Int))) then
  let v0 : Int := (IntKind.i64.wrap (Int.tdiv (65280 : Int) (IntKind.i64.wrap (a.1.2.2.1 - (1 : Int)))))
  loopF (grid_Hull_l1 fu a v0) fu (((0 : Int), (((0 : Int) :: ((0 : Int) :: ((0 : Int) :: ((0 : Int) :: ([] : List (Int)))))), ((0 : Int) :: ((0 : Int) :: ((0 : Int) :: ((0 : Int) :: ([] : List (Int)))))))))
  else none
def grid_Hull_an : An := (.n none .z (.n none .z (.n none .z (.n none (.n none .z (.n none (.n (some ⟨[10, 9, 11, 0, 1, 2, 8, 27, 6, 7], [2], [], [.reg 28 (.int .i64), .row 0 true (.int .i64) 119 0, .row 1 true (.int .i64) 119 0], 0, []⟩) (.n none .z (.n none .z (.n none (.n none (.n none .z (.dr [] [])) .z) .z))) .z) .z)) (.n none .z (.n none (.dr [] []) (.n none .z (.n none (.n (some ⟨[0, 11, 13, 14, 9, 10], [0, 1], [], [.reg 15 .bool, .row 4 true (.int .i64) 3 0, .row 3 true (.int .i64) 3 0, .row 2 true (.int .i64) 119 0], 0, []⟩) (.n none (.n none .z (.n none (.n none .z (.n none (.n (some ⟨[16, 15, 72], [2], [], [.reg 73 (.int .i64), .row 4 true (.int .i64) 3 0, .row 3 true (.int .i64) 3 0], 0, []⟩) (.n none .z (.n none .z (.n (some ⟨[], [], [], [.reg 73 (.int .i64), .row 4 true (.int .i64) 3 0, .row 3 true (.int .i64) 3 0], 0, []⟩) (.n none (.n none .z (.n none .z (.n (some ⟨[18, 17, 73], [4], [], [.row 3 true (.int .i64) 3 0], 0, []⟩) (.n (some ⟨[], [3], [], [.reg 93 .bool], 0, []⟩) .z (.n none .z .z)) (.n (some ⟨[], [3], [], [.reg 106 .bool], 0, []⟩) .z (.n none .z .z))))) .z) .z))) .z) .z)) (.n none .z (.n none .z (.n none (.n none (.n (some ⟨[15], [4, 3], [], [.reg 19 (.int .i64), .row 2 true (.int .i64) 119 0], 0, []⟩) (.n none (.n (some ⟨[19], [2], [], [.reg 127 .bool], 0, []⟩) (.dr [] []) .z) (.n none (.n none .z .z) .z)) .z) .z) (.n none (.n none .z (.n none (.n none .z .z) .z)) .z)))))) .z) .z) .z))))))))
noncomputable def grid_Hull_dc : List (Nat × Ctr) := [(85, grid_at_ctr)]
def grid_Hull_ctr : Ctr := ⟨(.pair (.ptr (.pair (.int .i64) (.pair (.int .i64) (.pair (.int .i64) (.list (.int .i64)))))) (.pair (.list (.int .i64)) (.pair (.list (.int .i64)) .unit))), (.pair (.list (.int .i64)) (.pair (.list (.int .i64)) .unit)), grid_Hull_r, 84⟩
theorem grid_Hull_ok : CtrOk Try.prog 84 grid_Hull_ctr := ctr_ok (l := grid_Hull_dc) (f := 12) (an := grid_Hull_an) ⟨grid_at_ok, trivial⟩ fun fu x => by kernel_rfl
def grid_Bounds_l1 (fu : Nat) (a : ((Int) × ((Int) × ((Int) × (List (Int))))) × ((List (Int)) × ((List (Int)) × (Unit)))) (j6 : (Int) → Option ((List (Int)) × ((List (Int)) × ((Int) × (Unit))))) (v6 : Int) : Option ((List (Int)) × ((List (Int)) × ((Int) × (Unit)))) :=
  bif (decide (v6 < (List.length a.2.1 : Int))) then
    bif ((decide ((0 : Int) ≤ v6)) && (decide (v6 < (List.length a.2.1 : Int)))) then
    let v7 : Int := (List.getD a.2.1 (Int.toNat v6) 0)
    bif ((decide ((0 : Int) ≤ v6)) && (decide (v6 < (List.length a.2.2.1 : Int)))) then
    let v8 : Int := (List.getD a.2.2.1 (Int.toNat v6) 0)
    bif (decide (v8 < v7)) then
      some ((([] : List (Int)), (([] : List (Int)), ((18 : Int), ()))))
    else
    j6 ((IntKind.i64.wrap (v6 + (1 : Int))))
    else none
    else none
  else
  bindO (grid_Hull_r fu (((a.1.1, (a.1.2.1, (a.1.2.2.1, a.1.2.2.2))), (a.2.1, (a.2.2.1, ()))))) fun v7 =>
  let v8 : List (Int) := v7.1
  let v9 : List (Int) := v7.2.1
  some ((v8, (v9, ((0 : Int), ()))))
def grid_Bounds_r (fu : Nat) (a : ((Int) × ((Int) × ((Int) × (List (Int))))) × ((List (Int)) × ((List (Int)) × (Unit)))) : Option ((List (Int)) × ((List (Int)) × ((Int) × (Unit)))) :=
  bindO (grid_Check_r fu (((a.1.1, (a.1.2.1, (a.1.2.2.1, a.1.2.2.2))), ()))) fun v0 =>
  let v1 : Int := v0.1
  bif (decide (v1 ≠ (0 : Int))) then
    some ((([] : List (Int)), (([] : List (Int)), (v1, ()))))
  else
  bindO (grid_inputs_r fu (((a.1.1, (a.1.2.1, (a.1.2.2.1, a.1.2.2.2))), (a.2.1, ())))) fun v2 =>
  let v3 : Int := v2.1
  bif (decide (v3 ≠ (0 : Int))) then
    some ((([] : List (Int)), (([] : List (Int)), (v3, ()))))
  else
  bindO (grid_inputs_r fu (((a.1.1, (a.1.2.1, (a.1.2.2.1, a.1.2.2.2))), (a.2.2.1, ())))) fun v4 =>
  let v5 : Int := v4.1
  bif (decide (v5 ≠ (0 : Int))) then
    some ((([] : List (Int)), (([] : List (Int)), (v5, ()))))
  else
  loopF (grid_Bounds_l1 fu a) fu ((0 : Int))
def grid_Bounds_an : An := (.n none .z (.n none (.n none .z (.n none .z (.n none (.n none .z .z) .z))) (.n none (.n none .z (.n none .z (.n none (.n none .z .z) .z))) (.n none (.n none .z (.n none .z (.n none (.n none .z .z) .z))) (.n none (.n none .z (.n none (.n (some ⟨[3, 2, 1, 31], [0], [], [.reg 32 (.int .i64)], 0, []⟩) (.n none .z (.n none .z (.n none (.n none (.n none .z (.n none (.dr [] []) (.n none (.n none .z .z) .z))) .z) .z))) .z) .z)) (.n none .z (.n none .z .z)))))))
noncomputable def grid_Bounds_dc : List (Nat × Ctr) := [(60, grid_Check_ctr), (83, grid_inputs_ctr), (84, grid_Hull_ctr)]
def grid_Bounds_ctr : Ctr := ⟨(.pair (.agg (.pair (.int .i64) (.pair (.int .i64) (.pair (.int .i64) (.list (.int .i64)))))) (.pair (.list (.int .i64)) (.pair (.list (.int .i64)) .unit))), (.pair (.list (.int .i64)) (.pair (.list (.int .i64)) (.pair (.int .i64) .unit))), grid_Bounds_r, 53⟩
theorem grid_Bounds_ok : CtrOk Try.prog 53 grid_Bounds_ctr := ctr_ok (l := grid_Bounds_dc) (f := 12) (an := grid_Bounds_an) ⟨grid_Check_ok, ⟨grid_inputs_ok, ⟨grid_Hull_ok, trivial⟩⟩⟩ fun fu x => by kernel_rfl
def law_square_r (fu : Nat) (a : Unit) : Option (((Int) × ((Int) × ((Int) × (List (Int))))) × (Unit)) :=
  some ((((2 : Int), ((1 : Int), ((2 : Int), ((0 : Int) :: ((10 : Int) :: ((20 : Int) :: ((60 : Int) :: ([] : List (Int))))))))), ()))
def law_square_an : An := (.n none .z (.n none .z .z))
noncomputable def law_square_dc : List (Nat × Ctr) := []
def law_square_ctr : Ctr := ⟨.unit, (.pair (.agg (.pair (.int .i64) (.pair (.int .i64) (.pair (.int .i64) (.list (.int .i64)))))) .unit), law_square_r, 82⟩
theorem law_square_ok : CtrOk Try.prog 82 law_square_ctr := ctr_ok (l := law_square_dc) (f := 12) (an := law_square_an) trivial fun fu x => by kernel_rfl
def grid_Node_j2 (fu : Nat) (v2 : Int) (j2 : (Int) → Option ((List (Int)) × ((Int) × (Unit)))) (v4 : Bool) : Option ((List (Int)) × ((Int) × (Unit))) :=
  bif v4 then
    some ((([] : List (Int)), ((3 : Int), ())))
  else
  j2 ((IntKind.i64.wrap (v2 + (1 : Int))))
def grid_Node_l1 (fu : Nat) (a : ((Int) × ((Int) × ((Int) × (List (Int))))) × ((List (Int)) × (Unit))) (j2 : (Int) → Option ((List (Int)) × ((Int) × (Unit)))) (v2 : Int) : Option ((List (Int)) × ((Int) × (Unit))) :=
  bif (decide (v2 < (List.length a.2.1 : Int))) then
    bif ((decide ((0 : Int) ≤ v2)) && (decide (v2 < (List.length a.2.1 : Int)))) then
    let v3 : Int := (List.getD a.2.1 (Int.toNat v2) 0)
    joinF (grid_Node_j2 fu v2 j2) fun j4 =>
    bif (decide (v3 < (0 : Int))) then
      j4 (true)
    else
    j4 ((decide (a.1.2.2.1 ≤ v3)))
    else none
  else
  bindO (grid_at_r fu (((a.1.1, (a.1.2.1, (a.1.2.2.1, a.1.2.2.2))), (a.2.1, ())))) fun v3 =>
  let v4 : Int := v3.1
  bif ((decide ((0 : Int) ≤ v4)) && ((decide (v4 ≤ (IntKind.i64.wrap (v4 + a.1.2.1)))) && (decide ((IntKind.i64.wrap (v4 + a.1.2.1)) ≤ (List.length a.1.2.2.2 : Int))))) then
  bif (decide (((List.length (List.drop (Int.toNat v4) (List.take (Int.toNat (IntKind.i64.wrap (v4 + a.1.2.1))) a.1.2.2.2)) : Int) * (8 : Int)) ≤ (140737488355328 : Int))) then
  some (((List.drop (Int.toNat v4) (List.take (Int.toNat (IntKind.i64.wrap (v4 + a.1.2.1))) a.1.2.2.2)), ((0 : Int), ())))
  else none
  else none
def grid_Node_r (fu : Nat) (a : ((Int) × ((Int) × ((Int) × (List (Int))))) × ((List (Int)) × (Unit))) : Option ((List (Int)) × ((Int) × (Unit))) :=
  bindO (grid_Check_r fu (((a.1.1, (a.1.2.1, (a.1.2.2.1, a.1.2.2.2))), ()))) fun v0 =>
  let v1 : Int := v0.1
  bif (decide (v1 ≠ (0 : Int))) then
    some ((([] : List (Int)), (v1, ())))
  else
  bif (decide ((List.length a.2.1 : Int) ≠ a.1.1)) then
    some ((([] : List (Int)), ((4 : Int), ())))
  else
  loopF (grid_Node_l1 fu a) fu ((0 : Int))
def grid_Node_an : An := (.n none .z (.n none (.n none .z (.n none .z (.n none (.n none .z .z) .z))) (.n none (.n none .z (.n none (.n none .z .z) .z)) (.n none (.n none .z (.n none (.n (some ⟨[2, 1, 20, 21], [0], [], [.reg 22 (.int .i64)], 0, []⟩) (.n none .z (.n none .z (.n none (.n none (.n none .z (.n (some ⟨[22], [], [], [.reg 33 .bool], 0, []⟩) .z (.n none (.n none .z .z) .z))) .z) .z))) .z) .z)) (.n none .z (.n none .z .z))))))
noncomputable def grid_Node_dc : List (Nat × Ctr) := [(60, grid_Check_ctr), (85, grid_at_ctr)]
def grid_Node_ctr : Ctr := ⟨(.pair (.agg (.pair (.int .i64) (.pair (.int .i64) (.pair (.int .i64) (.list (.int .i64)))))) (.pair (.list (.int .i64)) .unit)), (.pair (.list (.int .i64)) (.pair (.int .i64) .unit)), grid_Node_r, 56⟩
theorem grid_Node_ok : CtrOk Try.prog 56 grid_Node_ctr := ctr_ok (l := grid_Node_dc) (f := 12) (an := grid_Node_an) ⟨grid_Check_ok, ⟨grid_at_ok, trivial⟩⟩ fun fu x => by kernel_rfl
def law_gridWorks_r (fu : Nat) (a : Unit) : Option ((Bool) × (Unit)) :=
  bindO (law_square_r fu (())) fun v0 =>
  bindO (grid_At_r fu (((v0.1.1, (v0.1.2.1, (v0.1.2.2.1, v0.1.2.2.2))), (((48960 : Int) :: ((16320 : Int) :: ([] : List (Int)))), ())))) fun v1 =>
  let v2 : List (Int) := v1.1
  let v3 : Int := v1.2.1
  bindO (law_square_r fu (())) fun v4 =>
  bindO (grid_Node_r fu (((v4.1.1, (v4.1.2.1, (v4.1.2.2.1, v4.1.2.2.2))), (((1 : Int) :: ((0 : Int) :: ([] : List (Int)))), ())))) fun v5 =>
  let v6 : List (Int) := v5.1
  let v7 : Int := v5.2.1
  bindO (law_square_r fu (())) fun v8 =>
  bindO (grid_Bounds_r fu (((v8.1.1, (v8.1.2.1, (v8.1.2.2.1, v8.1.2.2.2))), (((0 : Int) :: ((0 : Int) :: ([] : List (Int)))), (((0 : Int) :: ((65280 : Int) :: ([] : List (Int)))), ()))))) fun v9 =>
  let v10 : List (Int) := v9.1
  let v11 : List (Int) := v9.2.1
  let v12 : Int := v9.2.2.1
  bif (decide (v3 = (0 : Int))) then
    bindO (R_SameInts_r fu ((v2, (((25 : Int) :: ([] : List (Int))), ())))) fun v13 =>
    bif v13.1 then
      bif (decide (v7 = (0 : Int))) then
        bindO (R_SameInts_r fu ((v6, (((20 : Int) :: ([] : List (Int))), ())))) fun v14 =>
        bif v14.1 then
          bif (decide (v12 = (0 : Int))) then
            bindO (R_SameInts_r fu ((v10, (((0 : Int) :: ([] : List (Int))), ())))) fun v15 =>
            bif v15.1 then
              bindO (R_SameInts_r fu ((v11, (((10 : Int) :: ([] : List (Int))), ())))) fun v16 =>
              let v17 : Bool := v16.1
              some ((v17, ()))
            else
            some ((false, ()))
          else
          some ((false, ()))
        else
        some ((false, ()))
      else
      some ((false, ()))
    else
    some ((false, ()))
  else
  some ((false, ()))
def law_gridWorks_an : An := (.n none .z (.n none .z (.n none .z (.n none .z (.n none .z .z)))))
noncomputable def law_gridWorks_dc : List (Nat × Ctr) := [(43, R_SameInts_ctr), (53, grid_Bounds_ctr), (56, grid_Node_ctr), (59, grid_At_ctr), (82, law_square_ctr)]
def law_gridWorks_ctr : Ctr := ⟨.unit, (.pair .bool .unit), law_gridWorks_r, 52⟩
theorem law_gridWorks_ok : CtrOk Try.prog 52 law_gridWorks_ctr := ctr_ok (l := law_gridWorks_dc) (f := 12) (an := law_gridWorks_an) ⟨R_SameInts_ok, ⟨grid_Bounds_ok, ⟨grid_Node_ok, ⟨grid_At_ok, ⟨law_square_ok, trivial⟩⟩⟩⟩⟩ fun fu x => by kernel_rfl
def R_Index_l1 (fu : Nat) (a : ((Int) × ((Int) × ((Int) × (List (Int))))) × ((Int) × (Unit))) (j1 : ((Int) × ((Int) × (List (Int)))) → Option ((List (Int)) × (Unit))) (v1 : (Int) × ((Int) × (List (Int)))) : Option ((List (Int)) × (Unit)) :=
  bif (decide ((0 : Int) ≤ v1.2.1)) then
    bif (decide (a.1.2.2.1 ≠ (0 : Int))) then
    bif ((decide ((0 : Int) ≤ v1.2.1)) && (decide (v1.2.1 < (List.length v1.2.2 : Int)))) then
    bif (decide (a.1.2.2.1 ≠ (0 : Int))) then
    let v2 : Int := (IntKind.i64.wrap (Int.tdiv v1.1 a.1.2.2.1))
    let v3 : Int := (IntKind.i64.wrap (v1.2.1 - (1 : Int)))
    j1 ((v2, (v3, (List.set v1.2.2 (Int.toNat v1.2.1) (Int.tmod v1.1 a.1.2.2.1)))))
    else none
    else none
    else none
  else
  some ((v1.2.2, ()))
def R_Index_r (fu : Nat) (a : ((Int) × ((Int) × ((Int) × (List (Int))))) × ((Int) × (Unit))) : Option ((List (Int)) × (Unit)) :=
  bif ((decide ((0 : Int) ≤ a.1.1)) && (decide (((8 : Int) * a.1.1) ≤ (281474976710656 : Int)))) then
  let v0 : Int := (IntKind.i64.wrap (a.1.1 - (1 : Int)))
  loopF (R_Index_l1 fu a) fu ((a.2.1, (v0, (List.replicate (Int.toNat a.1.1) (0 : Int)))))
  else none
def R_Index_an : An := (.n none .z (.n none .z (.n none (.n none .z (.n none (.n (some ⟨[5, 2, 4], [0], [], [.reg 1 (.int .i64), .reg 6 (.int .i64), .row 1 true (.int .i64) 3 0], 0, []⟩) (.n none (.n none .z .z) (.n none (.n none (.n none .z .z) .z) .z)) .z) .z)) (.n none .z .z))))
noncomputable def R_Index_dc : List (Nat × Ctr) := []
def R_Index_ctr : Ctr := ⟨(.pair (.agg (.pair (.int .i64) (.pair (.int .i64) (.pair (.int .i64) (.list (.int .i64)))))) (.pair (.int .i64) .unit)), (.pair (.list (.int .i64)) .unit), R_Index_r, 55⟩
theorem R_Index_ok : CtrOk Try.prog 55 R_Index_ctr := ctr_ok (l := R_Index_dc) (f := 12) (an := R_Index_an) trivial fun fu x => by kernel_rfl
def law_GridBoxes_j5 (fu : Nat) (j11 : ((Bool) × ((Int) × ((List (Int)) × (List (Int))))) → Option ((Bool) × (Unit))) (v12 : (Int) × ((Bool) × ((List (Int)) × (List (Int))))) : Option ((Bool) × (Unit)) :=
  j11 ((v12.2.1, ((IntKind.i64.wrap (v12.1 + (1 : Int))), (v12.2.2.1, v12.2.2.2))))
def law_GridBoxes_j7 (fu : Nat) (j15 : ((Bool) × (Int)) → Option ((Bool) × (Unit))) (v16 : (Int) × (Bool)) : Option ((Bool) × (Unit)) :=
  j15 ((v16.2, (IntKind.i64.wrap (v16.1 + (1 : Int)))))
def law_GridBoxes_j10 (fu : Nat) (v16 : (Int) × ((List (Int)) × (List (Int)))) (v18 : Int) (j16 : ((Int) × ((List (Int)) × (List (Int)))) → Option ((Bool) × (Unit))) (v19 : (List (Int)) × (List (Int))) : Option ((Bool) × (Unit)) :=
  bif ((decide ((0 : Int) ≤ v16.1)) && (decide (v16.1 < (List.length v19.1 : Int)))) then
  bif ((decide ((0 : Int) ≤ v16.1)) && (decide (v16.1 < (List.length v19.2 : Int)))) then
  bif ((decide ((0 : Int) ≤ v16.1)) && (decide (v16.1 < (List.length v19.1 : Int)))) then
  bif ((decide ((0 : Int) ≤ v16.1)) && (decide (v16.1 < (List.length v19.2 : Int)))) then
  let v20 : Int := (IntKind.i64.wrap (v16.1 + (1 : Int)))
  j16 ((v20, ((List.set v19.1 (Int.toNat v16.1) (min (List.getD v19.1 (Int.toNat v16.1) 0) v18)), (List.set v19.2 (Int.toNat v16.1) (max (List.getD v19.2 (Int.toNat v16.1) 0) v18)))))
  else none
  else none
  else none
  else none
def law_GridBoxes_j9 (fu : Nat) (a : ((Int) × ((Int) × ((Int) × (List (Int))))) × ((List (Int)) × ((List (Int)) × (Unit)))) (v11 : (Bool) × ((Int) × ((List (Int)) × (List (Int))))) (v13 : Int) (v15 : (Bool) × (Int)) (v16 : (Int) × ((List (Int)) × (List (Int)))) (j12 : ((Int) × ((Bool) × ((List (Int)) × (List (Int))))) → Option ((Bool) × (Unit))) (j16 : ((Int) × ((List (Int)) × (List (Int)))) → Option ((Bool) × (Unit))) (v17 : Bool) : Option ((Bool) × (Unit)) :=
  bif v17 then
    bif ((decide ((0 : Int) ≤ (IntKind.i64.wrap ((IntKind.i64.wrap (v13 * a.1.2.1)) + v16.1)))) && (decide ((IntKind.i64.wrap ((IntKind.i64.wrap (v13 * a.1.2.1)) + v16.1)) < (List.length a.1.2.2.2 : Int)))) then
    let v18 : Int := (List.getD a.1.2.2.2 (Int.toNat (IntKind.i64.wrap ((IntKind.i64.wrap (v13 * a.1.2.1)) + v16.1))) 0)
    joinF (law_GridBoxes_j10 fu v16 v18 j16) fun j19 =>
    bif v11.1 then
      bif ((decide ((0 : Int) ≤ v16.1)) && (decide (v16.1 < (List.length v16.2.1 : Int)))) then
      bif ((decide ((0 : Int) ≤ v16.1)) && (decide (v16.1 < (List.length v16.2.2 : Int)))) then
      j19 (((List.set v16.2.1 (Int.toNat v16.1) v18), (List.set v16.2.2 (Int.toNat v16.1) v18)))
      else none
      else none
    else
    j19 ((v16.2.1, v16.2.2))
    else none
  else
  bif v11.1 then
    let v18 : Bool := (!v15.1)
    j12 ((v11.2.1, (v18, (v16.2.1, v16.2.2))))
  else
  j12 ((v11.2.1, (false, (v16.2.1, v16.2.2))))
def law_GridBoxes_l8 (fu : Nat) (a : ((Int) × ((Int) × ((Int) × (List (Int))))) × ((List (Int)) × ((List (Int)) × (Unit)))) (v11 : (Bool) × ((Int) × ((List (Int)) × (List (Int))))) (v13 : Int) (v15 : (Bool) × (Int)) (j12 : ((Int) × ((Bool) × ((List (Int)) × (List (Int))))) → Option ((Bool) × (Unit))) (j16 : ((Int) × ((List (Int)) × (List (Int)))) → Option ((Bool) × (Unit))) (v16 : (Int) × ((List (Int)) × (List (Int)))) : Option ((Bool) × (Unit)) :=
  joinF (law_GridBoxes_j9 fu a v11 v13 v15 v16 j12 j16) fun j17 =>
  bif (decide (v16.1 < a.1.2.1)) then
    j17 (v15.1)
  else
  j17 (false)
def law_GridBoxes_l6 (fu : Nat) (a : ((Int) × ((Int) × ((Int) × (List (Int))))) × ((List (Int)) × ((List (Int)) × (Unit)))) (v10 : Int) (v11 : (Bool) × ((Int) × ((List (Int)) × (List (Int))))) (v13 : Int) (v14 : (List (Int)) × (Unit)) (j12 : ((Int) × ((Bool) × ((List (Int)) × (List (Int))))) → Option ((Bool) × (Unit))) (j15 : ((Bool) × (Int)) → Option ((Bool) × (Unit))) (v15 : (Bool) × (Int)) : Option ((Bool) × (Unit)) :=
  bif (decide (v15.2 < (List.length v14.1 : Int))) then
    joinF (law_GridBoxes_j7 fu j15) fun j16 =>
    bif ((decide ((0 : Int) ≤ v15.2)) && (decide (v15.2 < (List.length v14.1 : Int)))) then
    let v17 : Int := (List.getD v14.1 (Int.toNat v15.2) 0)
    let v18 : Int := v15.2
    bif v15.1 then
      bif ((decide ((0 : Int) ≤ v18)) && (decide (v18 < (List.length a.2.1 : Int)))) then
      let v19 : Int := (List.getD a.2.1 (Int.toNat v18) 0)
      bif (decide ((IntKind.i64.wrap (v19 - v10)) < (IntKind.i64.wrap (v17 * v10)))) then
        bif ((decide ((0 : Int) ≤ v18)) && (decide (v18 < (List.length a.2.2.1 : Int)))) then
        let v20 : Int := (List.getD a.2.2.1 (Int.toNat v18) 0)
        let v21 : Bool := (decide ((IntKind.i64.wrap (v17 * v10)) < (IntKind.i64.wrap (v20 + v10))))
        j16 ((v15.2, v21))
        else none
      else
      j16 ((v15.2, false))
      else none
    else
    j16 ((v15.2, false))
    else none
  else
  loopF (law_GridBoxes_l8 fu a v11 v13 v15 j12) fu (((0 : Int), (v11.2.2.1, v11.2.2.2)))
def law_GridBoxes_l4 (fu : Nat) (a : ((Int) × ((Int) × ((Int) × (List (Int))))) × ((List (Int)) × ((List (Int)) × (Unit)))) (v2 : List (Int)) (v3 : List (Int)) (v4 : Int) (v10 : Int) (j11 : ((Bool) × ((Int) × ((List (Int)) × (List (Int))))) → Option ((Bool) × (Unit))) (v11 : (Bool) × ((Int) × ((List (Int)) × (List (Int))))) : Option ((Bool) × (Unit)) :=
  bif (decide (v11.2.1 < (IntKind.i64.wrap (Int.tdiv (List.length a.1.2.2.2 : Int) a.1.2.1)))) then
    joinF (law_GridBoxes_j5 fu j11) fun j12 =>
    let v13 : Int := v11.2.1
    bindO (R_Index_r fu (((a.1.1, (a.1.2.1, (a.1.2.2.1, a.1.2.2.2))), (v13, ())))) fun v14 =>
    loopF (law_GridBoxes_l6 fu a v10 v11 v13 v14 j12) fu ((true, (0 : Int)))
  else
  bif (decide (v4 = (0 : Int))) then
    bindO (R_SameInts_r fu ((v2, (v11.2.2.1, ())))) fun v12 =>
    bif v12.1 then
      bindO (R_SameInts_r fu ((v3, (v11.2.2.2, ())))) fun v13 =>
      let v14 : Bool := v13.1
      some ((v14, ()))
    else
    some ((false, ()))
  else
  some ((false, ()))
def law_GridBoxes_j3 (fu : Nat) (a : ((Int) × ((Int) × ((Int) × (List (Int))))) × ((List (Int)) × ((List (Int)) × (Unit)))) (v2 : List (Int)) (v3 : List (Int)) (v4 : Int) (v9 : Int) : Option ((Bool) × (Unit)) :=
  bif (decide (v9 ≠ (0 : Int))) then
    bindO (law_none_r fu (((decide ((IntKind.i64.wrap ((List.length v2 : Int) + (List.length v3 : Int))) = (0 : Int))), (v4, (v9, ()))))) fun v10 =>
    let v11 : Bool := v10.1
    some ((v11, ()))
  else
  bif ((decide ((0 : Int) ≤ a.1.2.1)) && (decide (((8 : Int) * a.1.2.1) ≤ (281474976710656 : Int)))) then
  bif ((decide ((0 : Int) ≤ a.1.2.1)) && (decide (((8 : Int) * a.1.2.1) ≤ (281474976710656 : Int)))) then
  bif (decide ((IntKind.i64.wrap (a.1.2.2.1 - (1 : Int))) ≠ (0 : Int))) then
  let v10 : Int := (IntKind.i64.wrap (Int.tdiv (65280 : Int) (IntKind.i64.wrap (a.1.2.2.1 - (1 : Int)))))
  bif (decide (a.1.2.1 ≠ (0 : Int))) then
  loopF (law_GridBoxes_l4 fu a v2 v3 v4 v10) fu ((true, ((0 : Int), ((List.replicate (Int.toNat a.1.2.1) (0 : Int)), (List.replicate (Int.toNat a.1.2.1) (0 : Int))))))
  else none
  else none
  else none
  else none
def law_GridBoxes_j12 (fu : Nat) (j10 : ((Int) × (Int)) → Option ((Bool) × (Unit))) (v11 : (Int) × (Int)) : Option ((Bool) × (Unit)) :=
  j10 ((v11.2, (IntKind.i64.wrap (v11.1 + (1 : Int)))))
def law_GridBoxes_l11 (fu : Nat) (a : ((Int) × ((Int) × ((Int) × (List (Int))))) × ((List (Int)) × ((List (Int)) × (Unit)))) (j9 : (Int) → Option ((Bool) × (Unit))) (j10 : ((Int) × (Int)) → Option ((Bool) × (Unit))) (v10 : (Int) × (Int)) : Option ((Bool) × (Unit)) :=
  bif (decide (v10.2 < (List.length a.2.1 : Int))) then
    joinF (law_GridBoxes_j12 fu j10) fun j11 =>
    let v12 : Int := v10.2
    bif ((decide ((0 : Int) ≤ v12)) && (decide (v12 < (List.length a.2.1 : Int)))) then
    let v13 : Int := (List.getD a.2.1 (Int.toNat v12) 0)
    bif ((decide ((0 : Int) ≤ v12)) && (decide (v12 < (List.length a.2.2.1 : Int)))) then
    let v14 : Int := (List.getD a.2.2.1 (Int.toNat v12) 0)
    bif (decide (v14 < v13)) then
      j11 ((v10.2, (18 : Int)))
    else
    j11 ((v10.2, v10.1))
    else none
    else none
  else
  j9 (v10.1)
def law_GridBoxes_j2 (fu : Nat) (a : ((Int) × ((Int) × ((Int) × (List (Int))))) × ((List (Int)) × ((List (Int)) × (Unit)))) (v2 : List (Int)) (v3 : List (Int)) (v4 : Int) (v8 : Int) : Option ((Bool) × (Unit)) :=
  joinF (law_GridBoxes_j3 fu a v2 v3 v4) fun j9 =>
  bif (decide (v8 = (0 : Int))) then
    loopF (law_GridBoxes_l11 fu a j9) fu ((v8, (0 : Int)))
  else
  j9 (v8)
def law_GridBoxes_j1 (fu : Nat) (a : ((Int) × ((Int) × ((Int) × (List (Int))))) × ((List (Int)) × ((List (Int)) × (Unit)))) (v2 : List (Int)) (v3 : List (Int)) (v4 : Int) (v7 : Int) : Option ((Bool) × (Unit)) :=
  joinF (law_GridBoxes_j2 fu a v2 v3 v4) fun j8 =>
  bif (decide (v7 = (0 : Int))) then
    bindO (R_TonesErr_r fu ((a.2.2.1, (a.1.1, ((65280 : Int), ()))))) fun v9 =>
    let v10 : Int := v9.1
    j8 (v10)
  else
  j8 (v7)
def law_GridBoxes_r (fu : Nat) (a : ((Int) × ((Int) × ((Int) × (List (Int))))) × ((List (Int)) × ((List (Int)) × (Unit)))) : Option ((Bool) × (Unit)) :=
  bindO (law_gridWorks_r fu (())) fun v0 =>
  bif (!v0.1) then
    some ((false, ()))
  else
  bindO (grid_Bounds_r fu (((a.1.1, (a.1.2.1, (a.1.2.2.1, a.1.2.2.2))), (a.2.1, (a.2.2.1, ()))))) fun v1 =>
  let v2 : List (Int) := v1.1
  let v3 : List (Int) := v1.2.1
  let v4 : Int := v1.2.2.1
  bindO (R_GridErr_r fu (((a.1.1, (a.1.2.1, (a.1.2.2.1, a.1.2.2.2))), ()))) fun v5 =>
  let v6 : Int := v5.1
  joinF (law_GridBoxes_j1 fu a v2 v3 v4) fun j7 =>
  bif (decide (v6 = (0 : Int))) then
    bindO (R_TonesErr_r fu ((a.2.1, (a.1.1, ((65280 : Int), ()))))) fun v8 =>
    let v9 : Int := v8.1
    j7 (v9)
  else
  j7 (v6)
def law_GridBoxes_an : An := (.n none .z (.n none (.n none .z (.n none (.n none .z .z) .z)) (.n none .z (.n none .z (.n (some ⟨[8, 7, 9, 3, 1, 2], [0], [], [.reg 10 (.int .i64)], 0, []⟩) (.n none .z (.n none .z .z)) (.n (some ⟨[], [], [], [.reg 10 (.int .i64)], 0, []⟩) (.n none .z (.n none .z .z)) (.n (some ⟨[], [], [], [.reg 10 (.int .i64)], 0, []⟩) (.n none .z (.n none (.n none .z (.n none (.n (some ⟨[49], [], [], [.reg 10 (.int .i64), .reg 50 (.int .i64)], 0, []⟩) (.n none .z (.n none .z (.n (some ⟨[], [], [], [.reg 50 (.int .i64), .reg 10 (.int .i64)], 0, []⟩) (.n none (.n none .z (.n none (.dr [] []) (.n none .z .z))) .z) .z))) .z) .z)) .z)) (.n none (.n none .z (.n none (.n none .z .z) .z)) (.n none (.dr [] []) (.n none (.dr [] []) (.n none (.n none .z (.n none (.n (some ⟨[13, 12, 15, 89], [], [], [.reg 14 .bool, .reg 90 (.int .i64), .row 1 true (.int .i64) 3 0, .row 2 true (.int .i64) 3 0], 0, []⟩) (.n none .z (.n none .z (.n (some ⟨[], [], [], [.reg 90 (.int .i64), .reg 14 .bool, .row 1 true (.int .i64) 3 0, .row 2 true (.int .i64) 3 0], 0, []⟩) (.n none (.n none .z (.n none .z (.n none (.n none .z (.n none (.n (some ⟨[16, 14, 90, 95, 96], [1, 2], [], [.reg 17 .bool, .reg 97 (.int .i64)], 0, []⟩) (.n none .z (.n none .z (.n (some ⟨[], [], [], [.reg 97 (.int .i64), .reg 17 .bool], 0, []⟩) (.n none (.n none .z .z) .z) .z))) .z) .z)) (.n none (.n none .z (.n none (.n (some ⟨[90, 17, 14, 16], [], [], [.reg 20 (.int .i64), .row 1 true (.int .i64) 3 0, .row 2 true (.int .i64) 3 0], 0, []⟩) (.n none (.n (some ⟨[20], [1, 2], [], [.reg 134 .bool], 0, []⟩) .z .z) (.n none (.n none (.n none .z (.n (some ⟨[21, 20], [], [], [.row 1 true (.int .i64) 3 0, .row 2 true (.int .i64) 3 0], 0, []⟩) (.n none .z (.n none .z .z)) (.dr [] []))) .z) .z)) .z) .z)) .z)))) .z) .z))) .z) .z)) (.n none .z .z))))))))))))
noncomputable def law_GridBoxes_dc : List (Nat × Ctr) := [(21, law_none_ctr), (43, R_SameInts_ctr), (46, R_TonesErr_ctr), (52, law_gridWorks_ctr), (53, grid_Bounds_ctr), (54, R_GridErr_ctr), (55, R_Index_ctr)]
def law_GridBoxes_ctr : Ctr := ⟨(.pair (.agg (.pair (.int .i64) (.pair (.int .i64) (.pair (.int .i64) (.list (.int .i64)))))) (.pair (.list (.int .i64)) (.pair (.list (.int .i64)) .unit))), (.pair .bool .unit), law_GridBoxes_r, 10⟩
theorem law_GridBoxes_ok : CtrOk Try.prog 10 law_GridBoxes_ctr := ctr_ok (l := law_GridBoxes_dc) (f := 12) (an := law_GridBoxes_an) ⟨law_none_ok, ⟨R_SameInts_ok, ⟨R_TonesErr_ok, ⟨law_gridWorks_ok, ⟨grid_Bounds_ok, ⟨R_GridErr_ok, ⟨R_Index_ok, trivial⟩⟩⟩⟩⟩⟩⟩ fun fu x => by kernel_rfl
end Go.Proofs.Ytdfocbeejgcglaa
/- Grids: what the checks, the place of a node, Node and Step compute. -/
namespace Go.Proofs.Ytdfocbeejgcglaa
open Go Go.RowKit
set_option linter.unusedSimpArgs false
set_option linter.unusedSectionVars false
set_option linter.unusedVariables false
theorem within_s (fu : Nat) (x lo hi : Int) : R_Within_r fu (x, (lo, (hi, ()))) = some (decide (lo ≤ x ∧ x ≤ hi), ()) := by
  unfold R_Within_r
  by_cases h : lo ≤ x
  · rw [bif_pos h]
    by_cases h' : x ≤ hi
    · rw [decide_eq_true h', decide_eq_true ⟨h, h'⟩]
    · rw [decide_eq_false h', decide_eq_false (by omega)]
  · rw [bif_neg h, decide_eq_false (by omega)]
theorem none_s (fu : Nat) (z : Bool) (g w : Int) : law_none_r fu (z, (g, (w, ()))) = some (z && decide (g = w), ()) := by
  unfold law_none_r
  cases z <;> rfl
/-- a loop through the states st 0, st 1, .. st n -/
theorem stLoop {X β : Type} {f : (X → Option β) → X → Option β} {n fu : Nat} (hn : n < fu) {st : Nat → X} {x0 : X} {fin : Option β} (h0 : st 0 = x0)
    (step : ∀ j (i : Nat), i < n → f j (st i) = j (st (i + 1))) (last : ∀ j, f j (st n) = fin) : loopF f fu x0 = fin := by
  have key := errGen (f := f) (n := n) (st := st) (E := fun _ => 0) (out := fun _ => none) (fin := fin) (fun j i hi _ => by rw [if_pos rfl]; exact step j i hi) (fun _ => last) fu 0 (by omega) (by omega) (by omega)
  rw [if_pos (firstE_all _ _ fun _ _ _ => rfl), h0] at key
  exact key
abbrev GrT := Int × (Int × (Int × List Int))
/-! ### powers -/
theorem pw_bd {s : Int} {i : Nat} (h0 : 0 ≤ s) (h1 : s ≤ 9) (hi : i ≤ 4) : 0 ≤ s ^ i ∧ s ^ i ≤ 6561 := by
  obtain ⟨s, rfl⟩ := Int.eq_ofNat_of_zero_le h0
  have : ∀ s : Nat, s < 10 → ∀ i : Nat, i < 5 → 0 ≤ ((s : Nat) : Int) ^ i ∧ ((s : Nat) : Int) ^ i ≤ 6561 := by decide
  exact this s (by omega) i (by omega)
section
variable {fu : Nat} (hf : 18446744073709551616 ≤ fu)
include hf
theorem power_r {s n : Int} (h0 : 0 ≤ s) (h1 : s ≤ 9) (h2 : 0 ≤ n) (h3 : n ≤ 4) : R_Power_r fu (s, (n, ())) = some (s ^ n.toNat, ()) := by
  obtain ⟨n, rfl⟩ := Int.eq_ofNat_of_zero_le h2
  unfold R_Power_r
  refine stLoop (n := n) (st := fun i => (s ^ i, (i : Int))) (by omega) (by simp) (fun j i hi => ?_) (fun j => ?_)
  · have hb := pw_bd (i := i) h0 h1 (by omega)
    have hb' := pw_bd (i := i + 1) h0 h1 (by omega)
    rw [Int.pow_succ] at hb'
    unfold R_Power_l1
    simp (disch := omega) only [joinF_eq, bindO_some, s_wr, s_td, s_tm, s_pos, s_neg, cond_true, cond_false, Bool.not_true, Bool.not_false, Bool.true_and, Bool.and_true, Bool.false_and, Bool.and_false, bne_self_eq_false, decide_true, decide_false, Int.toNat_natCast]
    rw [Int.pow_succ]
    rfl
  · unfold R_Power_l1
    simp (disch := omega) only [joinF_eq, bindO_some, s_wr, s_td, s_tm, s_pos, s_neg, cond_true, cond_false, Bool.not_true, Bool.not_false, Bool.true_and, Bool.and_true, Bool.false_and, Bool.and_false, bne_self_eq_false, decide_true, decide_false, Int.toNat_natCast]
end
/-! ### the checks -/
def shOk (i o s : Int) : Prop := (1 ≤ i ∧ i ≤ 4) ∧ (1 ≤ o ∧ o ≤ 8) ∧ (2 ≤ s ∧ s ≤ 9) ∧ s ≠ 8
instance (i o s : Int) : Decidable (shOk i o s) := by unfold shOk; infer_instance
def shE (i o s : Int) : Int := if shOk i o s then (if 32768 < s ^ i.toNat * o then 2 else 0) else 3
def vlE (l : List Int) (i : Nat) : Int := if -32768 ≤ l.getD i 0 ∧ l.getD i 0 ≤ 65535 then 0 else 3
def grE (g : GrT) : Int := if shE g.1 g.2.1 g.2.2.1 = 0 then (if (g.2.2.2.length : Int) = g.2.2.1 ^ g.1.toNat * g.2.1 then firstE (vlE g.2.2.2) g.2.2.2.length 0 else 4) else shE g.1 g.2.1 g.2.2.1
def tnE (l : List Int) (m : Int) (i : Nat) : Int := if 0 ≤ l.getD i 0 ∧ l.getD i 0 ≤ m then 0 else 3
def tonesE (l : List Int) (n m : Int) : Int := if (l.length : Int) = n then firstE (tnE l m) l.length 0 else 4
theorem shE3 {i o s : Int} (h : ¬ shOk i o s) : shE i o s = 3 := by unfold shE; rw [if_neg h]
theorem shE2 {i o s : Int} (h : shOk i o s) (h' : 32768 < s ^ i.toNat * o) : shE i o s = 2 := by unfold shE; rw [if_pos h, if_pos h']
theorem shE0 {i o s : Int} (h : shOk i o s) (h' : ¬ 32768 < s ^ i.toNat * o) : shE i o s = 0 := by unfold shE; rw [if_pos h, if_neg h']
theorem sh_bd {i o s : Int} (h : shOk i o s) : 0 ≤ s ^ i.toNat ∧ s ^ i.toNat ≤ 6561 ∧ 0 ≤ s ^ i.toNat * o ∧ s ^ i.toNat * o ≤ 52488 := by
  unfold shOk at h
  obtain ⟨h1, h2⟩ := pw_bd (s := s) (i := i.toNat) (by omega) (by omega) (by omega)
  have h3 := Int.mul_nonneg h1 (show 0 ≤ o by omega)
  have h4 := Int.mul_le_mul h2 (show o ≤ 8 by omega) (by omega) (by omega)
  omega
section
variable {fu : Nat} (hf : 18446744073709551616 ≤ fu) {i o s : Int}
include hf
theorem shapeErr_r : R_ShapeErr_r fu (i, (o, (s, ()))) = some (shE i o s, ()) := by
  unfold R_ShapeErr_r
  have kt : shE i o s = 3 → R_ShapeErr_j1 fu (i, (o, (s, ()))) true = some (shE i o s, ()) := fun h => by unfold R_ShapeErr_j1; rw [h]; rfl
  by_cases c1 : 1 ≤ i ∧ i ≤ 4
  · by_cases c2 : 1 ≤ o ∧ o ≤ 8
    · by_cases c3 : 2 ≤ s ∧ s ≤ 9
      · by_cases c4 : s = 8
        · have e := shE3 (i := i) (o := o) (s := s) (fun h => h.2.2.2 c4)
          simp only [joinF_eq, within_s, bindO_some, decide_eq_true c1, decide_eq_true c2, decide_eq_true c3, decide_eq_true c4, Bool.not_true, cond_false]
          exact kt e
        · have ok : shOk i o s := ⟨c1, c2, c3, c4⟩
          obtain ⟨b1, b2, b3, b4⟩ := sh_bd ok
          simp only [joinF_eq, within_s, bindO_some, decide_eq_true c1, decide_eq_true c2, decide_eq_true c3, decide_eq_false c4, Bool.not_true, cond_false]
          unfold R_ShapeErr_j1
          simp (disch := omega) only [joinF_eq, bindO_some, s_wr, s_td, s_tm, s_pos, s_neg, cond_true, cond_false, Bool.not_true, Bool.not_false, Bool.true_and, Bool.and_true, Bool.false_and, Bool.and_false, bne_self_eq_false, decide_true, decide_false, Int.toNat_natCast, power_r hf]
          by_cases c5 : 32768 < s ^ i.toNat * o
          · rw [shE2 ok c5]; simp (disch := omega) only [joinF_eq, bindO_some, s_wr, s_td, s_tm, s_pos, s_neg, cond_true, cond_false, Bool.not_true, Bool.not_false, Bool.true_and, Bool.and_true, Bool.false_and, Bool.and_false, bne_self_eq_false, decide_true, decide_false, Int.toNat_natCast]
          · rw [shE0 ok c5]; simp (disch := omega) only [joinF_eq, bindO_some, s_wr, s_td, s_tm, s_pos, s_neg, cond_true, cond_false, Bool.not_true, Bool.not_false, Bool.true_and, Bool.and_true, Bool.false_and, Bool.and_false, bne_self_eq_false, decide_true, decide_false, Int.toNat_natCast]
      · have e := shE3 (i := i) (o := o) (s := s) (fun h => c3 h.2.2.1)
        simp only [joinF_eq, within_s, bindO_some, decide_eq_true c1, decide_eq_true c2, decide_eq_false c3, Bool.not_true, Bool.not_false, cond_false, cond_true]
        exact kt e
    · have e := shE3 (i := i) (o := o) (s := s) (fun h => c2 h.2.1)
      simp only [joinF_eq, within_s, bindO_some, decide_eq_true c1, decide_eq_false c2, Bool.not_true, Bool.not_false, cond_false, cond_true]
      exact kt e
  · have e := shE3 (i := i) (o := o) (s := s) (fun h => c1 h.1)
    simp only [joinF_eq, within_s, bindO_some, decide_eq_false c1, Bool.not_false, cond_true]
    exact kt e
theorem nodes_r : grid_nodes_r fu (i, (o, (s, ()))) = some ((if shE i o s = 0 then s ^ i.toNat else 0), (shE i o s, ())) := by
  unfold grid_nodes_r
  have kt : shE i o s = 3 → grid_nodes_j1 fu (i, (o, (s, ()))) true = some ((if shE i o s = 0 then s ^ i.toNat else 0), (shE i o s, ())) := fun h => by unfold grid_nodes_j1; rw [h]; rfl
  by_cases c1 : i < 1
  · simp (disch := omega) only [joinF_eq, bindO_some, s_wr, s_td, s_tm, s_pos, s_neg, cond_true, cond_false, Bool.not_true, Bool.not_false, Bool.true_and, Bool.and_true, Bool.false_and, Bool.and_false, bne_self_eq_false, decide_true, decide_false, Int.toNat_natCast]; exact kt (shE3 fun h => by unfold shOk at h; omega)
  by_cases c2 : 4 < i
  · simp (disch := omega) only [joinF_eq, bindO_some, s_wr, s_td, s_tm, s_pos, s_neg, cond_true, cond_false, Bool.not_true, Bool.not_false, Bool.true_and, Bool.and_true, Bool.false_and, Bool.and_false, bne_self_eq_false, decide_true, decide_false, Int.toNat_natCast]; exact kt (shE3 fun h => by unfold shOk at h; omega)
  by_cases c3 : o < 1
  · simp (disch := omega) only [joinF_eq, bindO_some, s_wr, s_td, s_tm, s_pos, s_neg, cond_true, cond_false, Bool.not_true, Bool.not_false, Bool.true_and, Bool.and_true, Bool.false_and, Bool.and_false, bne_self_eq_false, decide_true, decide_false, Int.toNat_natCast]; exact kt (shE3 fun h => by unfold shOk at h; omega)
  by_cases c4 : 8 < o
  · simp (disch := omega) only [joinF_eq, bindO_some, s_wr, s_td, s_tm, s_pos, s_neg, cond_true, cond_false, Bool.not_true, Bool.not_false, Bool.true_and, Bool.and_true, Bool.false_and, Bool.and_false, bne_self_eq_false, decide_true, decide_false, Int.toNat_natCast]; exact kt (shE3 fun h => by unfold shOk at h; omega)
  simp (disch := omega) only [joinF_eq, bindO_some, s_wr, s_td, s_tm, s_pos, s_neg, cond_true, cond_false, Bool.not_true, Bool.not_false, Bool.true_and, Bool.and_true, Bool.false_and, Bool.and_false, bne_self_eq_false, decide_true, decide_false, Int.toNat_natCast]
  unfold grid_nodes_j1
  simp (disch := omega) only [joinF_eq, bindO_some, s_wr, s_td, s_tm, s_pos, s_neg, cond_true, cond_false, Bool.not_true, Bool.not_false, Bool.true_and, Bool.and_true, Bool.false_and, Bool.and_false, bne_self_eq_false, decide_true, decide_false, Int.toNat_natCast]
  have kf : ∀ b : Bool, (b = true ↔ (2 ≤ s ∧ s ≤ 9) ∧ s ≠ 8) → grid_nodes_j2 fu (i, (o, (s, ()))) b = some ((if shE i o s = 0 then s ^ i.toNat else 0), (shE i o s, ())) := by
    intro b hb
    unfold grid_nodes_j2
    cases b
    · rw [shE3 (fun h => by unfold shOk at h; have := hb.2 h.2.2; cases this)]; rfl
    · have ok : shOk i o s := ⟨by omega, by omega, (hb.1 rfl).1, (hb.1 rfl).2⟩
      obtain ⟨b1, b2, b3, b4⟩ := sh_bd ok
      have ok' := ok
      unfold shOk at ok'
      obtain ⟨n, rfl⟩ := Int.eq_ofNat_of_zero_le (show 0 ≤ i by omega)
      rw [Int.toNat_natCast] at b1 b2 b3 b4
      simp (disch := omega) only [joinF_eq, bindO_some, s_wr, s_td, s_tm, s_pos, s_neg, cond_true, cond_false, Bool.not_true, Bool.not_false, Bool.true_and, Bool.and_true, Bool.false_and, Bool.and_false, bne_self_eq_false, decide_true, decide_false, Int.toNat_natCast]
      refine stLoop (n := n) (st := fun i => (s ^ i, (i : Int))) (by omega) (by simp) (fun j k hk => ?_) (fun j => ?_)
      · have hb := pw_bd (s := s) (i := k) (by omega) (by omega) (by omega)
        have hb' := pw_bd (s := s) (i := k + 1) (by omega) (by omega) (by omega)
        rw [Int.pow_succ] at hb'
        unfold grid_nodes_l3
        simp (disch := omega) only [joinF_eq, bindO_some, s_wr, s_td, s_tm, s_pos, s_neg, cond_true, cond_false, Bool.not_true, Bool.not_false, Bool.true_and, Bool.and_true, Bool.false_and, Bool.and_false, bne_self_eq_false, decide_true, decide_false, Int.toNat_natCast]
        rw [Int.pow_succ]
        rfl
      · unfold grid_nodes_l3
        simp (disch := omega) only [joinF_eq, bindO_some, s_wr, s_td, s_tm, s_pos, s_neg, cond_true, cond_false, Bool.not_true, Bool.not_false, Bool.true_and, Bool.and_true, Bool.false_and, Bool.and_false, bne_self_eq_false, decide_true, decide_false, Int.toNat_natCast]
        by_cases c5 : 32768 < s ^ n * o
        · rw [shE2 ok (by rw [Int.toNat_natCast]; exact c5)]; simp (disch := omega) only [joinF_eq, bindO_some, s_wr, s_td, s_tm, s_pos, s_neg, cond_true, cond_false, Bool.not_true, Bool.not_false, Bool.true_and, Bool.and_true, Bool.false_and, Bool.and_false, bne_self_eq_false, decide_true, decide_false, Int.toNat_natCast]; rfl
        · rw [shE0 ok (by rw [Int.toNat_natCast]; exact c5)]; simp (disch := omega) only [joinF_eq, bindO_some, s_wr, s_td, s_tm, s_pos, s_neg, cond_true, cond_false, Bool.not_true, Bool.not_false, Bool.true_and, Bool.and_true, Bool.false_and, Bool.and_false, bne_self_eq_false, decide_true, decide_false, Int.toNat_natCast]; rfl
  by_cases d2 : s = 2
  · simp (disch := omega) only [joinF_eq, bindO_some, s_wr, s_td, s_tm, s_pos, s_neg, cond_true, cond_false, Bool.not_true, Bool.not_false, Bool.true_and, Bool.and_true, Bool.false_and, Bool.and_false, bne_self_eq_false, decide_true, decide_false, Int.toNat_natCast]; exact kf _ (by simp; omega)
  by_cases d3 : s = 3
  · simp (disch := omega) only [joinF_eq, bindO_some, s_wr, s_td, s_tm, s_pos, s_neg, cond_true, cond_false, Bool.not_true, Bool.not_false, Bool.true_and, Bool.and_true, Bool.false_and, Bool.and_false, bne_self_eq_false, decide_true, decide_false, Int.toNat_natCast]; exact kf _ (by simp; omega)
  by_cases d4 : s = 4
  · simp (disch := omega) only [joinF_eq, bindO_some, s_wr, s_td, s_tm, s_pos, s_neg, cond_true, cond_false, Bool.not_true, Bool.not_false, Bool.true_and, Bool.and_true, Bool.false_and, Bool.and_false, bne_self_eq_false, decide_true, decide_false, Int.toNat_natCast]; exact kf _ (by simp; omega)
  by_cases d5 : s = 5
  · simp (disch := omega) only [joinF_eq, bindO_some, s_wr, s_td, s_tm, s_pos, s_neg, cond_true, cond_false, Bool.not_true, Bool.not_false, Bool.true_and, Bool.and_true, Bool.false_and, Bool.and_false, bne_self_eq_false, decide_true, decide_false, Int.toNat_natCast]; exact kf _ (by simp; omega)
  by_cases d6 : s = 6
  · simp (disch := omega) only [joinF_eq, bindO_some, s_wr, s_td, s_tm, s_pos, s_neg, cond_true, cond_false, Bool.not_true, Bool.not_false, Bool.true_and, Bool.and_true, Bool.false_and, Bool.and_false, bne_self_eq_false, decide_true, decide_false, Int.toNat_natCast]; exact kf _ (by simp; omega)
  by_cases d7 : s = 7
  · simp (disch := omega) only [joinF_eq, bindO_some, s_wr, s_td, s_tm, s_pos, s_neg, cond_true, cond_false, Bool.not_true, Bool.not_false, Bool.true_and, Bool.and_true, Bool.false_and, Bool.and_false, bne_self_eq_false, decide_true, decide_false, Int.toNat_natCast]; exact kf _ (by simp; omega)
  simp (disch := omega) only [joinF_eq, bindO_some, s_wr, s_td, s_tm, s_pos, s_neg, cond_true, cond_false, Bool.not_true, Bool.not_false, Bool.true_and, Bool.and_true, Bool.false_and, Bool.and_false, bne_self_eq_false, decide_true, decide_false, Int.toNat_natCast]
  exact kf _ (by rw [decide_eq_true_eq]; omega)
variable {vs : List Int} (hv : (vs.length : Int) ≤ 9223372036854775807)
include hv
theorem gridErr_r : R_GridErr_r fu ((i, (o, (s, vs))), ()) = some (grE (i, (o, (s, vs))), ()) := by
  unfold R_GridErr_r grE
  simp only [shapeErr_r hf, bindO_some]
  by_cases c : shE i o s = 0
  · have ok : shOk i o s := by
      refine Classical.byContradiction fun h => ?_
      rw [shE3 h] at c; omega
    obtain ⟨b1, b2, b3, b4⟩ := sh_bd ok
    have ok' := ok
    unfold shOk at ok'
    rw [if_pos c]
    simp (disch := omega) only [joinF_eq, bindO_some, s_wr, s_td, s_tm, s_pos, s_neg, cond_true, cond_false, Bool.not_true, Bool.not_false, Bool.true_and, Bool.and_true, Bool.false_and, Bool.and_false, bne_self_eq_false, decide_true, decide_false, Int.toNat_natCast, power_r hf]
    by_cases c2 : (vs.length : Int) = s ^ i.toNat * o
    · rw [if_pos c2]
      simp (disch := omega) only [joinF_eq, bindO_some, s_wr, s_td, s_tm, s_pos, s_neg, cond_true, cond_false, Bool.not_true, Bool.not_false, Bool.true_and, Bool.and_true, Bool.false_and, Bool.and_false, bne_self_eq_false, decide_true, decide_false, Int.toNat_natCast]
      rw [errLoop (n := vs.length) (E := vlE vs) (out := fun e => some (e, ())) (fin := some (0, ())) (by omega)]
      · split
        · rename_i e; rw [e]
        · rfl
      · intro j k hk
        unfold R_GridErr_l1 vlE
        simp (disch := omega) only [joinF_eq, bindO_some, s_wr, s_td, s_tm, s_pos, s_neg, cond_true, cond_false, Bool.not_true, Bool.not_false, Bool.true_and, Bool.and_true, Bool.false_and, Bool.and_false, bne_self_eq_false, decide_true, decide_false, Int.toNat_natCast, within_s]
        by_cases g : -32768 ≤ vs.getD k 0 ∧ vs.getD k 0 ≤ 65535
        · rw [if_pos g, decide_eq_true g]; simp (disch := omega) only [joinF_eq, bindO_some, s_wr, s_td, s_tm, s_pos, s_neg, cond_true, cond_false, Bool.not_true, Bool.not_false, Bool.true_and, Bool.and_true, Bool.false_and, Bool.and_false, bne_self_eq_false, decide_true, decide_false, Int.toNat_natCast]; rfl
        · rw [if_neg g, decide_eq_false g]; simp (disch := omega) only [joinF_eq, bindO_some, s_wr, s_td, s_tm, s_pos, s_neg, cond_true, cond_false, Bool.not_true, Bool.not_false, Bool.true_and, Bool.and_true, Bool.false_and, Bool.and_false, bne_self_eq_false, decide_true, decide_false, Int.toNat_natCast]; rfl
      · intro j
        unfold R_GridErr_l1
        simp (disch := omega) only [joinF_eq, bindO_some, s_wr, s_td, s_tm, s_pos, s_neg, cond_true, cond_false, Bool.not_true, Bool.not_false, Bool.true_and, Bool.and_true, Bool.false_and, Bool.and_false, bne_self_eq_false, decide_true, decide_false, Int.toNat_natCast]
    · rw [if_neg c2]; simp (disch := omega) only [joinF_eq, bindO_some, s_wr, s_td, s_tm, s_pos, s_neg, cond_true, cond_false, Bool.not_true, Bool.not_false, Bool.true_and, Bool.and_true, Bool.false_and, Bool.and_false, bne_self_eq_false, decide_true, decide_false, Int.toNat_natCast]
  · rw [if_neg c]; simp (disch := omega) only [joinF_eq, bindO_some, s_wr, s_td, s_tm, s_pos, s_neg, cond_true, cond_false, Bool.not_true, Bool.not_false, Bool.true_and, Bool.and_true, Bool.false_and, Bool.and_false, bne_self_eq_false, decide_true, decide_false, Int.toNat_natCast]
theorem check_r : grid_Check_r fu ((i, (o, (s, vs))), ()) = some (grE (i, (o, (s, vs))), ()) := by
  unfold grid_Check_r grE
  simp only [nodes_r hf, bindO_some]
  by_cases c : shE i o s = 0
  · have ok : shOk i o s := by
      refine Classical.byContradiction fun h => ?_
      rw [shE3 h] at c; omega
    obtain ⟨b1, b2, b3, b4⟩ := sh_bd ok
    have ok' := ok
    unfold shOk at ok'
    simp only [if_pos c]
    simp (disch := omega) only [joinF_eq, bindO_some, s_wr, s_td, s_tm, s_pos, s_neg, cond_true, cond_false, Bool.not_true, Bool.not_false, Bool.true_and, Bool.and_true, Bool.false_and, Bool.and_false, bne_self_eq_false, decide_true, decide_false, Int.toNat_natCast]
    by_cases c2 : (vs.length : Int) = s ^ i.toNat * o
    · rw [if_pos c2]
      simp (disch := omega) only [joinF_eq, bindO_some, s_wr, s_td, s_tm, s_pos, s_neg, cond_true, cond_false, Bool.not_true, Bool.not_false, Bool.true_and, Bool.and_true, Bool.false_and, Bool.and_false, bne_self_eq_false, decide_true, decide_false, Int.toNat_natCast]
      rw [errLoop (n := vs.length) (E := vlE vs) (out := fun e => some (e, ())) (fin := some (0, ())) (by omega)]
      · split
        · rename_i e; rw [e]
        · rfl
      · intro j k hk
        have t3 : ¬ (-32768 ≤ vs.getD k 0 ∧ vs.getD k 0 ≤ 65535) → vlE vs k = 3 := fun h => by unfold vlE; rw [if_neg h]
        have t0 : (-32768 ≤ vs.getD k 0 ∧ vs.getD k 0 ≤ 65535) → vlE vs k = 0 := fun h => by unfold vlE; rw [if_pos h]
        unfold grid_Check_l1
        simp (disch := omega) only [joinF_eq, bindO_some, s_wr, s_td, s_tm, s_pos, s_neg, cond_true, cond_false, Bool.not_true, Bool.not_false, Bool.true_and, Bool.and_true, Bool.false_and, Bool.and_false, bne_self_eq_false, decide_true, decide_false, Int.toNat_natCast]
        by_cases g : vs.getD k 0 < -32768
        · rw [t3 (by omega)]; simp (disch := omega) only [joinF_eq, bindO_some, s_wr, s_td, s_tm, s_pos, s_neg, cond_true, cond_false, Bool.not_true, Bool.not_false, Bool.true_and, Bool.and_true, Bool.false_and, Bool.and_false, bne_self_eq_false, decide_true, decide_false, Int.toNat_natCast, grid_Check_j2]; rfl
        by_cases g2 : 65535 < vs.getD k 0
        · rw [t3 (by omega)]; simp (disch := omega) only [joinF_eq, bindO_some, s_wr, s_td, s_tm, s_pos, s_neg, cond_true, cond_false, Bool.not_true, Bool.not_false, Bool.true_and, Bool.and_true, Bool.false_and, Bool.and_false, bne_self_eq_false, decide_true, decide_false, Int.toNat_natCast, grid_Check_j2]; rfl
        · rw [t0 (by omega)]; simp (disch := omega) only [joinF_eq, bindO_some, s_wr, s_td, s_tm, s_pos, s_neg, cond_true, cond_false, Bool.not_true, Bool.not_false, Bool.true_and, Bool.and_true, Bool.false_and, Bool.and_false, bne_self_eq_false, decide_true, decide_false, Int.toNat_natCast, grid_Check_j2]; rfl
      · intro j
        unfold grid_Check_l1
        simp (disch := omega) only [joinF_eq, bindO_some, s_wr, s_td, s_tm, s_pos, s_neg, cond_true, cond_false, Bool.not_true, Bool.not_false, Bool.true_and, Bool.and_true, Bool.false_and, Bool.and_false, bne_self_eq_false, decide_true, decide_false, Int.toNat_natCast]
    · rw [if_neg c2]; simp (disch := omega) only [joinF_eq, bindO_some, s_wr, s_td, s_tm, s_pos, s_neg, cond_true, cond_false, Bool.not_true, Bool.not_false, Bool.true_and, Bool.and_true, Bool.false_and, Bool.and_false, bne_self_eq_false, decide_true, decide_false, Int.toNat_natCast]
  · simp only [if_neg c]; simp (disch := omega) only [joinF_eq, bindO_some, s_wr, s_td, s_tm, s_pos, s_neg, cond_true, cond_false, Bool.not_true, Bool.not_false, Bool.true_and, Bool.and_true, Bool.false_and, Bool.and_false, bne_self_eq_false, decide_true, decide_false, Int.toNat_natCast]
end
end Go.Proofs.Ytdfocbeejgcglaa
/- Grids: the place of a node, Node and Step, and the law GridNodes. -/
namespace Go.Proofs.Ytdfocbeejgcglaa
open Go Go.RowKit
set_option linter.unusedSimpArgs false
set_option linter.unusedSectionVars false
set_option linter.unusedVariables false
theorem grE_ok {i o s : Int} {vs : List Int} (h : grE (i, (o, (s, vs))) = 0) : shOk i o s ∧ ¬ 32768 < s ^ i.toNat * o ∧ (vs.length : Int) = s ^ i.toNat * o ∧ ∀ k, k < vs.length → -32768 ≤ vs.getD k 0 ∧ vs.getD k 0 ≤ 65535 := by
  unfold grE at h
  by_cases c : shE i o s = 0
  · simp only [if_pos c] at h
    have ok : shOk i o s := by
      refine Classical.byContradiction fun h => ?_
      rw [shE3 h] at c; omega
    refine ⟨ok, fun h' => by rw [shE2 ok h'] at c; omega, ?_⟩
    by_cases c2 : (vs.length : Int) = s ^ i.toNat * o
    · rw [if_pos c2] at h
      refine ⟨c2, fun k hk => ?_⟩
      have := firstE_ok _ _ h k (by omega) (by omega)
      unfold vlE at this
      split at this
      · assumption
      · omega
    · rw [if_neg c2] at h; omega
  · simp only [if_neg c] at h
    omega
theorem tones_ok {l : List Int} {n m : Int} (h : tonesE l n m = 0) : (l.length : Int) = n ∧ ∀ k, k < l.length → 0 ≤ l.getD k 0 ∧ l.getD k 0 ≤ m := by
  unfold tonesE at h
  split at h
  · rename_i c
    refine ⟨c, fun k hk => ?_⟩
    have := firstE_ok _ _ h k (by omega) (by omega)
    unfold tnE at this
    split at this
    · assumption
    · omega
  · omega
def horN (s : Int) (l : List Int) : Nat → Int
  | 0 => 0
  | i + 1 => horN s l i * s + l.getD i 0
theorem horN_bd {s : Int} (h1 : 1 ≤ s) {l : List Int} : ∀ (n : Nat), (∀ k, k < n → 0 ≤ l.getD k 0 ∧ l.getD k 0 ≤ s - 1) → 0 ≤ horN s l n ∧ horN s l n ≤ s ^ n - 1
  | 0, _ => by simp [horN]
  | n + 1, h => by
    obtain ⟨a, b⟩ := horN_bd h1 n (fun k hk => h k (by omega))
    have c := h n (by omega)
    have d := Int.mul_nonneg a (show 0 ≤ s by omega)
    have e := Int.mul_le_mul_of_nonneg_right b (show 0 ≤ s by omega)
    rw [Int.sub_mul, Int.one_mul] at e
    rw [horN, Int.pow_succ]
    omega
theorem horN_take (s : Int) (l : List Int) (m : Nat) : ∀ (n : Nat), n ≤ m → horN s (l.take m) n = horN s l n
  | 0, _ => rfl
  | n + 1, h => by
    rw [horN, horN, horN_take s l m n (by omega), List.getD_eq_getElem?_getD, List.getD_eq_getElem?_getD, List.getElem?_take_of_lt (by omega)]
section
variable {fu : Nat} (hf : 18446744073709551616 ≤ fu)
include hf
theorem tonesErr_r {l : List Int} (hl : (l.length : Int) ≤ 9223372036854775807) {n m : Int} : R_TonesErr_r fu (l, (n, (m, ()))) = some (tonesE l n m, ()) := by
  unfold R_TonesErr_r tonesE
  by_cases c : (l.length : Int) = n
  · rw [if_pos c]
    simp (disch := omega) only [joinF_eq, bindO_some, s_wr, s_td, s_tm, s_pos, s_neg, cond_true, cond_false, Bool.not_true, Bool.not_false, Bool.true_and, Bool.and_true, Bool.false_and, Bool.and_false, bne_self_eq_false, decide_true, decide_false, Int.toNat_natCast]
    rw [errLoop (n := l.length) (E := tnE l m) (out := fun e => some (e, ())) (fin := some (0, ())) (by omega)]
    · split
      · rename_i e; rw [e]
      · rfl
    · intro j i hi
      unfold R_TonesErr_l1 tnE
      simp (disch := omega) only [joinF_eq, bindO_some, s_wr, s_td, s_tm, s_pos, s_neg, cond_true, cond_false, Bool.not_true, Bool.not_false, Bool.true_and, Bool.and_true, Bool.false_and, Bool.and_false, bne_self_eq_false, decide_true, decide_false, Int.toNat_natCast, within_s]
      by_cases g : 0 ≤ l.getD i 0 ∧ l.getD i 0 ≤ m
      · rw [if_pos g, decide_eq_true g]; simp (disch := omega) only [joinF_eq, bindO_some, s_wr, s_td, s_tm, s_pos, s_neg, cond_true, cond_false, Bool.not_true, Bool.not_false, Bool.true_and, Bool.and_true, Bool.false_and, Bool.and_false, bne_self_eq_false, decide_true, decide_false, Int.toNat_natCast]; rfl
      · rw [if_neg g, decide_eq_false g]; simp (disch := omega) only [joinF_eq, bindO_some, s_wr, s_td, s_tm, s_pos, s_neg, cond_true, cond_false, Bool.not_true, Bool.not_false, Bool.true_and, Bool.and_true, Bool.false_and, Bool.and_false, bne_self_eq_false, decide_true, decide_false, Int.toNat_natCast]; rfl
    · intro j
      unfold R_TonesErr_l1
      simp (disch := omega) only [joinF_eq, bindO_some, s_wr, s_td, s_tm, s_pos, s_neg, cond_true, cond_false, Bool.not_true, Bool.not_false, Bool.true_and, Bool.and_true, Bool.false_and, Bool.and_false, bne_self_eq_false, decide_true, decide_false, Int.toNat_natCast]
  · rw [if_neg c]; simp (disch := omega) only [joinF_eq, bindO_some, s_wr, s_td, s_tm, s_pos, s_neg, cond_true, cond_false, Bool.not_true, Bool.not_false, Bool.true_and, Bool.and_true, Bool.false_and, Bool.and_false, bne_self_eq_false, decide_true, decide_false, Int.toNat_natCast]
theorem inputs_r {i o s : Int} {vs l : List Int} (hl : (l.length : Int) ≤ 9223372036854775807) : grid_inputs_r fu ((i, (o, (s, vs))), (l, ())) = some (tonesE l i 65280, ()) := by
  unfold grid_inputs_r tonesE
  by_cases c : (l.length : Int) = i
  · rw [if_pos c]
    simp (disch := omega) only [joinF_eq, bindO_some, s_wr, s_td, s_tm, s_pos, s_neg, cond_true, cond_false, Bool.not_true, Bool.not_false, Bool.true_and, Bool.and_true, Bool.false_and, Bool.and_false, bne_self_eq_false, decide_true, decide_false, Int.toNat_natCast]
    rw [errLoop (n := l.length) (E := tnE l 65280) (out := fun e => some (e, ())) (fin := some (0, ())) (by omega)]
    · split
      · rename_i e; rw [e]
      · rfl
    · intro j k hk
      have t3 : ¬ (0 ≤ l.getD k 0 ∧ l.getD k 0 ≤ 65280) → tnE l 65280 k = 3 := fun h => by unfold tnE; rw [if_neg h]
      have t0 : (0 ≤ l.getD k 0 ∧ l.getD k 0 ≤ 65280) → tnE l 65280 k = 0 := fun h => by unfold tnE; rw [if_pos h]
      unfold grid_inputs_l1
      simp (disch := omega) only [joinF_eq, bindO_some, s_wr, s_td, s_tm, s_pos, s_neg, cond_true, cond_false, Bool.not_true, Bool.not_false, Bool.true_and, Bool.and_true, Bool.false_and, Bool.and_false, bne_self_eq_false, decide_true, decide_false, Int.toNat_natCast]
      by_cases g : l.getD k 0 < 0
      · rw [t3 (by omega)]; simp (disch := omega) only [joinF_eq, bindO_some, s_wr, s_td, s_tm, s_pos, s_neg, cond_true, cond_false, Bool.not_true, Bool.not_false, Bool.true_and, Bool.and_true, Bool.false_and, Bool.and_false, bne_self_eq_false, decide_true, decide_false, Int.toNat_natCast, grid_inputs_j2]; rfl
      by_cases g2 : 65280 < l.getD k 0
      · rw [t3 (by omega)]; simp (disch := omega) only [joinF_eq, bindO_some, s_wr, s_td, s_tm, s_pos, s_neg, cond_true, cond_false, Bool.not_true, Bool.not_false, Bool.true_and, Bool.and_true, Bool.false_and, Bool.and_false, bne_self_eq_false, decide_true, decide_false, Int.toNat_natCast, grid_inputs_j2]; rfl
      · rw [t0 (by omega)]; simp (disch := omega) only [joinF_eq, bindO_some, s_wr, s_td, s_tm, s_pos, s_neg, cond_true, cond_false, Bool.not_true, Bool.not_false, Bool.true_and, Bool.and_true, Bool.false_and, Bool.and_false, bne_self_eq_false, decide_true, decide_false, Int.toNat_natCast, grid_inputs_j2]; rfl
    · intro j
      unfold grid_inputs_l1
      simp (disch := omega) only [joinF_eq, bindO_some, s_wr, s_td, s_tm, s_pos, s_neg, cond_true, cond_false, Bool.not_true, Bool.not_false, Bool.true_and, Bool.and_true, Bool.false_and, Bool.and_false, bne_self_eq_false, decide_true, decide_false, Int.toNat_natCast]
  · rw [if_neg c]; simp (disch := omega) only [joinF_eq, bindO_some, s_wr, s_td, s_tm, s_pos, s_neg, cond_true, cond_false, Bool.not_true, Bool.not_false, Bool.true_and, Bool.and_true, Bool.false_and, Bool.and_false, bne_self_eq_false, decide_true, decide_false, Int.toNat_natCast]
theorem at_r {i o s : Int} {vs l : List Int} (h1 : 1 ≤ s) (h2 : s ≤ 9) (h3 : 0 ≤ o) (h4 : o ≤ 8) (hl : l.length ≤ 4) (hb : ∀ k, k < l.length → 0 ≤ l.getD k 0 ∧ l.getD k 0 ≤ s - 1) :
    grid_at_r fu ((i, (o, (s, vs))), (l, ())) = some (horN s l l.length * o, ()) := by
  unfold grid_at_r
  have bd : ∀ n, n ≤ l.length → 0 ≤ horN s l n ∧ horN s l n ≤ 6561 := fun n hn => by
    have a := horN_bd h1 n (fun k hk => hb k (by omega))
    have b := pw_bd (s := s) (i := n) (by omega) h2 (by omega)
    omega
  refine stLoop (n := l.length) (st := fun i => (horN s l i, (i : Int))) (by omega) rfl (fun j k hk => ?_) (fun j => ?_)
  · have a := bd k (by omega)
    have b := hb k hk
    have c := Int.mul_nonneg a.1 (show 0 ≤ s by omega)
    have d := Int.mul_le_mul a.2 h2 (show 0 ≤ s by omega) (by omega)
    unfold grid_at_l1
    simp (disch := omega) only [joinF_eq, bindO_some, s_wr, s_td, s_tm, s_pos, s_neg, cond_true, cond_false, Bool.not_true, Bool.not_false, Bool.true_and, Bool.and_true, Bool.false_and, Bool.and_false, bne_self_eq_false, decide_true, decide_false, Int.toNat_natCast]
    rfl
  · have a := bd l.length (by omega)
    have c := Int.mul_nonneg a.1 h3
    have d := Int.mul_le_mul a.2 h4 h3 (by omega)
    unfold grid_at_l1
    simp (disch := omega) only [joinF_eq, bindO_some, s_wr, s_td, s_tm, s_pos, s_neg, cond_true, cond_false, Bool.not_true, Bool.not_false, Bool.true_and, Bool.and_true, Bool.false_and, Bool.and_false, bne_self_eq_false, decide_true, decide_false, Int.toNat_natCast]
theorem sameI_r {l : List Int} (hl : (l.length : Int) ≤ 9223372036854775807) : R_SameInts_r fu (l, (l, ())) = some (true, ()) := by
  unfold R_SameInts_r
  simp (disch := omega) only [joinF_eq, bindO_some, s_wr, s_td, s_tm, s_pos, s_neg, cond_true, cond_false, Bool.not_true, Bool.not_false, Bool.true_and, Bool.and_true, Bool.false_and, Bool.and_false, bne_self_eq_false, decide_true, decide_false, Int.toNat_natCast]
  rw [errLoop (n := l.length) (E := fun _ => 0) (out := fun e => some (true, ())) (fin := some (true, ())) (by omega)]
  · split <;> rfl
  · intro j i hi
    unfold R_SameInts_l1
    simp (disch := omega) only [joinF_eq, bindO_some, s_wr, s_td, s_tm, s_pos, s_neg, cond_true, cond_false, Bool.not_true, Bool.not_false, Bool.true_and, Bool.and_true, Bool.false_and, Bool.and_false, bne_self_eq_false, decide_true, decide_false, Int.toNat_natCast]
    rfl
  · intro j
    unfold R_SameInts_l1
    simp (disch := omega) only [joinF_eq, bindO_some, s_wr, s_td, s_tm, s_pos, s_neg, cond_true, cond_false, Bool.not_true, Bool.not_false, Bool.true_and, Bool.and_true, Bool.false_and, Bool.and_false, bne_self_eq_false, decide_true, decide_false, Int.toNat_natCast]
section
variable {i o s : Int} {vs : List Int} (hv : (vs.length : Int) ≤ 9223372036854775807) {l : List Int} (hl : (l.length : Int) ≤ 9223372036854775807)
include hv
include hl
end
end
end Go.Proofs.Ytdfocbeejgcglaa
/- Grids: the index of a node, and what the law of boxes adds up. -/
namespace Go.Proofs.Ytdfocbeejgcglaa
open Go Go.RowKit
set_option linter.unusedSimpArgs false
set_option linter.unusedSectionVars false
set_option linter.unusedVariables false
theorem pwN_bd {s i : Nat} (h1 : s ≤ 9) (hi : i ≤ 4) : s ^ i ≤ 6561 := by
  have : ∀ s : Nat, s < 10 → ∀ i : Nat, i < 5 → s ^ i ≤ 6561 := by decide
  exact this s (by omega) i (by omega)
theorem index_r {fu : Nat} (hf : 18446744073709551616 ≤ fu) {n s x : Nat} {o : Int} {vs : List Int} (hn1 : 1 ≤ n) (hn : n ≤ 4) (hs : 1 ≤ s) (hs9 : s ≤ 9) (hx : x ≤ 6561) :
    R_Index_r fu (((n : Int), (o, ((s : Int), vs))), ((x : Int), ())) = some (tabL n (fun k => (dg s x (n - 1 - k.toNat) : Int)), ()) := by
  unfold R_Index_r
  simp (disch := omega) only [joinF_eq, bindO_some, s_wr, s_td, s_tm, s_pos, s_neg, cond_true, cond_false, Bool.not_true, Bool.not_false, Bool.true_and, Bool.and_true, Bool.false_and, Bool.and_false, bne_self_eq_false, decide_true, decide_false, Int.toNat_natCast]
  refine stLoop (n := n) (st := fun j => (((x / s ^ j : Nat) : Int), ((n : Int) - 1 - j, tabL n (fun k => if (n : Int) - j ≤ k then (dg s x (n - 1 - k.toNat) : Int) else 0)))) (by omega) ?_ (fun j k hk => ?_) (fun j => ?_)
  · simp only [Nat.pow_zero, Nat.div_one]
    refine Prod.ext rfl (Prod.ext ?_ ?_)
    · show (n : Int) - 1 - ((0 : Nat) : Int) = (n : Int) - 1
      omega
    · show tabL n (fun k : Int => if (n : Int) - ((0 : Nat) : Int) ≤ k then (dg s x (n - 1 - k.toNat) : Int) else 0) = List.replicate n (0 : Int)
      exact tabL_rep fun i h0 h1 => by rw [if_neg (by omega)]
  · have h1 : x / s ^ k ≤ x := Nat.div_le_self _ _
    have e1 : ((x / s ^ k : Nat) : Int) / (s : Int) = ((x / s ^ (k + 1) : Nat) : Int) := by
      rw [Nat.pow_succ, ← Nat.div_div_eq_div_mul]; rfl
    have e2 : ((x / s ^ k : Nat) : Int) % (s : Int) = ((dg s x k : Nat) : Int) := rfl
    have h2 : x / s ^ (k + 1) ≤ x := Nat.div_le_self _ _
    generalize x / s ^ k = X at *
    unfold R_Index_l1
    simp (disch := omega) only [joinF_eq, bindO_some, s_wr, s_td, s_tm, s_pos, s_neg, cond_true, cond_false, Bool.not_true, Bool.not_false, Bool.true_and, Bool.and_true, Bool.false_and, Bool.and_false, bne_self_eq_false, decide_true, decide_false, Int.toNat_natCast, tabL_length]
    rw [e1, e2]
    generalize x / s ^ (k + 1) = Y at *
    simp (disch := omega) only [joinF_eq, bindO_some, s_wr, s_td, s_tm, s_pos, s_neg, cond_true, cond_false, Bool.not_true, Bool.not_false, Bool.true_and, Bool.and_true, Bool.false_and, Bool.and_false, bne_self_eq_false, decide_true, decide_false, Int.toNat_natCast]
    refine congrArg j (Prod.ext rfl (Prod.ext ?_ ?_))
    · show (n : Int) - 1 - k - 1 = (n : Int) - 1 - ((k + 1 : Nat) : Int)
      omega
    · dsimp only
      refine tabL_set (k := (n : Int) - 1 - k) (by omega) ?_ fun i h0 h1 h2 => ?_
      · show (if (n : Int) - ((k + 1 : Nat) : Int) ≤ (n : Int) - 1 - k then _ else _) = _
        rw [if_pos (by omega), show n - 1 - ((n : Int) - 1 - k).toNat = k by omega]
      · show (if (n : Int) - k ≤ i then _ else _) = (if (n : Int) - ((k + 1 : Nat) : Int) ≤ i then _ else _)
        by_cases c : (n : Int) - k ≤ i
        · rw [if_pos c, if_pos (by omega)]
        · rw [if_neg c, if_neg (by omega)]
  · unfold R_Index_l1
    simp (disch := omega) only [joinF_eq, bindO_some, s_wr, s_td, s_tm, s_pos, s_neg, cond_true, cond_false, Bool.not_true, Bool.not_false, Bool.true_and, Bool.and_true, Bool.false_and, Bool.and_false, bne_self_eq_false, decide_true, decide_false, Int.toNat_natCast]
    refine congrArg (fun z => some (z, ())) (tabL_congr fun i h0 h1 => ?_)
    rw [if_pos (by omega)]
/-- a valid grid and a valid box -/
structure BxOk (n o s : Nat) (vs lo hi : List Int) (t : Int) : Prop where
  n1 : 1 ≤ n
  n4 : n ≤ 4
  o1 : 1 ≤ o
  o8 : o ≤ 8
  s2 : 2 ≤ s
  s9 : s ≤ 9
  sz : s ^ n * o ≤ 32768
  hv : vs.length = s ^ n * o
  hl : lo.length = n
  hh : hi.length = n
  bl : ∀ k, k < n → 0 ≤ lo.getD k 0 ∧ lo.getD k 0 ≤ 65280
  bh : ∀ k, k < n → 0 ≤ hi.getD k 0 ∧ hi.getD k 0 ≤ 65280
  le : ∀ k, k < n → lo.getD k 0 ≤ hi.getD k 0
  t1 : 8160 ≤ t
  t2 : t ≤ 65280
  tt : t * (s - 1) = 65280
def bxF (n : Nat) (lo : List Int) (t : Int) (p : Nat) : Nat := (lo.getD (n - 1 - p) 0 / t).toNat
def bxT (n : Nat) (hi : List Int) (t : Int) (p : Nat) : Nat := ((hi.getD (n - 1 - p) 0 + t - 1) / t).toNat
def nvF (o : Nat) (vs : List Int) (x : Nat) (q : Int) : Int := vs.getD (x * o + q.toNat) 0
theorem bx_lo {a t : Int} {d : Nat} (ht : 0 < t) (ha : 0 ≤ a) : a - t < (d : Int) * t ↔ (a / t).toNat ≤ d := by
  have h0 := Int.ediv_nonneg ha (show 0 ≤ t by omega)
  have h := Int.ediv_lt_iff_lt_mul (a := a) (b := (d : Int) + 1) ht
  rw [Int.add_mul, Int.one_mul] at h
  constructor
  · intro g
    have := h.2 (by omega)
    omega
  · intro g
    have := h.1 (by omega)
    omega
theorem bx_hi {a t : Int} {d : Nat} (ht : 0 < t) (ha : 0 ≤ a) : (d : Int) * t < a + t ↔ d ≤ ((a + t - 1) / t).toNat := by
  have h0 := Int.ediv_nonneg (show 0 ≤ a + t - 1 by omega) (show 0 ≤ t by omega)
  have h := Int.le_ediv_iff_mul_le (a := (d : Int)) (b := a + t - 1) ht
  constructor
  · intro g
    have := h.2 (by omega)
    omega
  · intro g
    have := h.1 (by omega)
    omega
/-! tables that are rewritten from the left -/
theorem tabP_set {o q : Nat} {A B : Int → Int} {v : Int} (hq : q < o) (hv : A q = v) : (tabL o fun k => if k < (q : Int) then A k else B k).set q v = tabL o fun k => if k < ((q + 1 : Nat) : Int) then A k else B k := by
  have := tabL_set (n := o) (G := fun k => if k < (q : Int) then A k else B k) (G' := fun k => if k < ((q + 1 : Nat) : Int) then A k else B k) (k := (q : Int)) (v := v) (by omega) (by rw [if_pos (by omega)]; exact hv) (fun i h0 h1 h2 => by
    by_cases c : i < (q : Int)
    · rw [if_pos c, if_pos (by omega)]
    · rw [if_neg c, if_neg (by omega)])
  rw [Int.toNat_natCast] at this
  exact this
theorem tabP_get {o q : Nat} {A B : Int → Int} (hq : q < o) : (tabL o fun k => if k < (q : Int) then A k else B k).getD q 0 = B q := by
  rw [tabL_getDN hq, if_neg (by omega)]
theorem set2 {L : List Int} {q : Nat} {v : Int} (f : Int → Int → Int) (hq : q < L.length) (hf : f v v = v) : (L.set q v).set q (f ((L.set q v).getD q 0) v) = L.set q v := by
  have e : (L.set q v).getD q 0 = v := by rw [List.getD_eq_getElem?_getD, List.getElem?_set_self hq]; rfl
  rw [e, hf, List.set_set]
section
variable {fu : Nat} (hf : 18446744073709551616 ≤ fu) {n o s : Nat} {vs lo hi : List Int} {t : Int} (h : BxOk n o s vs lo hi t)
include hf h
theorem boxes_add {l r : List Int} {e : Int} :
    loopF (law_GridBoxes_l4 fu (((n : Int), ((o : Int), ((s : Int), vs))), (lo, (hi, ()))) l r e t) fu (true, ((0 : Int), (List.replicate o (0 : Int), List.replicate o (0 : Int)))) =
      (bif decide (e = 0) then bindO (R_SameInts_r fu (l, (tabL o (mnF s n (bxF n lo t) (bxT n hi t) (nvF o vs) (s ^ n)), ()))) fun v12 =>
        bif v12.1 then bindO (R_SameInts_r fu (r, (tabL o (mxF s n (bxF n lo t) (bxT n hi t) (nvF o vs) (s ^ n)), ()))) fun v13 => some (v13.1, ()) else some (false, ())
      else some (false, ())) := by
  obtain ⟨n1, n4, o1, o8, s2, s9, sz, hv, hl, hh, bl, bh, le, t1, t2, tt⟩ := h
  have hN := pwN_bd (s := s) (i := n) s9 n4
  have hN1 : 1 ≤ s ^ n := Nat.pow_pos (by omega)
  have hdiv : ((vs.length : Int)) / (o : Int) = ((s ^ n : Nat) : Int) := by
    exact Int.ediv_eq_of_eq_mul_left (by omega) (by rw [hv, Int.natCast_mul])
  refine stLoop (n := s ^ n) (st := fun x => (!sn s n (bxF n lo t) (bxT n hi t) x, ((x : Int), (tabL o (mnF s n (bxF n lo t) (bxT n hi t) (nvF o vs) x), tabL o (mxF s n (bxF n lo t) (bxT n hi t) (nvF o vs) x))))) (by omega) ?_ (fun j x hx => ?_) (fun j => ?_)
  · refine Prod.ext rfl (Prod.ext rfl (Prod.ext ?_ ?_))
    · exact tabL_rep (G := mnF s n (bxF n lo t) (bxT n hi t) (nvF o vs) 0) fun i _ _ => rfl
    · exact tabL_rep (G := mxF s n (bxF n lo t) (bxT n hi t) (nvF o vs) 0) fun i _ _ => rfl
  · have hx' : x < s ^ n := hx
    have pv := Nat.mul_le_mul_right o (show x + 1 ≤ s ^ n by omega)
    rw [Nat.add_mul, Nat.one_mul] at pv
    unfold law_GridBoxes_l4
    simp (disch := omega) only [joinF_eq, bindO_some, s_wr, s_td, s_tm, s_pos, s_neg, cond_true, cond_false, Bool.not_true, Bool.not_false, Bool.true_and, Bool.and_true, Bool.false_and, Bool.and_false, bne_self_eq_false, decide_true, decide_false, Int.toNat_natCast]
    simp (disch := omega) only [joinF_eq, bindO_some, s_wr, s_td, s_tm, s_pos, s_neg, cond_true, cond_false, Bool.not_true, Bool.not_false, Bool.true_and, Bool.and_true, Bool.false_and, Bool.and_false, bne_self_eq_false, decide_true, decide_false, Int.toNat_natCast, index_r hf (o := (o : Int)) (vs := vs) n1 n4 (show 1 ≤ s by omega) s9 (show x ≤ 6561 by omega)]
    show loopF (law_GridBoxes_l6 fu _ t _ (x : Int) (tabL n (fun k => (dg s x (n - 1 - k.toNat) : Int)), ()) (law_GridBoxes_j5 fu j)) fu (true, 0) = _
    -- is it in the box?
    have hin : ∀ (b : Bool), (b = true ↔ inB s n (bxF n lo t) (bxT n hi t) x) →
        loopF (law_GridBoxes_l8 fu (((n : Int), ((o : Int), ((s : Int), vs))), (lo, (hi, ()))) (!sn s n (bxF n lo t) (bxT n hi t) x, ((x : Int), (tabL o (mnF s n (bxF n lo t) (bxT n hi t) (nvF o vs) x), tabL o (mxF s n (bxF n lo t) (bxT n hi t) (nvF o vs) x)))) (x : Int) (b, (n : Int)) (law_GridBoxes_j5 fu j)) fu ((0 : Int), (tabL o (mnF s n (bxF n lo t) (bxT n hi t) (nvF o vs) x), tabL o (mxF s n (bxF n lo t) (bxT n hi t) (nvF o vs) x))) =
        j (!sn s n (bxF n lo t) (bxT n hi t) (x + 1), (((x + 1 : Nat) : Int), (tabL o (mnF s n (bxF n lo t) (bxT n hi t) (nvF o vs) (x + 1)), tabL o (mxF s n (bxF n lo t) (bxT n hi t) (nvF o vs) (x + 1))))) := by
      intro b hb
      cases b with
      | false =>
        have hnb : ¬ inB s n (bxF n lo t) (bxT n hi t) x := fun h => by have := hb.2 h; cases this
        refine stLoop (n := 0) (st := fun _ => ((0 : Int), (tabL o (mnF s n (bxF n lo t) (bxT n hi t) (nvF o vs) x), tabL o (mxF s n (bxF n lo t) (bxT n hi t) (nvF o vs) x)))) (by omega) rfl (fun _ _ hk => absurd hk (Nat.not_lt_zero _)) (fun j' => ?_)
        unfold law_GridBoxes_l8
        simp (disch := omega) only [joinF_eq, bindO_some, s_wr, s_td, s_tm, s_pos, s_neg, cond_true, cond_false, Bool.not_true, Bool.not_false, Bool.true_and, Bool.and_true, Bool.false_and, Bool.and_false, bne_self_eq_false, decide_true, decide_false, Int.toNat_natCast]
        unfold law_GridBoxes_j9 law_GridBoxes_j5
        rw [sn, decide_eq_false hnb, Bool.or_false, tabL_congr (n := o) (G := mnF s n (bxF n lo t) (bxT n hi t) (nvF o vs) (x + 1)) (G' := mnF s n (bxF n lo t) (bxT n hi t) (nvF o vs) x) (fun i _ _ => by rw [mnF, if_neg hnb]), tabL_congr (n := o) (G := mxF s n (bxF n lo t) (bxT n hi t) (nvF o vs) (x + 1)) (G' := mxF s n (bxF n lo t) (bxT n hi t) (nvF o vs) x) (fun i _ _ => by rw [mxF, if_neg hnb])]
        cases sn s n (bxF n lo t) (bxT n hi t) x <;> (simp (disch := omega) only [joinF_eq, bindO_some, s_wr, s_td, s_tm, s_pos, s_neg, cond_true, cond_false, Bool.not_true, Bool.not_false, Bool.true_and, Bool.and_true, Bool.false_and, Bool.and_false, bne_self_eq_false, decide_true, decide_false, Int.toNat_natCast]; rfl)
      | true =>
        have hyb : inB s n (bxF n lo t) (bxT n hi t) x := hb.1 rfl
        refine stLoop (n := o) (st := fun q => ((q : Int), (tabL o (fun k => if k < (q : Int) then mnF s n (bxF n lo t) (bxT n hi t) (nvF o vs) (x + 1) k else mnF s n (bxF n lo t) (bxT n hi t) (nvF o vs) x k), tabL o (fun k => if k < (q : Int) then mxF s n (bxF n lo t) (bxT n hi t) (nvF o vs) (x + 1) k else mxF s n (bxF n lo t) (bxT n hi t) (nvF o vs) x k)))) (by omega) ?_ (fun j' q hq => ?_) (fun j' => ?_)
        · refine Prod.ext rfl (Prod.ext (tabL_congr fun i h0 h1 => ?_) (tabL_congr fun i h0 h1 => ?_))
          · rfl
          · rfl
        · unfold law_GridBoxes_l8
          simp (disch := omega) only [joinF_eq, bindO_some, s_wr, s_td, s_tm, s_pos, s_neg, cond_true, cond_false, Bool.not_true, Bool.not_false, Bool.true_and, Bool.and_true, Bool.false_and, Bool.and_false, bne_self_eq_false, decide_true, decide_false, Int.toNat_natCast]
          unfold law_GridBoxes_j9
          have e0 : ((x : Int) * (o : Int)) = ((x * o : Nat) : Int) := by rw [Int.natCast_mul]
          rw [e0]
          obtain ⟨xo, hxo⟩ : ∃ z, z = x * o := ⟨_, rfl⟩
          rw [← hxo] at pv ⊢
          have ev : vs.getD ((xo : Int) + (q : Int)).toNat 0 = nvF o vs x q := by
            unfold nvF
            rw [← hxo, Int.toNat_natCast, show ((xo : Int) + (q : Int)).toNat = xo + q by omega]
          cases hsn : sn s n (bxF n lo t) (bxT n hi t) x
          · simp (disch := omega) only [joinF_eq, bindO_some, s_wr, s_td, s_tm, s_pos, s_neg, cond_true, cond_false, Bool.not_true, Bool.not_false, Bool.true_and, Bool.and_true, Bool.false_and, Bool.and_false, bne_self_eq_false, decide_true, decide_false, Int.toNat_natCast, tabL_length, List.length_set]
            unfold law_GridBoxes_j10
            simp (disch := omega) only [joinF_eq, bindO_some, s_wr, s_td, s_tm, s_pos, s_neg, cond_true, cond_false, Bool.not_true, Bool.not_false, Bool.true_and, Bool.and_true, Bool.false_and, Bool.and_false, bne_self_eq_false, decide_true, decide_false, Int.toNat_natCast, tabL_length, List.length_set]
            rw [ev, set2 min (by rw [tabL_length]; exact hq) (Int.min_self _), set2 max (by rw [tabL_length]; exact hq) (Int.max_self _), tabP_set hq (by rw [mnF, if_pos hyb, if_neg (by rw [hsn]; simp)]), tabP_set hq (by rw [mxF, if_pos hyb, if_neg (by rw [hsn]; simp)])]
            rfl
          · simp (disch := omega) only [joinF_eq, bindO_some, s_wr, s_td, s_tm, s_pos, s_neg, cond_true, cond_false, Bool.not_true, Bool.not_false, Bool.true_and, Bool.and_true, Bool.false_and, Bool.and_false, bne_self_eq_false, decide_true, decide_false, Int.toNat_natCast, tabL_length, List.length_set]
            unfold law_GridBoxes_j10
            simp (disch := omega) only [joinF_eq, bindO_some, s_wr, s_td, s_tm, s_pos, s_neg, cond_true, cond_false, Bool.not_true, Bool.not_false, Bool.true_and, Bool.and_true, Bool.false_and, Bool.and_false, bne_self_eq_false, decide_true, decide_false, Int.toNat_natCast, tabL_length, List.length_set]
            rw [ev, tabP_get hq, tabP_get hq, tabP_set hq (by rw [mnF, if_pos hyb, if_pos hsn]), tabP_set hq (by rw [mxF, if_pos hyb, if_pos hsn])]
            rfl
        · unfold law_GridBoxes_l8
          simp (disch := omega) only [joinF_eq, bindO_some, s_wr, s_td, s_tm, s_pos, s_neg, cond_true, cond_false, Bool.not_true, Bool.not_false, Bool.true_and, Bool.and_true, Bool.false_and, Bool.and_false, bne_self_eq_false, decide_true, decide_false, Int.toNat_natCast]
          unfold law_GridBoxes_j9 law_GridBoxes_j5
          rw [sn, decide_eq_true hyb, Bool.or_true]
          have e1 : (tabL o fun k => if k < ((o : Nat) : Int) then mnF s n (bxF n lo t) (bxT n hi t) (nvF o vs) (x + 1) k else mnF s n (bxF n lo t) (bxT n hi t) (nvF o vs) x k) = tabL o (mnF s n (bxF n lo t) (bxT n hi t) (nvF o vs) (x + 1)) := tabL_congr fun i h0 h1 => by rw [if_pos h1]
          have e2 : (tabL o fun k => if k < ((o : Nat) : Int) then mxF s n (bxF n lo t) (bxT n hi t) (nvF o vs) (x + 1) k else mxF s n (bxF n lo t) (bxT n hi t) (nvF o vs) x k) = tabL o (mxF s n (bxF n lo t) (bxT n hi t) (nvF o vs) (x + 1)) := tabL_congr fun i h0 h1 => by rw [if_pos h1]
          rw [e1, e2]
          cases sn s n (bxF n lo t) (bxT n hi t) x <;> (simp (disch := omega) only [joinF_eq, bindO_some, s_wr, s_td, s_tm, s_pos, s_neg, cond_true, cond_false, Bool.not_true, Bool.not_false, Bool.true_and, Bool.and_true, Bool.false_and, Bool.and_false, bne_self_eq_false, decide_true, decide_false, Int.toNat_natCast]; rfl)
    refine stLoop (n := n) (st := fun k => (decide (∀ p, p < n → n - 1 - p < k → bxF n lo t p ≤ dg s x p ∧ dg s x p ≤ bxT n hi t p), (k : Int))) (by omega) ?_ (fun j' k hk => ?_) (fun j' => ?_)
    · refine Prod.ext (decide_eq_true fun p h1 h2 => by omega) rfl
    · have dl : dg s x (n - 1 - k) < s := Nat.mod_lt _ (by omega)
      have dt := Int.mul_le_mul_of_nonneg_right (show (dg s x (n - 1 - k) : Int) ≤ (s : Int) - 1 by omega) (show 0 ≤ t by omega)
      have dt0 := Int.mul_nonneg (show 0 ≤ (dg s x (n - 1 - k) : Int) by omega) (show 0 ≤ t by omega)
      rw [Int.mul_comm ((s : Int) - 1) t, tt] at dt
      have bl := bl k hk
      have bh := bh k hk
      have q1 := bx_lo (a := lo.getD k 0) (t := t) (d := dg s x (n - 1 - k)) (by omega) bl.1
      have q2 := bx_hi (a := hi.getD k 0) (t := t) (d := dg s x (n - 1 - k)) (by omega) bh.1
      have p1 : bxF n lo t (n - 1 - k) = (lo.getD k 0 / t).toNat := by unfold bxF; rw [show n - 1 - (n - 1 - k) = k by omega]
      have p2 : bxT n hi t (n - 1 - k) = ((hi.getD k 0 + t - 1) / t).toNat := by unfold bxT; rw [show n - 1 - (n - 1 - k) = k by omega]
      rw [← p1] at q1
      rw [← p2] at q2
      have hP : (∀ p, p < n → n - 1 - p < k + 1 → bxF n lo t p ≤ dg s x p ∧ dg s x p ≤ bxT n hi t p) ↔ (∀ p, p < n → n - 1 - p < k → bxF n lo t p ≤ dg s x p ∧ dg s x p ≤ bxT n hi t p) ∧ (bxF n lo t (n - 1 - k) ≤ dg s x (n - 1 - k) ∧ dg s x (n - 1 - k) ≤ bxT n hi t (n - 1 - k)) := by
        constructor
        · intro g
          exact ⟨fun p h1 h2 => g p h1 (by omega), g _ (by omega) (by omega)⟩
        · rintro ⟨g1, g2⟩ p h1 h2
          by_cases e : p = n - 1 - k
          · subst e; exact g2
          · exact g1 p h1 (by omega)
      simp only [hP]
      unfold law_GridBoxes_l6
      simp (disch := omega) only [joinF_eq, bindO_some, s_wr, s_td, s_tm, s_pos, s_neg, cond_true, cond_false, Bool.not_true, Bool.not_false, Bool.true_and, Bool.and_true, Bool.false_and, Bool.and_false, bne_self_eq_false, decide_true, decide_false, Int.toNat_natCast, tabL_length, tabL_getDN]
      generalize (dg s x (n - 1 - k) : Int) * t = D at *
      by_cases g0 : ∀ p, p < n → n - 1 - p < k → bxF n lo t p ≤ dg s x p ∧ dg s x p ≤ bxT n hi t p
      · rw [decide_eq_true g0]
        by_cases g1 : lo.getD k 0 - t < D
        · by_cases g2 : D < hi.getD k 0 + t
          · rw [decide_eq_true (p := _ ∧ _) ⟨g0, q1.1 g1, q2.1 g2⟩]
            simp (disch := omega) only [joinF_eq, bindO_some, s_wr, s_td, s_tm, s_pos, s_neg, cond_true, cond_false, Bool.not_true, Bool.not_false, Bool.true_and, Bool.and_true, Bool.false_and, Bool.and_false, bne_self_eq_false, decide_true, decide_false, Int.toNat_natCast, law_GridBoxes_j7]
            rfl
          · rw [decide_eq_false (p := _ ∧ _) (fun h => g2 (q2.2 h.2.2))]
            simp (disch := omega) only [joinF_eq, bindO_some, s_wr, s_td, s_tm, s_pos, s_neg, cond_true, cond_false, Bool.not_true, Bool.not_false, Bool.true_and, Bool.and_true, Bool.false_and, Bool.and_false, bne_self_eq_false, decide_true, decide_false, Int.toNat_natCast, law_GridBoxes_j7]
            rfl
        · rw [decide_eq_false (p := _ ∧ _) (fun h => g1 (q1.2 h.2.1))]
          simp (disch := omega) only [joinF_eq, bindO_some, s_wr, s_td, s_tm, s_pos, s_neg, cond_true, cond_false, Bool.not_true, Bool.not_false, Bool.true_and, Bool.and_true, Bool.false_and, Bool.and_false, bne_self_eq_false, decide_true, decide_false, Int.toNat_natCast, law_GridBoxes_j7]
          rfl
      · rw [decide_eq_false g0, decide_eq_false (p := _ ∧ _) (fun h => g0 h.1)]
        simp (disch := omega) only [joinF_eq, bindO_some, s_wr, s_td, s_tm, s_pos, s_neg, cond_true, cond_false, Bool.not_true, Bool.not_false, Bool.true_and, Bool.and_true, Bool.false_and, Bool.and_false, bne_self_eq_false, decide_true, decide_false, Int.toNat_natCast, law_GridBoxes_j7]
        rfl
    · unfold law_GridBoxes_l6
      simp (disch := omega) only [joinF_eq, bindO_some, s_wr, s_td, s_tm, s_pos, s_neg, cond_true, cond_false, Bool.not_true, Bool.not_false, Bool.true_and, Bool.and_true, Bool.false_and, Bool.and_false, bne_self_eq_false, decide_true, decide_false, Int.toNat_natCast, tabL_length]
      refine hin _ ?_
      rw [decide_eq_true_eq]
      exact ⟨fun g p hp => g p hp (by omega), fun g p hp _ => g p hp⟩
  · unfold law_GridBoxes_l4
    simp (disch := omega) only [joinF_eq, bindO_some, s_wr, s_td, s_tm, s_pos, s_neg, cond_true, cond_false, Bool.not_true, Bool.not_false, Bool.true_and, Bool.and_true, Bool.false_and, Bool.and_false, bne_self_eq_false, decide_true, decide_false, Int.toNat_natCast]
end
end Go.Proofs.Ytdfocbeejgcglaa
/- Grids: what Hull computes. -/
namespace Go.Proofs.Ytdfocbeejgcglaa
open Go Go.RowKit
set_option linter.unusedSimpArgs false
set_option linter.unusedSectionVars false
set_option linter.unusedVariables false
theorem getD_set' {l : List Int} {k i : Nat} {v : Int} (hk : k < l.length) : (l.set k v).getD i 0 = if i = k then v else l.getD i 0 := by
  rw [List.getD_eq_getElem?_getD, List.getElem?_set]
  by_cases e : k = i
  · subst e
    rw [if_pos rfl, if_pos hk, if_pos rfl]; rfl
  · rw [if_neg e, if_neg (fun h => e h.symm), List.getD_eq_getElem?_getD]
theorem tabP_keep {o q : Nat} {A B : Int → Int} (h : A q = B q) : (tabL o fun k => if k < (q : Int) then A k else B k) = tabL o fun k => if k < ((q + 1 : Nat) : Int) then A k else B k := tabL_congr fun i h0 h1 => by
  by_cases c : i < (q : Int)
  · rw [if_pos c, if_pos (by omega)]
  · rw [if_neg c]
    by_cases e : i = (q : Int)
    · rw [if_pos (by omega), e, h]
    · rw [if_neg (by omega)]
/-- a number by its digits -/
theorem hor_dg {s n m : Nat} {l : List Int} (hm : m < s ^ n) (h : ∀ q, q < n → l.getD (n - 1 - q) 0 = (dg s m q : Int)) : ∀ j, j ≤ n → horN (s : Int) l j = ((m / s ^ (n - j) : Nat) : Int)
  | 0, _ => by rw [horN, Nat.sub_zero, Nat.div_eq_of_lt hm]; rfl
  | j + 1, hj => by
    have e := h (n - 1 - j) (by omega)
    rw [show n - 1 - (n - 1 - j) = j by omega] at e
    rw [horN, hor_dg hm h j (by omega), e, show n - j = (n - 1 - j) + 1 by omega, show n - (j + 1) = n - 1 - j by omega]
    unfold dg
    rw [Nat.pow_succ, ← Nat.div_div_eq_div_mul]
    have := Nat.div_add_mod (m / s ^ (n - 1 - j)) s
    rw [← Int.natCast_mul, ← Int.natCast_add]
    rw [Nat.mul_comm] at this
    rw [this]
theorem hor_eq {s n m : Nat} {l : List Int} (hm : m < s ^ n) (h : ∀ q, q < n → l.getD (n - 1 - q) 0 = (dg s m q : Int)) : horN (s : Int) l n = (m : Int) := by
  rw [hor_dg hm h n (Nat.le_refl _), Nat.sub_self, Nat.pow_zero, Nat.div_one]
section
variable {n o s : Nat} {vs lo hi : List Int} {t : Int} (h : BxOk n o s vs lo hi t)
include h
theorem bx_lt {q : Nat} (hq : q < n) : bxF n lo t q ≤ bxT n hi t q ∧ bxT n hi t q < s := by
  have a := h.bl (n - 1 - q) (by omega)
  have b := h.bh (n - 1 - q) (by omega)
  have c := h.le (n - 1 - q) (by omega)
  have t1 := h.t1
  have d := Int.ediv_le_ediv (show 0 < t by omega) (show lo.getD (n - 1 - q) 0 ≤ hi.getD (n - 1 - q) 0 + t - 1 by omega)
  have tt := h.tt
  have s2 := h.s2
  have e : (hi.getD (n - 1 - q) 0 + t - 1) / t < s := by
    refine (Int.ediv_lt_iff_lt_mul (by omega)).2 ?_
    rw [Int.mul_sub, Int.mul_one, Int.mul_comm] at tt
    omega
  have f := Int.ediv_nonneg a.1 (show 0 ≤ t by omega)
  unfold bxF bxT
  omega
theorem at4 {fu : Nat} (hf : 18446744073709551616 ≤ fu) {m : Nat} (hm : m < s ^ n) {l : List Int} (hl : l.length = 4) (hd : ∀ q, q < n → l.getD (n - 1 - q) 0 = (dg s m q : Int)) :
    grid_at_r fu (((n : Int), ((o : Int), ((s : Int), vs))), (List.drop (Int.toNat (0 : Int)) (List.take n l), ())) = some ((m : Int) * (o : Int), ()) := by
  obtain ⟨n1, n4, o1, o8, s2, s9, sz, hv, _⟩ := h
  have e : (List.take n l).length = n := by rw [List.length_take]; omega
  have := at_r hf (i := (n : Int)) (o := (o : Int)) (s := (s : Int)) (vs := vs) (l := List.take n l) (by omega) (by omega) (by omega) (by omega) (by omega) (fun k hk => by
    have d := hd (n - 1 - k) (by omega)
    rw [show n - 1 - (n - 1 - k) = k by omega] at d
    rw [List.getD_eq_getElem?_getD, List.getElem?_take_of_lt (by omega), ← List.getD_eq_getElem?_getD, d]
    have : dg s m (n - 1 - k) < s := Nat.mod_lt _ (by omega)
    omega)
  rw [e, horN_take _ _ _ _ (Nat.le_refl _), hor_eq hm hd] at this
  exact this
/-- the next node of the box -/
theorem nx_box {m p : Nat} (hp : p < n) (hm : m < s ^ n) (hb : inB s n (bxF n lo t) (bxT n hi t) m) (hT : ∀ q, q < p → dg s m q = bxT n hi t q) (hne : dg s m p ≠ bxT n hi t p) :
    nxB s (bxF n lo t) m p < s ^ n ∧ m < nxB s (bxF n lo t) m p ∧ inB s n (bxF n lo t) (bxT n hi t) (nxB s (bxF n lo t) m p) ∧ (∀ q, q < n → dg s (nxB s (bxF n lo t) m p) q = if q < p then bxF n lo t q else if q = p then dg s m p + 1 else dg s m q) ∧
      ∀ x, m < x → x < nxB s (bxF n lo t) m p → ¬ inB s n (bxF n lo t) (bxT n hi t) x := by
  have hs : 0 < s := by have := h.s2; omega
  have hF : ∀ q, q < p → bxF n lo t q < s := fun q hq => by
    have := bx_lt h (q := q) (by omega)
    omega
  have b := bx_lt h hp
  have c := hb p hp
  have h1 : dg s m p + 1 < s := by omega
  have hd : ∀ q, q < n → dg s (nxB s (bxF n lo t) m p) q = if q < p then bxF n lo t q else if q = p then dg s m p + 1 else dg s m q := by
    intro q hq
    by_cases c1 : q < p
    · rw [if_pos c1]; exact nx_lt hs hF c1
    · rw [if_neg c1]
      by_cases c2 : q = p
      · rw [if_pos c2, c2]; exact nx_eq hs hF h1
      · rw [if_neg c2]
        unfold dg
        rw [nx_gt hs hF h1 (by omega)]
  refine ⟨?_, nx_after hs hF, fun q hq => ?_, hd, fun x h1 h2 => next_box hs hp hT h1 h2⟩
  · have e := nx_gt hs hF h1 hp
    rw [Nat.div_eq_of_lt hm] at e
    exact Nat.lt_of_div_eq_zero (Nat.pow_pos hs) e
  · rw [hd q hq]
    have g := hb q hq
    have g2 := bx_lt h hq
    by_cases c1 : q < p
    · rw [if_pos c1]; omega
    · rw [if_neg c1]
      by_cases c2 : q = p
      · rw [if_pos c2, c2]; omega
      · rw [if_neg c2]; exact g
variable {fu : Nat} (hf : 18446744073709551616 ≤ fu)
include hf
theorem hull_node {j : (Bool × (List Int × (List Int × List Int))) → Option (List Int × (List Int × Unit))} {fl tl idx : List Int} {m : Nat} (hm : m < s ^ n) (hb : inB s n (bxF n lo t) (bxT n hi t) m) (hi4 : idx.length = 4) (hd : ∀ q, q < n → idx.getD (n - 1 - q) 0 = (dg s m q : Int)) :
    grid_Hull_l2 fu (((n : Int), ((o : Int), ((s : Int), vs))), (lo, (hi, ()))) ((n : Int), (fl, tl)) j (!sn s n (bxF n lo t) (bxT n hi t) m, (tabL o (mxF s n (bxF n lo t) (bxT n hi t) (nvF o vs) m), (tabL o (mnF s n (bxF n lo t) (bxT n hi t) (nvF o vs) m), idx))) =
      loopF (grid_Hull_l8 fu ((n : Int), (fl, tl)) ((o : Int), (tabL o (mxF s n (bxF n lo t) (bxT n hi t) (nvF o vs) (m + 1)), tabL o (mnF s n (bxF n lo t) (bxT n hi t) (nvF o vs) (m + 1)))) j) fu ((n : Int) - 1, idx) := by
  have h' := h
  obtain ⟨n1, n4, o1, o8, s2, s9, sz, hv, hl, hh, bl, bh, le, t1, t2, tt⟩ := h'
  have hN := pwN_bd (s := s) (i := n) s9 n4
  have pv := Nat.mul_le_mul_right o (show m + 1 ≤ s ^ n by omega)
  rw [Nat.add_mul, Nat.one_mul] at pv
  unfold grid_Hull_l2
  have e0 : ((m : Int) * (o : Int)) = ((m * o : Nat) : Int) := by rw [Int.natCast_mul]
  obtain ⟨mo, hmo⟩ : ∃ z, z = m * o := ⟨_, rfl⟩
  rw [← hmo] at pv e0
  simp (disch := omega) only [joinF_eq, bindO_some, s_wr, s_td, s_tm, s_pos, s_neg, cond_true, cond_false, Bool.not_true, Bool.not_false, Bool.true_and, Bool.and_true, Bool.false_and, Bool.and_false, bne_self_eq_false, decide_true, decide_false, Int.toNat_natCast, at4 h hf hm hi4 hd]
  rw [e0]
  refine stLoop (n := o) (st := fun q => ((q : Int), (tabL o (fun k => if k < (q : Int) then mxF s n (bxF n lo t) (bxT n hi t) (nvF o vs) (m + 1) k else mxF s n (bxF n lo t) (bxT n hi t) (nvF o vs) m k), tabL o (fun k => if k < (q : Int) then mnF s n (bxF n lo t) (bxT n hi t) (nvF o vs) (m + 1) k else mnF s n (bxF n lo t) (bxT n hi t) (nvF o vs) m k)))) (by omega) ?_ (fun j' q hq => ?_) (fun j' => ?_)
  · refine Prod.ext rfl (Prod.ext (tabL_congr fun i h0 h1 => ?_) (tabL_congr fun i h0 h1 => ?_))
    · rfl
    · rfl
  · have ev : vs.getD ((mo : Int) + (q : Int)).toNat 0 = nvF o vs m q := by
      unfold nvF
      rw [← hmo, Int.toNat_natCast, show ((mo : Int) + (q : Int)).toNat = mo + q by omega]
    unfold grid_Hull_l3
    cases hsn : sn s n (bxF n lo t) (bxT n hi t) m
    · simp (disch := omega) only [joinF_eq, bindO_some, s_wr, s_td, s_tm, s_pos, s_neg, cond_true, cond_false, Bool.not_true, Bool.not_false, Bool.true_and, Bool.and_true, Bool.false_and, Bool.and_false, bne_self_eq_false, decide_true, decide_false, Int.toNat_natCast, tabL_length]
      unfold grid_Hull_j7 grid_Hull_j5 grid_Hull_j6 grid_Hull_j4
      simp (disch := omega) only [joinF_eq, bindO_some, s_wr, s_td, s_tm, s_pos, s_neg, cond_true, cond_false, Bool.not_true, Bool.not_false, Bool.true_and, Bool.and_true, Bool.false_and, Bool.and_false, bne_self_eq_false, decide_true, decide_false, Int.toNat_natCast, tabL_length]
      rw [ev, tabP_set hq (by first | rw [mnF, if_pos hb, if_neg (by rw [hsn]; simp)] | rw [mxF, if_pos hb, if_neg (by rw [hsn]; simp)]), tabP_set hq (by first | rw [mnF, if_pos hb, if_neg (by rw [hsn]; simp)] | rw [mxF, if_pos hb, if_neg (by rw [hsn]; simp)])]
      rfl
    · simp (disch := omega) only [joinF_eq, bindO_some, s_wr, s_td, s_tm, s_pos, s_neg, cond_true, cond_false, Bool.not_true, Bool.not_false, Bool.true_and, Bool.and_true, Bool.false_and, Bool.and_false, bne_self_eq_false, decide_true, decide_false, Int.toNat_natCast, tabL_length]
      simp only [Int.toNat_natCast, tabP_get hq, ev]
      have e1 : mnF s n (bxF n lo t) (bxT n hi t) (nvF o vs) (m + 1) q = min (mnF s n (bxF n lo t) (bxT n hi t) (nvF o vs) m q) (nvF o vs m q) := by rw [mnF, if_pos hb, if_pos hsn]
      have e2 : mxF s n (bxF n lo t) (bxT n hi t) (nvF o vs) (m + 1) q = max (mxF s n (bxF n lo t) (bxT n hi t) (nvF o vs) m q) (nvF o vs m q) := by rw [mxF, if_pos hb, if_pos hsn]
      have k2 : ∀ L : List Int, L = (tabL o fun k => if k < ((q + 1 : Nat) : Int) then mnF s n (bxF n lo t) (bxT n hi t) (nvF o vs) (m + 1) k else mnF s n (bxF n lo t) (bxT n hi t) (nvF o vs) m k) →
          grid_Hull_j5 fu (!true, (tabL o (mxF s n (bxF n lo t) (bxT n hi t) (nvF o vs) m), (tabL o (mnF s n (bxF n lo t) (bxT n hi t) (nvF o vs) m), idx))) ((q : Int), (tabL o (fun k => if k < (q : Int) then mxF s n (bxF n lo t) (bxT n hi t) (nvF o vs) (m + 1) k else mxF s n (bxF n lo t) (bxT n hi t) (nvF o vs) m k), tabL o (fun k => if k < (q : Int) then mnF s n (bxF n lo t) (bxT n hi t) (nvF o vs) (m + 1) k else mnF s n (bxF n lo t) (bxT n hi t) (nvF o vs) m k))) (q : Int) (nvF o vs m q) (grid_Hull_j4 fu j') L =
          j' (((q + 1 : Nat) : Int), (tabL o (fun k => if k < ((q + 1 : Nat) : Int) then mxF s n (bxF n lo t) (bxT n hi t) (nvF o vs) (m + 1) k else mxF s n (bxF n lo t) (bxT n hi t) (nvF o vs) m k), tabL o (fun k => if k < ((q + 1 : Nat) : Int) then mnF s n (bxF n lo t) (bxT n hi t) (nvF o vs) (m + 1) k else mnF s n (bxF n lo t) (bxT n hi t) (nvF o vs) m k))) := by
        rintro _ rfl
        unfold grid_Hull_j5 grid_Hull_j6 grid_Hull_j4
        simp (disch := omega) only [joinF_eq, bindO_some, s_wr, s_td, s_tm, s_pos, s_neg, cond_true, cond_false, Bool.not_true, Bool.not_false, Bool.true_and, Bool.and_true, Bool.false_and, Bool.and_false, bne_self_eq_false, decide_true, decide_false, Int.toNat_natCast, tabL_length]
        simp only [Int.toNat_natCast, tabP_get hq]
        by_cases g : mxF s n (bxF n lo t) (bxT n hi t) (nvF o vs) m q < nvF o vs m q
        · simp (disch := omega) only [joinF_eq, bindO_some, s_wr, s_td, s_tm, s_pos, s_neg, cond_true, cond_false, Bool.not_true, Bool.not_false, Bool.true_and, Bool.and_true, Bool.false_and, Bool.and_false, bne_self_eq_false, decide_true, decide_false, Int.toNat_natCast]
          rw [tabP_set hq (by rw [e2]; omega)]
          rfl
        · simp (disch := omega) only [joinF_eq, bindO_some, s_wr, s_td, s_tm, s_pos, s_neg, cond_true, cond_false, Bool.not_true, Bool.not_false, Bool.true_and, Bool.and_true, Bool.false_and, Bool.and_false, bne_self_eq_false, decide_true, decide_false, Int.toNat_natCast]
          rw [tabP_keep (q := q) (A := mxF s n (bxF n lo t) (bxT n hi t) (nvF o vs) (m + 1)) (B := mxF s n (bxF n lo t) (bxT n hi t) (nvF o vs) m) (by rw [e2]; omega)]
          rfl
      unfold grid_Hull_j7
      by_cases g : nvF o vs m q < mnF s n (bxF n lo t) (bxT n hi t) (nvF o vs) m q
      · simp (disch := omega) only [joinF_eq, bindO_some, s_wr, s_td, s_tm, s_pos, s_neg, cond_true, cond_false, Bool.not_true, Bool.not_false, Bool.true_and, Bool.and_true, Bool.false_and, Bool.and_false, bne_self_eq_false, decide_true, decide_false, Int.toNat_natCast, tabL_length]
        exact k2 _ (tabP_set hq (by rw [e1]; omega))
      · simp (disch := omega) only [joinF_eq, bindO_some, s_wr, s_td, s_tm, s_pos, s_neg, cond_true, cond_false, Bool.not_true, Bool.not_false, Bool.true_and, Bool.and_true, Bool.false_and, Bool.and_false, bne_self_eq_false, decide_true, decide_false, Int.toNat_natCast, tabL_length]
        exact k2 _ (tabP_keep (by rw [e1]; omega))
  · unfold grid_Hull_l3
    simp (disch := omega) only [joinF_eq, bindO_some, s_wr, s_td, s_tm, s_pos, s_neg, cond_true, cond_false, Bool.not_true, Bool.not_false, Bool.true_and, Bool.and_true, Bool.false_and, Bool.and_false, bne_self_eq_false, decide_true, decide_false, Int.toNat_natCast]
    have e1 : (tabL o fun k => if k < ((o : Nat) : Int) then mnF s n (bxF n lo t) (bxT n hi t) (nvF o vs) (m + 1) k else mnF s n (bxF n lo t) (bxT n hi t) (nvF o vs) m k) = tabL o (mnF s n (bxF n lo t) (bxT n hi t) (nvF o vs) (m + 1)) := tabL_congr fun i h0 h1 => by rw [if_pos h1]
    have e2 : (tabL o fun k => if k < ((o : Nat) : Int) then mxF s n (bxF n lo t) (bxT n hi t) (nvF o vs) (m + 1) k else mxF s n (bxF n lo t) (bxT n hi t) (nvF o vs) m k) = tabL o (mxF s n (bxF n lo t) (bxT n hi t) (nvF o vs) (m + 1)) := tabL_congr fun i h0 h1 => by rw [if_pos h1]
    rw [e1, e2]
end
end Go.Proofs.Ytdfocbeejgcglaa
/- Grids: Hull, Bounds, and the law GridBoxes. -/
namespace Go.Proofs.Ytdfocbeejgcglaa
open Go Go.RowKit
set_option linter.unusedSimpArgs false
set_option linter.unusedSectionVars false
set_option linter.unusedVariables false
def fromL (n : Nat) (lo : List Int) (t : Int) : List Int := tabL 4 fun k => if k < (n : Int) then (bxF n lo t (n - 1 - k.toNat) : Int) else 0
def toL (n : Nat) (hi : List Int) (t : Int) : List Int := tabL 4 fun k => if k < (n : Int) then (bxT n hi t (n - 1 - k.toNat) : Int) else 0
theorem fromL_at {n : Nat} {lo : List Int} {t : Int} (hn : n ≤ 4) {q : Nat} (hq : q < n) : (fromL n lo t).getD (n - 1 - q) 0 = (bxF n lo t q : Int) := by
  unfold fromL
  rw [tabL_getDN (by omega), if_pos (by omega), Int.toNat_natCast, show n - 1 - (n - 1 - q) = q by omega]
theorem toL_at {n : Nat} {hi : List Int} {t : Int} (hn : n ≤ 4) {q : Nat} (hq : q < n) : (toL n hi t).getD (n - 1 - q) 0 = (bxT n hi t q : Int) := by
  unfold toL
  rw [tabL_getDN (by omega), if_pos (by omega), Int.toNat_natCast, show n - 1 - (n - 1 - q) = q by omega]
section
variable {n o s : Nat} {vs lo hi : List Int} {t : Int} (h : BxOk n o s vs lo hi t) {fu : Nat} (hf : 18446744073709551616 ≤ fu)
include h hf
theorem hull_loop {first : Bool} {most least idx : List Int} {m0 : Nat} (hm0 : m0 < s ^ n) (hb0 : inB s n (bxF n lo t) (bxT n hi t) m0) (hf0 : first = !sn s n (bxF n lo t) (bxT n hi t) m0) (hx0 : most = tabL o (mxF s n (bxF n lo t) (bxT n hi t) (nvF o vs) m0)) (hy0 : least = tabL o (mnF s n (bxF n lo t) (bxT n hi t) (nvF o vs) m0))
    (hi4 : idx.length = 4) (hd0 : ∀ q, q < n → idx.getD (n - 1 - q) 0 = (dg s m0 q : Int)) :
    loopF (grid_Hull_l2 fu (((n : Int), ((o : Int), ((s : Int), vs))), (lo, (hi, ()))) ((n : Int), (fromL n lo t, toL n hi t))) fu (first, (most, (least, idx))) =
      some (tabL o (mnF s n (bxF n lo t) (bxT n hi t) (nvF o vs) (s ^ n)), (tabL o (mxF s n (bxF n lo t) (bxT n hi t) (nvF o vs) (s ^ n)), ())) := by
  have h' := h
  obtain ⟨n1, n4, o1, o8, s2, s9, sz, hv, hl, hh, bl, bh, le, t1, t2, tt⟩ := h'
  have hN := pwN_bd (s := s) (i := n) s9 n4
  refine postLoop (fun x => s ^ n - (horN (s : Int) x.2.2.2 n).toNat)
    (fun x => ∃ m, m < s ^ n ∧ inB s n (bxF n lo t) (bxT n hi t) m ∧ x.1 = (!sn s n (bxF n lo t) (bxT n hi t) m) ∧ x.2.1 = tabL o (mxF s n (bxF n lo t) (bxT n hi t) (nvF o vs) m) ∧ x.2.2.1 = tabL o (mnF s n (bxF n lo t) (bxT n hi t) (nvF o vs) m) ∧ x.2.2.2.length = 4 ∧ ∀ q, q < n → x.2.2.2.getD (n - 1 - q) 0 = (dg s m q : Int))
    (fun r => r = some (tabL o (mnF s n (bxF n lo t) (bxT n hi t) (nvF o vs) (s ^ n)), (tabL o (mxF s n (bxF n lo t) (bxT n hi t) (nvF o vs) (s ^ n)), ()))) ?_ fu _ ⟨m0, hm0, hb0, hf0, hx0, hy0, hi4, hd0⟩ (by simp only; omega)
  rintro j ⟨first, most, least, idx⟩ ⟨m, hm, hb, rfl, rfl, rfl, hi4, hd⟩
  simp only at hi4 hd
  rw [hull_node h hf hm hb hi4 hd]
  have hhor := hor_eq hm hd
  refine postLoop (f := grid_Hull_l8 fu ((n : Int), (fromL n lo t, toL n hi t)) ((o : Int), (tabL o (mxF s n (bxF n lo t) (bxT n hi t) (nvF o vs) (m + 1)), tabL o (mnF s n (bxF n lo t) (bxT n hi t) (nvF o vs) (m + 1)))) j) (fun x => (x.1 + 1).toNat)
    (fun x => ∃ p, p ≤ n ∧ x.1 = (n : Int) - 1 - p ∧ x.2.length = 4 ∧ (∀ q, q < n → x.2.getD (n - 1 - q) 0 = if q < p then (bxF n lo t q : Int) else (dg s m q : Int)) ∧ ∀ q, q < p → dg s m q = bxT n hi t q)
    (fun r => (∃ x' : Bool × (List Int × (List Int × List Int)), (∃ m, m < s ^ n ∧ inB s n (bxF n lo t) (bxT n hi t) m ∧ x'.1 = (!sn s n (bxF n lo t) (bxT n hi t) m) ∧ x'.2.1 = tabL o (mxF s n (bxF n lo t) (bxT n hi t) (nvF o vs) m) ∧ x'.2.2.1 = tabL o (mnF s n (bxF n lo t) (bxT n hi t) (nvF o vs) m) ∧ x'.2.2.2.length = 4 ∧ ∀ q, q < n → x'.2.2.2.getD (n - 1 - q) 0 = (dg s m q : Int)) ∧ s ^ n - (horN (s : Int) x'.2.2.2 n).toNat < s ^ n - (horN (s : Int) idx n).toNat ∧ r = j x') ∨
      r = some (tabL o (mnF s n (bxF n lo t) (bxT n hi t) (nvF o vs) (s ^ n)), (tabL o (mxF s n (bxF n lo t) (bxT n hi t) (nvF o vs) (s ^ n)), ()))) ?_ fu ((n : Int) - 1, idx) ⟨0, Nat.zero_le _, by simp, hi4, fun q hq => by rw [if_neg (Nat.not_lt_zero _)]; exact hd q hq, fun q hq => absurd hq (Nat.not_lt_zero _)⟩ (by simp only; omega)
  rintro j2 ⟨k, ix⟩ ⟨p, hp, hk, hi4', hd', hT⟩
  simp only at hk hi4' hd'
  subst hk
  have fl : (fromL n lo t).length = 4 := tabL_length _ _
  have tl : (toL n hi t).length = 4 := tabL_length _ _
  by_cases c : p = n
  · subst c
    refine .inr (.inr ?_)
    unfold grid_Hull_l8 grid_Hull_j9
    simp (disch := omega) only [joinF_eq, bindO_some, s_wr, s_td, s_tm, s_pos, s_neg, cond_true, cond_false, Bool.not_true, Bool.not_false, Bool.true_and, Bool.and_true, Bool.false_and, Bool.and_false, bne_self_eq_false, decide_true, decide_false, Int.toNat_natCast]
    obtain ⟨_, e1, e2⟩ := box_same (s := s) (n := p) (F := bxF p lo t) (T := bxT p hi t) (v := nvF o vs) (a := m + 1) (s ^ p) (by omega) (fun y g1 g2 => last_box hT hm g2 (by omega))
    rw [tabL_congr (G := mnF s p (bxF p lo t) (bxT p hi t) (nvF o vs) (m + 1)) (fun i _ _ => (e1 i).symm), tabL_congr (G := mxF s p (bxF p lo t) (bxT p hi t) (nvF o vs) (m + 1)) (fun i _ _ => (e2 i).symm)]
  · have hpn : p < n := by omega
    have ek : ((n : Int) - 1 - (p : Int)) = ((n - 1 - p : Nat) : Int) := by omega
    have e1 := hd' p hpn
    rw [if_neg (Nat.lt_irrefl _)] at e1
    have e2 := toL_at (hi := hi) (t := t) n4 hpn
    have e3 := fromL_at (lo := lo) (t := t) n4 hpn
    have b1 := hb p hpn
    have b2 := bx_lt h hpn
    rw [ek]
    have hkn : n - 1 - p < n := by omega
    by_cases g : dg s m p = bxT n hi t p
    · refine .inl ⟨((n : Int) - 1 - ((p + 1 : Nat) : Int), ix.set (n - 1 - p) (bxF n lo t p : Int)), ⟨p + 1, by omega, rfl, by rw [List.length_set]; exact hi4', fun q hq => ?_, fun q hq => ?_⟩, by simp only; omega, ?_⟩
      · simp only
        rw [getD_set' (by omega)]
        by_cases c1 : q = p
        · subst c1; rw [if_pos rfl, if_pos (by omega)]
        · rw [if_neg (by omega), hd' q hq]
          by_cases c2 : q < p
          · rw [if_pos c2, if_pos (by omega)]
          · rw [if_neg c2, if_neg (by omega)]
      · by_cases c1 : q = p
        · subst c1; exact g
        · exact hT q (by omega)
      · unfold grid_Hull_l8
        simp (disch := omega) only [joinF_eq, bindO_some, s_wr, s_td, s_tm, s_pos, s_neg, cond_true, cond_false, Bool.not_true, Bool.not_false, Bool.true_and, Bool.and_true, Bool.false_and, Bool.and_false, bne_self_eq_false, decide_true, decide_false, Int.toNat_natCast]
        unfold grid_Hull_j9
        simp (disch := omega) only [joinF_eq, bindO_some, s_wr, s_td, s_tm, s_pos, s_neg, cond_true, cond_false, Bool.not_true, Bool.not_false, Bool.true_and, Bool.and_true, Bool.false_and, Bool.and_false, bne_self_eq_false, decide_true, decide_false, Int.toNat_natCast]
        rw [e3, show ((n - 1 - p : Nat) : Int) - 1 = (n : Int) - 1 - ((p + 1 : Nat) : Int) by omega]
    · obtain ⟨x1, x2, x3, x4, x5⟩ := nx_box h hpn hm hb hT g
      obtain ⟨y1, y2, y3⟩ := box_same (s := s) (n := n) (F := bxF n lo t) (T := bxT n hi t) (v := nvF o vs) (a := m + 1) (nxB s (bxF n lo t) m p) (by omega) (fun y g1 g2 => x5 y (by omega) g2)
      have hd2 : ∀ q, q < n → (ix.set (n - 1 - p) ((dg s m p : Int) + 1)).getD (n - 1 - q) 0 = (dg s (nxB s (bxF n lo t) m p) q : Int) := by
        intro q hq
        rw [getD_set' (by omega), x4 q hq]
        by_cases c1 : q = p
        · subst c1; rw [if_pos rfl, if_neg (Nat.lt_irrefl _), if_pos rfl]; rfl
        · rw [if_neg (by omega), hd' q hq, if_neg c1]
          split <;> rfl
      refine .inr (.inl ⟨(false, (tabL o (mxF s n (bxF n lo t) (bxT n hi t) (nvF o vs) (m + 1)), (tabL o (mnF s n (bxF n lo t) (bxT n hi t) (nvF o vs) (m + 1)), ix.set (n - 1 - p) ((dg s m p : Int) + 1)))), ⟨nxB s (bxF n lo t) m p, x1, x3, ?_, tabL_congr fun i _ _ => (y3 i).symm, tabL_congr fun i _ _ => (y2 i).symm, by simp only; rw [List.length_set]; exact hi4', hd2⟩, ?_, ?_⟩)
      · rw [y1, sn, decide_eq_true hb, Bool.or_true]; rfl
      · simp only
        rw [hhor, hor_eq x1 hd2]
        omega
      · unfold grid_Hull_l8
        simp (disch := omega) only [joinF_eq, bindO_some, s_wr, s_td, s_tm, s_pos, s_neg, cond_true, cond_false, Bool.not_true, Bool.not_false, Bool.true_and, Bool.and_true, Bool.false_and, Bool.and_false, bne_self_eq_false, decide_true, decide_false, Int.toNat_natCast]
        unfold grid_Hull_j9
        simp (disch := omega) only [joinF_eq, bindO_some, s_wr, s_td, s_tm, s_pos, s_neg, cond_true, cond_false, Bool.not_true, Bool.not_false, Bool.true_and, Bool.and_true, Bool.false_and, Bool.and_false, bne_self_eq_false, decide_true, decide_false, Int.toNat_natCast]
        rw [e1]
theorem hull_r : grid_Hull_r fu (((n : Int), ((o : Int), ((s : Int), vs))), (lo, (hi, ()))) = some (tabL o (mnF s n (bxF n lo t) (bxT n hi t) (nvF o vs) (s ^ n)), (tabL o (mxF s n (bxF n lo t) (bxT n hi t) (nvF o vs) (s ^ n)), ())) := by
  have h' := h
  obtain ⟨n1, n4, o1, o8, s2, s9, sz, hv, hl, hh, bl, bh, le, t1, t2, tt⟩ := h'
  have ht : (65280 : Int) / ((s : Int) - 1) = t := Int.ediv_eq_of_eq_mul_left (by omega) tt.symm
  have hs0 : 0 < s := by omega
  unfold grid_Hull_r
  simp (disch := omega) only [joinF_eq, bindO_some, s_wr, s_td, s_tm, s_pos, s_neg, cond_true, cond_false, Bool.not_true, Bool.not_false, Bool.true_and, Bool.and_true, Bool.false_and, Bool.and_false, bne_self_eq_false, decide_true, decide_false, Int.toNat_natCast]
  rw [ht]
  refine stLoop (n := n) (st := fun i => ((i : Int), (tabL 4 (fun k => if k < (i : Int) then (bxF n lo t (n - 1 - k.toNat) : Int) else 0), tabL 4 (fun k => if k < (i : Int) then (bxT n hi t (n - 1 - k.toNat) : Int) else 0)))) (by omega) ?_ (fun j k hk => ?_) (fun j => ?_)
  · rfl
  · have bl := bl k hk
    have bh := bh k hk
    have p1 : lo.getD k 0 / t = (bxF n lo t (n - 1 - ((k : Nat) : Int).toNat) : Int) := by
      unfold bxF
      rw [Int.toNat_natCast, show n - 1 - (n - 1 - k) = k by omega, Int.toNat_of_nonneg (Int.ediv_nonneg (by omega) (by omega))]
    have p2 : (hi.getD k 0 + t - 1) / t = (bxT n hi t (n - 1 - ((k : Nat) : Int).toNat) : Int) := by
      unfold bxT
      rw [Int.toNat_natCast, show n - 1 - (n - 1 - k) = k by omega, Int.toNat_of_nonneg (Int.ediv_nonneg (by omega) (by omega))]
    have q := bx_lt h (q := n - 1 - k) (by omega)
    have q1 : (lo.getD k 0 / t) < 10 ∧ 0 ≤ lo.getD k 0 / t := by rw [p1, Int.toNat_natCast]; omega
    have q2 : (hi.getD k 0 + t - 1) / t < 10 ∧ 0 ≤ (hi.getD k 0 + t - 1) / t := by rw [p2, Int.toNat_natCast]; omega
    unfold grid_Hull_l1
    simp (disch := omega) only [joinF_eq, bindO_some, s_wr, s_td, s_tm, s_pos, s_neg, cond_true, cond_false, Bool.not_true, Bool.not_false, Bool.true_and, Bool.and_true, Bool.false_and, Bool.and_false, bne_self_eq_false, decide_true, decide_false, Int.toNat_natCast, tabL_length]
    rw [tabP_set (o := 4) (q := k) (A := fun k => (bxF n lo t (n - 1 - k.toNat) : Int)) (B := fun _ => 0) (by omega) p1.symm, tabP_set (o := 4) (q := k) (A := fun k => (bxT n hi t (n - 1 - k.toNat) : Int)) (B := fun _ => 0) (by omega) p2.symm]
    rfl
  · unfold grid_Hull_l1
    simp (disch := omega) only [joinF_eq, bindO_some, s_wr, s_td, s_tm, s_pos, s_neg, cond_true, cond_false, Bool.not_true, Bool.not_false, Bool.true_and, Bool.and_true, Bool.false_and, Bool.and_false, bne_self_eq_false, decide_true, decide_false, Int.toNat_natCast, tabL_length, List.length_cons, List.length_nil]
    have hF : ∀ q, q < n → bxF n lo t q < s := fun q hq => by
      have := bx_lt h hq
      omega
    have hd := dg_suf hs0 n hF
    have hm := suf_lt hs0 n hF
    obtain ⟨y1, y2, y3⟩ := box_same (s := s) (n := n) (F := bxF n lo t) (T := bxT n hi t) (v := nvF o vs) (a := 0) (sufS s (bxF n lo t) n) (Nat.zero_le _) (fun y _ g => first_box g (by omega))
    refine hull_loop h hf hm (fun q hq => ?_) ?_ ?_ ?_ rfl (fun q hq => ?_)
    · rw [hd q hq]
      have := bx_lt h hq
      omega
    · rw [y1]; rfl
    · exact (tabL_rep fun i _ _ => y3 i).symm
    · exact (tabL_rep fun i _ _ => y2 i).symm
    · rw [hd q hq, ← fromL_at n4 hq]
      have : n - 1 - q = 0 ∨ n - 1 - q = 1 ∨ n - 1 - q = 2 ∨ n - 1 - q = 3 := by omega
      rcases this with e | e | e | e <;> (rw [e]; rfl)
end
/-! ### the law -/
def ordE (lo hi : List Int) (k : Nat) : Int := if hi.getD k 0 < lo.getD k 0 then 18 else 0
theorem firstE_snoc {E : Nat → Int} : ∀ (k i : Nat), firstE E (k + 1) i = if firstE E k i = 0 then E (i + k) else firstE E k i
  | 0, i => by
    rw [firstE, firstE, firstE, if_pos rfl, Nat.add_zero]
    split
    · rename_i e; rw [e]
    · rfl
  | k + 1, i => by
    rw [firstE, firstE_snoc k (i + 1), firstE]
    by_cases e : E i = 0
    · rw [if_pos e, if_pos e, show i + 1 + k = i + (k + 1) by omega]
    · rw [if_neg e, if_neg e, if_neg e]
theorem ordE_or {lo hi : List Int} : ∀ k i, firstE (ordE lo hi) k i = 0 ∨ firstE (ordE lo hi) k i = 18
  | 0, _ => .inl rfl
  | k + 1, i => by
    rw [firstE]
    split
    · exact ordE_or k (i + 1)
    · rename_i e
      unfold ordE at e ⊢
      split at e
      · rename_i g; rw [if_pos g]; exact .inr rfl
      · exact absurd rfl e
/-- the error of a box -/
def boxE (g : GrT) (lo hi : List Int) : Int := if grE g = 0 then (if tonesE lo g.1 65280 = 0 then (if tonesE hi g.1 65280 = 0 then firstE (ordE lo hi) lo.length 0 else tonesE hi g.1 65280) else tonesE lo g.1 65280) else grE g
section
variable {fu : Nat} (hf : 18446744073709551616 ≤ fu) {i o s : Int} {vs lo hi : List Int} (hv : (vs.length : Int) ≤ 9223372036854775807) (hl : (lo.length : Int) ≤ 9223372036854775807) (hh : (hi.length : Int) ≤ 9223372036854775807)
theorem box_ok (h : boxE (i, (o, (s, vs))) lo hi = 0) : ∃ n' o' s' : Nat, i = n' ∧ o = o' ∧ s = s' ∧ BxOk n' o' s' vs lo hi (65280 / ((s' : Int) - 1)) := by
  unfold boxE at h
  by_cases c : grE (i, (o, (s, vs))) = 0
  · rw [if_pos c] at h
    by_cases c1 : tonesE lo i 65280 = 0
    · simp only [if_pos c1] at h
      by_cases c2 : tonesE hi i 65280 = 0
      · simp only [if_pos c2] at h
        obtain ⟨ok, ok2, ok3, _⟩ := grE_ok c
        obtain ⟨l1, l2⟩ := tones_ok c1
        obtain ⟨h1, h2⟩ := tones_ok c2
        unfold shOk at ok
        obtain ⟨n, rfl⟩ := Int.eq_ofNat_of_zero_le (show 0 ≤ i by omega)
        obtain ⟨o, rfl⟩ := Int.eq_ofNat_of_zero_le (show 0 ≤ o by omega)
        obtain ⟨s, rfl⟩ := Int.eq_ofNat_of_zero_le (show 0 ≤ s by omega)
        have e : (s : Int) ^ ((n : Int)).toNat * (o : Int) = ((s ^ n * o : Nat) : Int) := by rw [Int.toNat_natCast, Int.natCast_mul, Int.natCast_pow]
        rw [e] at ok2 ok3
        have ts : s = 2 ∨ s = 3 ∨ s = 4 ∨ s = 5 ∨ s = 6 ∨ s = 7 ∨ s = 9 := by omega
        refine ⟨n, o, s, rfl, rfl, rfl, ⟨by omega, by omega, by omega, by omega, by omega, by omega, by omega, by omega, by omega, by omega, fun k hk => l2 k (by omega), fun k hk => h2 k (by omega), fun k hk => ?_, ?_, ?_, ?_⟩⟩
        · have := firstE_ok _ _ h k (by omega) (by omega)
          unfold ordE at this
          split at this
          · omega
          · omega
        · rcases ts with h | h | h | h | h | h | h <;> subst h <;> decide
        · rcases ts with h | h | h | h | h | h | h <;> subst h <;> decide
        · rcases ts with h | h | h | h | h | h | h <;> subst h <;> decide
      · simp only [if_neg c2] at h; omega
    · simp only [if_neg c1] at h; omega
  · rw [if_neg c] at h; omega
include hf hv hl hh
theorem bounds_r : grid_Bounds_r fu ((i, (o, (s, vs))), (lo, (hi, ()))) = if boxE (i, (o, (s, vs))) lo hi = 0 then bindO (grid_Hull_r fu ((i, (o, (s, vs))), (lo, (hi, ())))) fun v => some (v.1, (v.2.1, ((0 : Int), ()))) else some ([], ([], (boxE (i, (o, (s, vs))) lo hi, ()))) := by
  unfold grid_Bounds_r boxE
  simp only [check_r hf hv, inputs_r hf hl, inputs_r hf hh, bindO_some]
  by_cases c : grE (i, (o, (s, vs))) = 0
  · rw [if_pos c, c]
    simp (disch := omega) only [joinF_eq, bindO_some, s_wr, s_td, s_tm, s_pos, s_neg, cond_true, cond_false, Bool.not_true, Bool.not_false, Bool.true_and, Bool.and_true, Bool.false_and, Bool.and_false, bne_self_eq_false, decide_true, decide_false, Int.toNat_natCast]
    by_cases c1 : tonesE lo i 65280 = 0
    · simp only [if_pos c1]
      rw [c1]
      simp (disch := omega) only [joinF_eq, bindO_some, s_wr, s_td, s_tm, s_pos, s_neg, cond_true, cond_false, Bool.not_true, Bool.not_false, Bool.true_and, Bool.and_true, Bool.false_and, Bool.and_false, bne_self_eq_false, decide_true, decide_false, Int.toNat_natCast]
      by_cases c2 : tonesE hi i 65280 = 0
      · simp only [if_pos c2]
        rw [c2]
        simp (disch := omega) only [joinF_eq, bindO_some, s_wr, s_td, s_tm, s_pos, s_neg, cond_true, cond_false, Bool.not_true, Bool.not_false, Bool.true_and, Bool.and_true, Bool.false_and, Bool.and_false, bne_self_eq_false, decide_true, decide_false, Int.toNat_natCast]
        have l1 := (tones_ok c1).1
        have h1 := (tones_ok c2).1
        rw [errLoop (n := lo.length) (E := ordE lo hi) (out := fun e => some ([], ([], (e, ())))) (fin := bindO (grid_Hull_r fu ((i, (o, (s, vs))), (lo, (hi, ())))) fun v => some (v.1, (v.2.1, ((0 : Int), ())))) (by omega)]
        · intro j k hk
          have t1 : hi.getD k 0 < lo.getD k 0 → ordE lo hi k = 18 := fun h => by unfold ordE; rw [if_pos h]
          have t0 : ¬ hi.getD k 0 < lo.getD k 0 → ordE lo hi k = 0 := fun h => by unfold ordE; rw [if_neg h]
          unfold grid_Bounds_l1
          simp (disch := omega) only [joinF_eq, bindO_some, s_wr, s_td, s_tm, s_pos, s_neg, cond_true, cond_false, Bool.not_true, Bool.not_false, Bool.true_and, Bool.and_true, Bool.false_and, Bool.and_false, bne_self_eq_false, decide_true, decide_false, Int.toNat_natCast]
          by_cases g : hi.getD k 0 < lo.getD k 0
          · rw [t1 g]; simp (disch := omega) only [joinF_eq, bindO_some, s_wr, s_td, s_tm, s_pos, s_neg, cond_true, cond_false, Bool.not_true, Bool.not_false, Bool.true_and, Bool.and_true, Bool.false_and, Bool.and_false, bne_self_eq_false, decide_true, decide_false, Int.toNat_natCast]; rfl
          · rw [t0 g]; simp (disch := omega) only [joinF_eq, bindO_some, s_wr, s_td, s_tm, s_pos, s_neg, cond_true, cond_false, Bool.not_true, Bool.not_false, Bool.true_and, Bool.and_true, Bool.false_and, Bool.and_false, bne_self_eq_false, decide_true, decide_false, Int.toNat_natCast]; rfl
        · intro j
          unfold grid_Bounds_l1
          simp (disch := omega) only [joinF_eq, bindO_some, s_wr, s_td, s_tm, s_pos, s_neg, cond_true, cond_false, Bool.not_true, Bool.not_false, Bool.true_and, Bool.and_true, Bool.false_and, Bool.and_false, bne_self_eq_false, decide_true, decide_false, Int.toNat_natCast]
      · simp only [if_neg c2]
        simp (disch := omega) only [joinF_eq, bindO_some, s_wr, s_td, s_tm, s_pos, s_neg, cond_true, cond_false, Bool.not_true, Bool.not_false, Bool.true_and, Bool.and_true, Bool.false_and, Bool.and_false, bne_self_eq_false, decide_true, decide_false, Int.toNat_natCast]
    · simp only [if_neg c1]
      simp (disch := omega) only [joinF_eq, bindO_some, s_wr, s_td, s_tm, s_pos, s_neg, cond_true, cond_false, Bool.not_true, Bool.not_false, Bool.true_and, Bool.and_true, Bool.false_and, Bool.and_false, bne_self_eq_false, decide_true, decide_false, Int.toNat_natCast]
  · simp only [if_neg c]
    simp (disch := omega) only [joinF_eq, bindO_some, s_wr, s_td, s_tm, s_pos, s_neg, cond_true, cond_false, Bool.not_true, Bool.not_false, Bool.true_and, Bool.and_true, Bool.false_and, Bool.and_false, bne_self_eq_false, decide_true, decide_false, Int.toNat_natCast]
theorem order_r {j : Int → Option (Bool × Unit)} (e : hi.length = lo.length) : loopF (law_GridBoxes_l11 fu ((i, (o, (s, vs))), (lo, (hi, ()))) j) fu ((0 : Int), (0 : Int)) = j (firstE (ordE lo hi) lo.length 0) := by
  refine stLoop (n := lo.length) (st := fun k => (firstE (ordE lo hi) k 0, (k : Int))) (by omega) rfl (fun j' k hk => ?_) (fun j' => ?_)
  · have t1 : hi.getD k 0 < lo.getD k 0 → ordE lo hi k = 18 := fun h => by unfold ordE; rw [if_pos h]
    have t0 : ¬ hi.getD k 0 < lo.getD k 0 → ordE lo hi k = 0 := fun h => by unfold ordE; rw [if_neg h]
    have q := ordE_or (lo := lo) (hi := hi) k 0
    rw [firstE_snoc, Nat.zero_add]
    unfold law_GridBoxes_l11
    simp (disch := omega) only [joinF_eq, bindO_some, s_wr, s_td, s_tm, s_pos, s_neg, cond_true, cond_false, Bool.not_true, Bool.not_false, Bool.true_and, Bool.and_true, Bool.false_and, Bool.and_false, bne_self_eq_false, decide_true, decide_false, Int.toNat_natCast]
    by_cases g : hi.getD k 0 < lo.getD k 0
    · rw [t1 g]
      simp (disch := omega) only [joinF_eq, bindO_some, s_wr, s_td, s_tm, s_pos, s_neg, cond_true, cond_false, Bool.not_true, Bool.not_false, Bool.true_and, Bool.and_true, Bool.false_and, Bool.and_false, bne_self_eq_false, decide_true, decide_false, Int.toNat_natCast, law_GridBoxes_j12]
      rcases q with q | q
      · rw [q]; rfl
      · rw [q]; rfl
    · rw [t0 g]
      simp (disch := omega) only [joinF_eq, bindO_some, s_wr, s_td, s_tm, s_pos, s_neg, cond_true, cond_false, Bool.not_true, Bool.not_false, Bool.true_and, Bool.and_true, Bool.false_and, Bool.and_false, bne_self_eq_false, decide_true, decide_false, Int.toNat_natCast, law_GridBoxes_j12]
      rcases q with q | q
      · rw [q]; rfl
      · rw [q]; rfl
  · unfold law_GridBoxes_l11
    simp (disch := omega) only [joinF_eq, bindO_some, s_wr, s_td, s_tm, s_pos, s_neg, cond_true, cond_false, Bool.not_true, Bool.not_false, Bool.true_and, Bool.and_true, Bool.false_and, Bool.and_false, bne_self_eq_false, decide_true, decide_false, Int.toNat_natCast]
theorem gridBoxes_r (hW : law_gridWorks_r fu () = some (true, ())) : law_GridBoxes_r fu ((i, (o, (s, vs))), (lo, (hi, ()))) = some (true, ()) := by
  unfold law_GridBoxes_r
  simp (disch := omega) only [joinF_eq, bindO_some, s_wr, s_td, s_tm, s_pos, s_neg, cond_true, cond_false, Bool.not_true, Bool.not_false, Bool.true_and, Bool.and_true, Bool.false_and, Bool.and_false, bne_self_eq_false, decide_true, decide_false, Int.toNat_natCast, hW, gridErr_r hf hv]
  rw [bounds_r hf hv hl hh]
  by_cases c : boxE (i, (o, (s, vs))) lo hi = 0
  · rw [if_pos c]
    obtain ⟨n, o, s, rfl, rfl, rfl, ok⟩ := box_ok c
    have ok' := ok
    obtain ⟨n1, n4, o1, o8, s2, s9, sz, hv', hl', hh', bl, bh, le, t1, t2, tt⟩ := ok'
    have ts := Int.ediv_nonneg (a := 65280) (b := (s : Int) - 1) (by omega) (by omega)
    rw [hull_r ok hf]
    unfold boxE at c
    by_cases c0 : grE ((n : Int), ((o : Int), ((s : Int), vs))) = 0
    · rw [if_pos c0] at c
      by_cases c1 : tonesE lo n 65280 = 0
      · simp only [if_pos c1] at c
        by_cases c2 : tonesE hi n 65280 = 0
        · simp only [if_pos c2] at c
          rw [c0]
          unfold law_GridBoxes_j1
          simp (disch := omega) only [joinF_eq, bindO_some, s_wr, s_td, s_tm, s_pos, s_neg, cond_true, cond_false, Bool.not_true, Bool.not_false, Bool.true_and, Bool.and_true, Bool.false_and, Bool.and_false, bne_self_eq_false, decide_true, decide_false, Int.toNat_natCast, tonesErr_r hf hl, tonesErr_r hf hh]
          rw [c2]
          unfold law_GridBoxes_j2
          simp (disch := omega) only [joinF_eq, bindO_some, s_wr, s_td, s_tm, s_pos, s_neg, cond_true, cond_false, Bool.not_true, Bool.not_false, Bool.true_and, Bool.and_true, Bool.false_and, Bool.and_false, bne_self_eq_false, decide_true, decide_false, Int.toNat_natCast]
          rw [order_r hf hv hl hh (by omega), c]
          unfold law_GridBoxes_j3
          simp (disch := omega) only [joinF_eq, bindO_some, s_wr, s_td, s_tm, s_pos, s_neg, cond_true, cond_false, Bool.not_true, Bool.not_false, Bool.true_and, Bool.and_true, Bool.false_and, Bool.and_false, bne_self_eq_false, decide_true, decide_false, Int.toNat_natCast]
          rw [boxes_add hf ok]
          simp (disch := omega) only [joinF_eq, bindO_some, s_wr, s_td, s_tm, s_pos, s_neg, cond_true, cond_false, Bool.not_true, Bool.not_false, Bool.true_and, Bool.and_true, Bool.false_and, Bool.and_false, bne_self_eq_false, decide_true, decide_false, Int.toNat_natCast]
          rw [sameI_r hf (by rw [tabL_length]; omega), sameI_r hf (by rw [tabL_length]; omega)]
          rfl
        · simp only [if_neg c2] at c; omega
      · simp only [if_neg c1] at c; omega
    · rw [if_neg c0] at c; omega
  · rw [if_neg c]
    generalize hE : boxE (i, (o, (s, vs))) lo hi = E at *
    have kn : ∀ w, w = E → law_GridBoxes_j3 fu ((i, (o, (s, vs))), (lo, (hi, ()))) [] [] E w = some (true, ()) := by
      rintro w rfl
      unfold law_GridBoxes_j3
      simp (disch := omega) only [joinF_eq, bindO_some, s_wr, s_td, s_tm, s_pos, s_neg, cond_true, cond_false, Bool.not_true, Bool.not_false, Bool.true_and, Bool.and_true, Bool.false_and, Bool.and_false, bne_self_eq_false, decide_true, decide_false, Int.toNat_natCast, none_s]
      rfl
    unfold boxE at hE
    by_cases c0 : grE (i, (o, (s, vs))) = 0
    · rw [if_pos c0] at hE
      rw [c0]
      unfold law_GridBoxes_j1
      simp (disch := omega) only [joinF_eq, bindO_some, s_wr, s_td, s_tm, s_pos, s_neg, cond_true, cond_false, Bool.not_true, Bool.not_false, Bool.true_and, Bool.and_true, Bool.false_and, Bool.and_false, bne_self_eq_false, decide_true, decide_false, Int.toNat_natCast, tonesErr_r hf hl, tonesErr_r hf hh]
      by_cases c1 : tonesE lo i 65280 = 0
      · simp only [if_pos c1] at hE
        rw [c1]
        simp (disch := omega) only [joinF_eq, bindO_some, s_wr, s_td, s_tm, s_pos, s_neg, cond_true, cond_false, Bool.not_true, Bool.not_false, Bool.true_and, Bool.and_true, Bool.false_and, Bool.and_false, bne_self_eq_false, decide_true, decide_false, Int.toNat_natCast]
        by_cases c2 : tonesE hi i 65280 = 0
        · simp only [if_pos c2] at hE
          rw [c2]
          unfold law_GridBoxes_j2
          simp (disch := omega) only [joinF_eq, bindO_some, s_wr, s_td, s_tm, s_pos, s_neg, cond_true, cond_false, Bool.not_true, Bool.not_false, Bool.true_and, Bool.and_true, Bool.false_and, Bool.and_false, bne_self_eq_false, decide_true, decide_false, Int.toNat_natCast]
          rw [order_r hf hv hl hh (by have := (tones_ok c1).1; have := (tones_ok c2).1; omega)]
          exact kn _ hE
        · simp only [if_neg c2] at hE
          unfold law_GridBoxes_j2
          simp (disch := omega) only [joinF_eq, bindO_some, s_wr, s_td, s_tm, s_pos, s_neg, cond_true, cond_false, Bool.not_true, Bool.not_false, Bool.true_and, Bool.and_true, Bool.false_and, Bool.and_false, bne_self_eq_false, decide_true, decide_false, Int.toNat_natCast]
          exact kn _ hE
      · simp only [if_neg c1] at hE
        simp (disch := omega) only [joinF_eq, bindO_some, s_wr, s_td, s_tm, s_pos, s_neg, cond_true, cond_false, Bool.not_true, Bool.not_false, Bool.true_and, Bool.and_true, Bool.false_and, Bool.and_false, bne_self_eq_false, decide_true, decide_false, Int.toNat_natCast]
        unfold law_GridBoxes_j2
        simp (disch := omega) only [joinF_eq, bindO_some, s_wr, s_td, s_tm, s_pos, s_neg, cond_true, cond_false, Bool.not_true, Bool.not_false, Bool.true_and, Bool.and_true, Bool.false_and, Bool.and_false, bne_self_eq_false, decide_true, decide_false, Int.toNat_natCast]
        exact kn _ hE
    · rw [if_neg c0] at hE
      simp (disch := omega) only [joinF_eq, bindO_some, s_wr, s_td, s_tm, s_pos, s_neg, cond_true, cond_false, Bool.not_true, Bool.not_false, Bool.true_and, Bool.and_true, Bool.false_and, Bool.and_false, bne_self_eq_false, decide_true, decide_false, Int.toNat_natCast]
      unfold law_GridBoxes_j1 law_GridBoxes_j2
      simp (disch := omega) only [joinF_eq, bindO_some, s_wr, s_td, s_tm, s_pos, s_neg, cond_true, cond_false, Bool.not_true, Bool.not_false, Bool.true_and, Bool.and_true, Bool.false_and, Bool.and_false, bne_self_eq_false, decide_true, decide_false, Int.toNat_natCast]
      exact kn _ hE
end
end Go.Proofs.Ytdfocbeejgcglaa
/- The step from a walk to a law's row, once for all laws of the seat: a law that returns true and leaves all that was there as it was. -/
namespace Go.Proofs.Ytdfocbeejgcglaa
open Go.ChangeShapes Go.WideShapes Go.ChangeAt Go.RowKit

theorem own : ownKnob Try.prog.godebug = none := by kernel_rfl
theorem laidOut : laidOutB Try.prog = true := by kernel_rfl
theorem boolT : Try.prog.underlying 4 = some .bool := Try.underlying4

theorem trodAll_stays {H : Type} {enc : TypeId × Value → H} {P : Program} (hl : laidOutB P = true) {W W' : World} (hb : Below W.heap.size W W') :
    ∀ {ts : List TypeId} {vs : List Value} {ds : List (DataW H)} {ps : List MemPlace}, (∀ t ∈ ts, P.readableRec t = true ∧ t < P.types.size) → DataW.TrodAll enc P W 0 (fun _ => true) true ts vs ds ps →
      (∀ x ∈ ps, x.block < W.heap.size) → DataW.TrodAll enc P W' 0 (fun b => decide (b < W.heap.size)) true ts vs ds ps
  | [], [], [], _, _, h, _ => h
  | t :: ts, v :: vs, d :: ds, _, hr, ⟨p, q, h1, h2, e⟩, hlt =>
    ⟨p, q, Below.trod hl (hr t (by simp)).1 (hr t (by simp)).2 h1 hb (fun x hx => hlt x (by rw [e]; simp [hx])),
      trodAll_stays hl hb (fun t' ht => hr t' (by simp [ht])) h2 (fun x hx => hlt x (by rw [e]; simp [hx])), e⟩
  | [], [], _ :: _, _, _, h, _ => h.elim
  | [], _ :: _, _, _, _, h, _ => h.elim
  | _ :: _, [], _, _, _, h, _ => h.elim
  | _ :: _, _ :: _, [], _, _, h, _ => h.elim

/-- what a law's row asks of the readable types among its parameters -/
def readsAll (P : Program) (ts : List TypeId) : Bool := ts.all fun t => P.readableRec t && decide (t < P.types.size)
theorem readsAll_all {P : Program} {ts : List TypeId} (h : readsAll P ts = true) : ∀ t ∈ ts, P.readableRec t = true ∧ t < P.types.size := by
  intro t ht
  have := List.all_eq_true.1 h t ht
  simpa using this

theorem trodAll_length {H : Type} {enc : TypeId × Value → H} {P : Program} {W : World} {base : Nat} {spare : Nat → Bool} {held : Bool} :
    ∀ {ts : List TypeId} {vs : List Value} {ds : List (DataW H)} {ps : List MemPlace}, DataW.TrodAll enc P W base spare held ts vs ds ps → ds.length = ts.length
  | [], [], [], _, _ => rfl
  | _ :: _, _ :: _, _ :: _, _, ⟨_, _, _, h2, _⟩ => by simp [trodAll_length h2]
  | [], [], _ :: _, _, h => h.elim
  | [], _ :: _, _, _, h => h.elim
  | _ :: _, [], _, _, h => h.elim
  | _ :: _, _ :: _, [], _, h => h.elim

set_option maxRecDepth 100000 in
theorem law_lifted {os : Os} (started : os.Started) {H : Type} {enc : TypeId × Value → H} {f : FuncId} {fn : Func} {s : ChangeSpec}
    (noInit : Try.checked.prog.inits.idxOf? f = none) (hfn : Try.checked.prog.funcs[f]? = some fn)
    (witness : ∃ (w : World) (tape : Tape) (i : Input), w.os = os ∧ (w.forCall tape i).Shaped Try.checked.prog ∧ i.vars = [] ∧ Input.okWide Try.checked.prog (w.forCall tape i) .any w.heap.size f i ∧
      s.pre6 enc Try.checked.prog fn [] false (w.forCall tape i).memory i.args ∧ ({} : Assume).holds Try.checked.prog (lone (Frame.enter Try.checked.prog f i.args .normal) [] (w.forCall tape i)))
    (hvars : s.vars = []) (hres : fn.resultTypes = #[4]) (hread : readsAll Try.prog fn.params.toList = true)
    (hspec : ∀ ds : List (DataW H), ds.length = fn.params.toList.length → s.fn H ds = { results := [.lit (.bool true)], args := ds })
    (walk : ∀ (W : World) (base : Nat) (args : List Value) (ds : List (DataW H)) (ps : List MemPlace),
      (∀ (j : Nat) t v, fn.params[j]? = some t → args[j]? = some v → Value.okWide Try.prog W .any base t v) → DataW.TrodAll enc Try.prog W 0 (fun _ => true) true fn.params.toList args ds ps →
      (DataW.weightsEach Try.prog fn.params.toList ds).all (· ≤ reachBytes) = true → (∀ x ∈ ps, x.block < W.heap.size) →
      Calls Try.prog f args.toArray W fun e W' => e = .returned (.bool true) ∧ Below W.heap.size W W') :
    ReturnsInHanded {} Try.checked os f .any (s.pre6 enc Try.checked.prog fn [] false) (s.post enc Try.checked.prog fn false true false false) := by
  refine returnsInHanded_of_change_sized (C := Try.checked) own started noInit hfn witness ?_
  intro W base args ds gs before hval hW _ hsz _
  have hW' := hW
  obtain ⟨p, q, hA0, hV, rfl, hfz, hnd⟩ := hW
  rw [hvars] at hV
  obtain ⟨rfl, rfl⟩ := trodVars_none hV
  have hA : DataW.TrodAll enc Try.prog W 0 (fun _ => true) true fn.params.toList args.toList ds p := hA0
  have hlen : ds.length = fn.params.toList.length := trodAll_length hA
  have hlt : ∀ x ∈ p, x.block < W.heap.size := fun x hx => hW'.lt x (by simpa using hx)
  have hargs : args.toList.toArray = args := by simp
  have hsz' : (DataW.weightsEach Try.prog fn.params.toList ds).all (· ≤ reachBytes) = true := by
    have h := hsz
    have hvt : s.plain.varTypes Try.checked.prog = [] := by simp [DataSpec.varTypes, ChangeSpec.plain, hvars]
    rw [hvt] at h
    simp only [List.append_nil] at h
    exact h
  have hw := walk W base args.toList ds p (fun j t v ht hv => hval j t v ht (by simpa using hv)) hA hsz' hlt
  rw [hargs] at hw
  refine hw.mono fun e W' ⟨he, hb⟩ => ⟨.bool true, he, ?_⟩
  have hsf : s.fn H (ds ++ []) = { results := [.lit (.bool true)], args := ds } := by rw [List.append_nil]; exact hspec ds hlen
  refine ⟨ds, [], p ++ [], [], p, [], hW', ?_, ?_, ?_, hb.frame _, fun h => by cases h⟩
  · rw [hsf, hres]
    exact trodAll_mk1 (shut_bool boolT true)
  · rw [hsf]
    exact trodAll_stays laidOut hb (readsAll_all hread) hA hlt
  · rw [hsf, hvars]
    rfl
end Go.Proofs.Ytdfocbeejgcglaa
/- Arguments opened: what slices and structs of numbers read as. -/
set_option maxRecDepth 100000
namespace Go.Proofs.Ytdfocbeejgcglaa
open Go.ChangeShapes Go.WideShapes Go.ChangeAt Go.RowKit Go.Deep

theorem choose_list {α : Type} {n : Nat} {Q : Nat → α → Prop} (h : ∀ i, i < n → ∃ p, Q i p) : ∃ l : List α, l.length = n ∧ ∀ i p, l[i]? = some p → Q i p := by
  induction n with
  | zero => exact ⟨[], rfl, by intro i p hi; simp at hi⟩
  | succ n ih =>
    obtain ⟨l, hl, hq⟩ := ih (fun i hi => h i (by omega))
    obtain ⟨p, hp⟩ := h n (by omega)
    refine ⟨l ++ [p], by simp [hl], fun i q hi => ?_⟩
    rcases Nat.lt_trichotomy i n with hlt | rfl | hgt
    · rw [List.getElem?_append_left (by omega)] at hi
      exact hq i q hi
    · rw [List.getElem?_append_right (by omega), hl] at hi
      simp at hi
      subst hi; exact hp
    · rw [List.getElem?_eq_none (by simp; omega)] at hi
      cases hi

section
variable {H : Type} {enc : TypeId × Value → H} {P : Program} {w : World} {base : Nat} {spare : Nat → Bool} {held : Bool}
/-- a slice, whatever its elements: of each element its cells and its reading -/
theorem rd_slice {t e : TypeId} {fuel : Nat} {v : Value} {x : DataW H × List MemPlace} (ht : P.underlying t = some (.slice e)) (hc : 0 < P.cellsOf e) (h : DataW.trod enc P w base spare held fuel t [v] = some x) :
    ∃ A n c, v = .slice A n c ∧ n ≤ c ∧ c ≤ maxLen ∧ ∀ i, i < n → ∃ b o cs n' x', A = some ⟨b, o, none⟩ ∧ cs.length = P.cellsOf e ∧ (∀ j u, cs[j]? = some u → w.cell? ⟨b, o + i * P.cellsOf e + j, none⟩ = some u) ∧
      DataW.trod enc P w base spare held n' e cs = some x' := by
  rcases open_slice ht h with ⟨h0, _⟩ | ⟨a, len, cap, m, n', D, Pl, hcs, _, hl, hm, hmm, _, hi⟩
  · simp at h0
    subst h0
    exact ⟨none, 0, 0, rfl, by omega, by unfold maxLen; omega, by intro i hi; omega⟩
  · simp at hcs
    subst hcs
    refine ⟨some a, len, cap, rfl, hl, hm, fun i hil => ?_⟩
    have hlm : len ≤ m := by rw [hmm]; split <;> omega
    obtain ⟨cs, h1, h2⟩ := hi i (by omega)
    obtain ⟨hb, hlen, hat⟩ := World.cells?_some h1
    obtain ⟨b, o, spot⟩ := a
    have h00 := hat 0 (by omega)
    have hsp : spot = none := by
      obtain ⟨cs0, g1, _⟩ := hi 0 (by omega)
      obtain ⟨_, gl, gat⟩ := World.cells?_some g1
      have hx := gat 0 (by omega)
      rw [List.getElem?_eq_getElem (by omega)] at hx
      simpa [Addr.add] using World.cell?_spot hx
    subst hsp
    refine ⟨b, o, cs, n', _, rfl, hlen, ?_, h2⟩
    intro j u hu
    have hjl : j < P.cellsOf e := by rw [← hlen]; exact (List.getElem?_eq_some_iff.1 hu).1
    have := hat j hjl
    rw [hu, Addr.add_lit, Addr.add_lit] at this
    exact this
end

end Go.Proofs.Ytdfocbeejgcglaa
/- Arguments opened, as abstract values. -/
set_option maxRecDepth 100000
namespace Go.Proofs.Ytdfocbeejgcglaa
open Go Go.ChangeShapes Go.WideShapes Go.ChangeAt Go.RowKit Go.Deep

section
variable {H : Type} {enc : TypeId × Value → H} {P : Program} {w : World} {base : Nat} {spare : Nat → Bool} {held : Bool}
/-- data of the caller's -/
abbrev RelC (w : World) : AV → Value → Prop := RelD w (fun _ => False) w.heap.size
/-- one element's cells, read as enc p -/
def Reads {α : Type} (w : World) (sz : Nat) (ec : α → List AV) (Q : α → Prop) (cs : List Value) : Prop :=
  ∃ p, Q p ∧ (ec p).length = sz ∧ ∀ (j : Nat) (a : AV) (u : Value), (ec p)[j]? = some a → cs[j]? = some u → RelC w a u
theorem ro_slice {α : Type} (ec : α → List AV) (Q : α → Prop) {t e : TypeId} {sz fuel : Nat} {v : Value} {x : DataW H × List MemPlace} (ht : P.underlying t = some (.slice e)) (hz : P.cellsOf e = sz) (hc : 0 < sz)
    (hel : ∀ (fuel : Nat) (cs : List Value) (x : DataW H × List MemPlace), cs.length = sz → DataW.trod enc P w base spare held fuel e cs = some x → Reads w sz ec Q cs) (h : DataW.trod enc P w base spare held fuel t [v] = some x) :
    ∃ xs : List α, (∀ p ∈ xs, Q p) ∧ RelC w (.ro false sz (xs.map ec)) v := by
  subst hz
  obtain ⟨A, n, c, rfl, hn, hm, hi⟩ := rd_slice ht hc h
  obtain ⟨xs, hl, hq⟩ := choose_list (Q := fun i (p : α) => Q p ∧ ∃ (b o : Nat) (cs : List Value), A = some ⟨b, o, none⟩ ∧ cs.length = P.cellsOf e ∧ (∀ (j : Nat) (u : Value), cs[j]? = some u → w.cell? ⟨b, o + i * P.cellsOf e + j, none⟩ = some u) ∧ (ec p).length = P.cellsOf e ∧ ∀ (j : Nat) (a : AV) (u : Value), (ec p)[j]? = some a → cs[j]? = some u → RelC w a u) (n := n) (by
    intro i hil
    obtain ⟨b, o, cs, n', x', hA, hlen, hat, htr⟩ := hi i hil
    obtain ⟨p, h1, h2, h3⟩ := hel n' cs x' hlen htr
    exact ⟨p, h1, b, o, cs, hA, hlen, hat, h2, h3⟩)
  subst hl
  refine ⟨xs, fun p hp => ?_, ?_⟩
  · obtain ⟨i, hi⟩ := List.mem_iff_getElem?.1 hp
    exact (hq i p hi).1
  have key : ∀ (i : Nat) (row : List AV) (j : Nat) (a : AV), (xs.map ec)[i]? = some row → row[j]? = some a → ∃ b o u, A = some ⟨b, o, none⟩ ∧ w.cell? ⟨b, o + i * P.cellsOf e + j, none⟩ = some u ∧ RelC w a u := by
    intro i row j a hr ha
    rw [List.getElem?_map] at hr
    obtain ⟨p, hp, rfl⟩ := Option.map_eq_some_iff.1 hr
    obtain ⟨_, b, o, cs, hA, hlen, hat, hel, hrel⟩ := hq i p hp
    have hj : j < cs.length := by rw [hlen, ← hel]; exact (List.getElem?_eq_some_iff.1 ha).1
    have hu : cs[j]? = some cs[j] := List.getElem?_eq_getElem hj
    exact ⟨b, o, cs[j], hA, hat j _ hu, hrel j a _ ha hu⟩
  have hcon := RelD.ro (w := w) (own := fun _ => False) (bs := w.heap.size) false (P.cellsOf e) (xs.map ec) A c (fun i j => match A with
    | some ⟨b, o, _⟩ => (w.cell? ⟨b, o + i * P.cellsOf e + j, none⟩).getD undef
    | none => undef) (by simpa using hn) hm (fun i hi hA => by
      have hi : i < xs.length := by simpa using hi
      obtain ⟨_, b, o, _, h1, _⟩ := hq i xs[i] (List.getElem?_eq_getElem hi)
      rw [hA] at h1; cases h1) (fun i row j a hr ha => by
      obtain ⟨b, o, u, hA, hu, _⟩ := key i row j a hr ha
      subst hA
      exact ⟨b, o, rfl, fun h => h.elim, (fun h => by cases h), by simp [hu]⟩) (fun i row j a hr ha => by
      obtain ⟨b, o, u, hA, hu, hr⟩ := key i row j a hr ha
      subst hA
      simpa [hu] using hr)
  rw [List.length_map] at hcon
  exact hcon
end
/-- a law that answers true -/
theorem AF.yes {P : Program} {F : FuncId} {xs : List AV} {vs : Array Value} {w : World} (h : AF P F xs (.bool true)) (ha : ArgsV w (Gh.none w.heap.size) xs vs) : Calls P F vs w fun e w' => e = .returned (.bool true) ∧ Below w.heap.size w w' :=
  (h.out w vs ha).mono fun e w' ⟨v, he, hb, hv⟩ => ⟨by rw [he, hv.bool'], hb⟩
end Go.Proofs.Ytdfocbeejgcglaa
/- Arguments of any type, opened by one theorem; the last step of a law that a residual program answers. -/
set_option maxRecDepth 100000
namespace Go.Proofs.Ytdfocbeejgcglaa
open Go Go.ChangeShapes Go.WideShapes Go.ChangeAt Go.RowKit Go.Deep

/-- what every argument of a type meets -/
def Ty.wf : (t : Ty) → t.den → Prop
  | .int k, n => (Lit.int k n).wf = true
  | .bool, _ => True
  | .str, s => List.length s ≤ maxLen
  | .list t, xs => List.length xs ≤ maxLen ∧ ∀ x ∈ (xs : List t.den), t.wf x
  | .unit, _ => True
  | .pair a b, x => a.wf x.1 ∧ b.wf x.2
  | .agg t, x => t.wf x
  | .ptr _, _ => False
def prB (t : Ty) (f : Ty → Ty → Bool) : Bool := match t with
  | .pair x y => f x y
  | _ => false
def unB (t : Ty) : Bool := match t with
  | .unit => true
  | _ => false
theorem prB_ok {t : Ty} {f : Ty → Ty → Bool} (h : prB t f = true) : ∃ x y, t = .pair x y ∧ f x y = true := by
  unfold prB at h
  split at h
  · exact ⟨_, _, rfl, h⟩
  · cases h
theorem unB_ok {t : Ty} (h : unB t = true) : t = .unit := by
  unfold unB at h
  split at h
  · rfl
  · cases h
def fsB (g : TypeId → Ty → Bool) : List Field → Nat → Ty → Bool
  | [], _, t => unB t
  | [a], o, t => Nat.beq a.offset o && g a.type t
  | a :: b :: l, o, t => prB t fun x y => Nat.beq a.offset o && g a.type x && fsB g (b :: l) (o + x.size) y
def arB (g : Ty → Bool) : Nat → Ty → Bool
  | 0, t => unB t
  | 1, t => g t
  | n + 2, t => prB t fun x y => g x && arB g (n + 1) y
def intB (k : IntKind) (t : Ty) : Bool := match t with
  | .int k' => decide (k' = k)
  | _ => false
def boolB (t : Ty) : Bool := match t with
  | .bool => true
  | _ => false
def strB (t : Ty) : Bool := match t with
  | .str => true
  | _ => false
def sliceB (g : Ty → Bool) (t : Ty) : Bool := match t with
  | .list t' => g t' && Nat.blt 0 t'.size
  | _ => false
/-- a type as the program has it -/
def tyB (P : Program) : Nat → TypeId → Ty → Bool
  | 0, _, _ => false
  | f + 1, tid, t => Nat.beq (P.cellsOf tid) t.size && (match P.underlying tid with
    | some (.int k) => intB k t
    | some .bool => boolB t
    | some .string => strB t
    | some (.slice e) => sliceB (tyB P f e) t
    | some (.struct ⟨fs⟩) => fsB (tyB P f) fs 0 t
    | some (.array n e) => arB (tyB P f e) n t
    | _ => false)
section
variable {H : Type} {enc : TypeId × Value → H} {P : Program} {w : World} {base : Nat} {spare : Nat → Bool} {held : Bool}
abbrev ReadsT (w : World) (t : Ty) (cs : List Value) : Prop := Reads w t.size (t.cells false) t.wf cs
theorem tyB_size {f : Nat} {tid : TypeId} {t : Ty} (h : tyB P f tid t = true) : P.cellsOf tid = t.size := by
  cases f with
  | zero => cases h
  | succ f => rw [tyB, Bool.and_eq_true] at h; exact Nat.eq_of_beq_eq_true h.1
theorem ReadsT.pair {a b : Ty} {c d : List Value} (h : ReadsT w a c) (k : ReadsT w b d) (hl : c.length = a.size) : ReadsT w (.pair a b) (c ++ d) := by
  obtain ⟨x, x1, x2, x3⟩ := h
  obtain ⟨y, y1, y2, y3⟩ := k
  refine ⟨(x, y), ⟨x1, y1⟩, Ty.cells_length _ _ _, fun j v u hv hu => ?_⟩
  rw [Ty.cells] at hv
  by_cases hj : j < a.size
  · rw [List.getElem?_append_left (by rw [x2]; exact hj)] at hv
    rw [List.getElem?_append_left (by omega)] at hu
    exact x3 j v u hv hu
  · rw [List.getElem?_append_right (by rw [x2]; omega), x2] at hv
    rw [List.getElem?_append_right (by omega), hl] at hu
    exact y3 _ v u hv hu
theorem ReadsT.unit : ReadsT w .unit [] := ⟨(), trivial, rfl, fun j a u h _ => by simp [Ty.cells] at h⟩
theorem fs_reads {g : TypeId → Ty → Bool} (hg : ∀ (tid : TypeId) (t : Ty) (n : Nat) (cs : List Value) (x : DataW H × List MemPlace), g tid t = true → cs.length = t.size → DataW.trod enc P w base spare held n tid cs = some x → ReadsT w t cs) (hsz : ∀ tid t, g tid t = true → P.cellsOf tid = t.size) {cs : List Value} :
    ∀ (l : List Field) (o : Nat) (t : Ty), fsB g l o t = true → (∀ a ∈ l, ∃ n y, DataW.trod enc P w base spare held n a.type ((cs.drop a.offset).take (P.cellsOf a.type)) = some y) → o + t.size ≤ cs.length → ReadsT w t ((cs.drop o).take t.size)
  | [], o, t, h, _, _ => by
    rw [unB_ok h, show Ty.unit.size = 0 from rfl, List.take_zero]; exact .unit
  | [a], o, t, h, hr, hl => by
    rw [fsB, Bool.and_eq_true] at h
    obtain ⟨n, y, hy⟩ := hr a (by simp)
    rw [Nat.eq_of_beq_eq_true h.1, hsz _ _ h.2] at hy
    exact hg _ _ n _ y h.2 (by rw [List.length_take, List.length_drop]; omega) hy
  | a :: b :: l, o, t, h, hr, hl => by
    obtain ⟨x, y, rfl, h'⟩ := prB_ok h
    clear h
    have h := h'
    clear h'
    rw [Bool.and_eq_true, Bool.and_eq_true] at h
    obtain ⟨n, z, hz⟩ := hr a (by simp)
    rw [Nat.eq_of_beq_eq_true h.1.1, hsz _ _ h.1.2] at hz
    have hs : (Ty.pair x y).size = x.size + y.size := rfl
    rw [hs] at hl
    have h1 := hg _ _ n _ z h.1.2 (by rw [List.length_take, List.length_drop]; omega) hz
    have h2 := fs_reads hg hsz (b :: l) (o + x.size) y h.2 (fun a ha => hr a (List.mem_cons_of_mem _ ha)) (by omega)
    rw [hs, List.take_add, List.drop_drop]
    exact h1.pair h2 (by rw [List.length_take, List.length_drop]; omega)
theorem ar_reads {g : Ty → Bool} {e : TypeId} (hg : ∀ (t : Ty) (n : Nat) (cs : List Value) (x : DataW H × List MemPlace), g t = true → cs.length = t.size → DataW.trod enc P w base spare held n e cs = some x → ReadsT w t cs) (hsz : ∀ t, g t = true → P.cellsOf e = t.size) {cs : List Value} :
    ∀ (k o : Nat) (t : Ty), arB g k t = true → (∀ i, i < k → ∃ n y, DataW.trod enc P w base spare held n e ((cs.drop (o + i * P.cellsOf e)).take (P.cellsOf e)) = some y) → o + t.size ≤ cs.length → ReadsT w t ((cs.drop o).take t.size)
  | 0, o, t, h, _, _ => by
    rw [unB_ok h, show Ty.unit.size = 0 from rfl, List.take_zero]; exact .unit
  | 1, o, t, h, hr, hl => by
    rw [arB] at h
    obtain ⟨n, y, hy⟩ := hr 0 (by omega)
    rw [hsz _ h, Nat.zero_mul, Nat.add_zero] at hy
    exact hg _ n _ y h (by rw [List.length_take, List.length_drop]; omega) hy
  | k + 2, o, t, h, hr, hl => by
    obtain ⟨x, y, rfl, h'⟩ := prB_ok h
    clear h
    have h := h'
    clear h'
    rw [Bool.and_eq_true] at h
    obtain ⟨n, z, hz⟩ := hr 0 (by omega)
    rw [hsz _ h.1, Nat.zero_mul, Nat.add_zero] at hz
    have hs : (Ty.pair x y).size = x.size + y.size := rfl
    rw [hs] at hl
    have h1 := hg _ n _ z h.1 (by rw [List.length_take, List.length_drop]; omega) hz
    have h2 := ar_reads hg hsz (k + 1) (o + x.size) y h.2 (fun i hi => by
      obtain ⟨n, z, hz⟩ := hr (i + 1) (by omega)
      refine ⟨n, z, ?_⟩
      rw [← hz, ← hsz _ h.1, Nat.add_mul, Nat.one_mul, Nat.add_assoc, Nat.add_comm (P.cellsOf e)]) (by omega)
    rw [hs, List.take_add, List.drop_drop]
    exact h1.pair h2 (by rw [List.length_take, List.length_drop]; omega)
theorem ro_len {own : Nat → Prop} {bs sz : Nat} {fr : Bool} {rows : List (List AV)} {v : Value} (h : RelD w own bs (.ro fr sz rows) v) : rows.length ≤ maxLen := by
  cases h with
  | ro fr sz rows A c f hc hm h0 h1 h2 => omega
theorem one_cell {cs : List Value} (h : cs.length = 1) : ∃ u, cs = [u] := by match cs, h with | [u], _ => exact ⟨u, rfl⟩
theorem reads_ty : ∀ (f : Nat) (tid : TypeId) (t : Ty) (n : Nat) (cs : List Value) (x : DataW H × List MemPlace), tyB P f tid t = true → cs.length = t.size → DataW.trod enc P w base spare held n tid cs = some x → ReadsT w t cs
  | 0, _, _, _, _, _, h, _, _ => by cases h
  | f + 1, tid, t, n, cs, x, h, hl, hx => by
    have hsize := tyB_size h
    rw [tyB, Bool.and_eq_true] at h
    obtain ⟨_, h⟩ := h
    split at h
    · rename_i k hu
      unfold intB at h
      split at h
      · have hk := of_decide_eq_true h
        subst hk
        obtain ⟨m, rfl, _, hwf⟩ := DataW.trod_int hu hx
        refine ⟨m, hwf, rfl, fun j a u ha hu => ?_⟩
        match j with
        | 0 => simp [Ty.cells] at ha hu; subst ha; subst hu; exact .int _ _
        | j + 1 => simp [Ty.cells] at ha
      · cases h
    · rename_i hu
      unfold boolB at h
      split at h
      · obtain ⟨m, rfl, _⟩ := DataW.trod_bool hu hx
        refine ⟨m, trivial, rfl, fun j a u ha hu => ?_⟩
        match j with
        | 0 => simp [Ty.cells] at ha hu; subst ha; subst hu; exact .bool _
        | j + 1 => simp [Ty.cells] at ha
      · cases h
    · rename_i hu
      unfold strB at h
      split at h
      · obtain ⟨s, rfl, _, hs⟩ := DataW.trod_string hu hx
        refine ⟨s.data.toList, by rw [Ty.wf, Array.length_toList]; exact hs, rfl, fun j a u ha hu => ?_⟩
        match j with
        | 0 => simp [Ty.cells] at ha hu; subst ha; subst hu; exact .str _
        | j + 1 => simp [Ty.cells] at ha
      · cases h
    · rename_i e hu
      unfold sliceB at h
      split at h
      · rename_i _ t' _
        rw [Bool.and_eq_true] at h
        have hpos : 0 < t'.size := Nat.le_of_ble_eq_true h.2
        obtain ⟨v, rfl⟩ := one_cell hl
        obtain ⟨xs, hw, hr⟩ := ro_slice (t'.cells false) t'.wf hu (tyB_size h.1) hpos (fun m cs x hl hx => reads_ty f e t' m cs x h.1 hl hx) hx
        refine ⟨xs, ⟨?_, hw⟩, rfl, fun j a u ha hu => ?_⟩
        · have := ro_len hr
          rw [List.length_map] at this
          exact this
        match j with
        | 0 => simp [Ty.cells] at ha hu; subst ha; subst hu; exact hr
        | j + 1 => simp [Ty.cells] at ha
      · cases h
    · rename_i fs hu
      obtain ⟨xs, m, _, _, _, hxl, hat⟩ := DataW.trod_struct hu hx
      have := fs_reads (cs := cs) (fun tid t n cs x h1 h2 h3 => reads_ty f tid t n cs x h1 h2 h3) (fun tid t h => tyB_size h) fs 0 t h (fun a ha => by
        obtain ⟨i, hi⟩ := List.mem_iff_getElem?.1 ha
        have hi' : i < xs.length := by rw [hxl]; exact (List.getElem?_eq_some_iff.1 hi).1
        exact ⟨m, _, by rw [hat i a (by simpa using hi), List.getElem?_eq_getElem hi']⟩) (by omega)
      rw [List.drop_zero, List.take_of_length_le (by omega)] at this
      exact this
    · rename_i k e hu
      obtain ⟨xs, m, _, _, _, hxl, hat⟩ := DataW.trod_array hu hx
      have := ar_reads (cs := cs) (e := e) (fun t n cs x h1 h2 h3 => reads_ty f e t n cs x h1 h2 h3) (fun t h => tyB_size h) k 0 t h (fun i hi => by
        have hi' : i < xs.length := by rw [hxl]; exact hi
        exact ⟨m, _, by rw [Nat.zero_add, hat i hi, List.getElem?_eq_getElem hi']⟩) (by omega)
      rw [List.drop_zero, List.take_of_length_le (by omega)] at this
      exact this
    · cases h
/-! ### Arguments -/
def aggP (P : Program) (tid : TypeId) : Bool := match P.underlying tid with
  | some (.struct _) => true
  | some (.array _ _) => true
  | _ => false
def cellP (P : Program) (tid : TypeId) : Bool := match P.underlying tid with
  | some (.int _) => true
  | some .bool => true
  | some .string => true
  | some (.slice _) => true
  | _ => false
def argB (P : Program) (tid : TypeId) (a : Ty) : Bool := match a with
  | .agg t => tyB P 9 tid t && aggP P tid
  | .int k => tyB P 9 tid (.int k) && cellP P tid
  | .bool => tyB P 9 tid .bool && cellP P tid
  | .str => tyB P 9 tid .str && cellP P tid
  | .list t => tyB P 9 tid (.list t) && cellP P tid
  | _ => false
def argsB (P : Program) : List TypeId → Ty → Bool
  | [], t => unB t
  | tid :: l, t => prB t fun a b => argB P tid a && argsB P l b
theorem okWide_arr {n b : Nat} {r : Go.Reach} {t e : TypeId} {v : Value} (ht : P.underlying t = some (.array n e)) (h : Value.okWide P w r b t v) : ∃ cs, v = .agg cs ∧ cs.size = P.cellsOf t := by
  simp only [Value.okWide, ht] at h
  obtain ⟨cs, h1, h2, _⟩ := h
  exact ⟨cs, h1, h2⟩
theorem arg_agg {tid : TypeId} {t : Ty} {v : Value} {d : DataW H} {p : List MemPlace} {b : Nat} (h : tyB P 9 tid t = true) (ha : aggP P tid = true) (hv : Value.okWide P w .any b tid v) (hd : DataW.Trod enc P w base spare held tid v d p) : ∃ x : t.den, t.wf x ∧ RelV w (Gh.none w.heap.size) (.agg (t.cells false x)) v := by
  obtain ⟨cs, rfl, hs⟩ : ∃ cs, v = .agg cs ∧ cs.size = P.cellsOf tid := by
    unfold aggP at ha
    split at ha
    · rename_i h1; exact okWide_struct h1 hv
    · rename_i h1; exact okWide_arr h1 hv
    · cases ha
  obtain ⟨n, hd⟩ := hd
  have hl : cs.toList.length = t.size := by rw [← tyB_size h, ← hs]; simp
  obtain ⟨x, x1, x2, x3⟩ := reads_ty 9 tid t n cs.toList _ h hl hd
  exact ⟨x, x1, .agg _ _ (by rw [x2, ← hl]; simp) fun i a u ha hu => .dat (x3 i a u ha (by simpa using hu))⟩
theorem arg_cell {tid : TypeId} {t : Ty} {v : Value} {d : DataW H} {p : List MemPlace} {b : Nat} (h : tyB P 9 tid t = true) (hc : cellP P tid = true) (h1 : t.size = 1) (hv : Value.okWide P w .any b tid v) (hd : DataW.Trod enc P w base spare held tid v d p) : ∃ x : t.den, t.wf x ∧ ∀ a, (t.cells false x)[0]? = some a → RelV w (Gh.none w.heap.size) a v := by
  have hd : ∃ n, DataW.trod enc P w base spare held n tid [v] = some (d, p) := by
    unfold cellP at hc
    split at hc
    · rename_i hu
      obtain ⟨m, rfl⟩ := okWide_int hu hv
      exact hd
    · rename_i hu
      obtain ⟨m, rfl⟩ := okWide_bool hu hv
      exact hd
    · rename_i hu
      obtain ⟨m, rfl⟩ := okWide_string hu hv
      exact hd
    · rename_i hu
      obtain ⟨a, n, c, rfl⟩ := okWide_slice hu hv
      exact hd
    · cases hc
  obtain ⟨n, hd⟩ := hd
  obtain ⟨x, x1, x2, x3⟩ := reads_ty 9 tid t n [v] _ h (by rw [h1]; rfl) hd
  exact ⟨x, x1, fun a ha => .dat (x3 0 a v ha rfl)⟩
theorem arg_ty {tid : TypeId} {v : Value} {d : DataW H} {p : List MemPlace} {b : Nat} : ∀ {a : Ty}, argB P tid a = true → Value.okWide P w .any b tid v → DataW.Trod enc P w base spare held tid v d p → ∃ x : a.den, a.wf x ∧ RelV w (Gh.none w.heap.size) (a.av false x) v
  | .agg t, h, hv, hd => by
    rw [argB, Bool.and_eq_true] at h
    obtain ⟨x, h1, h2⟩ := arg_agg h.1 h.2 hv hd
    exact ⟨x, h1, by rw [Ty.av]; exact h2⟩
  | .int k, h, hv, hd => by
    rw [argB, Bool.and_eq_true] at h
    obtain ⟨x, h1, h2⟩ := arg_cell h.1 h.2 rfl hv hd
    exact ⟨x, h1, h2 _ rfl⟩
  | .bool, h, hv, hd => by
    rw [argB, Bool.and_eq_true] at h
    obtain ⟨x, h1, h2⟩ := arg_cell h.1 h.2 rfl hv hd
    exact ⟨x, h1, h2 _ rfl⟩
  | .str, h, hv, hd => by
    rw [argB, Bool.and_eq_true] at h
    obtain ⟨x, h1, h2⟩ := arg_cell h.1 h.2 rfl hv hd
    exact ⟨x, h1, h2 _ rfl⟩
  | .list t, h, hv, hd => by
    rw [argB, Bool.and_eq_true] at h
    obtain ⟨x, h1, h2⟩ := arg_cell h.1 h.2 rfl hv hd
    exact ⟨x, h1, h2 _ rfl⟩
  | .unit, h, _, _ => by cases h
  | .pair _ _, h, _, _ => by cases h
  | .ptr _, h, _, _ => by cases h
/-- values one by one -/
inductive RelsV (w : World) (G : Gh) : List AV → List Value → Prop
  | nil : RelsV w G [] []
  | cons {a : AV} {v : Value} {l : List AV} {m : List Value} (h : RelV w G a v) (k : RelsV w G l m) : RelsV w G (a :: l) (v :: m)
theorem RelsV.args {G : Gh} {l : List AV} {m : List Value} (h : RelsV w G l m) : ArgsV w G l m.toArray := by
  induction h with
  | nil => exact ⟨rfl, fun i a v ha hv => by simp at ha⟩
  | cons h k ih =>
    refine ⟨by have := ih.size; simp at this ⊢; exact this, fun i a v ha hv => ?_⟩
    cases i with
    | zero => simp at ha hv; subst ha; subst hv; exact h
    | succ i => exact ih.rel i a v (by simpa using ha) (by simpa using hv)
theorem args_ty {b : Nat} : ∀ {ts : List TypeId} {σ : Ty} {vs : List Value} {ds : List (DataW H)} {ps : List MemPlace}, argsB P ts σ = true → (∀ (j : Nat) t v, ts[j]? = some t → vs[j]? = some v → Value.okWide P w .any b t v) → DataW.TrodAll enc P w base spare held ts vs ds ps → ∃ x : σ.den, σ.wf x ∧ RelsV w (Gh.none w.heap.size) (σ.avs false x) vs
  | [], σ, vs, ds, ps, h, _, hA => by
    obtain ⟨rfl, rfl, rfl⟩ := trodAll_nil hA
    have e := unB_ok h
    subst e
    exact ⟨(), trivial, .nil⟩
  | tid :: l, σ, vs, ds, ps, h, hv, hA => by
    obtain ⟨v, vs, d, ds, p, q, rfl, rfl, rfl, h0, r0⟩ := trodAll_cons hA
    obtain ⟨a, c, rfl, h'⟩ := prB_ok h
    clear h
    have h := h'
    clear h'
    rw [Bool.and_eq_true] at h
    obtain ⟨x, x1, x2⟩ := arg_ty h.1 (hv 0 tid v rfl rfl) h0
    obtain ⟨y, y1, y2⟩ := args_ty h.2 (fun j t u ht hu => hv (j + 1) t u (by simpa using ht) (by simpa using hu)) r0
    exact ⟨(x, y), ⟨x1, y1⟩, by rw [Ty.avs]; exact .cons x2 y2⟩
end
/-- a law whose residual program answers true at all data -/
theorem law_any {H : Type} {enc : TypeId × Value → H} {F : Nat} {ts : List TypeId} {σ : Ty} {f : Nat → σ.den → Option (Bool × Unit)} {nm : Nat} (hc : CtrOk Try.prog F ⟨σ, .pair .bool .unit, f, nm⟩) (hB : argsB Try.prog ts σ = true) (hp : ∀ x : σ.den, σ.wf x → f FU x = some (true, ())) {W : World} {b : Nat} {args : List Value} {ds : List (DataW H)} {ps : List MemPlace}
    (hv : ∀ (j : Nat) t v, ts[j]? = some t → args[j]? = some v → Value.okWide Try.prog W .any b t v) (hA : DataW.TrodAll enc Try.prog W 0 (fun _ => true) true ts args ds ps) :
    Calls Try.prog F args.toArray W fun e W' => e = .returned (.bool true) ∧ Below W.heap.size W W' := by
  obtain ⟨x, hx, hr⟩ := args_ty hB hv hA
  exact AF.yes (hc FU x (true, ()) (hp x hx)) hr.args
theorem fu_le : 18446744073709551616 ≤ FU := Nat.le_refl _
end Go.Proofs.Ytdfocbeejgcglaa
/- The examples of the grids hold. -/
namespace Go.Proofs.Ytdfocbeejgcglaa
open Go Go.RowKit
set_option maxRecDepth 100000
theorem gridWorks_true : law_gridWorks_r FU () = some (true, ()) := by kernel_rfl
theorem wf_len {n : Nat} (h : n ≤ maxLen) : (n : Int) ≤ 9223372036854775807 := by unfold maxLen at h; omega
end Go.Proofs.Ytdfocbeejgcglaa
/- GridBoxes: for every input this law returns true and leaves its arguments as they were. -/
namespace Go.Proofs.Ytdfocbeejgcglaa
open Go.ChangeShapes Go.WideShapes Go.ChangeAt Go.RowKit

set_option maxRecDepth 100000 in
theorem gridBoxes_lifted (os : Os) (started : os.Started) (H : Type) (enc : TypeId × Value → H) :
    ReturnsInHanded {} Try.checked os 10 .any (Rows.gridBoxesSpec.pre6 enc Try.prog Try.f10 Rows.gridBoxesRow.domain false) (Rows.gridBoxesSpec.post enc Try.prog Try.f10 false true false false) := by
  refine law_lifted started (by kernel_rfl) Try.func10
    (ChangeSpec.witness6 (enc := enc) (C := Try.checked) false ⟨#[], #[.agg #[.int .i64 0, .int .i64 0, .int .i64 0, .slice none 0 0], .slice none 0 0, .slice none 0 0], []⟩ 8 (by kernel_rfl) (by kernel_rfl) (by kernel_rfl) (by kernel_rfl)) rfl rfl (by kernel_rfl)
    (fun ds h => by rw [Try.params10] at h; match ds, h with | [_, _, _], _ => rfl) ?_
  intro W base args ds ps hval hA hsz hlt
  rw [Try.params10] at hA hval
  exact law_any law_GridBoxes_ok (by kernel_rfl) (fun x hx => gridBoxes_r fu_le (wf_len hx.1.2.2.2.1) (wf_len hx.2.1.1) (wf_len hx.2.2.1.1) gridWorks_true) (fun j t v ht hv => hval j t v (by simpa using ht) hv) hA

theorem gridBoxes_holds : Rows.GridBoxesSaid :=
  OpenClaim.holds_of_wide 10 Try.f10 rfl rfl rfl rfl rfl rfl rfl ⟨rfl, rfl, rfl, rfl, rfl⟩ rfl rfl rfl rfl rfl (by kernel_rfl) Try.func10 (by kernel_rfl)
    (of_decide_eq_true (by kernel_rfl)) (by unfold Func.isWrapper; first | (rw [if_pos (by decide +kernel)]; kernel_rfl) | (rw [if_neg (by decide +kernel)]; exact ⟨rfl, rfl⟩))
    (fun os started H enc _ => gridBoxes_lifted os started H enc)
end Go.Proofs.Ytdfocbeejgcglaa
