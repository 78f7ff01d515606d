/- DevicelinkConversions: for every input this law returns true and leaves its arguments as they were. -/
import Derived.Test.YtjhdjjoacedlpaaZDL5
import Derived.Test.YtjhdjjoacedlpaaRows
import Derived.WalkKit
import Derived.ProofKit
import Derived.SizedLaws
import Derived.BigQuiet
import Derived.Deep.QuietTactic
import Derived.Deep.Slices
import Derived.OpenShut
/- Residual programs of functions (printed by a program out of the code), checked by the kernel, and the contracts that follow. -/
namespace Go.Proofs.Ytjhdjjoacedlpaa
open Go Go.RowKit
set_option linter.unusedVariables false
def R_SameInts_l1 (fu : Nat) (a : (List (Int)) × ((List (Int)) × (Unit))) (j0 : (Int) → Option ((Bool) × (Unit))) (v0 : Int) : Option ((Bool) × (Unit)) :=
  bif (decide (v0 < (List.length a.1 : Int))) then
    bif ((decide ((0 : Int) ≤ v0)) && (decide (v0 < (List.length a.1 : Int)))) then
    let v1 : Int := (List.getD a.1 (Int.toNat v0) 0)
    bif ((decide ((0 : Int) ≤ v0)) && (decide (v0 < (List.length a.2.1 : Int)))) then
    let v2 : Int := (List.getD a.2.1 (Int.toNat v0) 0)
    bif (decide (v1 ≠ v2)) then
      some ((false, ()))
    else
    j0 ((IntKind.i64.wrap (v0 + (1 : Int))))
    else none
    else none
  else
  some ((true, ()))
def R_SameInts_r (fu : Nat) (a : (List (Int)) × ((List (Int)) × (Unit))) : Option ((Bool) × (Unit)) :=
  bif (decide ((List.length a.1 : Int) ≠ (List.length a.2.1 : Int))) then
    some ((false, ()))
  else
  loopF (R_SameInts_l1 fu a) fu ((0 : Int))
def R_SameInts_an : An := (.n none .z (.n none (.n none .z (.n none (.n none .z .z) .z)) (.n none (.n none .z (.n none (.n (some ⟨[0, 1, 12], [], [], [.reg 13 (.int .i64)], 0, []⟩) (.n none .z (.n none .z (.n none (.n none (.n none .z (.n none (.dr [] []) (.n none (.n none .z .z) .z))) .z) .z))) .z) .z)) (.n none .z .z))))
noncomputable def R_SameInts_dc : List (Nat × Ctr) := []
def R_SameInts_ctr : Ctr := ⟨(.pair (.list (.int .i64)) (.pair (.list (.int .i64)) .unit)), (.pair .bool .unit), R_SameInts_r, 31⟩
theorem R_SameInts_ok : CtrOk Try.prog 31 R_SameInts_ctr := ctr_ok (l := R_SameInts_dc) (f := 12) (an := R_SameInts_an) trivial fun fu x => by kernel_rfl
def R_Floor_j1 (fu : Nat) (v1 : Int) : Option ((Int) × (Unit)) :=
  some ((v1, ()))
def R_Floor_r (fu : Nat) (a : (Int) × ((Int) × (Unit))) : Option ((Int) × (Unit)) :=
  bif (decide (a.2.1 ≠ (0 : Int))) then
  let v0 : Int := (IntKind.i64.wrap (Int.tdiv a.1 a.2.1))
  joinF (R_Floor_j1 fu) fun j1 =>
  bif (decide (a.1 < (IntKind.i64.wrap (v0 * a.2.1)))) then
    let v2 : Int := (IntKind.i64.wrap (v0 - (1 : Int)))
    j1 (v2)
  else
  j1 (v0)
  else none
def R_Floor_an : An := (.n none .z (.n none .z (.n (some ⟨[], [], [], [.reg 5 (.int .i64)], 0, []⟩) (.n none .z (.n none .z .z)) (.n none .z .z))))
noncomputable def R_Floor_dc : List (Nat × Ctr) := []
def R_Floor_ctr : Ctr := ⟨(.pair (.int .i64) (.pair (.int .i64) .unit)), (.pair (.int .i64) .unit), R_Floor_r, 103⟩
theorem R_Floor_ok : CtrOk Try.prog 103 R_Floor_ctr := ctr_ok (l := R_Floor_dc) (f := 12) (an := R_Floor_an) trivial fun fu x => by kernel_rfl
def R_Round_j1 (fu : Nat) (v2 : Int) : Option ((Int) × (Unit)) :=
  some ((v2, ()))
def R_Round_r (fu : Nat) (a : (Int) × ((Int) × (Unit))) : Option ((Int) × (Unit)) :=
  bindO (R_Floor_r fu ((a.1, (a.2.1, ())))) fun v0 =>
  let v1 : Int := v0.1
  joinF (R_Round_j1 fu) fun j2 =>
  bif (decide (a.2.1 ≤ (IntKind.i64.wrap ((2 : Int) * (IntKind.i64.wrap (a.1 - (IntKind.i64.wrap (v1 * a.2.1)))))))) then
    let v3 : Int := (IntKind.i64.wrap (v1 + (1 : Int)))
    j2 (v3)
  else
  j2 (v1)
def R_Round_an : An := (.n none .z (.n none .z (.n (some ⟨[], [], [], [.reg 5 (.int .i64)], 0, []⟩) (.n none .z (.n none .z .z)) (.n none .z .z))))
noncomputable def R_Round_dc : List (Nat × Ctr) := [(103, R_Floor_ctr)]
def R_Round_ctr : Ctr := ⟨(.pair (.int .i64) (.pair (.int .i64) .unit)), (.pair (.int .i64) .unit), R_Round_r, 84⟩
theorem R_Round_ok : CtrOk Try.prog 84 R_Round_ctr := ctr_ok (l := R_Round_dc) (f := 12) (an := R_Round_an) ⟨R_Floor_ok, trivial⟩ fun fu x => by kernel_rfl
def R_Linked_j3 (fu : Nat) (j2 : ((Int) × (List (Int))) → Option ((List (Int)) × (Unit))) (v3 : (Int) × (List (Int))) : Option ((List (Int)) × (Unit)) :=
  j2 (((IntKind.i64.wrap (v3.1 + (1 : Int))), v3.2))
def R_Linked_j5 (fu : Nat) (a : ((Int) × ((Int) × ((Int) × (List (Int))))) × ((List (Int)) × (Unit))) (v5 : (Int) × ((Int) × ((Int) × (Int)))) (j5 : ((Int) × ((Int) × ((Int) × (Int)))) → Option ((List (Int)) × (Unit))) (v10 : (Int) × ((Int) × ((Int) × (Int)))) : Option ((List (Int)) × (Unit)) :=
  let v11 : Int := (IntKind.i64.wrap ((IntKind.i64.wrap (v10.1 * a.1.2.2.1)) + v10.2.1))
  j5 ((v11, (v10.2.2.1, (v10.2.2.2, (IntKind.i64.wrap (v5.2.2.2 + (1 : Int)))))))
def R_Linked_l6 (fu : Nat) (a : ((Int) × ((Int) × ((Int) × (List (Int))))) × ((List (Int)) × (Unit))) (v2 : (Int) × (List (Int))) (v5 : (Int) × ((Int) × ((Int) × (Int)))) (v6 : Int) (j3 : ((Int) × (List (Int))) → Option ((List (Int)) × (Unit))) (j7 : ((Int) × (List (Int))) → Option ((List (Int)) × (Unit))) (v7 : (Int) × (List (Int))) : Option ((List (Int)) × (Unit)) :=
  bif (decide (v7.1 < (List.length v2.2 : Int))) then
    let v8 : Int := v7.1
    bif ((decide ((0 : Int) ≤ v8)) && (decide (v8 < (List.length v7.2 : Int)))) then
    bif ((decide ((0 : Int) ≤ (IntKind.i64.wrap ((IntKind.i64.wrap (v5.1 * a.1.2.1)) + v8)))) && (decide ((IntKind.i64.wrap ((IntKind.i64.wrap (v5.1 * a.1.2.1)) + v8)) < (List.length a.1.2.2.2 : Int)))) then
    let v9 : Int := (List.getD a.1.2.2.2 (Int.toNat (IntKind.i64.wrap ((IntKind.i64.wrap (v5.1 * a.1.2.1)) + v8))) 0)
    bif ((decide ((0 : Int) ≤ v8)) && (decide (v8 < (List.length v7.2 : Int)))) then
    j7 (((IntKind.i64.wrap (v7.1 + (1 : Int))), (List.set v7.2 (Int.toNat v8) (IntKind.i64.wrap ((List.getD v7.2 (Int.toNat v8) 0) + (IntKind.i64.wrap (v6 * v9)))))))
    else none
    else none
    else none
  else
  j3 ((v2.1, v7.2))
def R_Linked_l4 (fu : Nat) (a : ((Int) × ((Int) × ((Int) × (List (Int))))) × ((List (Int)) × (Unit))) (v0 : (Int) × (List (Int))) (v1 : Int) (v2 : (Int) × (List (Int))) (v4 : Int) (j3 : ((Int) × (List (Int))) → Option ((List (Int)) × (Unit))) (j5 : ((Int) × ((Int) × ((Int) × (Int)))) → Option ((List (Int)) × (Unit))) (v5 : (Int) × ((Int) × ((Int) × (Int)))) : Option ((List (Int)) × (Unit)) :=
  bif (decide (v5.2.2.2 < (List.length v0.2 : Int))) then
    bif ((decide ((0 : Int) ≤ v5.2.2.2)) && (decide (v5.2.2.2 < (List.length v0.2 : Int)))) then
    let v6 : Int := v5.2.2.2
    let v7 : Int := (List.getD v0.2 (Int.toNat v5.2.2.2) 0)
    bif (decide (v1 ≠ (0 : Int))) then
    bif (decide (v1 ≠ (0 : Int))) then
    let v8 : Int := (IntKind.i64.wrap (Int.tdiv v7 v1))
    let v9 : Int := (Int.tmod v7 v1)
    joinF (R_Linked_j5 fu a v5 j5) fun j10 =>
    bif ((decide ((0 : Int) ≤ v6)) && (decide (v6 ≤ (64 : Int)))) then
    bif (decide ((bits BinOp.and IntKind.i64 (v4 / 2 ^ (Int.toNat v6)) (1 : Int)) = (1 : Int))) then
      let v11 : Int := (min v5.2.2.1 v9)
      let v12 : Int := (IntKind.i64.wrap (v8 + (1 : Int)))
      j10 ((v5.1, (v12, (v5.2.1, v11))))
    else
    let v11 : Int := (max v5.2.1 v9)
    j10 ((v5.1, (v8, (v11, v5.2.2.1))))
    else none
    else none
    else none
    else none
  else
  let v6 : Int := (IntKind.i64.wrap (v5.2.2.1 - v5.2.1))
  bif (decide ((0 : Int) < v6)) then
    loopF (R_Linked_l6 fu a v2 v5 v6 j3) fu (((0 : Int), v2.2))
  else
  j3 ((v2.1, v2.2))
def R_Linked_l7 (fu : Nat) (a : ((Int) × ((Int) × ((Int) × (List (Int))))) × ((List (Int)) × (Unit))) (v2 : (Int) × (List (Int))) (j3 : ((Int) × (List (Int))) → Option ((List (Int)) × (Unit))) (v3 : (Int) × (List (Int))) : Option ((List (Int)) × (Unit)) :=
  bif (decide (v3.1 < (List.length v2.2 : Int))) then
    bif ((decide ((0 : Int) ≤ v3.1)) && (decide (v3.1 < (List.length v3.2 : Int)))) then
    let v4 : Int := v3.1
    let v5 : Int := (List.getD v3.2 (Int.toNat v3.1) 0)
    bif (decide ((IntKind.i64.wrap (a.1.2.2.1 - (1 : Int))) ≠ (0 : Int))) then
    bindO (R_Round_r fu ((v5, ((IntKind.i64.wrap ((256 : Int) * (IntKind.i64.wrap (Int.tdiv (65280 : Int) (IntKind.i64.wrap (a.1.2.2.1 - (1 : Int))))))), ())))) fun v6 =>
    bif ((decide ((0 : Int) ≤ v4)) && (decide (v4 < (List.length v3.2 : Int)))) then
    j3 (((IntKind.i64.wrap (v3.1 + (1 : Int))), (List.set v3.2 (Int.toNat v4) v6.1)))
    else none
    else none
    else none
  else
  some ((v3.2, ()))
def R_Linked_l2 (fu : Nat) (a : ((Int) × ((Int) × ((Int) × (List (Int))))) × ((List (Int)) × (Unit))) (v0 : (Int) × (List (Int))) (v1 : Int) (j2 : ((Int) × (List (Int))) → Option ((List (Int)) × (Unit))) (v2 : (Int) × (List (Int))) : Option ((List (Int)) × (Unit)) :=
  bif (decide (v2.1 < (IntKind.i64.wrap ((1 : Int) * 2 ^ (Int.toNat a.1.1))))) then
    joinF (R_Linked_j3 fu j2) fun j3 =>
    let v4 : Int := v2.1
    loopF (R_Linked_l4 fu a v0 v1 v2 v4 j3) fu (((0 : Int), ((0 : Int), (v1, (0 : Int)))))
  else
  loopF (R_Linked_l7 fu a v2) fu (((0 : Int), v2.2))
def R_Linked_l1 (fu : Nat) (a : ((Int) × ((Int) × ((Int) × (List (Int))))) × ((List (Int)) × (Unit))) (j0 : ((Int) × (List (Int))) → Option ((List (Int)) × (Unit))) (v0 : (Int) × (List (Int))) : Option ((List (Int)) × (Unit)) :=
  bif (decide (v0.1 < (List.length a.2.1 : Int))) then
    bif ((decide ((0 : Int) ≤ v0.1)) && (decide (v0.1 < (List.length a.2.1 : Int)))) then
    let v1 : Int := (List.getD a.2.1 (Int.toNat v0.1) 0)
    let v2 : Int := v0.1
    bif ((decide ((0 : Int) ≤ v2)) && (decide (v2 < (List.length v0.2 : Int)))) then
    j0 (((IntKind.i64.wrap (v0.1 + (1 : Int))), (List.set v0.2 (Int.toNat v2) (IntKind.i64.wrap ((256 : Int) * v1)))))
    else none
    else none
  else
  bif (decide ((IntKind.i64.wrap (a.1.2.2.1 - (1 : Int))) ≠ (0 : Int))) then
  let v1 : Int := (IntKind.i64.wrap (Int.tdiv (65280 : Int) (IntKind.i64.wrap (a.1.2.2.1 - (1 : Int)))))
  bif ((decide ((0 : Int) ≤ a.1.2.1)) && (decide (((8 : Int) * a.1.2.1) ≤ (281474976710656 : Int)))) then
  bif ((decide ((0 : Int) ≤ a.1.1)) && (decide (a.1.1 ≤ (64 : Int)))) then
  loopF (R_Linked_l2 fu a v0 v1) fu (((0 : Int), (List.replicate (Int.toNat a.1.2.1) (0 : Int))))
  else none
  else none
  else none
def R_Linked_r (fu : Nat) (a : ((Int) × ((Int) × ((Int) × (List (Int))))) × ((List (Int)) × (Unit))) : Option ((List (Int)) × (Unit)) :=
  bif ((decide ((0 : Int) ≤ (List.length a.2.1 : Int))) && (decide (((8 : Int) * (List.length a.2.1 : Int)) ≤ (281474976710656 : Int)))) then
  loopF (R_Linked_l1 fu a) fu (((0 : Int), (List.replicate (Int.toNat (List.length a.2.1 : Int)) (0 : Int))))
  else none
def R_Linked_an : An := (.n none .z (.n none .z (.n none (.n none .z (.n none (.n (some ⟨[2, 5, 14, 15, 4], [0], [], [.reg 16 (.int .i64), .row 1 true (.int .i64) 3 0], 0, []⟩) (.n none .z (.n none .z (.n none (.n none (.n none .z .z) .z) .z))) .z) .z)) (.n none (.ops [(2, (.n none (.n none .z (.n none .z (.n none .z (.n none (.n none .z (.n none (.n (some ⟨[6, 1, 2, 5, 26, 4], [0, 1, 2], [], [.reg 27 (.int .i64), .row 3 true (.int .i64) 3 0], 0, []⟩) (.n none .z (.n none .z (.n (some ⟨[], [], [], [.reg 27 (.int .i64), .row 3 true (.int .i64) 3 0], 0, []⟩) (.n none (.n none .z (.n none .z (.n none (.n none .z (.n none (.n (some ⟨[27, 31, 7, 32], [3], [], [.reg 10 (.int .i64), .reg 9 (.int .i64), .reg 8 (.int .i64), .reg 33 (.int .i64)], 0, []⟩) (.n none .z (.n none .z (.n none (.n none (.n none .z (.n none (.dr [] []) (.n (some ⟨[33], [], [], [.reg 10 (.int .i64), .reg 13 (.int .i64), .reg 9 (.int .i64), .reg 8 (.int .i64)], 0, []⟩) (.n none .z (.n none (.n none .z .z) .z)) .z))) .z) .z))) .z) .z)) (.n none .z (.n none .z (.n none (.n none .z (.n none (.n (some ⟨[27, 15, 10, 70], [], [], [.reg 71 (.int .i64), .row 3 true (.int .i64) 3 0], 0, []⟩) (.n none .z (.n none .z (.n none (.n none (.n none .z (.dr [] [])) .z) .z))) .z) .z)) .z)))))) .z) .z))) .z) .z)) (.n none .z .z))))) .z))]) (.n none (.n none .z (.n none (.n (some ⟨[8, 30, 2, 31, 4], [0, 1], [], [.reg 32 (.int .i64), .row 3 true (.int .i64) 3 0], 0, []⟩) (.n none .z (.n none .z (.n none (.n none (.n none .z .z) .z) .z))) .z) .z)) (.n none .z .z))))))
noncomputable def R_Linked_dc : List (Nat × Ctr) := [(84, R_Round_ctr)]
def R_Linked_ctr : Ctr := ⟨(.pair (.agg (.pair (.int .i64) (.pair (.int .i64) (.pair (.int .i64) (.list (.int .i64)))))) (.pair (.list (.int .i64)) .unit)), (.pair (.list (.int .i64)) .unit), R_Linked_r, 55⟩
theorem R_Linked_ok : CtrOk Try.prog 55 R_Linked_ctr := ctr_ok (l := R_Linked_dc) (f := 12) (an := R_Linked_an) ⟨R_Round_ok, trivial⟩ fun fu x => by kernel_rfl
def law_none_r (fu : Nat) (a : (Bool) × ((Int) × ((Int) × (Unit)))) : Option ((Bool) × (Unit)) :=
  bif a.1 then
    let v0 : Bool := (decide (a.2.1 = a.2.2.1))
    some ((v0, ()))
  else
  some ((false, ()))
def law_none_an : An := (.n none .z (.n none .z .z))
noncomputable def law_none_dc : List (Nat × Ctr) := []
def law_none_ctr : Ctr := ⟨(.pair .bool (.pair (.int .i64) (.pair (.int .i64) .unit))), (.pair .bool .unit), law_none_r, 20⟩
theorem law_none_ok : CtrOk Try.prog 20 law_none_ctr := ctr_ok (l := law_none_dc) (f := 12) (an := law_none_an) trivial fun fu x => by kernel_rfl
def R_Within_r (fu : Nat) (a : (Int) × ((Int) × ((Int) × (Unit)))) : Option ((Bool) × (Unit)) :=
  bif (decide (a.2.1 ≤ a.1)) then
    let v0 : Bool := (decide (a.1 ≤ a.2.2.1))
    some ((v0, ()))
  else
  some ((false, ()))
def R_Within_an : An := (.n none .z (.n none .z .z))
noncomputable def R_Within_dc : List (Nat × Ctr) := []
def R_Within_ctr : Ctr := ⟨(.pair (.int .i64) (.pair (.int .i64) (.pair (.int .i64) .unit))), (.pair .bool .unit), R_Within_r, 79⟩
theorem R_Within_ok : CtrOk Try.prog 79 R_Within_ctr := ctr_ok (l := R_Within_dc) (f := 12) (an := R_Within_an) trivial fun fu x => by kernel_rfl
def R_TonesErr_l1 (fu : Nat) (a : (List (Int)) × ((Int) × ((Int) × (Unit)))) (j0 : (Int) → Option ((Int) × (Unit))) (v0 : Int) : Option ((Int) × (Unit)) :=
  bif (decide (v0 < (List.length a.1 : Int))) then
    bif ((decide ((0 : Int) ≤ v0)) && (decide (v0 < (List.length a.1 : Int)))) then
    let v1 : Int := (List.getD a.1 (Int.toNat v0) 0)
    bindO (R_Within_r fu ((v1, ((0 : Int), (a.2.2.1, ()))))) fun v2 =>
    bif (!v2.1) then
      some (((3 : Int), ()))
    else
    j0 ((IntKind.i64.wrap (v0 + (1 : Int))))
    else none
  else
  some (((0 : Int), ()))
def R_TonesErr_r (fu : Nat) (a : (List (Int)) × ((Int) × ((Int) × (Unit)))) : Option ((Int) × (Unit)) :=
  bif (decide ((List.length a.1 : Int) ≠ a.2.1)) then
    some (((4 : Int), ()))
  else
  loopF (R_TonesErr_l1 fu a) fu ((0 : Int))
def R_TonesErr_an : An := (.n none .z (.n none (.n none .z (.n none (.n none .z .z) .z)) (.n none (.n none .z (.n none (.n (some ⟨[13, 2, 14], [], [], [.reg 15 (.int .i64)], 0, []⟩) (.n none .z (.n none .z (.n none (.n none (.n none .z (.n none .z (.n none (.n none .z .z) .z))) .z) .z))) .z) .z)) (.n none .z .z))))
noncomputable def R_TonesErr_dc : List (Nat × Ctr) := [(79, R_Within_ctr)]
def R_TonesErr_ctr : Ctr := ⟨(.pair (.list (.int .i64)) (.pair (.int .i64) (.pair (.int .i64) .unit))), (.pair (.int .i64) .unit), R_TonesErr_r, 41⟩
theorem R_TonesErr_ok : CtrOk Try.prog 41 R_TonesErr_ctr := ctr_ok (l := R_TonesErr_dc) (f := 12) (an := R_TonesErr_an) ⟨R_Within_ok, trivial⟩ fun fu x => by kernel_rfl
def grid_nodes_l3 (fu : Nat) (a : (Int) × ((Int) × ((Int) × (Unit)))) (j2 : ((Int) × (Int)) → Option ((Int) × ((Int) × (Unit)))) (v2 : (Int) × (Int)) : Option ((Int) × ((Int) × (Unit))) :=
  bif (decide (v2.2 < a.1)) then
    let v3 : Int := (IntKind.i64.wrap (v2.1 * a.2.2.1))
    j2 ((v3, (IntKind.i64.wrap (v2.2 + (1 : Int)))))
  else
  bif (decide ((32768 : Int) < (IntKind.i64.wrap (v2.1 * a.2.1)))) then
    some (((0 : Int), ((2 : Int), ())))
  else
  let v3 : Int := v2.1
  some ((v3, ((0 : Int), ())))
def grid_nodes_j2 (fu : Nat) (a : (Int) × ((Int) × ((Int) × (Unit)))) (v1 : Bool) : Option ((Int) × ((Int) × (Unit))) :=
  bif v1 then
    loopF (grid_nodes_l3 fu a) fu (((1 : Int), (0 : Int)))
  else
  some (((0 : Int), ((3 : Int), ())))
def grid_nodes_j1 (fu : Nat) (a : (Int) × ((Int) × ((Int) × (Unit)))) (v0 : Bool) : Option ((Int) × ((Int) × (Unit))) :=
  bif v0 then
    some (((0 : Int), ((3 : Int), ())))
  else
  joinF (grid_nodes_j2 fu a) fun j1 =>
  let v2 : Bool := (decide (a.2.2.1 = (2 : Int)))
  bif v2 then
    j1 (v2)
  else
  let v3 : Bool := (decide (a.2.2.1 = (3 : Int)))
  bif v3 then
    j1 (v3)
  else
  let v4 : Bool := (decide (a.2.2.1 = (4 : Int)))
  bif v4 then
    j1 (v4)
  else
  let v5 : Bool := (decide (a.2.2.1 = (5 : Int)))
  bif v5 then
    j1 (v5)
  else
  let v6 : Bool := (decide (a.2.2.1 = (6 : Int)))
  bif v6 then
    j1 (v6)
  else
  let v7 : Bool := (decide (a.2.2.1 = (7 : Int)))
  bif v7 then
    j1 (v7)
  else
  let v8 : Bool := (decide (a.2.2.1 = (9 : Int)))
  j1 (v8)
def grid_nodes_r (fu : Nat) (a : (Int) × ((Int) × ((Int) × (Unit)))) : Option ((Int) × ((Int) × (Unit))) :=
  joinF (grid_nodes_j1 fu a) fun j0 =>
  bif (decide (a.1 < (1 : Int))) then
    j0 (true)
  else
  bif (decide ((4 : Int) < a.1)) then
    j0 (true)
  else
  bif (decide (a.2.1 < (1 : Int))) then
    j0 (true)
  else
  j0 ((decide ((8 : Int) < a.2.1)))
def grid_nodes_an : An := (.n none .z (.n none (.n (some ⟨[2, 1, 0], [], [], [.reg 22 .bool], 0, []⟩) .z (.n none (.n none .z .z) .z)) (.n none (.n none .z (.n none (.n (some ⟨[2, 1, 0], [], [], [.reg 24 .bool], 0, []⟩) (.n none .z (.n none .z (.n none .z (.n none .z (.n none .z (.n none .z (.n none .z (.n none .z (.n none .z (.n none .z (.n none .z (.n none .z .z)))))))))))) (.n none .z (.n none .z .z))) .z)) (.n none .z (.n none (.n none .z (.n none (.n (some ⟨[1, 2, 32], [], [], [.reg 8 (.int .i64), .reg 33 (.int .i64)], 0, []⟩) (.n none .z (.n none .z (.n none (.n none .z .z) .z))) .z) .z)) (.n none (.n none .z (.n none (.n none .z .z) .z)) (.n none .z .z)))))))
noncomputable def grid_nodes_dc : List (Nat × Ctr) := []
def grid_nodes_ctr : Ctr := ⟨(.pair (.int .i64) (.pair (.int .i64) (.pair (.int .i64) .unit))), (.pair (.int .i64) (.pair (.int .i64) .unit)), grid_nodes_r, 140⟩
theorem grid_nodes_ok : CtrOk Try.prog 140 grid_nodes_ctr := ctr_ok (l := grid_nodes_dc) (f := 12) (an := grid_nodes_an) trivial fun fu x => by kernel_rfl
def grid_Check_j2 (fu : Nat) (v3 : Int) (j3 : (Int) → Option ((Int) × (Unit))) (v5 : Bool) : Option ((Int) × (Unit)) :=
  bif v5 then
    some (((3 : Int), ()))
  else
  j3 ((IntKind.i64.wrap (v3 + (1 : Int))))
def grid_Check_l1 (fu : Nat) (a : ((Int) × ((Int) × ((Int) × (List (Int))))) × (Unit)) (j3 : (Int) → Option ((Int) × (Unit))) (v3 : Int) : Option ((Int) × (Unit)) :=
  bif (decide (v3 < (List.length a.1.2.2.2 : Int))) then
    bif ((decide ((0 : Int) ≤ v3)) && (decide (v3 < (List.length a.1.2.2.2 : Int)))) then
    let v4 : Int := (List.getD a.1.2.2.2 (Int.toNat v3) 0)
    joinF (grid_Check_j2 fu v3 j3) fun j5 =>
    bif (decide (v4 < (-32768 : Int))) then
      j5 (true)
    else
    j5 ((decide ((65535 : Int) < v4)))
    else none
  else
  some (((0 : Int), ()))
def grid_Check_r (fu : Nat) (a : ((Int) × ((Int) × ((Int) × (List (Int))))) × (Unit)) : Option ((Int) × (Unit)) :=
  bindO (grid_nodes_r fu ((a.1.1, (a.1.2.1, (a.1.2.2.1, ()))))) fun v0 =>
  let v1 : Int := v0.1
  let v2 : Int := v0.2.1
  bif (decide (v2 ≠ (0 : Int))) then
    some ((v2, ()))
  else
  bif (decide ((List.length a.1.2.2.2 : Int) ≠ (IntKind.i64.wrap (v1 * a.1.2.1)))) then
    some (((4 : Int), ()))
  else
  loopF (grid_Check_l1 fu a) fu ((0 : Int))
def grid_Check_an : An := (.n none .z (.n none .z (.n none (.n none .z (.n none (.n none .z .z) .z)) (.n none (.n none .z (.n none (.n none .z .z) .z)) (.n none (.n none .z (.n none (.n (some ⟨[29, 30], [0], [], [.reg 31 (.int .i64)], 0, []⟩) (.n none .z (.n none .z (.n none (.n none (.n none .z (.n (some ⟨[31], [], [], [.reg 40 .bool], 0, []⟩) .z (.n none (.n none .z .z) .z))) .z) .z))) .z) .z)) (.n none .z .z))))))
noncomputable def grid_Check_dc : List (Nat × Ctr) := [(140, grid_nodes_ctr)]
def grid_Check_ctr : Ctr := ⟨(.pair (.agg (.pair (.int .i64) (.pair (.int .i64) (.pair (.int .i64) (.list (.int .i64)))))) .unit), (.pair (.int .i64) .unit), grid_Check_r, 101⟩
theorem grid_Check_ok : CtrOk Try.prog 101 grid_Check_ctr := ctr_ok (l := grid_Check_dc) (f := 12) (an := grid_Check_an) ⟨grid_nodes_ok, trivial⟩ fun fu x => by kernel_rfl
def devicelink_Check_j2 (fu : Nat) (v2 : Int) (j2 : (Int) → Option ((Int) × (Unit))) (v4 : Bool) : Option ((Int) × (Unit)) :=
  bif v4 then
    some (((3 : Int), ()))
  else
  j2 ((IntKind.i64.wrap (v2 + (1 : Int))))
def devicelink_Check_l1 (fu : Nat) (a : ((Int) × ((Int) × ((Int) × (List (Int))))) × (Unit)) (j2 : (Int) → Option ((Int) × (Unit))) (v2 : Int) : Option ((Int) × (Unit)) :=
  bif (decide (v2 < (List.length a.1.2.2.2 : Int))) then
    bif ((decide ((0 : Int) ≤ v2)) && (decide (v2 < (List.length a.1.2.2.2 : Int)))) then
    let v3 : Int := (List.getD a.1.2.2.2 (Int.toNat v2) 0)
    joinF (devicelink_Check_j2 fu v2 j2) fun j4 =>
    bif (decide (v3 < (0 : Int))) then
      j4 (true)
    else
    j4 ((decide ((65280 : Int) < v3)))
    else none
  else
  some (((0 : Int), ()))
def devicelink_Check_r (fu : Nat) (a : ((Int) × ((Int) × ((Int) × (List (Int))))) × (Unit)) : Option ((Int) × (Unit)) :=
  bindO (grid_Check_r fu (((a.1.1, (a.1.2.1, (a.1.2.2.1, a.1.2.2.2))), ()))) fun v0 =>
  let v1 : Int := v0.1
  bif (decide (v1 ≠ (0 : Int))) then
    some ((v1, ()))
  else
  loopF (devicelink_Check_l1 fu a) fu ((0 : Int))
def devicelink_Check_an : An := (.n none .z (.n none (.n none .z (.n none .z (.n none (.n none .z .z) .z))) (.n none (.n none .z (.n none (.n (some ⟨[12, 13], [0], [], [.reg 14 (.int .i64)], 0, []⟩) (.n none .z (.n none .z (.n none (.n none (.n none .z (.n (some ⟨[14], [], [], [.reg 23 .bool], 0, []⟩) .z (.n none (.n none .z .z) .z))) .z) .z))) .z) .z)) (.n none .z .z))))
noncomputable def devicelink_Check_dc : List (Nat × Ctr) := [(101, grid_Check_ctr)]
def devicelink_Check_ctr : Ctr := ⟨(.pair (.agg (.pair (.int .i64) (.pair (.int .i64) (.pair (.int .i64) (.list (.int .i64)))))) .unit), (.pair (.int .i64) .unit), devicelink_Check_r, 70⟩
theorem devicelink_Check_ok : CtrOk Try.prog 70 devicelink_Check_ctr := ctr_ok (l := devicelink_Check_dc) (f := 12) (an := devicelink_Check_an) ⟨grid_Check_ok, trivial⟩ fun fu x => by kernel_rfl
def R_Power_l1 (fu : Nat) (a : (Int) × ((Int) × (Unit))) (j0 : ((Int) × (Int)) → Option ((Int) × (Unit))) (v0 : (Int) × (Int)) : Option ((Int) × (Unit)) :=
  bif (decide (v0.2 < a.2.1)) then
    let v1 : Int := (IntKind.i64.wrap (v0.1 * a.1))
    j0 ((v1, (IntKind.i64.wrap (v0.2 + (1 : Int)))))
  else
  let v1 : Int := v0.1
  some ((v1, ()))
def R_Power_r (fu : Nat) (a : (Int) × ((Int) × (Unit))) : Option ((Int) × (Unit)) :=
  loopF (R_Power_l1 fu a) fu (((1 : Int), (0 : Int)))
def R_Power_an : An := (.n none .z (.n none .z (.n none (.n none .z (.n none (.n (some ⟨[0, 6, 4], [], [], [.reg 5 (.int .i64), .reg 7 (.int .i64)], 0, []⟩) (.n none .z (.n none .z (.n none (.n none .z .z) .z))) .z) .z)) (.n none .z .z))))
noncomputable def R_Power_dc : List (Nat × Ctr) := []
def R_Power_ctr : Ctr := ⟨(.pair (.int .i64) (.pair (.int .i64) .unit)), (.pair (.int .i64) .unit), R_Power_r, 66⟩
theorem R_Power_ok : CtrOk Try.prog 66 R_Power_ctr := ctr_ok (l := R_Power_dc) (f := 12) (an := R_Power_an) trivial fun fu x => by kernel_rfl
def R_ShapeErr_j1 (fu : Nat) (a : (Int) × ((Int) × ((Int) × (Unit)))) (v0 : Bool) : Option ((Int) × (Unit)) :=
  bif v0 then
    some (((3 : Int), ()))
  else
  bindO (R_Power_r fu ((a.2.2.1, (a.1, ())))) fun v1 =>
  bif (decide ((32768 : Int) < (IntKind.i64.wrap (v1.1 * a.2.1)))) then
    some (((2 : Int), ()))
  else
  some (((0 : Int), ()))
def R_ShapeErr_r (fu : Nat) (a : (Int) × ((Int) × ((Int) × (Unit)))) : Option ((Int) × (Unit)) :=
  joinF (R_ShapeErr_j1 fu a) fun j0 =>
  bindO (R_Within_r fu ((a.1, ((1 : Int), ((4 : Int), ()))))) fun v1 =>
  bif (!v1.1) then
    j0 (true)
  else
  bindO (R_Within_r fu ((a.2.1, ((1 : Int), ((8 : Int), ()))))) fun v2 =>
  bif (!v2.1) then
    j0 (true)
  else
  bindO (R_Within_r fu ((a.2.2.1, ((2 : Int), ((9 : Int), ()))))) fun v3 =>
  bif (!v3.1) then
    j0 (true)
  else
  j0 ((decide (a.2.2.1 = (8 : Int))))
def R_ShapeErr_an : An := (.n none .z (.n none (.n (some ⟨[2, 0, 1], [], [], [.reg 23 .bool], 0, []⟩) .z (.n none (.n none .z .z) .z)) (.n none (.n none .z (.n none (.n none .z .z) .z)) (.n none .z .z))))
noncomputable def R_ShapeErr_dc : List (Nat × Ctr) := [(66, R_Power_ctr), (79, R_Within_ctr)]
def R_ShapeErr_ctr : Ctr := ⟨(.pair (.int .i64) (.pair (.int .i64) (.pair (.int .i64) .unit))), (.pair (.int .i64) .unit), R_ShapeErr_r, 131⟩
theorem R_ShapeErr_ok : CtrOk Try.prog 131 R_ShapeErr_ctr := ctr_ok (l := R_ShapeErr_dc) (f := 12) (an := R_ShapeErr_an) ⟨R_Power_ok, ⟨R_Within_ok, trivial⟩⟩ fun fu x => by kernel_rfl
def R_GridErr_l1 (fu : Nat) (a : ((Int) × ((Int) × ((Int) × (List (Int))))) × (Unit)) (j3 : (Int) → Option ((Int) × (Unit))) (v3 : Int) : Option ((Int) × (Unit)) :=
  bif (decide (v3 < (List.length a.1.2.2.2 : Int))) then
    bif ((decide ((0 : Int) ≤ v3)) && (decide (v3 < (List.length a.1.2.2.2 : Int)))) then
    let v4 : Int := (List.getD a.1.2.2.2 (Int.toNat v3) 0)
    bindO (R_Within_r fu ((v4, ((-32768 : Int), ((65535 : Int), ()))))) fun v5 =>
    bif (!v5.1) then
      some (((3 : Int), ()))
    else
    j3 ((IntKind.i64.wrap (v3 + (1 : Int))))
    else none
  else
  some (((0 : Int), ()))
def R_GridErr_r (fu : Nat) (a : ((Int) × ((Int) × ((Int) × (List (Int))))) × (Unit)) : Option ((Int) × (Unit)) :=
  bindO (R_ShapeErr_r fu ((a.1.1, (a.1.2.1, (a.1.2.2.1, ()))))) fun v0 =>
  let v1 : Int := v0.1
  bif (decide (v1 ≠ (0 : Int))) then
    some ((v1, ()))
  else
  bindO (R_Power_r fu ((a.1.2.2.1, (a.1.1, ())))) fun v2 =>
  bif (decide ((List.length a.1.2.2.2 : Int) ≠ (IntKind.i64.wrap (v2.1 * a.1.2.1)))) then
    some (((4 : Int), ()))
  else
  loopF (R_GridErr_l1 fu a) fu ((0 : Int))
def R_GridErr_an : An := (.n none .z (.n none (.n none .z (.n none .z (.n none (.n none .z .z) .z))) (.n none (.n none (.dr [] []) (.n none (.n none .z .z) .z)) (.n none (.n none .z (.n none (.n (some ⟨[29, 30], [0], [], [.reg 31 (.int .i64)], 0, []⟩) (.n none .z (.n none .z (.n none (.n none (.n none .z (.n none .z (.n none (.n none .z .z) .z))) .z) .z))) .z) .z)) (.n none .z .z)))))
noncomputable def R_GridErr_dc : List (Nat × Ctr) := [(66, R_Power_ctr), (79, R_Within_ctr), (131, R_ShapeErr_ctr)]
def R_GridErr_ctr : Ctr := ⟨(.pair (.agg (.pair (.int .i64) (.pair (.int .i64) (.pair (.int .i64) (.list (.int .i64)))))) .unit), (.pair (.int .i64) .unit), R_GridErr_r, 78⟩
theorem R_GridErr_ok : CtrOk Try.prog 78 R_GridErr_ctr := ctr_ok (l := R_GridErr_dc) (f := 12) (an := R_GridErr_an) ⟨R_Power_ok, ⟨R_Within_ok, ⟨R_ShapeErr_ok, trivial⟩⟩⟩ fun fu x => by kernel_rfl
def R_LinkErr_r (fu : Nat) (a : ((Int) × ((Int) × ((Int) × (List (Int))))) × (Unit)) : Option ((Int) × (Unit)) :=
  bindO (R_GridErr_r fu (((a.1.1, (a.1.2.1, (a.1.2.2.1, a.1.2.2.2))), ()))) fun v0 =>
  let v1 : Int := v0.1
  bif (decide (v1 ≠ (0 : Int))) then
    some ((v1, ()))
  else
  bindO (R_TonesErr_r fu ((a.1.2.2.2, ((List.length a.1.2.2.2 : Int), ((65280 : Int), ()))))) fun v2 =>
  let v3 : Int := v2.1
  some ((v3, ()))
def R_LinkErr_an : An := (.n none .z (.n none (.n none .z (.n none .z (.n none (.n none .z .z) .z))) (.n none .z .z)))
noncomputable def R_LinkErr_dc : List (Nat × Ctr) := [(41, R_TonesErr_ctr), (78, R_GridErr_ctr)]
def R_LinkErr_ctr : Ctr := ⟨(.pair (.agg (.pair (.int .i64) (.pair (.int .i64) (.pair (.int .i64) (.list (.int .i64)))))) .unit), (.pair (.int .i64) .unit), R_LinkErr_r, 69⟩
theorem R_LinkErr_ok : CtrOk Try.prog 69 R_LinkErr_ctr := ctr_ok (l := R_LinkErr_dc) (f := 12) (an := R_LinkErr_an) ⟨R_TonesErr_ok, ⟨R_GridErr_ok, trivial⟩⟩ fun fu x => by kernel_rfl
def curve_Nearest_j1 (fu : Nat) (v3 : Int) : Option ((Int) × (Unit)) :=
  some ((v3, ()))
def curve_Nearest_r (fu : Nat) (a : (Int) × ((Int) × (Unit))) : Option ((Int) × (Unit)) :=
  let v0 : Int := (IntKind.i64.wrap ((IntKind.i64.wrap ((2 : Int) * a.1)) + a.2.1))
  let v1 : Int := (IntKind.i64.wrap ((2 : Int) * a.2.1))
  bif (decide (v1 ≠ (0 : Int))) then
  let v2 : Int := (IntKind.i64.wrap (Int.tdiv v0 v1))
  joinF (curve_Nearest_j1 fu) fun j3 =>
  bif (decide (v1 ≠ (0 : Int))) then
  bif (decide ((Int.tmod v0 v1) < (0 : Int))) then
    let v4 : Int := (IntKind.i64.wrap (v2 - (1 : Int)))
    j3 (v4)
  else
  j3 (v2)
  else none
  else none
def curve_Nearest_an : An := (.n none .z (.n none .z (.n none .z (.n (some ⟨[], [], [], [.reg 5 (.int .i64)], 0, []⟩) (.n none .z (.n none .z .z)) (.n none .z .z)))))
noncomputable def curve_Nearest_dc : List (Nat × Ctr) := []
def curve_Nearest_ctr : Ctr := ⟨(.pair (.int .i64) (.pair (.int .i64) .unit)), (.pair (.int .i64) .unit), curve_Nearest_r, 147⟩
theorem curve_Nearest_ok : CtrOk Try.prog 147 curve_Nearest_ctr := ctr_ok (l := curve_Nearest_dc) (f := 12) (an := curve_Nearest_an) trivial fun fu x => by kernel_rfl
def grid_at_l1 (fu : Nat) (a : ((Int) × ((Int) × ((Int) × (List (Int))))) × ((List (Int)) × (Unit))) (j0 : ((Int) × (Int)) → Option ((Int) × (Unit))) (v0 : (Int) × (Int)) : Option ((Int) × (Unit)) :=
  bif (decide (v0.2 < (List.length a.2.1 : Int))) then
    bif ((decide ((0 : Int) ≤ v0.2)) && (decide (v0.2 < (List.length a.2.1 : Int)))) then
    let v1 : Int := (List.getD a.2.1 (Int.toNat v0.2) 0)
    let v2 : Int := (IntKind.i64.wrap ((IntKind.i64.wrap (v0.1 * a.1.2.2.1)) + v1))
    j0 ((v2, (IntKind.i64.wrap (v0.2 + (1 : Int)))))
    else none
  else
  let v1 : Int := (IntKind.i64.wrap (v0.1 * a.1.2.1))
  some ((v1, ()))
def grid_at_r (fu : Nat) (a : ((Int) × ((Int) × ((Int) × (List (Int))))) × ((List (Int)) × (Unit))) : Option ((Int) × (Unit)) :=
  loopF (grid_at_l1 fu a) fu (((0 : Int), (0 : Int)))
def grid_at_an : An := (.n none .z (.n none .z (.n none (.n none .z (.n none (.n (some ⟨[0, 8, 9, 4], [], [], [.reg 5 (.int .i64), .reg 10 (.int .i64)], 0, []⟩) (.n none .z (.n none .z (.n none (.n none (.n none .z .z) .z) .z))) .z) .z)) (.n none .z .z))))
noncomputable def grid_at_dc : List (Nat × Ctr) := []
def grid_at_ctr : Ctr := ⟨(.pair (.ptr (.pair (.int .i64) (.pair (.int .i64) (.pair (.int .i64) (.list (.int .i64)))))) (.pair (.list (.int .i64)) .unit)), (.pair (.int .i64) .unit), grid_at_r, 138⟩
theorem grid_at_ok : CtrOk Try.prog 138 grid_at_ctr := ctr_ok (l := grid_at_dc) (f := 12) (an := grid_at_an) trivial fun fu x => by kernel_rfl
def devicelink_Quick_j4 (fu : Nat) (v1 : Int) (v3 : (Int) × ((List (Int)) × ((List (Int)) × (List (Int))))) (v4 : Int) (v5 : Int) (v6 : (Int) × (List (Int))) (j3 : ((Int) × ((List (Int)) × ((List (Int)) × (List (Int))))) → Option ((List (Int)) × (Unit))) (j6 : ((Int) × (List (Int))) → Option ((List (Int)) × (Unit))) (v7 : Bool) : Option ((List (Int)) × (Unit)) :=
  bif v7 then
    bif (((decide ((0 : Int) ≤ (IntKind.i64.wrap (v6.1 - (1 : Int))))) && (decide ((IntKind.i64.wrap (v6.1 - (1 : Int))) < (List.length v6.2 : Int)))) && (decide ((IntKind.i64.wrap (v6.1 - (1 : Int))) < (4 : Int)))) then
    bif (((decide ((0 : Int) ≤ v6.1)) && (decide (v6.1 < (List.length v6.2 : Int)))) && (decide (v6.1 < (4 : Int)))) then
    let v8 : Int := (IntKind.i64.wrap (v6.1 - (1 : Int)))
    j6 ((v8, (List.set v6.2 (Int.toNat v6.1) (List.getD v6.2 (Int.toNat (IntKind.i64.wrap (v6.1 - (1 : Int)))) 0))))
    else none
    else none
  else
  bif (((decide ((0 : Int) ≤ v6.1)) && (decide (v6.1 < (List.length v6.2 : Int)))) && (decide (v6.1 < (4 : Int)))) then
  j3 (((IntKind.i64.wrap (v3.1 + (1 : Int))), ((List.set v3.2.1 (Int.toNat v4) (Int.tmod v5 v1)), ((List.set v3.2.2.1 (Int.toNat v4) (IntKind.i64.wrap (Int.tdiv v5 v1))), (List.set v6.2 (Int.toNat v6.1) v4)))))
  else none
def devicelink_Quick_l3 (fu : Nat) (v1 : Int) (v3 : (Int) × ((List (Int)) × ((List (Int)) × (List (Int))))) (v4 : Int) (v5 : Int) (j3 : ((Int) × ((List (Int)) × ((List (Int)) × (List (Int))))) → Option ((List (Int)) × (Unit))) (j6 : ((Int) × (List (Int))) → Option ((List (Int)) × (Unit))) (v6 : (Int) × (List (Int))) : Option ((List (Int)) × (Unit)) :=
  joinF (devicelink_Quick_j4 fu v1 v3 v4 v5 v6 j3 j6) fun j7 =>
  bif (decide ((0 : Int) < v6.1)) then
    bif (((decide ((0 : Int) ≤ (IntKind.i64.wrap (v6.1 - (1 : Int))))) && (decide ((IntKind.i64.wrap (v6.1 - (1 : Int))) < (List.length v6.2 : Int)))) && (decide ((IntKind.i64.wrap (v6.1 - (1 : Int))) < (4 : Int)))) then
    bif (((decide ((0 : Int) ≤ (List.getD v6.2 (Int.toNat (IntKind.i64.wrap (v6.1 - (1 : Int)))) 0))) && (decide ((List.getD v6.2 (Int.toNat (IntKind.i64.wrap (v6.1 - (1 : Int)))) 0) < (List.length (List.set v3.2.1 (Int.toNat v4) (Int.tmod v5 v1)) : Int)))) && (decide ((List.getD v6.2 (Int.toNat (IntKind.i64.wrap (v6.1 - (1 : Int)))) 0) < (4 : Int)))) then
    bif (((decide ((0 : Int) ≤ v4)) && (decide (v4 < (List.length (List.set v3.2.1 (Int.toNat v4) (Int.tmod v5 v1)) : Int)))) && (decide (v4 < (4 : Int)))) then
    j7 ((decide ((List.getD (List.set v3.2.1 (Int.toNat v4) (Int.tmod v5 v1)) (Int.toNat (List.getD v6.2 (Int.toNat (IntKind.i64.wrap (v6.1 - (1 : Int)))) 0)) 0) < (List.getD (List.set v3.2.1 (Int.toNat v4) (Int.tmod v5 v1)) (Int.toNat v4) 0))))
    else none
    else none
    else none
  else
  j7 (false)
def devicelink_Quick_l6 (fu : Nat) (a : ((Int) × ((Int) × ((Int) × (List (Int))))) × ((List (Int)) × (Unit))) (v4 : List (Int)) (j5 : ((Int) × (List (Int))) → Option ((List (Int)) × (Unit))) (v5 : (Int) × (List (Int))) : Option ((List (Int)) × (Unit)) :=
  bif (decide (v5.1 < (List.length v4 : Int))) then
    bif ((decide ((0 : Int) ≤ v5.1)) && (decide (v5.1 < (List.length v5.2 : Int)))) then
    let v6 : Int := v5.1
    let v7 : Int := (List.getD v5.2 (Int.toNat v5.1) 0)
    bif (decide ((IntKind.i64.wrap (a.1.2.2.1 - (1 : Int))) ≠ (0 : Int))) then
    bindO (curve_Nearest_r fu ((v7, ((IntKind.i64.wrap ((256 : Int) * (IntKind.i64.wrap (Int.tdiv (65280 : Int) (IntKind.i64.wrap (a.1.2.2.1 - (1 : Int))))))), ())))) fun v8 =>
    bif ((decide ((0 : Int) ≤ v6)) && (decide (v6 < (List.length v5.2 : Int)))) then
    j5 (((IntKind.i64.wrap (v5.1 + (1 : Int))), (List.set v5.2 (Int.toNat v6) v8.1)))
    else none
    else none
    else none
  else
  some ((v5.2, ()))
def devicelink_Quick_j5 (fu : Nat) (a : ((Int) × ((Int) × ((Int) × (List (Int))))) × ((List (Int)) × (Unit))) (v4 : List (Int)) : Option ((List (Int)) × (Unit)) :=
  loopF (devicelink_Quick_l6 fu a v4) fu (((0 : Int), v4))
def devicelink_Quick_j8 (fu : Nat) (j5 : ((Int) × ((Int) × ((List (Int)) × (List (Int))))) → Option ((List (Int)) × (Unit))) (v6 : (Int) × ((Int) × ((List (Int)) × (List (Int))))) : Option ((List (Int)) × (Unit)) :=
  let v7 : Int := (IntKind.i64.wrap (v6.1 + (1 : Int)))
  j5 ((v6.2.1, (v7, (v6.2.2.1, v6.2.2.2))))
def devicelink_Quick_j10 (fu : Nat) (v2 : Int) (v3 : (Int) × ((List (Int)) × ((List (Int)) × (List (Int))))) (v5 : (Int) × ((Int) × ((List (Int)) × (List (Int))))) (v7 : (Int) × ((Int) × ((List (Int)) × (List (Int))))) (j4 : (List (Int)) → Option ((List (Int)) × (Unit))) (j6 : ((Int) × ((Int) × ((List (Int)) × (List (Int))))) → Option ((List (Int)) × (Unit))) (v8 : (Int) × (List (Int))) : Option ((List (Int)) × (Unit)) :=
  bif (decide (v5.2.1 < v2)) then
    let v9 : Int := v7.1
    bif (decide (v7.1 = (0 : Int))) then
      j4 (v8.2)
    else
    bif (((decide ((0 : Int) ≤ v5.2.1)) && (decide (v5.2.1 < (List.length v3.2.2.2 : Int)))) && (decide (v5.2.1 < (4 : Int)))) then
    bif (((decide ((0 : Int) ≤ (List.getD v3.2.2.2 (Int.toNat v5.2.1) 0))) && (decide ((List.getD v3.2.2.2 (Int.toNat v5.2.1) 0) < (List.length v7.2.2.2 : Int)))) && (decide ((List.getD v3.2.2.2 (Int.toNat v5.2.1) 0) < (4 : Int)))) then
    bif (((decide ((0 : Int) ≤ (List.getD v3.2.2.2 (Int.toNat v5.2.1) 0))) && (decide ((List.getD v3.2.2.2 (Int.toNat v5.2.1) 0) < (List.length v7.2.2.2 : Int)))) && (decide ((List.getD v3.2.2.2 (Int.toNat v5.2.1) 0) < (4 : Int)))) then
    j6 ((v5.2.1, (v9, (v8.2, (List.set v7.2.2.2 (Int.toNat (List.getD v3.2.2.2 (Int.toNat v5.2.1) 0)) (IntKind.i64.wrap ((List.getD v7.2.2.2 (Int.toNat (List.getD v3.2.2.2 (Int.toNat v5.2.1) 0)) 0) + (1 : Int))))))))
    else none
    else none
    else none
  else
  j6 ((v5.2.1, (v8.1, (v8.2, v7.2.2.2))))
def devicelink_Quick_l11 (fu : Nat) (a : ((Int) × ((Int) × ((Int) × (List (Int))))) × ((List (Int)) × (Unit))) (v7 : (Int) × ((Int) × ((List (Int)) × (List (Int))))) (v9 : Int) (v11 : Int) (j8 : ((Int) × (List (Int))) → Option ((List (Int)) × (Unit))) (j12 : ((Int) × (List (Int))) → Option ((List (Int)) × (Unit))) (v12 : (Int) × (List (Int))) : Option ((List (Int)) × (Unit)) :=
  bif (decide (v12.1 < (List.length v7.2.2.1 : Int))) then
    let v13 : Int := v12.1
    bif ((decide ((0 : Int) ≤ v13)) && (decide (v13 < (List.length v12.2 : Int)))) then
    bif ((decide ((0 : Int) ≤ (IntKind.i64.wrap (v11 + v13)))) && (decide ((IntKind.i64.wrap (v11 + v13)) < (List.length a.1.2.2.2 : Int)))) then
    let v14 : Int := (List.getD a.1.2.2.2 (Int.toNat (IntKind.i64.wrap (v11 + v13))) 0)
    bif ((decide ((0 : Int) ≤ v13)) && (decide (v13 < (List.length v12.2 : Int)))) then
    j12 (((IntKind.i64.wrap (v12.1 + (1 : Int))), (List.set v12.2 (Int.toNat v13) (IntKind.i64.wrap ((List.getD v12.2 (Int.toNat v13) 0) + (IntKind.i64.wrap (v9 * v14)))))))
    else none
    else none
    else none
  else
  j8 ((v7.2.1, v12.2))
def devicelink_Quick_j9 (fu : Nat) (a : ((Int) × ((Int) × ((Int) × (List (Int))))) × ((List (Int)) × (Unit))) (v2 : Int) (v3 : (Int) × ((List (Int)) × ((List (Int)) × (List (Int))))) (v5 : (Int) × ((Int) × ((List (Int)) × (List (Int))))) (j4 : (List (Int)) → Option ((List (Int)) × (Unit))) (j6 : ((Int) × ((Int) × ((List (Int)) × (List (Int))))) → Option ((List (Int)) × (Unit))) (v7 : (Int) × ((Int) × ((List (Int)) × (List (Int))))) : Option ((List (Int)) × (Unit)) :=
  joinF (devicelink_Quick_j10 fu v2 v3 v5 v7 j4 j6) fun j8 =>
  let v9 : Int := (IntKind.i64.wrap (v7.2.1 - v7.1))
  bif (decide ((0 : Int) < v9)) then
    bif ((decide ((List.length v7.2.2.2 : Int) = (4 : Int))) && ((decide ((0 : Int) ≤ v2)) && (decide (v2 ≤ (List.length v7.2.2.2 : Int))))) then
    bindO (grid_at_r fu ((a.1, ((List.drop (Int.toNat (0 : Int)) (List.take (Int.toNat v2) v7.2.2.2)), ())))) fun v10 =>
    let v11 : Int := v10.1
    loopF (devicelink_Quick_l11 fu a v7 v9 v11 j8) fu (((0 : Int), v7.2.2.1))
    else none
  else
  j8 ((v7.2.1, v7.2.2.1))
def devicelink_Quick_l7 (fu : Nat) (a : ((Int) × ((Int) × ((Int) × (List (Int))))) × ((List (Int)) × (Unit))) (v2 : Int) (v3 : (Int) × ((List (Int)) × ((List (Int)) × (List (Int))))) (j4 : (List (Int)) → Option ((List (Int)) × (Unit))) (j5 : ((Int) × ((Int) × ((List (Int)) × (List (Int))))) → Option ((List (Int)) × (Unit))) (v5 : (Int) × ((Int) × ((List (Int)) × (List (Int))))) : Option ((List (Int)) × (Unit)) :=
  bif (decide (v5.2.1 ≤ v2)) then
    joinF (devicelink_Quick_j8 fu j5) fun j6 =>
    joinF (devicelink_Quick_j9 fu a v2 v3 v5 j4 j6) fun j7 =>
    bif (decide (v5.2.1 < v2)) then
      bif (((decide ((0 : Int) ≤ v5.2.1)) && (decide (v5.2.1 < (List.length v3.2.2.2 : Int)))) && (decide (v5.2.1 < (4 : Int)))) then
      bif (((decide ((0 : Int) ≤ (List.getD v3.2.2.2 (Int.toNat v5.2.1) 0))) && (decide ((List.getD v3.2.2.2 (Int.toNat v5.2.1) 0) < (List.length v3.2.1 : Int)))) && (decide ((List.getD v3.2.2.2 (Int.toNat v5.2.1) 0) < (4 : Int)))) then
      let v8 : Int := (List.getD v3.2.1 (Int.toNat (List.getD v3.2.2.2 (Int.toNat v5.2.1) 0)) 0)
      j7 ((v8, (v5.1, (v5.2.2.1, v5.2.2.2))))
      else none
      else none
    else
    j7 (((0 : Int), (v5.1, (v5.2.2.1, v5.2.2.2))))
  else
  j4 (v5.2.2.1)
def devicelink_Quick_l2 (fu : Nat) (a : ((Int) × ((Int) × ((Int) × (List (Int))))) × ((List (Int)) × (Unit))) (v0 : (Int) × (List (Int))) (v1 : Int) (v2 : Int) (j3 : ((Int) × ((List (Int)) × ((List (Int)) × (List (Int))))) → Option ((List (Int)) × (Unit))) (v3 : (Int) × ((List (Int)) × ((List (Int)) × (List (Int))))) : Option ((List (Int)) × (Unit)) :=
  bif (decide (v3.1 < (List.length v0.2 : Int))) then
    bif ((decide ((0 : Int) ≤ v3.1)) && (decide (v3.1 < (List.length v0.2 : Int)))) then
    let v4 : Int := v3.1
    let v5 : Int := (List.getD v0.2 (Int.toNat v3.1) 0)
    bif (decide (v1 ≠ (0 : Int))) then
    bif (decide (v1 ≠ (0 : Int))) then
    bif (((decide ((0 : Int) ≤ v4)) && (decide (v4 < (List.length v3.2.2.1 : Int)))) && (decide (v4 < (4 : Int)))) then
    bif (((decide ((0 : Int) ≤ v4)) && (decide (v4 < (List.length v3.2.1 : Int)))) && (decide (v4 < (4 : Int)))) then
    loopF (devicelink_Quick_l3 fu v1 v3 v4 v5 j3) fu ((v4, v3.2.2.2))
    else none
    else none
    else none
    else none
    else none
  else
  bif ((decide ((0 : Int) ≤ a.1.2.1)) && (decide (((8 : Int) * a.1.2.1) ≤ (281474976710656 : Int)))) then
  joinF (devicelink_Quick_j5 fu a) fun j4 =>
  loopF (devicelink_Quick_l7 fu a v2 v3 j4) fu ((v1, ((0 : Int), ((List.replicate (Int.toNat a.1.2.1) (0 : Int)), v3.2.2.1))))
  else none
def devicelink_Quick_l1 (fu : Nat) (a : ((Int) × ((Int) × ((Int) × (List (Int))))) × ((List (Int)) × (Unit))) (j0 : ((Int) × (List (Int))) → Option ((List (Int)) × (Unit))) (v0 : (Int) × (List (Int))) : Option ((List (Int)) × (Unit)) :=
  bif (decide (v0.1 < (List.length a.2.1 : Int))) then
    bif ((decide ((0 : Int) ≤ v0.1)) && (decide (v0.1 < (List.length a.2.1 : Int)))) then
    let v1 : Int := (List.getD a.2.1 (Int.toNat v0.1) 0)
    let v2 : Int := v0.1
    bif ((decide ((0 : Int) ≤ v2)) && (decide (v2 < (List.length v0.2 : Int)))) then
    j0 (((IntKind.i64.wrap (v0.1 + (1 : Int))), (List.set v0.2 (Int.toNat v2) (IntKind.i64.wrap ((256 : Int) * v1)))))
    else none
    else none
  else
  bif (decide ((IntKind.i64.wrap (a.1.2.2.1 - (1 : Int))) ≠ (0 : Int))) then
  let v1 : Int := (IntKind.i64.wrap (Int.tdiv (65280 : Int) (IntKind.i64.wrap (a.1.2.2.1 - (1 : Int)))))
  let v2 : Int := a.1.1
  loopF (devicelink_Quick_l2 fu a v0 v1 v2) fu (((0 : Int), (((0 : Int) :: ((0 : Int) :: ((0 : Int) :: ((0 : Int) :: ([] : List (Int)))))), (((0 : Int) :: ((0 : Int) :: ((0 : Int) :: ((0 : Int) :: ([] : List (Int)))))), ((0 : Int) :: ((0 : Int) :: ((0 : Int) :: ((0 : Int) :: ([] : List (Int))))))))))
  else none
def devicelink_Quick_r (fu : Nat) (a : ((Int) × ((Int) × ((Int) × (List (Int))))) × ((List (Int)) × (Unit))) : Option ((List (Int)) × (Unit)) :=
  bif ((decide ((0 : Int) ≤ (List.length a.2.1 : Int))) && (decide (((8 : Int) * (List.length a.2.1 : Int)) ≤ (281474976710656 : Int)))) then
  loopF (devicelink_Quick_l1 fu a) fu (((0 : Int), (List.replicate (Int.toNat (List.length a.2.1 : Int)) (0 : Int))))
  else none
def devicelink_Quick_an : An := (.n none .z (.n none .z (.n none (.n none .z (.n none (.n (some ⟨[0, 5, 14, 15, 4], [], [], [.reg 16 (.int .i64), .row 0 true (.int .i64) 3 0], 0, []⟩) (.n none .z (.n none .z (.n none (.n none (.n none .z .z) .z) .z))) .z) .z)) (.n none (.ops [(2, (.n none (.n none .z (.n none .z (.n none .z (.n none .z (.n none (.n none .z (.n none (.n (some ⟨[8, 6, 9, 0, 7, 5, 30, 31, 4], [0], [], [.reg 32 (.int .i64), .row 2 true (.int .i64) 187 0, .row 1 true (.int .i64) 187 0, .row 3 true (.int .i64) 187 0], 0, []⟩) (.n none .z (.n none .z (.n none (.n none (.n none .z (.n none (.dr [] []) (.n none .z (.n none (.n none (.n (some ⟨[32, 10], [1, 2], [], [.reg 12 (.int .i64), .row 3 true (.int .i64) 187 0], 0, []⟩) (.n none (.n (some ⟨[12], [3], [], [.reg 61 .bool], 0, []⟩) (.dr [] []) .z) (.n none (.n none .z .z) .z)) .z) .z) .z)))) .z) .z))) .z) .z)) (.n none .z (.n none .z (.n (some ⟨[13], [0, 2, 3], [], [.row 4 true (.int .i64) 3 0], 0, []⟩) (.n none .z (.n none (.n (some ⟨[7, 0, 9, 6, 8, 4], [], [], [.reg 14 (.int .i64), .reg 15 (.int .i64), .row 4 true (.int .i64) 3 0, .row 1 true (.int .i64) 187 0], 0, []⟩) (.n none (.n none .z .z) (.n (some ⟨[], [], [], [.reg 15 (.int .i64), .reg 14 (.int .i64), .row 4 true (.int .i64) 3 0, .row 1 true (.int .i64) 187 0], 0, []⟩) (.n none (.n none .z (.n (some ⟨[15], [], [], [.reg 16 (.int .i64), .reg 14 (.int .i64), .row 4 true (.int .i64) 3 0, .row 1 true (.int .i64) 187 0], 0, []⟩) (.n none .z (.n none .z .z)) (.n (some ⟨[16], [1], [], [.reg 14 (.int .i64), .row 4 true (.int .i64) 3 0], 0, []⟩) (.n none .z (.n none .z (.n none (.n none .z (.n none .z (.n none (.n (some ⟨[14, 17, 18, 103], [], [], [.reg 104 (.int .i64), .row 4 true (.int .i64) 3 0], 0, []⟩) (.n none .z (.n none .z (.n none (.n none (.n none .z (.dr [] [])) .z) .z))) .z) .z))) .z))) (.n none .z (.n none (.n none .z (.n none (.n none .z .z) .z)) .z))))) .z) .z)) .z) .z)) (.n none .z .z))))))))) .z))]) (.n none (.n none .z (.n none (.n (some ⟨[8, 30, 0, 31, 4], [0], [], [.reg 32 (.int .i64), .row 4 true (.int .i64) 3 0], 0, []⟩) (.n none .z (.n none .z (.n none (.n none (.n none .z .z) .z) .z))) .z) .z)) (.n none .z .z))))))
noncomputable def devicelink_Quick_dc : List (Nat × Ctr) := [(138, grid_at_ctr), (147, curve_Nearest_ctr)]
def devicelink_Quick_ctr : Ctr := ⟨(.pair (.ptr (.pair (.int .i64) (.pair (.int .i64) (.pair (.int .i64) (.list (.int .i64)))))) (.pair (.list (.int .i64)) .unit)), (.pair (.list (.int .i64)) .unit), devicelink_Quick_r, 125⟩
theorem devicelink_Quick_ok : CtrOk Try.prog 125 devicelink_Quick_ctr := ctr_ok (l := devicelink_Quick_dc) (f := 12) (an := devicelink_Quick_an) ⟨grid_at_ok, ⟨curve_Nearest_ok, trivial⟩⟩ fun fu x => by kernel_rfl
def profile_Tones_j2 (fu : Nat) (v0 : Int) (j0 : (Int) → Option ((Int) × (Unit))) (v2 : Bool) : Option ((Int) × (Unit)) :=
  bif v2 then
    some (((3 : Int), ()))
  else
  j0 ((IntKind.i64.wrap (v0 + (1 : Int))))
def profile_Tones_l1 (fu : Nat) (a : (List (Int)) × ((Int) × (Unit))) (j0 : (Int) → Option ((Int) × (Unit))) (v0 : Int) : Option ((Int) × (Unit)) :=
  bif (decide (v0 < (List.length a.1 : Int))) then
    bif ((decide ((0 : Int) ≤ v0)) && (decide (v0 < (List.length a.1 : Int)))) then
    let v1 : Int := (List.getD a.1 (Int.toNat v0) 0)
    joinF (profile_Tones_j2 fu v0 j0) fun j2 =>
    bif (decide (v1 < (0 : Int))) then
      j2 (true)
    else
    j2 ((decide ((255 : Int) < v1)))
    else none
  else
  some (((0 : Int), ()))
def profile_Tones_r (fu : Nat) (a : (List (Int)) × ((Int) × (Unit))) : Option ((Int) × (Unit)) :=
  bif (decide ((List.length a.1 : Int) ≠ a.2.1)) then
    some (((4 : Int), ()))
  else
  loopF (profile_Tones_l1 fu a) fu ((0 : Int))
def profile_Tones_an : An := (.n none .z (.n none (.n none .z (.n none (.n none .z .z) .z)) (.n none (.n none .z (.n none (.n (some ⟨[11, 12], [], [], [.reg 13 (.int .i64)], 0, []⟩) (.n none .z (.n none .z (.n none (.n none (.n none .z (.n (some ⟨[13], [], [], [.reg 22 .bool], 0, []⟩) .z (.n none (.n none .z .z) .z))) .z) .z))) .z) .z)) (.n none .z .z))))
noncomputable def profile_Tones_dc : List (Nat × Ctr) := []
def profile_Tones_ctr : Ctr := ⟨(.pair (.list (.int .i64)) (.pair (.int .i64) .unit)), (.pair (.int .i64) .unit), profile_Tones_r, 86⟩
theorem profile_Tones_ok : CtrOk Try.prog 86 profile_Tones_ctr := ctr_ok (l := profile_Tones_dc) (f := 12) (an := profile_Tones_an) trivial fun fu x => by kernel_rfl
def devicelink_Convert_r (fu : Nat) (a : ((Int) × ((Int) × ((Int) × (List (Int))))) × ((List (Int)) × (Unit))) : Option ((List (Int)) × ((Int) × (Unit))) :=
  bindO (devicelink_Check_r fu (((a.1.1, (a.1.2.1, (a.1.2.2.1, a.1.2.2.2))), ()))) fun v0 =>
  let v1 : Int := v0.1
  bif (decide (v1 ≠ (0 : Int))) then
    some ((([] : List (Int)), (v1, ())))
  else
  bindO (profile_Tones_r fu ((a.2.1, (a.1.1, ())))) fun v2 =>
  let v3 : Int := v2.1
  bif (decide (v3 ≠ (0 : Int))) then
    some ((([] : List (Int)), (v3, ())))
  else
  bindO (devicelink_Quick_r fu (((a.1.1, (a.1.2.1, (a.1.2.2.1, a.1.2.2.2))), (a.2.1, ())))) fun v4 =>
  let v5 : List (Int) := v4.1
  some ((v5, ((0 : Int), ())))
def devicelink_Convert_an : An := (.n none .z (.n none (.n none .z (.n none .z (.n none (.n none .z .z) .z))) (.n none (.n none .z (.n none .z (.n none (.n none .z .z) .z))) (.n none .z .z))))
noncomputable def devicelink_Convert_dc : List (Nat × Ctr) := [(70, devicelink_Check_ctr), (86, profile_Tones_ctr), (125, devicelink_Quick_ctr)]
def devicelink_Convert_ctr : Ctr := ⟨(.pair (.agg (.pair (.int .i64) (.pair (.int .i64) (.pair (.int .i64) (.list (.int .i64)))))) (.pair (.list (.int .i64)) .unit)), (.pair (.list (.int .i64)) (.pair (.int .i64) .unit)), devicelink_Convert_r, 68⟩
theorem devicelink_Convert_ok : CtrOk Try.prog 68 devicelink_Convert_ctr := ctr_ok (l := devicelink_Convert_dc) (f := 12) (an := devicelink_Convert_an) ⟨devicelink_Check_ok, ⟨profile_Tones_ok, ⟨devicelink_Quick_ok, trivial⟩⟩⟩ fun fu x => by kernel_rfl
def law_DevicelinkConversions_j1 (fu : Nat) (a : ((Int) × ((Int) × ((Int) × (List (Int))))) × ((List (Int)) × (Unit))) (v2 : List (Int)) (v3 : Int) (v7 : Int) : Option ((Bool) × (Unit)) :=
  bif (decide (v7 ≠ (0 : Int))) then
    bindO (law_none_r fu (((decide ((List.length v2 : Int) = (0 : Int))), (v3, (v7, ()))))) fun v8 =>
    let v9 : Bool := v8.1
    some ((v9, ()))
  else
  bif (decide (v3 = (0 : Int))) then
    bindO (R_Linked_r fu (((a.1.1, (a.1.2.1, (a.1.2.2.1, a.1.2.2.2))), (a.2.1, ())))) fun v8 =>
    bindO (R_SameInts_r fu ((v2, (v8.1, ())))) fun v9 =>
    let v10 : Bool := v9.1
    some ((v10, ()))
  else
  some ((false, ()))
def law_DevicelinkConversions_r (fu : Nat) (a : ((Int) × ((Int) × ((Int) × (List (Int))))) × ((List (Int)) × (Unit))) : Option ((Bool) × (Unit)) :=
  bindO (law_devicelinkWorks_r fu (())) fun v0 =>
  bif (!v0.1) then
    some ((false, ()))
  else
  bindO (devicelink_Convert_r fu (((a.1.1, (a.1.2.1, (a.1.2.2.1, a.1.2.2.2))), (a.2.1, ())))) fun v1 =>
  let v2 : List (Int) := v1.1
  let v3 : Int := v1.2.1
  bindO (R_LinkErr_r fu (((a.1.1, (a.1.2.1, (a.1.2.2.1, a.1.2.2.2))), ()))) fun v4 =>
  let v5 : Int := v4.1
  bindO (devicelink_Check_r fu (((a.1.1, (a.1.2.1, (a.1.2.2.1, a.1.2.2.2))), ()))) fun v6 =>
  bif (decide (v6.1 ≠ v5)) then
    some ((false, ()))
  else
  joinF (law_DevicelinkConversions_j1 fu a v2 v3) fun j7 =>
  bif (decide (v5 = (0 : Int))) then
    bindO (R_TonesErr_r fu ((a.2.1, (a.1.1, ((255 : Int), ()))))) fun v8 =>
    let v9 : Int := v8.1
    j7 (v9)
  else
  j7 (v5)
def law_DevicelinkConversions_an : An := (.n none .z (.n none (.n none .z (.n none (.n none .z .z) .z)) (.n none .z (.n none .z (.n none (.n none .z (.n none (.n none .z .z) .z)) (.n (some ⟨[6, 5, 2, 1], [0], [], [.reg 7 (.int .i64)], 0, []⟩) (.n none .z (.n none .z .z)) (.n none (.n none .z (.n none (.n none .z .z) .z)) (.n none .z .z))))))))
noncomputable def law_DevicelinkConversions_dc : List (Nat × Ctr) := [(20, law_none_ctr), (31, R_SameInts_ctr), (41, R_TonesErr_ctr), (55, R_Linked_ctr), (63, law_devicelinkWorks_ctr), (68, devicelink_Convert_ctr), (69, R_LinkErr_ctr), (70, devicelink_Check_ctr)]
def law_DevicelinkConversions_ctr : Ctr := ⟨(.pair (.agg (.pair (.int .i64) (.pair (.int .i64) (.pair (.int .i64) (.list (.int .i64)))))) (.pair (.list (.int .i64)) .unit)), (.pair .bool .unit), law_DevicelinkConversions_r, 14⟩
theorem law_DevicelinkConversions_ok : CtrOk Try.prog 14 law_DevicelinkConversions_ctr := ctr_ok (l := law_DevicelinkConversions_dc) (f := 12) (an := law_DevicelinkConversions_an) ⟨law_none_ok, ⟨R_SameInts_ok, ⟨R_TonesErr_ok, ⟨R_Linked_ok, ⟨law_devicelinkWorks_ok, ⟨devicelink_Convert_ok, ⟨R_LinkErr_ok, ⟨devicelink_Check_ok, trivial⟩⟩⟩⟩⟩⟩⟩⟩ fun fu x => by kernel_rfl
end Go.Proofs.Ytjhdjjoacedlpaa
/- Grids: what the checks, the place of a node, Node and Step compute. -/
namespace Go.Proofs.Ytjhdjjoacedlpaa
open Go Go.RowKit
set_option linter.unusedSimpArgs false
set_option linter.unusedSectionVars false
set_option linter.unusedVariables false
theorem within_s (fu : Nat) (x lo hi : Int) : R_Within_r fu (x, (lo, (hi, ()))) = some (decide (lo ≤ x ∧ x ≤ hi), ()) := by
  unfold R_Within_r
  by_cases h : lo ≤ x
  · rw [bif_pos h]
    by_cases h' : x ≤ hi
    · rw [decide_eq_true h', decide_eq_true ⟨h, h'⟩]
    · rw [decide_eq_false h', decide_eq_false (by omega)]
  · rw [bif_neg h, decide_eq_false (by omega)]
theorem none_s (fu : Nat) (z : Bool) (g w : Int) : law_none_r fu (z, (g, (w, ()))) = some (z && decide (g = w), ()) := by
  unfold law_none_r
  cases z <;> rfl
/-- a loop through the states st 0, st 1, .. st n -/
theorem stLoop {X β : Type} {f : (X → Option β) → X → Option β} {n fu : Nat} (hn : n < fu) {st : Nat → X} {x0 : X} {fin : Option β} (h0 : st 0 = x0)
    (step : ∀ j (i : Nat), i < n → f j (st i) = j (st (i + 1))) (last : ∀ j, f j (st n) = fin) : loopF f fu x0 = fin := by
  have key := errGen (f := f) (n := n) (st := st) (E := fun _ => 0) (out := fun _ => none) (fin := fin) (fun j i hi _ => by rw [if_pos rfl]; exact step j i hi) (fun _ => last) fu 0 (by omega) (by omega) (by omega)
  rw [if_pos (firstE_all _ _ fun _ _ _ => rfl), h0] at key
  exact key
abbrev GrT := Int × (Int × (Int × List Int))
/-! ### powers -/
theorem pw_bd {s : Int} {i : Nat} (h0 : 0 ≤ s) (h1 : s ≤ 9) (hi : i ≤ 4) : 0 ≤ s ^ i ∧ s ^ i ≤ 6561 := by
  obtain ⟨s, rfl⟩ := Int.eq_ofNat_of_zero_le h0
  have : ∀ s : Nat, s < 10 → ∀ i : Nat, i < 5 → 0 ≤ ((s : Nat) : Int) ^ i ∧ ((s : Nat) : Int) ^ i ≤ 6561 := by decide
  exact this s (by omega) i (by omega)
section
variable {fu : Nat} (hf : 18446744073709551616 ≤ fu)
include hf
theorem power_r {s n : Int} (h0 : 0 ≤ s) (h1 : s ≤ 9) (h2 : 0 ≤ n) (h3 : n ≤ 4) : R_Power_r fu (s, (n, ())) = some (s ^ n.toNat, ()) := by
  obtain ⟨n, rfl⟩ := Int.eq_ofNat_of_zero_le h2
  unfold R_Power_r
  refine stLoop (n := n) (st := fun i => (s ^ i, (i : Int))) (by omega) (by simp) (fun j i hi => ?_) (fun j => ?_)
  · have hb := pw_bd (i := i) h0 h1 (by omega)
    have hb' := pw_bd (i := i + 1) h0 h1 (by omega)
    rw [Int.pow_succ] at hb'
    unfold R_Power_l1
    simp (disch := omega) only [joinF_eq, bindO_some, s_wr, s_td, s_tm, s_pos, s_neg, cond_true, cond_false, Bool.not_true, Bool.not_false, Bool.true_and, Bool.and_true, Bool.false_and, Bool.and_false, bne_self_eq_false, decide_true, decide_false, Int.toNat_natCast]
    rw [Int.pow_succ]
    rfl
  · unfold R_Power_l1
    simp (disch := omega) only [joinF_eq, bindO_some, s_wr, s_td, s_tm, s_pos, s_neg, cond_true, cond_false, Bool.not_true, Bool.not_false, Bool.true_and, Bool.and_true, Bool.false_and, Bool.and_false, bne_self_eq_false, decide_true, decide_false, Int.toNat_natCast]
end
/-! ### the checks -/
def shOk (i o s : Int) : Prop := (1 ≤ i ∧ i ≤ 4) ∧ (1 ≤ o ∧ o ≤ 8) ∧ (2 ≤ s ∧ s ≤ 9) ∧ s ≠ 8
instance (i o s : Int) : Decidable (shOk i o s) := by unfold shOk; infer_instance
def shE (i o s : Int) : Int := if shOk i o s then (if 32768 < s ^ i.toNat * o then 2 else 0) else 3
def vlE (l : List Int) (i : Nat) : Int := if -32768 ≤ l.getD i 0 ∧ l.getD i 0 ≤ 65535 then 0 else 3
def grE (g : GrT) : Int := if shE g.1 g.2.1 g.2.2.1 = 0 then (if (g.2.2.2.length : Int) = g.2.2.1 ^ g.1.toNat * g.2.1 then firstE (vlE g.2.2.2) g.2.2.2.length 0 else 4) else shE g.1 g.2.1 g.2.2.1
def tnE (l : List Int) (m : Int) (i : Nat) : Int := if 0 ≤ l.getD i 0 ∧ l.getD i 0 ≤ m then 0 else 3
def tonesE (l : List Int) (n m : Int) : Int := if (l.length : Int) = n then firstE (tnE l m) l.length 0 else 4
theorem shE3 {i o s : Int} (h : ¬ shOk i o s) : shE i o s = 3 := by unfold shE; rw [if_neg h]
theorem shE2 {i o s : Int} (h : shOk i o s) (h' : 32768 < s ^ i.toNat * o) : shE i o s = 2 := by unfold shE; rw [if_pos h, if_pos h']
theorem shE0 {i o s : Int} (h : shOk i o s) (h' : ¬ 32768 < s ^ i.toNat * o) : shE i o s = 0 := by unfold shE; rw [if_pos h, if_neg h']
theorem sh_bd {i o s : Int} (h : shOk i o s) : 0 ≤ s ^ i.toNat ∧ s ^ i.toNat ≤ 6561 ∧ 0 ≤ s ^ i.toNat * o ∧ s ^ i.toNat * o ≤ 52488 := by
  unfold shOk at h
  obtain ⟨h1, h2⟩ := pw_bd (s := s) (i := i.toNat) (by omega) (by omega) (by omega)
  have h3 := Int.mul_nonneg h1 (show 0 ≤ o by omega)
  have h4 := Int.mul_le_mul h2 (show o ≤ 8 by omega) (by omega) (by omega)
  omega
section
variable {fu : Nat} (hf : 18446744073709551616 ≤ fu) {i o s : Int}
include hf
theorem shapeErr_r : R_ShapeErr_r fu (i, (o, (s, ()))) = some (shE i o s, ()) := by
  unfold R_ShapeErr_r
  have kt : shE i o s = 3 → R_ShapeErr_j1 fu (i, (o, (s, ()))) true = some (shE i o s, ()) := fun h => by unfold R_ShapeErr_j1; rw [h]; rfl
  by_cases c1 : 1 ≤ i ∧ i ≤ 4
  · by_cases c2 : 1 ≤ o ∧ o ≤ 8
    · by_cases c3 : 2 ≤ s ∧ s ≤ 9
      · by_cases c4 : s = 8
        · have e := shE3 (i := i) (o := o) (s := s) (fun h => h.2.2.2 c4)
          simp only [joinF_eq, within_s, bindO_some, decide_eq_true c1, decide_eq_true c2, decide_eq_true c3, decide_eq_true c4, Bool.not_true, cond_false]
          exact kt e
        · have ok : shOk i o s := ⟨c1, c2, c3, c4⟩
          obtain ⟨b1, b2, b3, b4⟩ := sh_bd ok
          simp only [joinF_eq, within_s, bindO_some, decide_eq_true c1, decide_eq_true c2, decide_eq_true c3, decide_eq_false c4, Bool.not_true, cond_false]
          unfold R_ShapeErr_j1
          simp (disch := omega) only [joinF_eq, bindO_some, s_wr, s_td, s_tm, s_pos, s_neg, cond_true, cond_false, Bool.not_true, Bool.not_false, Bool.true_and, Bool.and_true, Bool.false_and, Bool.and_false, bne_self_eq_false, decide_true, decide_false, Int.toNat_natCast, power_r hf]
          by_cases c5 : 32768 < s ^ i.toNat * o
          · rw [shE2 ok c5]; simp (disch := omega) only [joinF_eq, bindO_some, s_wr, s_td, s_tm, s_pos, s_neg, cond_true, cond_false, Bool.not_true, Bool.not_false, Bool.true_and, Bool.and_true, Bool.false_and, Bool.and_false, bne_self_eq_false, decide_true, decide_false, Int.toNat_natCast]
          · rw [shE0 ok c5]; simp (disch := omega) only [joinF_eq, bindO_some, s_wr, s_td, s_tm, s_pos, s_neg, cond_true, cond_false, Bool.not_true, Bool.not_false, Bool.true_and, Bool.and_true, Bool.false_and, Bool.and_false, bne_self_eq_false, decide_true, decide_false, Int.toNat_natCast]
      · have e := shE3 (i := i) (o := o) (s := s) (fun h => c3 h.2.2.1)
        simp only [joinF_eq, within_s, bindO_some, decide_eq_true c1, decide_eq_true c2, decide_eq_false c3, Bool.not_true, Bool.not_false, cond_false, cond_true]
        exact kt e
    · have e := shE3 (i := i) (o := o) (s := s) (fun h => c2 h.2.1)
      simp only [joinF_eq, within_s, bindO_some, decide_eq_true c1, decide_eq_false c2, Bool.not_true, Bool.not_false, cond_false, cond_true]
      exact kt e
  · have e := shE3 (i := i) (o := o) (s := s) (fun h => c1 h.1)
    simp only [joinF_eq, within_s, bindO_some, decide_eq_false c1, Bool.not_false, cond_true]
    exact kt e
theorem nodes_r : grid_nodes_r fu (i, (o, (s, ()))) = some ((if shE i o s = 0 then s ^ i.toNat else 0), (shE i o s, ())) := by
  unfold grid_nodes_r
  have kt : shE i o s = 3 → grid_nodes_j1 fu (i, (o, (s, ()))) true = some ((if shE i o s = 0 then s ^ i.toNat else 0), (shE i o s, ())) := fun h => by unfold grid_nodes_j1; rw [h]; rfl
  by_cases c1 : i < 1
  · simp (disch := omega) only [joinF_eq, bindO_some, s_wr, s_td, s_tm, s_pos, s_neg, cond_true, cond_false, Bool.not_true, Bool.not_false, Bool.true_and, Bool.and_true, Bool.false_and, Bool.and_false, bne_self_eq_false, decide_true, decide_false, Int.toNat_natCast]; exact kt (shE3 fun h => by unfold shOk at h; omega)
  by_cases c2 : 4 < i
  · simp (disch := omega) only [joinF_eq, bindO_some, s_wr, s_td, s_tm, s_pos, s_neg, cond_true, cond_false, Bool.not_true, Bool.not_false, Bool.true_and, Bool.and_true, Bool.false_and, Bool.and_false, bne_self_eq_false, decide_true, decide_false, Int.toNat_natCast]; exact kt (shE3 fun h => by unfold shOk at h; omega)
  by_cases c3 : o < 1
  · simp (disch := omega) only [joinF_eq, bindO_some, s_wr, s_td, s_tm, s_pos, s_neg, cond_true, cond_false, Bool.not_true, Bool.not_false, Bool.true_and, Bool.and_true, Bool.false_and, Bool.and_false, bne_self_eq_false, decide_true, decide_false, Int.toNat_natCast]; exact kt (shE3 fun h => by unfold shOk at h; omega)
  by_cases c4 : 8 < o
  · simp (disch := omega) only [joinF_eq, bindO_some, s_wr, s_td, s_tm, s_pos, s_neg, cond_true, cond_false, Bool.not_true, Bool.not_false, Bool.true_and, Bool.and_true, Bool.false_and, Bool.and_false, bne_self_eq_false, decide_true, decide_false, Int.toNat_natCast]; exact kt (shE3 fun h => by unfold shOk at h; omega)
  simp (disch := omega) only [joinF_eq, bindO_some, s_wr, s_td, s_tm, s_pos, s_neg, cond_true, cond_false, Bool.not_true, Bool.not_false, Bool.true_and, Bool.and_true, Bool.false_and, Bool.and_false, bne_self_eq_false, decide_true, decide_false, Int.toNat_natCast]
  unfold grid_nodes_j1
  simp (disch := omega) only [joinF_eq, bindO_some, s_wr, s_td, s_tm, s_pos, s_neg, cond_true, cond_false, Bool.not_true, Bool.not_false, Bool.true_and, Bool.and_true, Bool.false_and, Bool.and_false, bne_self_eq_false, decide_true, decide_false, Int.toNat_natCast]
  have kf : ∀ b : Bool, (b = true ↔ (2 ≤ s ∧ s ≤ 9) ∧ s ≠ 8) → grid_nodes_j2 fu (i, (o, (s, ()))) b = some ((if shE i o s = 0 then s ^ i.toNat else 0), (shE i o s, ())) := by
    intro b hb
    unfold grid_nodes_j2
    cases b
    · rw [shE3 (fun h => by unfold shOk at h; have := hb.2 h.2.2; cases this)]; rfl
    · have ok : shOk i o s := ⟨by omega, by omega, (hb.1 rfl).1, (hb.1 rfl).2⟩
      obtain ⟨b1, b2, b3, b4⟩ := sh_bd ok
      have ok' := ok
      unfold shOk at ok'
      obtain ⟨n, rfl⟩ := Int.eq_ofNat_of_zero_le (show 0 ≤ i by omega)
      rw [Int.toNat_natCast] at b1 b2 b3 b4
      simp (disch := omega) only [joinF_eq, bindO_some, s_wr, s_td, s_tm, s_pos, s_neg, cond_true, cond_false, Bool.not_true, Bool.not_false, Bool.true_and, Bool.and_true, Bool.false_and, Bool.and_false, bne_self_eq_false, decide_true, decide_false, Int.toNat_natCast]
      refine stLoop (n := n) (st := fun i => (s ^ i, (i : Int))) (by omega) (by simp) (fun j k hk => ?_) (fun j => ?_)
      · have hb := pw_bd (s := s) (i := k) (by omega) (by omega) (by omega)
        have hb' := pw_bd (s := s) (i := k + 1) (by omega) (by omega) (by omega)
        rw [Int.pow_succ] at hb'
        unfold grid_nodes_l3
        simp (disch := omega) only [joinF_eq, bindO_some, s_wr, s_td, s_tm, s_pos, s_neg, cond_true, cond_false, Bool.not_true, Bool.not_false, Bool.true_and, Bool.and_true, Bool.false_and, Bool.and_false, bne_self_eq_false, decide_true, decide_false, Int.toNat_natCast]
        rw [Int.pow_succ]
        rfl
      · unfold grid_nodes_l3
        simp (disch := omega) only [joinF_eq, bindO_some, s_wr, s_td, s_tm, s_pos, s_neg, cond_true, cond_false, Bool.not_true, Bool.not_false, Bool.true_and, Bool.and_true, Bool.false_and, Bool.and_false, bne_self_eq_false, decide_true, decide_false, Int.toNat_natCast]
        by_cases c5 : 32768 < s ^ n * o
        · rw [shE2 ok (by rw [Int.toNat_natCast]; exact c5)]; simp (disch := omega) only [joinF_eq, bindO_some, s_wr, s_td, s_tm, s_pos, s_neg, cond_true, cond_false, Bool.not_true, Bool.not_false, Bool.true_and, Bool.and_true, Bool.false_and, Bool.and_false, bne_self_eq_false, decide_true, decide_false, Int.toNat_natCast]; rfl
        · rw [shE0 ok (by rw [Int.toNat_natCast]; exact c5)]; simp (disch := omega) only [joinF_eq, bindO_some, s_wr, s_td, s_tm, s_pos, s_neg, cond_true, cond_false, Bool.not_true, Bool.not_false, Bool.true_and, Bool.and_true, Bool.false_and, Bool.and_false, bne_self_eq_false, decide_true, decide_false, Int.toNat_natCast]; rfl
  by_cases d2 : s = 2
  · simp (disch := omega) only [joinF_eq, bindO_some, s_wr, s_td, s_tm, s_pos, s_neg, cond_true, cond_false, Bool.not_true, Bool.not_false, Bool.true_and, Bool.and_true, Bool.false_and, Bool.and_false, bne_self_eq_false, decide_true, decide_false, Int.toNat_natCast]; exact kf _ (by simp; omega)
  by_cases d3 : s = 3
  · simp (disch := omega) only [joinF_eq, bindO_some, s_wr, s_td, s_tm, s_pos, s_neg, cond_true, cond_false, Bool.not_true, Bool.not_false, Bool.true_and, Bool.and_true, Bool.false_and, Bool.and_false, bne_self_eq_false, decide_true, decide_false, Int.toNat_natCast]; exact kf _ (by simp; omega)
  by_cases d4 : s = 4
  · simp (disch := omega) only [joinF_eq, bindO_some, s_wr, s_td, s_tm, s_pos, s_neg, cond_true, cond_false, Bool.not_true, Bool.not_false, Bool.true_and, Bool.and_true, Bool.false_and, Bool.and_false, bne_self_eq_false, decide_true, decide_false, Int.toNat_natCast]; exact kf _ (by simp; omega)
  by_cases d5 : s = 5
  · simp (disch := omega) only [joinF_eq, bindO_some, s_wr, s_td, s_tm, s_pos, s_neg, cond_true, cond_false, Bool.not_true, Bool.not_false, Bool.true_and, Bool.and_true, Bool.false_and, Bool.and_false, bne_self_eq_false, decide_true, decide_false, Int.toNat_natCast]; exact kf _ (by simp; omega)
  by_cases d6 : s = 6
  · simp (disch := omega) only [joinF_eq, bindO_some, s_wr, s_td, s_tm, s_pos, s_neg, cond_true, cond_false, Bool.not_true, Bool.not_false, Bool.true_and, Bool.and_true, Bool.false_and, Bool.and_false, bne_self_eq_false, decide_true, decide_false, Int.toNat_natCast]; exact kf _ (by simp; omega)
  by_cases d7 : s = 7
  · simp (disch := omega) only [joinF_eq, bindO_some, s_wr, s_td, s_tm, s_pos, s_neg, cond_true, cond_false, Bool.not_true, Bool.not_false, Bool.true_and, Bool.and_true, Bool.false_and, Bool.and_false, bne_self_eq_false, decide_true, decide_false, Int.toNat_natCast]; exact kf _ (by simp; omega)
  simp (disch := omega) only [joinF_eq, bindO_some, s_wr, s_td, s_tm, s_pos, s_neg, cond_true, cond_false, Bool.not_true, Bool.not_false, Bool.true_and, Bool.and_true, Bool.false_and, Bool.and_false, bne_self_eq_false, decide_true, decide_false, Int.toNat_natCast]
  exact kf _ (by rw [decide_eq_true_eq]; omega)
variable {vs : List Int} (hv : (vs.length : Int) ≤ 9223372036854775807)
include hv
theorem gridErr_r : R_GridErr_r fu ((i, (o, (s, vs))), ()) = some (grE (i, (o, (s, vs))), ()) := by
  unfold R_GridErr_r grE
  simp only [shapeErr_r hf, bindO_some]
  by_cases c : shE i o s = 0
  · have ok : shOk i o s := by
      refine Classical.byContradiction fun h => ?_
      rw [shE3 h] at c; omega
    obtain ⟨b1, b2, b3, b4⟩ := sh_bd ok
    have ok' := ok
    unfold shOk at ok'
    rw [if_pos c]
    simp (disch := omega) only [joinF_eq, bindO_some, s_wr, s_td, s_tm, s_pos, s_neg, cond_true, cond_false, Bool.not_true, Bool.not_false, Bool.true_and, Bool.and_true, Bool.false_and, Bool.and_false, bne_self_eq_false, decide_true, decide_false, Int.toNat_natCast, power_r hf]
    by_cases c2 : (vs.length : Int) = s ^ i.toNat * o
    · rw [if_pos c2]
      simp (disch := omega) only [joinF_eq, bindO_some, s_wr, s_td, s_tm, s_pos, s_neg, cond_true, cond_false, Bool.not_true, Bool.not_false, Bool.true_and, Bool.and_true, Bool.false_and, Bool.and_false, bne_self_eq_false, decide_true, decide_false, Int.toNat_natCast]
      rw [errLoop (n := vs.length) (E := vlE vs) (out := fun e => some (e, ())) (fin := some (0, ())) (by omega)]
      · split
        · rename_i e; rw [e]
        · rfl
      · intro j k hk
        unfold R_GridErr_l1 vlE
        simp (disch := omega) only [joinF_eq, bindO_some, s_wr, s_td, s_tm, s_pos, s_neg, cond_true, cond_false, Bool.not_true, Bool.not_false, Bool.true_and, Bool.and_true, Bool.false_and, Bool.and_false, bne_self_eq_false, decide_true, decide_false, Int.toNat_natCast, within_s]
        by_cases g : -32768 ≤ vs.getD k 0 ∧ vs.getD k 0 ≤ 65535
        · rw [if_pos g, decide_eq_true g]; simp (disch := omega) only [joinF_eq, bindO_some, s_wr, s_td, s_tm, s_pos, s_neg, cond_true, cond_false, Bool.not_true, Bool.not_false, Bool.true_and, Bool.and_true, Bool.false_and, Bool.and_false, bne_self_eq_false, decide_true, decide_false, Int.toNat_natCast]; rfl
        · rw [if_neg g, decide_eq_false g]; simp (disch := omega) only [joinF_eq, bindO_some, s_wr, s_td, s_tm, s_pos, s_neg, cond_true, cond_false, Bool.not_true, Bool.not_false, Bool.true_and, Bool.and_true, Bool.false_and, Bool.and_false, bne_self_eq_false, decide_true, decide_false, Int.toNat_natCast]; rfl
      · intro j
        unfold R_GridErr_l1
        simp (disch := omega) only [joinF_eq, bindO_some, s_wr, s_td, s_tm, s_pos, s_neg, cond_true, cond_false, Bool.not_true, Bool.not_false, Bool.true_and, Bool.and_true, Bool.false_and, Bool.and_false, bne_self_eq_false, decide_true, decide_false, Int.toNat_natCast]
    · rw [if_neg c2]; simp (disch := omega) only [joinF_eq, bindO_some, s_wr, s_td, s_tm, s_pos, s_neg, cond_true, cond_false, Bool.not_true, Bool.not_false, Bool.true_and, Bool.and_true, Bool.false_and, Bool.and_false, bne_self_eq_false, decide_true, decide_false, Int.toNat_natCast]
  · rw [if_neg c]; simp (disch := omega) only [joinF_eq, bindO_some, s_wr, s_td, s_tm, s_pos, s_neg, cond_true, cond_false, Bool.not_true, Bool.not_false, Bool.true_and, Bool.and_true, Bool.false_and, Bool.and_false, bne_self_eq_false, decide_true, decide_false, Int.toNat_natCast]
theorem check_r : grid_Check_r fu ((i, (o, (s, vs))), ()) = some (grE (i, (o, (s, vs))), ()) := by
  unfold grid_Check_r grE
  simp only [nodes_r hf, bindO_some]
  by_cases c : shE i o s = 0
  · have ok : shOk i o s := by
      refine Classical.byContradiction fun h => ?_
      rw [shE3 h] at c; omega
    obtain ⟨b1, b2, b3, b4⟩ := sh_bd ok
    have ok' := ok
    unfold shOk at ok'
    simp only [if_pos c]
    simp (disch := omega) only [joinF_eq, bindO_some, s_wr, s_td, s_tm, s_pos, s_neg, cond_true, cond_false, Bool.not_true, Bool.not_false, Bool.true_and, Bool.and_true, Bool.false_and, Bool.and_false, bne_self_eq_false, decide_true, decide_false, Int.toNat_natCast]
    by_cases c2 : (vs.length : Int) = s ^ i.toNat * o
    · rw [if_pos c2]
      simp (disch := omega) only [joinF_eq, bindO_some, s_wr, s_td, s_tm, s_pos, s_neg, cond_true, cond_false, Bool.not_true, Bool.not_false, Bool.true_and, Bool.and_true, Bool.false_and, Bool.and_false, bne_self_eq_false, decide_true, decide_false, Int.toNat_natCast]
      rw [errLoop (n := vs.length) (E := vlE vs) (out := fun e => some (e, ())) (fin := some (0, ())) (by omega)]
      · split
        · rename_i e; rw [e]
        · rfl
      · intro j k hk
        have t3 : ¬ (-32768 ≤ vs.getD k 0 ∧ vs.getD k 0 ≤ 65535) → vlE vs k = 3 := fun h => by unfold vlE; rw [if_neg h]
        have t0 : (-32768 ≤ vs.getD k 0 ∧ vs.getD k 0 ≤ 65535) → vlE vs k = 0 := fun h => by unfold vlE; rw [if_pos h]
        unfold grid_Check_l1
        simp (disch := omega) only [joinF_eq, bindO_some, s_wr, s_td, s_tm, s_pos, s_neg, cond_true, cond_false, Bool.not_true, Bool.not_false, Bool.true_and, Bool.and_true, Bool.false_and, Bool.and_false, bne_self_eq_false, decide_true, decide_false, Int.toNat_natCast]
        by_cases g : vs.getD k 0 < -32768
        · rw [t3 (by omega)]; simp (disch := omega) only [joinF_eq, bindO_some, s_wr, s_td, s_tm, s_pos, s_neg, cond_true, cond_false, Bool.not_true, Bool.not_false, Bool.true_and, Bool.and_true, Bool.false_and, Bool.and_false, bne_self_eq_false, decide_true, decide_false, Int.toNat_natCast, grid_Check_j2]; rfl
        by_cases g2 : 65535 < vs.getD k 0
        · rw [t3 (by omega)]; simp (disch := omega) only [joinF_eq, bindO_some, s_wr, s_td, s_tm, s_pos, s_neg, cond_true, cond_false, Bool.not_true, Bool.not_false, Bool.true_and, Bool.and_true, Bool.false_and, Bool.and_false, bne_self_eq_false, decide_true, decide_false, Int.toNat_natCast, grid_Check_j2]; rfl
        · rw [t0 (by omega)]; simp (disch := omega) only [joinF_eq, bindO_some, s_wr, s_td, s_tm, s_pos, s_neg, cond_true, cond_false, Bool.not_true, Bool.not_false, Bool.true_and, Bool.and_true, Bool.false_and, Bool.and_false, bne_self_eq_false, decide_true, decide_false, Int.toNat_natCast, grid_Check_j2]; rfl
      · intro j
        unfold grid_Check_l1
        simp (disch := omega) only [joinF_eq, bindO_some, s_wr, s_td, s_tm, s_pos, s_neg, cond_true, cond_false, Bool.not_true, Bool.not_false, Bool.true_and, Bool.and_true, Bool.false_and, Bool.and_false, bne_self_eq_false, decide_true, decide_false, Int.toNat_natCast]
    · rw [if_neg c2]; simp (disch := omega) only [joinF_eq, bindO_some, s_wr, s_td, s_tm, s_pos, s_neg, cond_true, cond_false, Bool.not_true, Bool.not_false, Bool.true_and, Bool.and_true, Bool.false_and, Bool.and_false, bne_self_eq_false, decide_true, decide_false, Int.toNat_natCast]
  · simp only [if_neg c]; simp (disch := omega) only [joinF_eq, bindO_some, s_wr, s_td, s_tm, s_pos, s_neg, cond_true, cond_false, Bool.not_true, Bool.not_false, Bool.true_and, Bool.and_true, Bool.false_and, Bool.and_false, bne_self_eq_false, decide_true, decide_false, Int.toNat_natCast]
end
end Go.Proofs.Ytjhdjjoacedlpaa
/- Grids: the place of a node, Node and Step, and the law GridNodes. -/
namespace Go.Proofs.Ytjhdjjoacedlpaa
open Go Go.RowKit
set_option linter.unusedSimpArgs false
set_option linter.unusedSectionVars false
set_option linter.unusedVariables false
theorem grE_ok {i o s : Int} {vs : List Int} (h : grE (i, (o, (s, vs))) = 0) : shOk i o s ∧ ¬ 32768 < s ^ i.toNat * o ∧ (vs.length : Int) = s ^ i.toNat * o ∧ ∀ k, k < vs.length → -32768 ≤ vs.getD k 0 ∧ vs.getD k 0 ≤ 65535 := by
  unfold grE at h
  by_cases c : shE i o s = 0
  · simp only [if_pos c] at h
    have ok : shOk i o s := by
      refine Classical.byContradiction fun h => ?_
      rw [shE3 h] at c; omega
    refine ⟨ok, fun h' => by rw [shE2 ok h'] at c; omega, ?_⟩
    by_cases c2 : (vs.length : Int) = s ^ i.toNat * o
    · rw [if_pos c2] at h
      refine ⟨c2, fun k hk => ?_⟩
      have := firstE_ok _ _ h k (by omega) (by omega)
      unfold vlE at this
      split at this
      · assumption
      · omega
    · rw [if_neg c2] at h; omega
  · simp only [if_neg c] at h
    omega
theorem tones_ok {l : List Int} {n m : Int} (h : tonesE l n m = 0) : (l.length : Int) = n ∧ ∀ k, k < l.length → 0 ≤ l.getD k 0 ∧ l.getD k 0 ≤ m := by
  unfold tonesE at h
  split at h
  · rename_i c
    refine ⟨c, fun k hk => ?_⟩
    have := firstE_ok _ _ h k (by omega) (by omega)
    unfold tnE at this
    split at this
    · assumption
    · omega
  · omega
def horN (s : Int) (l : List Int) : Nat → Int
  | 0 => 0
  | i + 1 => horN s l i * s + l.getD i 0
theorem horN_bd {s : Int} (h1 : 1 ≤ s) {l : List Int} : ∀ (n : Nat), (∀ k, k < n → 0 ≤ l.getD k 0 ∧ l.getD k 0 ≤ s - 1) → 0 ≤ horN s l n ∧ horN s l n ≤ s ^ n - 1
  | 0, _ => by simp [horN]
  | n + 1, h => by
    obtain ⟨a, b⟩ := horN_bd h1 n (fun k hk => h k (by omega))
    have c := h n (by omega)
    have d := Int.mul_nonneg a (show 0 ≤ s by omega)
    have e := Int.mul_le_mul_of_nonneg_right b (show 0 ≤ s by omega)
    rw [Int.sub_mul, Int.one_mul] at e
    rw [horN, Int.pow_succ]
    omega
theorem horN_take (s : Int) (l : List Int) (m : Nat) : ∀ (n : Nat), n ≤ m → horN s (l.take m) n = horN s l n
  | 0, _ => rfl
  | n + 1, h => by
    rw [horN, horN, horN_take s l m n (by omega), List.getD_eq_getElem?_getD, List.getD_eq_getElem?_getD, List.getElem?_take_of_lt (by omega)]
section
variable {fu : Nat} (hf : 18446744073709551616 ≤ fu)
include hf
theorem tonesErr_r {l : List Int} (hl : (l.length : Int) ≤ 9223372036854775807) {n m : Int} : R_TonesErr_r fu (l, (n, (m, ()))) = some (tonesE l n m, ()) := by
  unfold R_TonesErr_r tonesE
  by_cases c : (l.length : Int) = n
  · rw [if_pos c]
    simp (disch := omega) only [joinF_eq, bindO_some, s_wr, s_td, s_tm, s_pos, s_neg, cond_true, cond_false, Bool.not_true, Bool.not_false, Bool.true_and, Bool.and_true, Bool.false_and, Bool.and_false, bne_self_eq_false, decide_true, decide_false, Int.toNat_natCast]
    rw [errLoop (n := l.length) (E := tnE l m) (out := fun e => some (e, ())) (fin := some (0, ())) (by omega)]
    · split
      · rename_i e; rw [e]
      · rfl
    · intro j i hi
      unfold R_TonesErr_l1 tnE
      simp (disch := omega) only [joinF_eq, bindO_some, s_wr, s_td, s_tm, s_pos, s_neg, cond_true, cond_false, Bool.not_true, Bool.not_false, Bool.true_and, Bool.and_true, Bool.false_and, Bool.and_false, bne_self_eq_false, decide_true, decide_false, Int.toNat_natCast, within_s]
      by_cases g : 0 ≤ l.getD i 0 ∧ l.getD i 0 ≤ m
      · rw [if_pos g, decide_eq_true g]; simp (disch := omega) only [joinF_eq, bindO_some, s_wr, s_td, s_tm, s_pos, s_neg, cond_true, cond_false, Bool.not_true, Bool.not_false, Bool.true_and, Bool.and_true, Bool.false_and, Bool.and_false, bne_self_eq_false, decide_true, decide_false, Int.toNat_natCast]; rfl
      · rw [if_neg g, decide_eq_false g]; simp (disch := omega) only [joinF_eq, bindO_some, s_wr, s_td, s_tm, s_pos, s_neg, cond_true, cond_false, Bool.not_true, Bool.not_false, Bool.true_and, Bool.and_true, Bool.false_and, Bool.and_false, bne_self_eq_false, decide_true, decide_false, Int.toNat_natCast]; rfl
    · intro j
      unfold R_TonesErr_l1
      simp (disch := omega) only [joinF_eq, bindO_some, s_wr, s_td, s_tm, s_pos, s_neg, cond_true, cond_false, Bool.not_true, Bool.not_false, Bool.true_and, Bool.and_true, Bool.false_and, Bool.and_false, bne_self_eq_false, decide_true, decide_false, Int.toNat_natCast]
  · rw [if_neg c]; simp (disch := omega) only [joinF_eq, bindO_some, s_wr, s_td, s_tm, s_pos, s_neg, cond_true, cond_false, Bool.not_true, Bool.not_false, Bool.true_and, Bool.and_true, Bool.false_and, Bool.and_false, bne_self_eq_false, decide_true, decide_false, Int.toNat_natCast]
theorem at_r {i o s : Int} {vs l : List Int} (h1 : 1 ≤ s) (h2 : s ≤ 9) (h3 : 0 ≤ o) (h4 : o ≤ 8) (hl : l.length ≤ 4) (hb : ∀ k, k < l.length → 0 ≤ l.getD k 0 ∧ l.getD k 0 ≤ s - 1) :
    grid_at_r fu ((i, (o, (s, vs))), (l, ())) = some (horN s l l.length * o, ()) := by
  unfold grid_at_r
  have bd : ∀ n, n ≤ l.length → 0 ≤ horN s l n ∧ horN s l n ≤ 6561 := fun n hn => by
    have a := horN_bd h1 n (fun k hk => hb k (by omega))
    have b := pw_bd (s := s) (i := n) (by omega) h2 (by omega)
    omega
  refine stLoop (n := l.length) (st := fun i => (horN s l i, (i : Int))) (by omega) rfl (fun j k hk => ?_) (fun j => ?_)
  · have a := bd k (by omega)
    have b := hb k hk
    have c := Int.mul_nonneg a.1 (show 0 ≤ s by omega)
    have d := Int.mul_le_mul a.2 h2 (show 0 ≤ s by omega) (by omega)
    unfold grid_at_l1
    simp (disch := omega) only [joinF_eq, bindO_some, s_wr, s_td, s_tm, s_pos, s_neg, cond_true, cond_false, Bool.not_true, Bool.not_false, Bool.true_and, Bool.and_true, Bool.false_and, Bool.and_false, bne_self_eq_false, decide_true, decide_false, Int.toNat_natCast]
    rfl
  · have a := bd l.length (by omega)
    have c := Int.mul_nonneg a.1 h3
    have d := Int.mul_le_mul a.2 h4 h3 (by omega)
    unfold grid_at_l1
    simp (disch := omega) only [joinF_eq, bindO_some, s_wr, s_td, s_tm, s_pos, s_neg, cond_true, cond_false, Bool.not_true, Bool.not_false, Bool.true_and, Bool.and_true, Bool.false_and, Bool.and_false, bne_self_eq_false, decide_true, decide_false, Int.toNat_natCast]
theorem sameI_r {l : List Int} (hl : (l.length : Int) ≤ 9223372036854775807) : R_SameInts_r fu (l, (l, ())) = some (true, ()) := by
  unfold R_SameInts_r
  simp (disch := omega) only [joinF_eq, bindO_some, s_wr, s_td, s_tm, s_pos, s_neg, cond_true, cond_false, Bool.not_true, Bool.not_false, Bool.true_and, Bool.and_true, Bool.false_and, Bool.and_false, bne_self_eq_false, decide_true, decide_false, Int.toNat_natCast]
  rw [errLoop (n := l.length) (E := fun _ => 0) (out := fun e => some (true, ())) (fin := some (true, ())) (by omega)]
  · split <;> rfl
  · intro j i hi
    unfold R_SameInts_l1
    simp (disch := omega) only [joinF_eq, bindO_some, s_wr, s_td, s_tm, s_pos, s_neg, cond_true, cond_false, Bool.not_true, Bool.not_false, Bool.true_and, Bool.and_true, Bool.false_and, Bool.and_false, bne_self_eq_false, decide_true, decide_false, Int.toNat_natCast]
    rfl
  · intro j
    unfold R_SameInts_l1
    simp (disch := omega) only [joinF_eq, bindO_some, s_wr, s_td, s_tm, s_pos, s_neg, cond_true, cond_false, Bool.not_true, Bool.not_false, Bool.true_and, Bool.and_true, Bool.false_and, Bool.and_false, bne_self_eq_false, decide_true, decide_false, Int.toNat_natCast]
end
end Go.Proofs.Ytjhdjjoacedlpaa
/- Tables rewritten from the left. No program in sight. -/
namespace Go.Proofs.Ytjhdjjoacedlpaa
open Go Go.RowKit
set_option linter.unusedVariables false
theorem tabP_set {o q : Nat} {A B : Int → Int} {v : Int} (hq : q < o) (hv : A q = v) : (tabL o fun k => if k < (q : Int) then A k else B k).set q v = tabL o fun k => if k < ((q + 1 : Nat) : Int) then A k else B k := by
  have := tabL_set (n := o) (G := fun k => if k < (q : Int) then A k else B k) (G' := fun k => if k < ((q + 1 : Nat) : Int) then A k else B k) (k := (q : Int)) (v := v) (by omega) (by rw [if_pos (by omega)]; exact hv) (fun i h0 h1 h2 => by
    by_cases c : i < (q : Int)
    · rw [if_pos c, if_pos (by omega)]
    · rw [if_neg c, if_neg (by omega)])
  rw [Int.toNat_natCast] at this
  exact this
theorem tabP_get {o q : Nat} {A B : Int → Int} (hq : q < o) : (tabL o fun k => if k < (q : Int) then A k else B k).getD q 0 = B q := by
  rw [tabL_getDN hq, if_neg (by omega)]
theorem getD_set' {l : List Int} {k i : Nat} {v : Int} (hk : k < l.length) : (l.set k v).getD i 0 = if i = k then v else l.getD i 0 := by
  rw [List.getD_eq_getElem?_getD, List.getElem?_set]
  by_cases e : k = i
  · subst e
    rw [if_pos rfl, if_pos hk, if_pos rfl]; rfl
  · rw [if_neg e, if_neg (fun h => e h.symm), List.getD_eq_getElem?_getD]
end Go.Proofs.Ytjhdjjoacedlpaa
/- Grids: what the document's interpolation computes; the loops for any result. -/
namespace Go.Proofs.Ytjhdjjoacedlpaa
open Go Go.RowKit
set_option linter.unusedSimpArgs false
set_option linter.unusedSectionVars false
set_option linter.unusedVariables false
set_option linter.unusedVariables false
def raw_j3 {β : Type} (fu : Nat) (v4 : Int) (v6 : (Int) × ((List (Int)) × ((List (Int)) × (List (Int))))) (v7 : Int) (v8 : Int) (v9 : (Int) × (List (Int))) (j6 : ((Int) × ((List (Int)) × ((List (Int)) × (List (Int))))) → Option β) (j9 : ((Int) × (List (Int))) → Option β) (v10 : Bool) : Option β :=
  bif v10 then
    bif (((decide ((0 : Int) ≤ (IntKind.i64.wrap (v9.1 - (1 : Int))))) && (decide ((IntKind.i64.wrap (v9.1 - (1 : Int))) < (List.length v9.2 : Int)))) && (decide ((IntKind.i64.wrap (v9.1 - (1 : Int))) < (4 : Int)))) then
    bif (((decide ((0 : Int) ≤ v9.1)) && (decide (v9.1 < (List.length v9.2 : Int)))) && (decide (v9.1 < (4 : Int)))) then
    let v11 : Int := (IntKind.i64.wrap (v9.1 - (1 : Int)))
    j9 ((v11, (List.set v9.2 (Int.toNat v9.1) (List.getD v9.2 (Int.toNat (IntKind.i64.wrap (v9.1 - (1 : Int)))) 0))))
    else none
    else none
  else
  bif (((decide ((0 : Int) ≤ v9.1)) && (decide (v9.1 < (List.length v9.2 : Int)))) && (decide (v9.1 < (4 : Int)))) then
  j6 (((IntKind.i64.wrap (v6.1 + (1 : Int))), ((List.set v6.2.1 (Int.toNat v8) (Int.tmod v7 v4)), ((List.set v6.2.2.1 (Int.toNat v8) (IntKind.i64.wrap (Int.tdiv v7 v4))), (List.set v9.2 (Int.toNat v9.1) v8)))))
  else none
def raw_l2 {β : Type} (fu : Nat) (v4 : Int) (v6 : (Int) × ((List (Int)) × ((List (Int)) × (List (Int))))) (v7 : Int) (v8 : Int) (j6 : ((Int) × ((List (Int)) × ((List (Int)) × (List (Int))))) → Option β) (j9 : ((Int) × (List (Int))) → Option β) (v9 : (Int) × (List (Int))) : Option β :=
  joinF (raw_j3 fu v4 v6 v7 v8 v9 j6 j9) fun j10 =>
  bif (decide ((0 : Int) < v9.1)) then
    bif (((decide ((0 : Int) ≤ (IntKind.i64.wrap (v9.1 - (1 : Int))))) && (decide ((IntKind.i64.wrap (v9.1 - (1 : Int))) < (List.length v9.2 : Int)))) && (decide ((IntKind.i64.wrap (v9.1 - (1 : Int))) < (4 : Int)))) then
    bif (((decide ((0 : Int) ≤ (List.getD v9.2 (Int.toNat (IntKind.i64.wrap (v9.1 - (1 : Int)))) 0))) && (decide ((List.getD v9.2 (Int.toNat (IntKind.i64.wrap (v9.1 - (1 : Int)))) 0) < (List.length (List.set v6.2.1 (Int.toNat v8) (Int.tmod v7 v4)) : Int)))) && (decide ((List.getD v9.2 (Int.toNat (IntKind.i64.wrap (v9.1 - (1 : Int)))) 0) < (4 : Int)))) then
    bif (((decide ((0 : Int) ≤ v8)) && (decide (v8 < (List.length (List.set v6.2.1 (Int.toNat v8) (Int.tmod v7 v4)) : Int)))) && (decide (v8 < (4 : Int)))) then
    j10 ((decide ((List.getD (List.set v6.2.1 (Int.toNat v8) (Int.tmod v7 v4)) (Int.toNat (List.getD v9.2 (Int.toNat (IntKind.i64.wrap (v9.1 - (1 : Int)))) 0)) 0) < (List.getD (List.set v6.2.1 (Int.toNat v8) (Int.tmod v7 v4)) (Int.toNat v8) 0))))
    else none
    else none
    else none
  else
  j10 (false)
def raw_j6 {β : Type} (fu : Nat) (j8 : ((Int) × ((Int) × ((List (Int)) × (List (Int))))) → Option β) (v9 : (Int) × ((Int) × ((List (Int)) × (List (Int))))) : Option β :=
  let v10 : Int := (IntKind.i64.wrap (v9.1 + (1 : Int)))
  j8 ((v9.2.1, (v10, (v9.2.2.1, v9.2.2.2))))
def raw_j8 {β : Type} (fu : Nat) (v5 : Int) (v6 : (Int) × ((List (Int)) × ((List (Int)) × (List (Int))))) (v8 : (Int) × ((Int) × ((List (Int)) × (List (Int))))) (v10 : (Int) × ((Int) × ((List (Int)) × (List (Int))))) (j7 : (List (Int)) → Option β) (j9 : ((Int) × ((Int) × ((List (Int)) × (List (Int))))) → Option β) (v11 : (Int) × (List (Int))) : Option β :=
  bif (decide (v8.2.1 < v5)) then
    let v12 : Int := v10.1
    bif (decide (v10.1 = (0 : Int))) then
      j7 (v11.2)
    else
    bif (((decide ((0 : Int) ≤ v8.2.1)) && (decide (v8.2.1 < (List.length v6.2.2.2 : Int)))) && (decide (v8.2.1 < (4 : Int)))) then
    bif (((decide ((0 : Int) ≤ (List.getD v6.2.2.2 (Int.toNat v8.2.1) 0))) && (decide ((List.getD v6.2.2.2 (Int.toNat v8.2.1) 0) < (List.length v10.2.2.2 : Int)))) && (decide ((List.getD v6.2.2.2 (Int.toNat v8.2.1) 0) < (4 : Int)))) then
    bif (((decide ((0 : Int) ≤ (List.getD v6.2.2.2 (Int.toNat v8.2.1) 0))) && (decide ((List.getD v6.2.2.2 (Int.toNat v8.2.1) 0) < (List.length v10.2.2.2 : Int)))) && (decide ((List.getD v6.2.2.2 (Int.toNat v8.2.1) 0) < (4 : Int)))) then
    j9 ((v8.2.1, (v12, (v11.2, (List.set v10.2.2.2 (Int.toNat (List.getD v6.2.2.2 (Int.toNat v8.2.1) 0)) (IntKind.i64.wrap ((List.getD v10.2.2.2 (Int.toNat (List.getD v6.2.2.2 (Int.toNat v8.2.1) 0)) 0) + (1 : Int))))))))
    else none
    else none
    else none
  else
  j9 ((v8.2.1, (v11.1, (v11.2, v10.2.2.2))))
def raw_l9 {β : Type} (fu : Nat) (a : ((Int) × ((Int) × ((Int) × (List (Int))))) × ((List (Int)) × (Unit))) (v10 : (Int) × ((Int) × ((List (Int)) × (List (Int))))) (v12 : Int) (v14 : Int) (j11 : ((Int) × (List (Int))) → Option β) (j15 : ((Int) × (List (Int))) → Option β) (v15 : (Int) × (List (Int))) : Option β :=
  bif (decide (v15.1 < (List.length v10.2.2.1 : Int))) then
    let v16 : Int := v15.1
    bif ((decide ((0 : Int) ≤ v16)) && (decide (v16 < (List.length v15.2 : Int)))) then
    bif ((decide ((0 : Int) ≤ (IntKind.i64.wrap (v14 + v16)))) && (decide ((IntKind.i64.wrap (v14 + v16)) < (List.length a.1.2.2.2 : Int)))) then
    let v17 : Int := (List.getD a.1.2.2.2 (Int.toNat (IntKind.i64.wrap (v14 + v16))) 0)
    bif ((decide ((0 : Int) ≤ v16)) && (decide (v16 < (List.length v15.2 : Int)))) then
    j15 (((IntKind.i64.wrap (v15.1 + (1 : Int))), (List.set v15.2 (Int.toNat v16) (IntKind.i64.wrap ((List.getD v15.2 (Int.toNat v16) 0) + (IntKind.i64.wrap (v12 * v17)))))))
    else none
    else none
    else none
  else
  j11 ((v10.2.1, v15.2))
def raw_j7 {β : Type} (fu : Nat) (a : ((Int) × ((Int) × ((Int) × (List (Int))))) × ((List (Int)) × (Unit))) (v5 : Int) (v6 : (Int) × ((List (Int)) × ((List (Int)) × (List (Int))))) (v8 : (Int) × ((Int) × ((List (Int)) × (List (Int))))) (j7 : (List (Int)) → Option β) (j9 : ((Int) × ((Int) × ((List (Int)) × (List (Int))))) → Option β) (v10 : (Int) × ((Int) × ((List (Int)) × (List (Int))))) : Option β :=
  joinF (raw_j8 fu v5 v6 v8 v10 j7 j9) fun j11 =>
  let v12 : Int := (IntKind.i64.wrap (v10.2.1 - v10.1))
  bif (decide ((0 : Int) < v12)) then
    bif ((decide ((List.length v10.2.2.2 : Int) = (4 : Int))) && ((decide ((0 : Int) ≤ v5)) && (decide (v5 ≤ (List.length v10.2.2.2 : Int))))) then
    bindO (grid_at_r fu (((a.1.1, (a.1.2.1, (a.1.2.2.1, a.1.2.2.2))), ((List.drop (Int.toNat (0 : Int)) (List.take (Int.toNat v5) v10.2.2.2)), ())))) fun v13 =>
    let v14 : Int := v13.1
    loopF (raw_l9 fu a v10 v12 v14 j11) fu (((0 : Int), v10.2.2.1))
    else none
  else
  j11 ((v10.2.1, v10.2.2.1))
def raw_l5 {β : Type} (fu : Nat) (a : ((Int) × ((Int) × ((Int) × (List (Int))))) × ((List (Int)) × (Unit))) (v5 : Int) (v6 : (Int) × ((List (Int)) × ((List (Int)) × (List (Int))))) (j7 : (List (Int)) → Option β) (j8 : ((Int) × ((Int) × ((List (Int)) × (List (Int))))) → Option β) (v8 : (Int) × ((Int) × ((List (Int)) × (List (Int))))) : Option β :=
  bif (decide (v8.2.1 ≤ v5)) then
    joinF (raw_j6 fu j8) fun j9 =>
    joinF (raw_j7 fu a v5 v6 v8 j7 j9) fun j10 =>
    bif (decide (v8.2.1 < v5)) then
      bif (((decide ((0 : Int) ≤ v8.2.1)) && (decide (v8.2.1 < (List.length v6.2.2.2 : Int)))) && (decide (v8.2.1 < (4 : Int)))) then
      bif (((decide ((0 : Int) ≤ (List.getD v6.2.2.2 (Int.toNat v8.2.1) 0))) && (decide ((List.getD v6.2.2.2 (Int.toNat v8.2.1) 0) < (List.length v6.2.1 : Int)))) && (decide ((List.getD v6.2.2.2 (Int.toNat v8.2.1) 0) < (4 : Int)))) then
      let v11 : Int := (List.getD v6.2.1 (Int.toNat (List.getD v6.2.2.2 (Int.toNat v8.2.1) 0)) 0)
      j10 ((v11, (v8.1, (v8.2.2.1, v8.2.2.2))))
      else none
      else none
    else
    j10 (((0 : Int), (v8.1, (v8.2.2.1, v8.2.2.2))))
  else
  j7 (v8.2.2.1)
def raw_l1 {β : Type} (K : List Int → Option β) (fu : Nat) (a : ((Int) × ((Int) × ((Int) × (List (Int))))) × ((List (Int)) × (Unit))) (v4 : Int) (v5 : Int) (j6 : ((Int) × ((List (Int)) × ((List (Int)) × (List (Int))))) → Option β) (v6 : (Int) × ((List (Int)) × ((List (Int)) × (List (Int))))) : Option β :=
  bif (decide (v6.1 < (List.length a.2.1 : Int))) then
    bif ((decide ((0 : Int) ≤ v6.1)) && (decide (v6.1 < (List.length a.2.1 : Int)))) then
    let v7 : Int := (List.getD a.2.1 (Int.toNat v6.1) 0)
    let v8 : Int := v6.1
    bif (decide (v4 ≠ (0 : Int))) then
    bif (decide (v4 ≠ (0 : Int))) then
    bif (((decide ((0 : Int) ≤ v8)) && (decide (v8 < (List.length v6.2.2.1 : Int)))) && (decide (v8 < (4 : Int)))) then
    bif (((decide ((0 : Int) ≤ v8)) && (decide (v8 < (List.length v6.2.1 : Int)))) && (decide (v8 < (4 : Int)))) then
    loopF (raw_l2 fu v4 v6 v7 v8 j6) fu ((v8, v6.2.2.2))
    else none
    else none
    else none
    else none
    else none
  else
  bif ((decide ((0 : Int) ≤ a.1.2.1)) && (decide (((8 : Int) * a.1.2.1) ≤ (281474976710656 : Int)))) then
  joinF K fun j7 =>
  loopF (raw_l5 fu a v5 v6 j7) fu ((v4, ((0 : Int), ((List.replicate (Int.toNat a.1.2.1) (0 : Int)), v6.2.2.1))))
  else none
def sc_j3 {β : Type} (fu : Nat) (j12 : ((Int) × (List (Int))) → Option β) (v13 : (Int) × (List (Int))) : Option β :=
  j12 (((IntKind.i64.wrap (v13.1 + (1 : Int))), v13.2))
def sc_j5 {β : Type} (fu : Nat) (a : ((Int) × ((Int) × ((Int) × (List (Int))))) × ((List (Int)) × (Unit))) (v15 : (Int) × ((Int) × ((Int) × (Int)))) (j15 : ((Int) × ((Int) × ((Int) × (Int)))) → Option β) (v20 : (Int) × ((Int) × ((Int) × (Int)))) : Option β :=
  let v21 : Int := (IntKind.i64.wrap ((IntKind.i64.wrap (v20.1 * a.1.2.2.1)) + v20.2.1))
  j15 ((v21, (v20.2.2.1, (v20.2.2.2, (IntKind.i64.wrap (v15.2.2.2 + (1 : Int)))))))
def sc_l6 {β : Type} (fu : Nat) (a : ((Int) × ((Int) × ((Int) × (List (Int))))) × ((List (Int)) × (Unit))) (v12 : (Int) × (List (Int))) (v15 : (Int) × ((Int) × ((Int) × (Int)))) (v16 : Int) (j13 : ((Int) × (List (Int))) → Option β) (j17 : ((Int) × (List (Int))) → Option β) (v17 : (Int) × (List (Int))) : Option β :=
  bif (decide (v17.1 < (List.length v12.2 : Int))) then
    let v18 : Int := v17.1
    bif ((decide ((0 : Int) ≤ v18)) && (decide (v18 < (List.length v17.2 : Int)))) then
    bif ((decide ((0 : Int) ≤ (IntKind.i64.wrap ((IntKind.i64.wrap (v15.1 * a.1.2.1)) + v18)))) && (decide ((IntKind.i64.wrap ((IntKind.i64.wrap (v15.1 * a.1.2.1)) + v18)) < (List.length a.1.2.2.2 : Int)))) then
    let v19 : Int := (List.getD a.1.2.2.2 (Int.toNat (IntKind.i64.wrap ((IntKind.i64.wrap (v15.1 * a.1.2.1)) + v18))) 0)
    bif ((decide ((0 : Int) ≤ v18)) && (decide (v18 < (List.length v17.2 : Int)))) then
    j17 (((IntKind.i64.wrap (v17.1 + (1 : Int))), (List.set v17.2 (Int.toNat v18) (IntKind.i64.wrap ((List.getD v17.2 (Int.toNat v18) 0) + (IntKind.i64.wrap (v16 * v19)))))))
    else none
    else none
    else none
  else
  j13 ((v12.1, v17.2))
def sc_l4 {β : Type} (fu : Nat) (a : ((Int) × ((Int) × ((Int) × (List (Int))))) × ((List (Int)) × (Unit))) (v11 : Int) (v12 : (Int) × (List (Int))) (v14 : Int) (j13 : ((Int) × (List (Int))) → Option β) (j15 : ((Int) × ((Int) × ((Int) × (Int)))) → Option β) (v15 : (Int) × ((Int) × ((Int) × (Int)))) : Option β :=
  bif (decide (v15.2.2.2 < (List.length a.2.1 : Int))) then
    bif ((decide ((0 : Int) ≤ v15.2.2.2)) && (decide (v15.2.2.2 < (List.length a.2.1 : Int)))) then
    let v16 : Int := (List.getD a.2.1 (Int.toNat v15.2.2.2) 0)
    let v17 : Int := v15.2.2.2
    bif (decide (v11 ≠ (0 : Int))) then
    bif (decide (v11 ≠ (0 : Int))) then
    let v18 : Int := (IntKind.i64.wrap (Int.tdiv v16 v11))
    let v19 : Int := (Int.tmod v16 v11)
    joinF (sc_j5 fu a v15 j15) fun j20 =>
    bif ((decide ((0 : Int) ≤ v17)) && (decide (v17 ≤ (64 : Int)))) then
    bif (decide ((bits BinOp.and IntKind.i64 (v14 / 2 ^ (Int.toNat v17)) (1 : Int)) = (1 : Int))) then
      let v21 : Int := (min v15.2.2.1 v19)
      let v22 : Int := (IntKind.i64.wrap (v18 + (1 : Int)))
      j20 ((v15.1, (v22, (v15.2.1, v21))))
    else
    let v21 : Int := (max v15.2.1 v19)
    j20 ((v15.1, (v18, (v21, v15.2.2.1))))
    else none
    else none
    else none
    else none
  else
  let v16 : Int := (IntKind.i64.wrap (v15.2.2.1 - v15.2.1))
  bif (decide ((0 : Int) < v16)) then
    loopF (sc_l6 fu a v12 v15 v16 j13) fu (((0 : Int), v12.2))
  else
  j13 ((v12.1, v12.2))
def sc_l2 {β : Type} (K : (Int × List Int) → Option β) (fu : Nat) (a : ((Int) × ((Int) × ((Int) × (List (Int))))) × ((List (Int)) × (Unit))) (v11 : Int) (j12 : ((Int) × (List (Int))) → Option β) (v12 : (Int) × (List (Int))) : Option β :=
  bif (decide (v12.1 < (IntKind.i64.wrap ((1 : Int) * 2 ^ (Int.toNat a.1.1))))) then
    joinF (sc_j3 fu j12) fun j13 =>
    let v14 : Int := v12.1
    loopF (sc_l4 fu a v11 v12 v14 j13) fu (((0 : Int), ((0 : Int), (v11, (0 : Int)))))
  else
  K v12
/-! ### a valid question -/
structure InOk (n o s : Nat) (vs l : List Int) (t : Int) : Prop where
  n1 : 1 ≤ n
  n4 : n ≤ 4
  o1 : 1 ≤ o
  o8 : o ≤ 8
  s2 : 2 ≤ s
  s9 : s ≤ 9
  sz : s ^ n * o ≤ 32768
  hv : vs.length = s ^ n * o
  vb : ∀ k, k < vs.length → -32768 ≤ vs.getD k 0 ∧ vs.getD k 0 ≤ 65535
  hl : l.length = n
  bl : ∀ k, k < n → 0 ≤ l.getD k 0 ∧ l.getD k 0 ≤ 65280
  t1 : 8160 ≤ t
  t2 : t ≤ 65280
  tt : t * (s - 1) = 65280
def inP (l : List Int) (t : Int) (k : Nat) : Int := l.getD k 0 % t
def inC (l : List Int) (t : Int) (k : Nat) : Int := l.getD k 0 / t
def inV (o : Nat) (vs : List Int) (x q : Int) : Int := vs.getD (x * (o : Int) + q).toNat 0
section
variable {n o s : Nat} {vs l : List Int} {t : Int} (h : InOk n o s vs l t)
include h
theorem in_pc {k : Nat} (hk : k < n) : (0 ≤ inP l t k ∧ inP l t k < t) ∧ (0 ≤ inC l t k ∧ inC l t k ≤ (s : Int) - 1) ∧ (0 < inP l t k → inC l t k ≤ (s : Int) - 2) := by
  have a := h.bl k hk
  have t1 := h.t1
  have tt := h.tt
  have s2 := h.s2
  have e1 := Int.emod_nonneg (l.getD k 0) (show t ≠ 0 by omega)
  have e2 := Int.emod_lt_of_pos (l.getD k 0) (show 0 < t by omega)
  have e3 := Int.emod_add_mul_ediv (l.getD k 0) t
  have e4 := Int.ediv_nonneg a.1 (show 0 ≤ t by omega)
  unfold inP inC
  have e5 : l.getD k 0 / t ≤ (s : Int) - 1 := by
    have := Int.ediv_le_ediv (show 0 < t by omega) a.2
    rw [show (65280 : Int) / t = (s : Int) - 1 from Int.ediv_eq_of_eq_mul_right (by omega) tt.symm] at this
    exact this
  refine ⟨⟨e1, e2⟩, ⟨e4, e5⟩, fun g => ?_⟩
  by_cases c : l.getD k 0 / t < (s : Int) - 1
  · omega
  · have : l.getD k 0 / t = (s : Int) - 1 := by omega
    rw [this, tt] at e3
    omega
theorem nd_bd {x : Nat} : ∀ m, m ≤ n → 0 ≤ ndF (inC l t) s x m ∧ ndF (inC l t) s x m ≤ (10 : Int) ^ m - 1
  | 0, _ => by simp [ndF]
  | m + 1, hm => by
    obtain ⟨a, b⟩ := nd_bd (x := x) m (by omega)
    have c := (in_pc h (k := m) (by omega)).2.1
    have d := dg2 x m
    have s9 := h.s9
    have s2 := h.s2
    have e := Int.mul_le_mul b (show (s : Int) ≤ 10 by omega) (by omega) (by omega)
    have f := Int.mul_nonneg a (show 0 ≤ (s : Int) by omega)
    rw [Int.sub_mul] at e
    rw [ndF, Int.pow_succ]
    omega
theorem nd_lt {x : Nat} (hw : 0 < wF n t (inP l t) x) : ∀ m, m ≤ n → 0 ≤ ndF (inC l t) s x m ∧ ndF (inC l t) s x m ≤ (s : Int) ^ m - 1
  | 0, _ => by simp [ndF]
  | m + 1, hm => by
    obtain ⟨a, b⟩ := nd_lt hw m (by omega)
    obtain ⟨⟨c1, c2⟩, ⟨c3, c4⟩, c5⟩ := in_pc h (k := m) (by omega)
    have hd : inC l t m + (dg 2 x m : Int) ≤ (s : Int) - 1 := by
      rcases dg2 x m with g | g
      · omega
      · have e1 := lsF_le (t := t) (p := inP l t) (x := x) n m (by omega) g
        have e2 := msF_0 (p := inP l t) (x := x) n
        unfold wF at hw
        have := c5 (by omega)
        omega
    have s2 := h.s2
    have e := Int.mul_le_mul_of_nonneg_right b (show 0 ≤ (s : Int) by omega)
    have f := Int.mul_nonneg a (show 0 ≤ (s : Int) by omega)
    rw [Int.sub_mul, Int.one_mul] at e
    rw [ndF, Int.pow_succ]
    omega
/-- the values of a node that counts -/
theorem nd_at {x : Nat} (hw : 0 < wF n t (inP l t) x) {q : Nat} (hq : q < o) : 0 ≤ ndF (inC l t) s x n * (o : Int) + q ∧ ndF (inC l t) s x n * (o : Int) + q < (vs.length : Int) ∧ ndF (inC l t) s x n * (o : Int) ≤ 32768 ∧ -32768 ≤ inV o vs (ndF (inC l t) s x n) q ∧ inV o vs (ndF (inC l t) s x n) q ≤ 65535 := by
  obtain ⟨a, b⟩ := nd_lt h hw n (Nat.le_refl _)
  have c := Int.mul_le_mul_of_nonneg_right b (show 0 ≤ (o : Int) by omega)
  have d := Int.mul_nonneg a (show 0 ≤ (o : Int) by omega)
  have hv : (vs.length : Int) = (s : Int) ^ n * (o : Int) := by rw [h.hv, Int.natCast_mul, Int.natCast_pow]
  have sz := h.sz
  have hv' := h.hv
  rw [Int.sub_mul, Int.one_mul, ← hv] at c
  have lt : ndF (inC l t) s x n * (o : Int) + q < (vs.length : Int) := by omega
  have := h.vb (ndF (inC l t) s x n * (o : Int) + q).toNat (by omega)
  exact ⟨by omega, lt, by omega, this⟩
theorem w_bd {x : Nat} : wF n t (inP l t) x ≤ 65280 ∧ -65280 ≤ wF n t (inP l t) x := by
  have t1 := h.t1
  have t2 := h.t2
  have a := lsF_t (t := t) (p := inP l t) (x := x) n
  have b := msF_0 (p := inP l t) (x := x) n
  have c := lsF_ge (p := inP l t) (x := x) (L := 0) (t := t) (by omega) n fun k hk _ => (in_pc h hk).1.1
  have d := msF_le (p := inP l t) (x := x) (M := t) (by omega) n fun k hk _ => by have := (in_pc h hk).1.2; omega
  unfold wF
  omega
theorem prod_bd' {a b : Int} (h0 : 0 ≤ a) (h1 : a ≤ 65280) (h2 : -32768 ≤ b) (h3 : b ≤ 65535) : -4278190080 ≤ a * b ∧ a * b ≤ 4278190080 := by
  have e1 := Int.mul_le_mul_of_nonneg_left h3 h0
  have e2 := Int.mul_le_mul_of_nonneg_left h2 h0
  omega
theorem c_bd {x q : Nat} (hq : q < o) : -4278190080 ≤ cF n t (inP l t) (inC l t) s (inV o vs) x q ∧ cF n t (inP l t) (inC l t) s (inV o vs) x q ≤ 4278190080 := by
  unfold cF
  split
  · rename_i hw
    obtain ⟨_, _, _, a, b⟩ := nd_at h hw hq
    have c := (w_bd h (x := x)).1
    exact prod_bd' h (by omega) c a b
  · omega
theorem sm_bd {q : Nat} (hq : q < o) : ∀ x : Nat, -4278190080 * (x : Int) ≤ smF n t (inP l t) (inC l t) s (inV o vs) x q ∧ smF n t (inP l t) (inC l t) s (inV o vs) x q ≤ 4278190080 * (x : Int)
  | 0 => by simp [smF]
  | x + 1 => by
    have a := sm_bd hq x
    have b := c_bd h (x := x) hq
    rw [smF]
    omega
end
theorem bit_and : ∀ a : Nat, a < 16 → bits .and .i64 (a : Int) 1 = ((a % 2 : Nat) : Int) := by decide
theorem bit_at {x k : Nat} (hx : x < 16) : bits .and .i64 ((x : Int) / 2 ^ k) 1 = (dg 2 x k : Int) := by
  have e : (x : Int) / 2 ^ k = ((x / 2 ^ k : Nat) : Int) := by
    rw [Int.natCast_ediv, Int.natCast_pow]; rfl
  rw [e, bit_and _ (Nat.lt_of_le_of_lt (Nat.div_le_self _ _) hx)]
  rfl
/-! ### the document's sum -/
section
variable {n o s : Nat} {vs l : List Int} {t : Int} (h : InOk n o s vs l t) {fu : Nat} (hf : 18446744073709551616 ≤ fu)
include h hf
theorem sc_set {β : Type} {j : (Int × List Int) → Option β} {x : Nat} (hx : x < 2 ^ n) :
    loopF (sc_l4 fu (((n : Int), ((o : Int), ((s : Int), vs))), (l, ())) t ((x : Int), tabL o (smF n t (inP l t) (inC l t) s (inV o vs) x)) (x : Int) (sc_j3 fu j)) fu ((0 : Int), ((0 : Int), (t, (0 : Int)))) =
      j (((x + 1 : Nat) : Int), tabL o (smF n t (inP l t) (inC l t) s (inV o vs) (x + 1))) := by
  have h' := h
  obtain ⟨n1, n4, o1, o8, s2, s9, sz, hv, vb, hl, bl, t1, t2, tt⟩ := h'
  have hx16 : x < 16 := Nat.lt_of_lt_of_le hx (Nat.pow_le_pow_right (by decide) n4)
  refine stLoop (n := n) (st := fun k => (ndF (inC l t) s x k, (msF (inP l t) x k, (lsF t (inP l t) x k, (k : Int))))) (by omega) rfl (fun j' k hk => ?_) (fun j' => ?_)
  · obtain ⟨⟨p1, p2⟩, ⟨c1, c2⟩, _⟩ := in_pc h hk
    have e1 : l.getD k 0 % t = inP l t k := rfl
    have e2 : l.getD k 0 / t = inC l t k := rfl
    have b := bl k hk
    obtain ⟨nb1, nb2⟩ := nd_bd h (x := x) k (by omega)
    obtain ⟨nb3, nb4⟩ := nd_bd h (x := x) (k + 1) (by omega)
    have q1 := pw_bd (s := 9) (i := k) (by decide) (by decide) (by omega)
    have nb5 : (10 : Int) ^ k ≤ 1000 := by
      have : k = 0 ∨ k = 1 ∨ k = 2 ∨ k = 3 := by omega
      rcases this with e | e | e | e <;> (rw [e]; decide)
    have ml := Int.mul_nonneg nb1 (show 0 ≤ (s : Int) by omega)
    have ml2 := Int.mul_le_mul (show ndF (inC l t) s x k ≤ 999 by omega) (show (s : Int) ≤ 9 by omega) (by omega) (by omega)
    unfold sc_l4
    simp (disch := omega) only [joinF_eq, bindO_some, s_wr, s_td, s_tm, s_pos, s_neg, cond_true, cond_false, Bool.not_true, Bool.not_false, Bool.true_and, Bool.and_true, Bool.false_and, Bool.and_false, bne_self_eq_false, decide_true, decide_false, Int.toNat_natCast]
    rw [e1, e2]
    rcases dg2 x k with g | g
    · have be : bits .and .i64 ((x : Int) / 2 ^ k) 1 = 0 := by rw [bit_at hx16, g]; rfl
      simp (disch := omega) only [joinF_eq, bindO_some, s_wr, s_td, s_tm, s_pos, s_neg, cond_true, cond_false, Bool.not_true, Bool.not_false, Bool.true_and, Bool.and_true, Bool.false_and, Bool.and_false, bne_self_eq_false, decide_true, decide_false, Int.toNat_natCast]
      unfold sc_j5
      simp (disch := omega) only [joinF_eq, bindO_some, s_wr, s_td, s_tm, s_pos, s_neg, cond_true, cond_false, Bool.not_true, Bool.not_false, Bool.true_and, Bool.and_true, Bool.false_and, Bool.and_false, bne_self_eq_false, decide_true, decide_false, Int.toNat_natCast]
      rw [ndF, msF, lsF, g, if_neg (by decide), if_neg (by decide)]
      simp only [Int.natCast_zero, Int.add_zero]
      rfl
    · have be : bits .and .i64 ((x : Int) / 2 ^ k) 1 = 1 := by rw [bit_at hx16, g]; rfl
      simp (disch := omega) only [joinF_eq, bindO_some, s_wr, s_td, s_tm, s_pos, s_neg, cond_true, cond_false, Bool.not_true, Bool.not_false, Bool.true_and, Bool.and_true, Bool.false_and, Bool.and_false, bne_self_eq_false, decide_true, decide_false, Int.toNat_natCast]
      unfold sc_j5
      simp (disch := omega) only [joinF_eq, bindO_some, s_wr, s_td, s_tm, s_pos, s_neg, cond_true, cond_false, Bool.not_true, Bool.not_false, Bool.true_and, Bool.and_true, Bool.false_and, Bool.and_false, bne_self_eq_false, decide_true, decide_false, Int.toNat_natCast]
      rw [ndF, msF, lsF, g, if_pos rfl, if_pos rfl]
      rfl
  · have wb := w_bd h (x := x)
    unfold sc_l4
    simp (disch := omega) only [joinF_eq, bindO_some, s_wr, s_td, s_tm, s_pos, s_neg, cond_true, cond_false, Bool.not_true, Bool.not_false, Bool.true_and, Bool.and_true, Bool.false_and, Bool.and_false, bne_self_eq_false, decide_true, decide_false, Int.toNat_natCast]
    have a1 := lsF_t (t := t) (p := inP l t) (x := x) n
    have a2 := msF_0 (p := inP l t) (x := x) n
    unfold wF at wb
    by_cases hw : 0 < lsF t (inP l t) x n - msF (inP l t) x n
    · simp (disch := omega) only [joinF_eq, bindO_some, s_wr, s_td, s_tm, s_pos, s_neg, cond_true, cond_false, Bool.not_true, Bool.not_false, Bool.true_and, Bool.and_true, Bool.false_and, Bool.and_false, bne_self_eq_false, decide_true, decide_false, Int.toNat_natCast]
      have hw' : 0 < wF n t (inP l t) x := hw
      refine stLoop (n := o) (st := fun q => ((q : Int), tabL o (fun k => if k < (q : Int) then smF n t (inP l t) (inC l t) s (inV o vs) (x + 1) k else smF n t (inP l t) (inC l t) s (inV o vs) x k))) (by omega) ?_ (fun j' q hq => ?_) (fun j' => ?_)
      · exact Prod.ext rfl (tabL_congr fun i h0 h1 => rfl)
      · obtain ⟨d1, d2, d3, d4, d5⟩ := nd_at h hw' hq
        have d6 := (nd_lt h hw' n (Nat.le_refl _)).1
        have d7 := Int.mul_nonneg d6 (show 0 ≤ (o : Int) by omega)
        have pb := prod_bd' h (show 0 ≤ lsF t (inP l t) x n - msF (inP l t) x n by omega) (show lsF t (inP l t) x n - msF (inP l t) x n ≤ 65280 by omega) d4 d5
        have sb := sm_bd h hq x
        have e1 : smF n t (inP l t) (inC l t) s (inV o vs) (x + 1) q = smF n t (inP l t) (inC l t) s (inV o vs) x q + (lsF t (inP l t) x n - msF (inP l t) x n) * inV o vs (ndF (inC l t) s x n) q := by
          rw [smF, cF, if_pos hw']; rfl
        have e2 : vs.getD (ndF (inC l t) s x n * (o : Int) + (q : Int)).toNat 0 = inV o vs (ndF (inC l t) s x n) q := rfl
        unfold sc_l6
        simp (disch := omega) only [joinF_eq, bindO_some, s_wr, s_td, s_tm, s_pos, s_neg, cond_true, cond_false, Bool.not_true, Bool.not_false, Bool.true_and, Bool.and_true, Bool.false_and, Bool.and_false, bne_self_eq_false, decide_true, decide_false, Int.toNat_natCast, tabL_length]
        rw [e2]
        simp only [tabP_get hq]
        simp (disch := omega) only [joinF_eq, bindO_some, s_wr, s_td, s_tm, s_pos, s_neg, cond_true, cond_false, Bool.not_true, Bool.not_false, Bool.true_and, Bool.and_true, Bool.false_and, Bool.and_false, bne_self_eq_false, decide_true, decide_false, Int.toNat_natCast]
        rw [tabP_set hq e1]
        rfl
      · have e1 : (tabL o fun k => if k < ((o : Nat) : Int) then smF n t (inP l t) (inC l t) s (inV o vs) (x + 1) k else smF n t (inP l t) (inC l t) s (inV o vs) x k) = tabL o (smF n t (inP l t) (inC l t) s (inV o vs) (x + 1)) := tabL_congr fun i h0 h1 => by rw [if_pos h1]
        unfold sc_l6
        simp (disch := omega) only [joinF_eq, bindO_some, s_wr, s_td, s_tm, s_pos, s_neg, cond_true, cond_false, Bool.not_true, Bool.not_false, Bool.true_and, Bool.and_true, Bool.false_and, Bool.and_false, bne_self_eq_false, decide_true, decide_false, Int.toNat_natCast, tabL_length]
        rw [e1]
        unfold sc_j3
        simp (disch := omega) only [joinF_eq, bindO_some, s_wr, s_td, s_tm, s_pos, s_neg, cond_true, cond_false, Bool.not_true, Bool.not_false, Bool.true_and, Bool.and_true, Bool.false_and, Bool.and_false, bne_self_eq_false, decide_true, decide_false, Int.toNat_natCast]
        rfl
    · simp (disch := omega) only [joinF_eq, bindO_some, s_wr, s_td, s_tm, s_pos, s_neg, cond_true, cond_false, Bool.not_true, Bool.not_false, Bool.true_and, Bool.and_true, Bool.false_and, Bool.and_false, bne_self_eq_false, decide_true, decide_false, Int.toNat_natCast]
      have e1 : tabL o (smF n t (inP l t) (inC l t) s (inV o vs) (x + 1)) = tabL o (smF n t (inP l t) (inC l t) s (inV o vs) x) := tabL_congr fun i h0 h1 => by
        rw [smF, c_zero hw, Int.add_zero]
      rw [e1]
      unfold sc_j3
      simp (disch := omega) only [joinF_eq, bindO_some, s_wr, s_td, s_tm, s_pos, s_neg, cond_true, cond_false, Bool.not_true, Bool.not_false, Bool.true_and, Bool.and_true, Bool.false_and, Bool.and_false, bne_self_eq_false, decide_true, decide_false, Int.toNat_natCast]
      rfl
theorem sc_all {β : Type} {K : (Int × List Int) → Option β} : loopF (sc_l2 K fu (((n : Int), ((o : Int), ((s : Int), vs))), (l, ())) t) fu ((0 : Int), List.replicate o (0 : Int)) = K (((2 ^ n : Nat) : Int), tabL o (smF n t (inP l t) (inC l t) s (inV o vs) (2 ^ n))) := by
  have h' := h
  obtain ⟨n1, n4, o1, o8, s2, s9, sz, hv, vb, hl, bl, t1, t2, tt⟩ := h'
  have h16 : 2 ^ n ≤ 16 := Nat.pow_le_pow_right (by decide) n4
  have e2 : (2 : Int) ^ n = ((2 ^ n : Nat) : Int) := by rw [Int.natCast_pow]; rfl
  refine stLoop (n := 2 ^ n) (st := fun x => ((x : Int), tabL o (smF n t (inP l t) (inC l t) s (inV o vs) x))) (by omega) ?_ (fun j x hx => ?_) (fun j => ?_)
  · exact Prod.ext rfl (tabL_rep (G := smF n t (inP l t) (inC l t) s (inV o vs) 0) fun i _ _ => rfl)
  · unfold sc_l2
    simp (disch := omega) only [joinF_eq, bindO_some, s_wr, s_td, s_tm, s_pos, s_neg, cond_true, cond_false, Bool.not_true, Bool.not_false, Bool.true_and, Bool.and_true, Bool.false_and, Bool.and_false, bne_self_eq_false, decide_true, decide_false, Int.toNat_natCast]
    exact sc_set h hf hx
  · have e3 : IntKind.i64.wrap ((1 : Int) * 2 ^ n) = ((2 ^ n : Nat) : Int) := by
      rw [Int.one_mul, e2]
      generalize 2 ^ n = N at *
      exact wr64 (by omega) (by omega)
    unfold sc_l2
    simp only [Int.toNat_natCast, e3]
    exact bif_neg (by omega)
end
end Go.Proofs.Ytjhdjjoacedlpaa
/- Grids: what Raw computes: the axes sorted by their parts, and the sum over their heads. -/
namespace Go.Proofs.Ytjhdjjoacedlpaa
open Go Go.RowKit
set_option linter.unusedSimpArgs false
set_option linter.unusedSectionVars false
set_option linter.unusedVariables false
theorem Srt.congr {n : Nat} {p : Nat → Int} {σ σ' : Nat → Nat} (h : Srt n p σ) (e : ∀ i, i < n → σ' i = σ i) : Srt n p σ' :=
  ⟨fun i hi => by rw [e i hi]; exact h.lt i hi, fun i j hi hj g => h.inj i j hi hj (by rw [← e i hi, ← e j hj]; exact g), fun k hk => by
    obtain ⟨i, hi, g⟩ := h.sur k hk
    exact ⟨i, hi, by rw [e i hi]; exact g⟩, fun i j hij hj => by rw [e i (by omega), e j hj]; exact h.srt i j hij hj⟩
def insF (σ : Nat → Nat) (k j i : Nat) : Nat := if i < j then σ i else if i = j then k else σ (i - 1)
theorem srt_ins {k j : Nat} {p : Nat → Int} {σ : Nat → Nat} (h : Srt k p σ) (hj : j ≤ k) (h1 : ∀ i, i < j → p k ≤ p (σ i)) (h2 : ∀ i, j ≤ i → i < k → p (σ i) ≤ p k) : Srt (k + 1) p (insF σ k j) := by
  have a : ∀ i, i < j → insF σ k j i = σ i := fun i hi => by unfold insF; rw [if_pos hi]
  have b : insF σ k j j = k := by unfold insF; rw [if_neg (by omega), if_pos rfl]
  have c : ∀ i, j < i → insF σ k j i = σ (i - 1) := fun i hi => by unfold insF; rw [if_neg (by omega), if_neg (by omega)]
  have tri : ∀ i, i < j ∨ i = j ∨ j < i := fun i => by omega
  refine ⟨fun i hi => ?_, fun i i' hi hi' e => ?_, fun q hq => ?_, fun i i' hii hi' => ?_⟩
  · rcases tri i with g | g | g
    · rw [a i g]; have := h.lt i (by omega); omega
    · rw [g, b]; omega
    · rw [c i g]; have := h.lt (i - 1) (by omega); omega
  · rcases tri i with g | g | g <;> rcases tri i' with g' | g' | g'
    · rw [a i g, a i' g'] at e; exact h.inj i i' (by omega) (by omega) e
    · rw [a i g, g', b] at e; have := h.lt i (by omega); omega
    · rw [a i g, c i' g'] at e; have := h.inj i (i' - 1) (by omega) (by omega) e; omega
    · rw [a i' g', g, b] at e; have := h.lt i' (by omega); omega
    · omega
    · rw [c i' g', g, b] at e; have := h.lt (i' - 1) (by omega); omega
    · rw [a i' g', c i g] at e; have := h.inj (i - 1) i' (by omega) (by omega) e; omega
    · rw [c i g, g', b] at e; have := h.lt (i - 1) (by omega); omega
    · rw [c i g, c i' g'] at e; have := h.inj (i - 1) (i' - 1) (by omega) (by omega) e; omega
  · by_cases e : q = k
    · exact ⟨j, by omega, by rw [b, e]⟩
    · obtain ⟨i, hi, g⟩ := h.sur q (by omega)
      by_cases f : i < j
      · exact ⟨i, by omega, by rw [a i f, g]⟩
      · exact ⟨i + 1, by omega, by rw [c (i + 1) (by omega), Nat.add_sub_cancel, g]⟩
  · rcases tri i with g | g | g <;> rcases tri i' with g' | g' | g'
    · rw [a i g, a i' g']; exact h.srt i i' hii (by omega)
    · rw [a i g, g', b]; exact h1 i g
    · rw [a i g, c i' g']; exact h.srt i (i' - 1) (by omega) (by omega)
    · omega
    · rw [g, g']; exact Int.le_refl _
    · rw [g, b, c i' g']; exact h2 (i' - 1) (by omega) (by omega)
    · omega
    · omega
    · rw [c i g, c i' g']; exact h.srt (i - 1) (i' - 1) (by omega) (by omega)
/-! ### sorting the axes -/
def partT (l : List Int) (t : Int) (k : Nat) : List Int := tabL 4 fun i => if i < (k : Int) then inP l t i.toNat else 0
def cellT (l : List Int) (t : Int) (k : Nat) : List Int := tabL 4 fun i => if i < (k : Int) then inC l t i.toNat else 0
def axS (ax : List Int) (i : Nat) : Nat := (ax.getD i 0).toNat
section
variable {l : List Int} {t : Int}
theorem partT_len {k : Nat} : (partT l t k).length = 4 := tabL_length _ _
theorem cellT_len {k : Nat} : (cellT l t k).length = 4 := tabL_length _ _
theorem partT_set {k : Nat} (hk : k < 4) : (partT l t k).set k (l.getD k 0 % t) = partT l t (k + 1) := tabP_set (A := fun i => inP l t i.toNat) (B := fun _ => 0) hk (by simp only [Int.toNat_natCast]; rfl)
theorem cellT_set {k : Nat} (hk : k < 4) : (cellT l t k).set k (l.getD k 0 / t) = cellT l t (k + 1) := tabP_set (A := fun i => inC l t i.toNat) (B := fun _ => 0) hk (by simp only [Int.toNat_natCast]; rfl)
theorem partT_at {k i : Nat} (hi : i < k) (h4 : i < 4) : (partT l t k).getD i 0 = inP l t i := by
  unfold partT
  rw [tabL_getDN h4, if_pos (by omega), Int.toNat_natCast]
theorem cellT_at {k i : Nat} (hi : i < k) (h4 : i < 4) : (cellT l t k).getD i 0 = inC l t i := by
  unfold cellT
  rw [tabL_getDN h4, if_pos (by omega), Int.toNat_natCast]
end
/-- a list of axes -/
structure AxOk (k : Nat) (p : Nat → Int) (ax : List Int) : Prop where
  len : ax.length = 4
  nn : ∀ i, i < k → ax.getD i 0 = (axS ax i : Int)
  srt : Srt k p (axS ax)
section
variable {n o s : Nat} {vs l : List Int} {t : Int} (h : InOk n o s vs l t) {fu : Nat} (hf : 18446744073709551616 ≤ fu)
include h hf
theorem raw_ins {β : Type} {j : (Int × (List Int × (List Int × List Int))) → Option β} {k : Nat} (hk : k < n) {ax : List Int} (hax : AxOk k (inP l t) ax) :
    ∃ ax', AxOk (k + 1) (inP l t) ax' ∧ loopF (raw_l2 fu t ((k : Int), (partT l t k, (cellT l t k, ax))) (l.getD k 0) (k : Int) j) fu ((k : Int), ax) = j (((k + 1 : Nat) : Int), (partT l t (k + 1), (cellT l t (k + 1), ax'))) := by
  have h' := h
  obtain ⟨n1, n4, o1, o8, s2, s9, sz, hv, vb, hl, bl, t1, t2, tt⟩ := h'
  have bl := bl k hk
  obtain ⟨⟨p1, p2⟩, ⟨c1, c2⟩, _⟩ := in_pc h hk
  have c1' : 0 ≤ l.getD k 0 / t := c1
  have c2' : l.getD k 0 / t ≤ (s : Int) - 1 := c2
  obtain ⟨a1, a2, a3⟩ := hax
  have pl := partT_len (l := l) (t := t) (k := k)
  have pl1 := partT_len (l := l) (t := t) (k := k + 1)
  have cl := cellT_len (l := l) (t := t) (k := k)
  have pk := partT_at (l := l) (t := t) (k := k + 1) (i := k) (by omega) (by omega)
  refine postLoop (f := raw_l2 fu t ((k : Int), (partT l t k, (cellT l t k, ax))) (l.getD k 0) (k : Int) j) (fun x => x.1.toNat)
    (fun x => ∃ m : Nat, x.1 = m ∧ m ≤ k ∧ x.2.length = 4 ∧ (∀ i, i < m → x.2.getD i 0 = ax.getD i 0) ∧ ∀ i, m ≤ i → i < k → x.2.getD (i + 1) 0 = ax.getD i 0 ∧ inP l t (axS ax i) ≤ inP l t k)
    (fun r => ∃ ax', AxOk (k + 1) (inP l t) ax' ∧ r = j (((k + 1 : Nat) : Int), (partT l t (k + 1), (cellT l t (k + 1), ax')))) ?_ fu ((k : Int), ax) ⟨k, rfl, Nat.le_refl _, a1, fun _ _ => rfl, fun i h1 h2 => by omega⟩ (by simp only; omega)
  rintro j2 ⟨_, a⟩ ⟨m, rfl, m1, m2, m3, m4⟩
  simp only at m2 m3 m4
  have stop : (∀ i, i < m → inP l t k ≤ inP l t (axS ax i)) → raw_j3 fu t ((k : Int), (partT l t k, (cellT l t k, ax))) (l.getD k 0) (k : Int) ((m : Int), a) j j2 false = j (((k + 1 : Nat) : Int), (partT l t (k + 1), (cellT l t (k + 1), a.set m (k : Int)))) ∧ AxOk (k + 1) (inP l t) (a.set m (k : Int)) := by
    intro hlt
    refine ⟨?_, ?_⟩
    · unfold raw_j3
      simp (disch := omega) only [joinF_eq, bindO_some, s_wr, s_td, s_tm, s_pos, s_neg, cond_true, cond_false, Bool.not_true, Bool.not_false, Bool.true_and, Bool.and_true, Bool.false_and, Bool.and_false, bne_self_eq_false, decide_true, decide_false, Int.toNat_natCast, partT_set, cellT_set]
      rfl
    · have e : ∀ i, i < k + 1 → (a.set m (k : Int)).getD i 0 = (insF (axS ax) k m i : Int) := by
        intro i hi
        rw [getD_set' (by omega)]
        unfold insF
        by_cases g : i < m
        · rw [if_neg (by omega), if_pos g, m3 i g]; exact a2 i (by omega)
        · rw [if_neg g]
          by_cases g2 : i = m
          · rw [if_pos g2, if_pos g2]
          · rw [if_neg g2, if_neg g2]
            have := (m4 (i - 1) (by omega) (by omega)).1
            rw [show i - 1 + 1 = i by omega] at this
            rw [this]; exact a2 (i - 1) (by omega)
      have e' : ∀ i, i < k + 1 → axS (a.set m (k : Int)) i = insF (axS ax) k m i := fun i hi => by
        unfold axS at *
        rw [e i hi]; exact Int.toNat_natCast _
      exact ⟨by rw [List.length_set]; exact m2, fun i hi => by rw [e' i hi]; exact e i hi, (srt_ins a3 m1 hlt fun i h1 h2 => (m4 i h1 h2).2).congr e'⟩
  by_cases hm : m = 0
  · subst hm
    obtain ⟨s1, s2⟩ := stop fun i hi => absurd hi (Nat.not_lt_zero _)
    refine .inr ⟨_, s2, ?_⟩
    rw [← s1]
    unfold raw_l2
    simp (disch := omega) only [joinF_eq, bindO_some, s_wr, s_td, s_tm, s_pos, s_neg, cond_true, cond_false, Bool.not_true, Bool.not_false, Bool.true_and, Bool.and_true, Bool.false_and, Bool.and_false, bne_self_eq_false, decide_true, decide_false, Int.toNat_natCast]
  · obtain ⟨m, rfl⟩ : ∃ m', m = m' + 1 := ⟨m - 1, by omega⟩
    have g1 := m3 m (by omega)
    have g2 := a2 m (by omega)
    have g3 := a3.lt m (by omega)
    have g4 := partT_at (l := l) (t := t) (k := k + 1) (i := axS ax m) (by omega) (by omega)
    have e0 : ((m + 1 : Nat) : Int) - 1 = (m : Int) := by omega
    have go : ∀ b : Bool, (b = true ↔ inP l t (axS ax m) < inP l t k) → (∃ x' : Int × List Int, (∃ m : Nat, x'.1 = m ∧ m ≤ k ∧ x'.2.length = 4 ∧ (∀ i, i < m → x'.2.getD i 0 = ax.getD i 0) ∧ ∀ i, m ≤ i → i < k → x'.2.getD (i + 1) 0 = ax.getD i 0 ∧ inP l t (axS ax i) ≤ inP l t k) ∧ x'.1.toNat < ((m + 1 : Nat) : Int).toNat ∧ raw_j3 fu t ((k : Int), (partT l t k, (cellT l t k, ax))) (l.getD k 0) (k : Int) (((m + 1 : Nat) : Int), a) j j2 b = j2 x') ∨
        ∃ ax', AxOk (k + 1) (inP l t) ax' ∧ raw_j3 fu t ((k : Int), (partT l t k, (cellT l t k, ax))) (l.getD k 0) (k : Int) (((m + 1 : Nat) : Int), a) j j2 b = j (((k + 1 : Nat) : Int), (partT l t (k + 1), (cellT l t (k + 1), ax'))) := by
      intro b hb
      cases b with
      | false =>
        have hge : ¬ inP l t (axS ax m) < inP l t k := fun g => by have := hb.2 g; cases this
        obtain ⟨s1, s2⟩ := stop fun i hi => by
          have := a3.srt i m (by omega) (by omega)
          omega
        exact .inr ⟨_, s2, s1⟩
      | true =>
        have hlt := hb.1 rfl
        refine .inl ⟨((m : Int), a.set (m + 1) (ax.getD m 0)), ⟨m, rfl, by omega, by simp only; rw [List.length_set]; exact m2, fun i hi => ?_, fun i h1 h2 => ?_⟩, by simp only; omega, ?_⟩
        · simp only
          rw [getD_set' (by omega), if_neg (by omega)]
          exact m3 i (by omega)
        · simp only
          rw [getD_set' (by omega)]
          by_cases e : i = m
          · subst e
            rw [if_pos rfl]
            exact ⟨rfl, by omega⟩
          · rw [if_neg (by omega)]
            exact m4 i (by omega) h2
        · unfold raw_j3
          simp (disch := omega) only [joinF_eq, bindO_some, s_wr, s_td, s_tm, s_pos, s_neg, cond_true, cond_false, Bool.not_true, Bool.not_false, Bool.true_and, Bool.and_true, Bool.false_and, Bool.and_false, bne_self_eq_false, decide_true, decide_false, Int.toNat_natCast]
          simp only [e0, Int.toNat_natCast, g1]
    unfold raw_l2
    simp (disch := omega) only [joinF_eq, bindO_some, s_wr, s_td, s_tm, s_pos, s_neg, cond_true, cond_false, Bool.not_true, Bool.not_false, Bool.true_and, Bool.and_true, Bool.false_and, Bool.and_false, bne_self_eq_false, decide_true, decide_false, Int.toNat_natCast, partT_set]
    simp only [e0, Int.toNat_natCast, g1, g2, pk, g4]
    simp (disch := omega) only [joinF_eq, bindO_some, s_wr, s_td, s_tm, s_pos, s_neg, cond_true, cond_false, Bool.not_true, Bool.not_false, Bool.true_and, Bool.and_true, Bool.false_and, Bool.and_false, bne_self_eq_false, decide_true, decide_false, Int.toNat_natCast]
    exact go _ (by rw [decide_eq_true_eq])
end
end Go.Proofs.Ytjhdjjoacedlpaa
/- Grids: Raw adds up what the heads of the sorted axes give: the document's interpolation. -/
namespace Go.Proofs.Ytjhdjjoacedlpaa
open Go Go.RowKit
set_option linter.unusedSimpArgs false
set_option linter.unusedSectionVars false
set_option linter.unusedVariables false
theorem tabP_zero {o : Nat} {A B : Int → Int} : (tabL o fun k => if k < ((0 : Nat) : Int) then A k else B k) = tabL o B := tabL_congr fun i h0 h1 => if_neg (by omega)
section
variable {n o s : Nat} {vs l : List Int} {t : Int} (h : InOk n o s vs l t)
include h
theorem nd_dig {x : Nat} (hw : 0 < wF n t (inP l t) x) {k : Nat} (hk : k < n) : 0 ≤ inC l t k + (dg 2 x k : Int) ∧ inC l t k + (dg 2 x k : Int) ≤ (s : Int) - 1 := by
  obtain ⟨⟨c1, c2⟩, ⟨c3, c4⟩, c5⟩ := in_pc h hk
  rcases dg2 x k with g | g
  · omega
  · have e1 := lsF_le (t := t) (p := inP l t) (x := x) n k hk g
    have e2 := msF_0 (p := inP l t) (x := x) n
    unfold wF at hw
    have := c5 (by omega)
    omega
theorem hor_nd {x : Nat} {cell : List Int} (hc : ∀ k, k < n → cell.getD k 0 = inC l t k + (dg 2 x k : Int)) : ∀ m, m ≤ n → horN (s : Int) cell m = ndF (inC l t) s x m
  | 0, _ => rfl
  | m + 1, hm => by rw [horN, ndF, hor_nd hc m (by omega), hc m (by omega)]
theorem at_nd {fu : Nat} (hf : 18446744073709551616 ≤ fu) {x : Nat} (hw : 0 < wF n t (inP l t) x) {cell : List Int} (hl : cell.length = 4) (hc : ∀ k, k < n → cell.getD k 0 = inC l t k + (dg 2 x k : Int)) :
    grid_at_r fu (((n : Int), ((o : Int), ((s : Int), vs))), (List.drop (Int.toNat (0 : Int)) (List.take n cell), ())) = some (ndF (inC l t) s x n * (o : Int), ()) := by
  have h' := h
  obtain ⟨n1, n4, o1, o8, s2, s9, sz, hv, _⟩ := h'
  have e : (List.take n cell).length = n := by rw [List.length_take]; omega
  have := at_r hf (i := (n : Int)) (o := (o : Int)) (s := (s : Int)) (vs := vs) (l := List.take n cell) (by omega) (by omega) (by omega) (by omega) (by omega) (fun k hk => by
    have d := nd_dig h hw (k := k) (by omega)
    rw [List.getD_eq_getElem?_getD, List.getElem?_take_of_lt (by omega), ← List.getD_eq_getElem?_getD, hc k (by omega)]
    exact d)
  rw [e, horN_take _ _ _ _ (Nat.le_refl _), hor_nd h hc n (Nat.le_refl _)] at this
  exact this
theorem ch_bd {σ : Nat → Nat} {q : Nat} (hq : q < o) : ∀ j : Nat, -4278190080 * (j : Int) ≤ chS n t (inP l t) (inC l t) s (inV o vs) σ q j ∧ chS n t (inP l t) (inC l t) s (inV o vs) σ q j ≤ 4278190080 * (j : Int)
  | 0 => by simp [chS]
  | j + 1 => by
    have a := ch_bd (σ := σ) hq j
    have b := c_bd h (x := mkF n σ j) hq
    rw [chS]
    omega
variable {fu : Nat} (hf : 18446744073709551616 ≤ fu)
include hf
theorem raw_head {β : Type} {K : List Int → Option β} {j8 : (Int × (Int × (List Int × List Int))) → Option β} {ax cell : List Int} (hax : AxOk n (inP l t) ax) {j : Nat} (hj : j ≤ n) (hl4 : cell.length = 4) (hc : ∀ k, k < n → cell.getD k 0 = inC l t k + (chB (axS ax) j k : Int)) {wt out : _} :
    raw_j7 fu (((n : Int), ((o : Int), ((s : Int), vs))), (l, ())) (n : Int) ((n : Int), (partT l t n, (cellT l t n, ax))) (wt, ((j : Int), (out, cell))) K (raw_j6 fu j8) (wtF n t (inP l t) (axS ax) (j + 1), (wtF n t (inP l t) (axS ax) j, (tabL o (fun q => chS n t (inP l t) (inC l t) s (inV o vs) (axS ax) q j), cell))) =
      raw_j8 fu (n : Int) ((n : Int), (partT l t n, (cellT l t n, ax))) (wt, ((j : Int), (out, cell))) (wtF n t (inP l t) (axS ax) (j + 1), (wtF n t (inP l t) (axS ax) j, (tabL o (fun q => chS n t (inP l t) (inC l t) s (inV o vs) (axS ax) q j), cell))) K (raw_j6 fu j8) (wtF n t (inP l t) (axS ax) j, tabL o (fun q => chS n t (inP l t) (inC l t) s (inV o vs) (axS ax) q (j + 1))) := by
  have h' := h
  obtain ⟨n1, n4, o1, o8, s2, s9, sz, hv, vb, hl, bl, t1, t2, tt⟩ := h'
  have hp : ∀ k, k < n → 0 ≤ inP l t k ∧ inP l t k ≤ t := fun k hk => by have := (in_pc h hk).1; omega
  have hw := mk_w hax.srt (t := t) hp hj
  have wb := w_bd h (x := mkF n (axS ax) j)
  unfold raw_j7
  generalize hJ : raw_j8 fu (n : Int) ((n : Int), (partT l t n, (cellT l t n, ax))) (wt, ((j : Int), (out, cell))) (wtF n t (inP l t) (axS ax) (j + 1), (wtF n t (inP l t) (axS ax) j, (tabL o (fun q => chS n t (inP l t) (inC l t) s (inV o vs) (axS ax) q j), cell))) K (raw_j6 fu j8) = J
  by_cases g : 0 < wF n t (inP l t) (mkF n (axS ax) j)
  · have hc' : ∀ k, k < n → cell.getD k 0 = inC l t k + (dg 2 (mkF n (axS ax) j) k : Int) := fun k hk => by rw [hc k hk, mk_dg hk]
    have e0 : IntKind.i64.wrap (wtF n t (inP l t) (axS ax) j - wtF n t (inP l t) (axS ax) (j + 1)) = wF n t (inP l t) (mkF n (axS ax) j) := by
      rw [← hw]; exact wr64 (by omega) (by omega)
    simp only [e0, joinF_eq]
    simp (disch := omega) only [joinF_eq, bindO_some, s_wr, s_td, s_tm, s_pos, s_neg, cond_true, cond_false, Bool.not_true, Bool.not_false, Bool.true_and, Bool.and_true, Bool.false_and, Bool.and_false, bne_self_eq_false, decide_true, decide_false, Int.toNat_natCast, at_nd h hf g hl4 hc']
    refine stLoop (n := o) (st := fun q => ((q : Int), tabL o (fun k => if k < (q : Int) then chS n t (inP l t) (inC l t) s (inV o vs) (axS ax) k (j + 1) else chS n t (inP l t) (inC l t) s (inV o vs) (axS ax) k j))) (by omega) ?_ (fun j' q hq => ?_) (fun j' => ?_)
    · exact Prod.ext rfl (tabP_zero (A := fun k => chS n t (inP l t) (inC l t) s (inV o vs) (axS ax) k (j + 1)) (B := fun k => chS n t (inP l t) (inC l t) s (inV o vs) (axS ax) k j))
    · obtain ⟨d1, d2, d3, d4, d5⟩ := nd_at h g hq
      have d6 := (nd_lt h g n (Nat.le_refl _)).1
      have d7 := Int.mul_nonneg d6 (show 0 ≤ (o : Int) by omega)
      have pb := prod_bd' h (show 0 ≤ wF n t (inP l t) (mkF n (axS ax) j) by omega) wb.1 d4 d5
      have sb := ch_bd h (σ := axS ax) hq j
      have e1 : chS n t (inP l t) (inC l t) s (inV o vs) (axS ax) q (j + 1) = chS n t (inP l t) (inC l t) s (inV o vs) (axS ax) q j + wF n t (inP l t) (mkF n (axS ax) j) * inV o vs (ndF (inC l t) s (mkF n (axS ax) j) n) q := by
        rw [chS, cF, if_pos g]
      have e2 : vs.getD (ndF (inC l t) s (mkF n (axS ax) j) n * (o : Int) + (q : Int)).toNat 0 = inV o vs (ndF (inC l t) s (mkF n (axS ax) j) n) q := rfl
      unfold raw_l9
      simp (disch := omega) only [joinF_eq, bindO_some, s_wr, s_td, s_tm, s_pos, s_neg, cond_true, cond_false, Bool.not_true, Bool.not_false, Bool.true_and, Bool.and_true, Bool.false_and, Bool.and_false, bne_self_eq_false, decide_true, decide_false, Int.toNat_natCast, tabL_length]
      rw [e2]
      simp only [tabP_get hq]
      simp (disch := omega) only [joinF_eq, bindO_some, s_wr, s_td, s_tm, s_pos, s_neg, cond_true, cond_false, Bool.not_true, Bool.not_false, Bool.true_and, Bool.and_true, Bool.false_and, Bool.and_false, bne_self_eq_false, decide_true, decide_false, Int.toNat_natCast]
      rw [tabP_set hq e1]
      rfl
    · have e1 : (tabL o fun k => if k < ((o : Nat) : Int) then chS n t (inP l t) (inC l t) s (inV o vs) (axS ax) k (j + 1) else chS n t (inP l t) (inC l t) s (inV o vs) (axS ax) k j) = tabL o (fun k => chS n t (inP l t) (inC l t) s (inV o vs) (axS ax) k (j + 1)) := tabL_congr fun i h0 h1 => by rw [if_pos h1]
      unfold raw_l9
      simp (disch := omega) only [joinF_eq, bindO_some, s_wr, s_td, s_tm, s_pos, s_neg, cond_true, cond_false, Bool.not_true, Bool.not_false, Bool.true_and, Bool.and_true, Bool.false_and, Bool.and_false, bne_self_eq_false, decide_true, decide_false, Int.toNat_natCast, tabL_length]
      rw [e1]
  · have e0 : IntKind.i64.wrap (wtF n t (inP l t) (axS ax) j - wtF n t (inP l t) (axS ax) (j + 1)) = wF n t (inP l t) (mkF n (axS ax) j) := by
      rw [← hw]; exact wr64 (by omega) (by omega)
    simp only [e0, joinF_eq]
    simp (disch := omega) only [joinF_eq, bindO_some, s_wr, s_td, s_tm, s_pos, s_neg, cond_true, cond_false, Bool.not_true, Bool.not_false, Bool.true_and, Bool.and_true, Bool.false_and, Bool.and_false, bne_self_eq_false, decide_true, decide_false, Int.toNat_natCast]
    have e1 : tabL o (fun k => chS n t (inP l t) (inC l t) s (inV o vs) (axS ax) k (j + 1)) = tabL o (fun k => chS n t (inP l t) (inC l t) s (inV o vs) (axS ax) k j) := tabL_congr fun i h0 h1 => by
      rw [chS, c_zero g, Int.add_zero]
    rw [e1]
theorem raw_sum {β : Type} {K : List Int → Option β} {ax : List Int} (hax : AxOk n (inP l t) ax) :
    loopF (raw_l5 fu (((n : Int), ((o : Int), ((s : Int), vs))), (l, ())) (n : Int) ((n : Int), (partT l t n, (cellT l t n, ax))) K) fu (t, ((0 : Int), (List.replicate o (0 : Int), cellT l t n))) = K (tabL o (smF n t (inP l t) (inC l t) s (inV o vs) (2 ^ n))) := by
  have h' := h
  obtain ⟨n1, n4, o1, o8, s2, s9, sz, hv, vb, hl, bl, t1, t2, tt⟩ := h'
  have hp : ∀ k, k < n → 0 ≤ inP l t k ∧ inP l t k ≤ t := fun k hk => by have := (in_pc h hk).1; omega
  have es : tabL o (smF n t (inP l t) (inC l t) s (inV o vs) (2 ^ n)) = tabL o (fun q => chS n t (inP l t) (inC l t) s (inV o vs) (axS ax) q (n + 1)) := tabL_congr fun i _ _ => simplex hax.srt
  rw [es]
  have axl := hax.len
  have pl := partT_len (l := l) (t := t) (k := n)
  refine postLoop (f := raw_l5 fu (((n : Int), ((o : Int), ((s : Int), vs))), (l, ())) (n : Int) ((n : Int), (partT l t n, (cellT l t n, ax))) K) (fun x => ((n : Int) + 1 - x.2.1).toNat)
    (fun x => ∃ j : Nat, j ≤ n + 1 ∧ x.2.1 = j ∧ x.2.2.1 = tabL o (fun q => chS n t (inP l t) (inC l t) s (inV o vs) (axS ax) q j) ∧ (j ≤ n → x.1 = wtF n t (inP l t) (axS ax) j ∧ x.2.2.2.length = 4 ∧ ∀ k, k < n → x.2.2.2.getD k 0 = inC l t k + (chB (axS ax) j k : Int)))
    (fun r => r = K (tabL o (fun q => chS n t (inP l t) (inC l t) s (inV o vs) (axS ax) q (n + 1)))) ?_ fu _ ⟨0, Nat.zero_le _, rfl, ?_, fun _ => ⟨rfl, cellT_len, fun k hk => ?_⟩⟩ (by simp only; omega)
  · rintro j2 ⟨wt, _, out, cell⟩ ⟨j, hj, rfl, rfl, hr⟩
    simp only at hr
    by_cases c : j = n + 1
    · subst c
      refine .inr ?_
      unfold raw_l5
      simp (disch := omega) only [joinF_eq, bindO_some, s_wr, s_td, s_tm, s_pos, s_neg, cond_true, cond_false, Bool.not_true, Bool.not_false, Bool.true_and, Bool.and_true, Bool.false_and, Bool.and_false, bne_self_eq_false, decide_true, decide_false, Int.toNat_natCast]
    · have hj' : j ≤ n := by omega
      obtain ⟨rfl, hl4, hc⟩ := hr hj'
      have key : ∀ out : List Int, (∃ x' : Int × (Int × (List Int × List Int)), (∃ j : Nat, j ≤ n + 1 ∧ x'.2.1 = j ∧ x'.2.2.1 = tabL o (fun q => chS n t (inP l t) (inC l t) s (inV o vs) (axS ax) q j) ∧ (j ≤ n → x'.1 = wtF n t (inP l t) (axS ax) j ∧ x'.2.2.2.length = 4 ∧ ∀ k, k < n → x'.2.2.2.getD k 0 = inC l t k + (chB (axS ax) j k : Int))) ∧ ((n : Int) + 1 - x'.2.1).toNat < ((n : Int) + 1 - (j : Int)).toNat ∧
            raw_j8 fu (n : Int) ((n : Int), (partT l t n, (cellT l t n, ax))) (wtF n t (inP l t) (axS ax) j, ((j : Int), (out, cell))) (wtF n t (inP l t) (axS ax) (j + 1), (wtF n t (inP l t) (axS ax) j, (tabL o (fun q => chS n t (inP l t) (inC l t) s (inV o vs) (axS ax) q j), cell))) K (raw_j6 fu j2) (wtF n t (inP l t) (axS ax) j, tabL o (fun q => chS n t (inP l t) (inC l t) s (inV o vs) (axS ax) q (j + 1))) = j2 x') ∨
          raw_j8 fu (n : Int) ((n : Int), (partT l t n, (cellT l t n, ax))) (wtF n t (inP l t) (axS ax) j, ((j : Int), (out, cell))) (wtF n t (inP l t) (axS ax) (j + 1), (wtF n t (inP l t) (axS ax) j, (tabL o (fun q => chS n t (inP l t) (inC l t) s (inV o vs) (axS ax) q j), cell))) K (raw_j6 fu j2) (wtF n t (inP l t) (axS ax) j, tabL o (fun q => chS n t (inP l t) (inC l t) s (inV o vs) (axS ax) q (j + 1))) = K (tabL o (fun q => chS n t (inP l t) (inC l t) s (inV o vs) (axS ax) q (n + 1))) := by
        intro out
        by_cases g : j < n
        · have sj := hax.srt.lt j g
          have nj := hax.nn j g
          by_cases z : wtF n t (inP l t) (axS ax) (j + 1) = 0
          · refine .inr ?_
            unfold raw_j8
            simp (disch := omega) only [joinF_eq, bindO_some, s_wr, s_td, s_tm, s_pos, s_neg, cond_true, cond_false, Bool.not_true, Bool.not_false, Bool.true_and, Bool.and_true, Bool.false_and, Bool.and_false, bne_self_eq_false, decide_true, decide_false, Int.toNat_natCast]
            exact congrArg K (tabL_congr fun i _ _ => (chain_end hax.srt hp (by omega) z (n + 1) (by omega) (Nat.le_refl _)).symm)
          · have cj := hc (axS ax j) sj
            rw [chB_at hax.srt (by omega) g, if_neg (Nat.lt_irrefl _), show inC l t (axS ax j) + ((0 : Nat) : Int) = inC l t (axS ax j) by omega] at cj
            have cb := (in_pc h sj).2.1
            refine .inl ⟨(wtF n t (inP l t) (axS ax) (j + 1), (((j + 1 : Nat) : Int), (tabL o (fun q => chS n t (inP l t) (inC l t) s (inV o vs) (axS ax) q (j + 1)), cell.set (axS ax j) (inC l t (axS ax j) + 1)))), ⟨j + 1, by omega, rfl, rfl, fun _ => ⟨rfl, by simp only; rw [List.length_set]; exact hl4, fun k hk => ?_⟩⟩, by simp only; omega, ?_⟩
            · simp only
              rw [getD_set' (by omega)]
              obtain ⟨i, hi, rfl⟩ := hax.srt.sur k hk
              rw [hc _ hk, chB_at hax.srt (by omega) hi, chB_at hax.srt (by omega) hi]
              by_cases e : i = j
              · subst e
                rw [if_pos rfl, if_pos (by omega)]; rfl
              · rw [if_neg (fun e' => e (hax.srt.inj _ _ hi g e'))]
                by_cases e2 : i < j
                · rw [if_pos e2, if_pos (by omega)]
                · rw [if_neg e2, if_neg (by omega)]
            · unfold raw_j8
              simp (disch := omega) only [joinF_eq, bindO_some, s_wr, s_td, s_tm, s_pos, s_neg, cond_true, cond_false, Bool.not_true, Bool.not_false, Bool.true_and, Bool.and_true, Bool.false_and, Bool.and_false, bne_self_eq_false, decide_true, decide_false, Int.toNat_natCast]
              have e9 : (ax.getD j 0).toNat = axS ax j := rfl
              rw [e9, cj]
              unfold raw_j6
              simp (disch := omega) only [joinF_eq, bindO_some, s_wr, s_td, s_tm, s_pos, s_neg, cond_true, cond_false, Bool.not_true, Bool.not_false, Bool.true_and, Bool.and_true, Bool.false_and, Bool.and_false, bne_self_eq_false, decide_true, decide_false, Int.toNat_natCast]
              rfl
        · have e : j = n := by omega
          subst e
          refine .inl ⟨(wtF j t (inP l t) (axS ax) j, (((j + 1 : Nat) : Int), (tabL o (fun q => chS j t (inP l t) (inC l t) s (inV o vs) (axS ax) q (j + 1)), cell))), ⟨j + 1, by omega, rfl, rfl, fun h => absurd h (by omega)⟩, by simp only; omega, ?_⟩
          unfold raw_j8
          simp (disch := omega) only [joinF_eq, bindO_some, s_wr, s_td, s_tm, s_pos, s_neg, cond_true, cond_false, Bool.not_true, Bool.not_false, Bool.true_and, Bool.and_true, Bool.false_and, Bool.and_false, bne_self_eq_false, decide_true, decide_false, Int.toNat_natCast]
          unfold raw_j6
          simp (disch := omega) only [joinF_eq, bindO_some, s_wr, s_td, s_tm, s_pos, s_neg, cond_true, cond_false, Bool.not_true, Bool.not_false, Bool.true_and, Bool.and_true, Bool.false_and, Bool.and_false, bne_self_eq_false, decide_true, decide_false, Int.toNat_natCast]
          rfl
      unfold raw_l5
      by_cases g : j < n
      · have nj := hax.nn j g
        have sj := hax.srt.lt j g
        have pj := partT_at (l := l) (t := t) (k := n) (i := axS ax j) sj (by omega)
        have ew : wtF n t (inP l t) (axS ax) (j + 1) = inP l t (axS ax j) := by rw [wtF, if_pos g]
        have rh := fun out => raw_head h hf (K := K) (j8 := j2) hax hj' hl4 hc (wt := wtF n t (inP l t) (axS ax) j) (out := out)
        have kk := key (tabL o (fun q => chS n t (inP l t) (inC l t) s (inV o vs) (axS ax) q j))
        rw [ew] at rh kk
        simp (disch := omega) only [joinF_eq, bindO_some, s_wr, s_td, s_tm, s_pos, s_neg, cond_true, cond_false, Bool.not_true, Bool.not_false, Bool.true_and, Bool.and_true, Bool.false_and, Bool.and_false, bne_self_eq_false, decide_true, decide_false, Int.toNat_natCast]
        have e9 : (ax.getD j 0).toNat = axS ax j := rfl
        rw [e9, pj, rh]
        exact kk
      · have ew : wtF n t (inP l t) (axS ax) (j + 1) = 0 := by rw [wtF, if_neg g]
        have rh := fun out => raw_head h hf (K := K) (j8 := j2) hax hj' hl4 hc (wt := wtF n t (inP l t) (axS ax) j) (out := out)
        have kk := key (tabL o (fun q => chS n t (inP l t) (inC l t) s (inV o vs) (axS ax) q j))
        rw [ew] at rh kk
        simp (disch := omega) only [joinF_eq, bindO_some, s_wr, s_td, s_tm, s_pos, s_neg, cond_true, cond_false, Bool.not_true, Bool.not_false, Bool.true_and, Bool.and_true, Bool.false_and, Bool.and_false, bne_self_eq_false, decide_true, decide_false, Int.toNat_natCast]
        rw [rh]
        exact kk
  · exact (tabL_rep fun i _ _ => rfl).symm
  · simp only
    rw [cellT_at hk (by omega)]
    have : chB (axS ax) 0 k = 0 := by
      unfold chB
      rw [if_neg]
      rintro ⟨i, hi, _⟩
      exact absurd hi (Nat.not_lt_zero _)
    rw [this]; simp
/-- the sort and the sum -/
theorem raw_all {β : Type} {K : List Int → Option β} : loopF (raw_l1 K fu (((n : Int), ((o : Int), ((s : Int), vs))), (l, ())) t (n : Int)) fu ((0 : Int), ([0, 0, 0, 0], ([0, 0, 0, 0], [0, 0, 0, 0]))) = K (tabL o (smF n t (inP l t) (inC l t) s (inV o vs) (2 ^ n))) := by
  have h' := h
  obtain ⟨n1, n4, o1, o8, s2, s9, sz, hv, vb, hl, bl, t1, t2, tt⟩ := h'
  refine postLoop (f := raw_l1 K fu (((n : Int), ((o : Int), ((s : Int), vs))), (l, ())) t (n : Int)) (fun x => ((n : Int) - x.1).toNat)
    (fun x => ∃ (k : Nat) (ax : List Int), k ≤ n ∧ AxOk k (inP l t) ax ∧ x = ((k : Int), (partT l t k, (cellT l t k, ax)))) (fun r => r = K (tabL o (smF n t (inP l t) (inC l t) s (inV o vs) (2 ^ n)))) ?_ fu _ ⟨0, [0, 0, 0, 0], Nat.zero_le _, ⟨rfl, fun i hi => absurd hi (Nat.not_lt_zero _), fun i hi => absurd hi (Nat.not_lt_zero _), fun i j hi => absurd hi (Nat.not_lt_zero _), fun k hk => absurd hk (Nat.not_lt_zero _), fun i j _ hj => absurd hj (Nat.not_lt_zero _)⟩, rfl⟩ (by simp only; omega)
  rintro j _ ⟨k, ax, hk, hax, rfl⟩
  have pl := partT_len (l := l) (t := t) (k := k)
  have cl := cellT_len (l := l) (t := t) (k := k)
  by_cases c : k < n
  · obtain ⟨ax', g1, g2⟩ := raw_ins h hf (j := j) c hax
    refine .inl ⟨_, ⟨k + 1, ax', by omega, g1, rfl⟩, by simp only; omega, ?_⟩
    rw [← g2]
    unfold raw_l1
    simp (disch := omega) only [joinF_eq, bindO_some, s_wr, s_td, s_tm, s_pos, s_neg, cond_true, cond_false, Bool.not_true, Bool.not_false, Bool.true_and, Bool.and_true, Bool.false_and, Bool.and_false, bne_self_eq_false, decide_true, decide_false, Int.toNat_natCast]
  · have e : k = n := by omega
    subst e
    refine .inr ?_
    unfold raw_l1
    simp (disch := omega) only [joinF_eq, bindO_some, s_wr, s_td, s_tm, s_pos, s_neg, cond_true, cond_false, Bool.not_true, Bool.not_false, Bool.true_and, Bool.and_true, Bool.false_and, Bool.and_false, bne_self_eq_false, decide_true, decide_false, Int.toNat_natCast]
    exact raw_sum h hf hax
end
end Go.Proofs.Ytjhdjjoacedlpaa
/- Numbers: what the small functions compute. -/
namespace Go.Proofs.Ytjhdjjoacedlpaa
open Go Go.RowKit
set_option linter.unusedSimpArgs false
set_option linter.unusedSectionVars false
set_option linter.unusedVariables false

theorem floor_s (fu : Nat) {n d : Int} (hd : 0 < d) (h1 : d ≤ 9223372036854775807) (h2 : -9223372036854775808 ≤ n) (h3 : n ≤ 9223372036854775807) : R_Floor_r fu (n, (d, ())) = some (n / d, ()) := by
  unfold R_Floor_r
  simp only [joinF_eq]
  rw [bif_pos (by omega)]
  have hm := Int.tmod_add_mul_tdiv n d
  have hm1 := Int.natAbs_tmod n d
  have h4 : n.tdiv d * d = n - n.tmod d := by rw [Int.mul_comm]; omega
  have h5 : (n.tmod d).natAbs ≤ n.natAbs := by rw [hm1]; exact Nat.mod_le _ _
  have hb : -9223372036854775808 ≤ n.tdiv d * d ∧ n.tdiv d * d ≤ 9223372036854775807 := by
    rcases Int.le_total 0 n with hn | hn
    · have := Int.tmod_nonneg d hn; omega
    · have := Int.tmod_nonneg (a := -n) d (by omega)
      rw [Int.neg_tmod] at this
      omega
  obtain ⟨b1, b2⟩ := hb
  have hq := Int.natAbs_tdiv n d
  have hq' : (n.tdiv d).natAbs ≤ n.natAbs := by rw [hq]; exact Nat.div_le_self _ _
  have hq3 : n.tdiv d ≤ 9223372036854775807 := by
    rcases Int.le_total 0 n with hn | hn
    · omega
    · have := Int.tdiv_nonneg (a := -n) (b := d) (by omega) (by omega)
      rw [Int.neg_tdiv] at this
      omega
  rw [wr64 (x := n.tdiv d) (by omega) hq3, wr64 (x := n.tdiv d * d) b1 b2]
  by_cases hc : n < n.tdiv d * d
  · have hlow : -9223372036854775807 ≤ n.tdiv d := by
      rcases Int.lt_or_le d 2 with g | g
      · obtain rfl : d = 1 := by omega
        rw [Int.tdiv_one] at hc
        omega
      · have h6 : (n.tdiv d).natAbs ≤ n.natAbs / 2 := by
          rw [hq]
          exact Nat.div_le_div_left (by omega) (by omega)
        omega
    rw [bif_pos hc, wr64 (x := n.tdiv d - 1) (by omega) (by omega), tdiv_over hd hc]; rfl
  · rw [bif_neg hc, tdiv_under hd (by omega)]; rfl
theorem floor_mul' {n d : Int} (hd : 0 < d) : n / d * d ≤ n ∧ n < n / d * d + d := by
  have h1 := Int.mul_ediv_add_emod n d
  have h2 := Int.emod_nonneg n (by omega : d ≠ 0)
  have h3 := Int.emod_lt_of_pos n hd
  rw [Int.mul_comm] at h1
  omega
theorem round_s (fu : Nat) {n d : Int} (hd : 0 < d) (h1 : d ≤ 1000000000000000) (h2 : -1000000000000000000 ≤ n) (h3 : n ≤ 1000000000000000000) : R_Round_r fu (n, (d, ())) = some (rnd n d, ()) := by
  unfold R_Round_r
  simp only
  rw [floor_s fu hd (by omega) (by omega) (by omega)]
  simp only [bindO_some, joinF_eq]
  obtain ⟨b1, b2⟩ := floor_mul' (n := n) hd
  have hq : -1000000000000000001 ≤ n / d ∧ n / d ≤ 1000000000000000000 := by
    constructor
    · rcases Int.lt_or_le (n / d) 0 with g | g
      · have : n / d * d ≤ n / d * 1 := Int.mul_le_mul_of_nonpos_left (by omega) (by omega)
        have h4 : n / d * d - n / d * 1 ≤ 0 := by omega
        have h5 : (n / d + 1) * d ≤ (n / d + 1) * 1 := Int.mul_le_mul_of_nonpos_left (by omega) (by omega)
        rw [Int.add_mul] at h5
        omega
      · omega
    · rcases Int.lt_or_le (n / d) 1 with g | g
      · omega
      · have : n / d * 1 ≤ n / d * d := Int.mul_le_mul_of_nonneg_left (by omega) (by omega)
        omega
  rw [wr64 (x := n / d * d) (by omega) (by omega), wr64 (x := n - n / d * d) (by omega) (by omega), wr64 (x := 2 * (n - n / d * d)) (by omega) (by omega)]
  by_cases hc : d ≤ 2 * (n - n / d * d)
  · rw [bif_pos hc, wr64 (x := n / d + 1) (by omega) (by omega), rnd_up hd hc]; rfl
  · rw [bif_neg hc, rnd_down hd (by omega)]; rfl
theorem nearest_s (fu : Nat) {n d : Int} (hd : 0 < d) (h1 : d ≤ 1000000000000000) (h2 : -1000000000000000000 ≤ n) (h3 : n ≤ 1000000000000000000) : curve_Nearest_r fu (n, (d, ())) = some (rnd n d, ()) := by
  obtain ⟨g1, g2⟩ := tdiv_abs (n := 2 * n + d) (m := 2002000000000000000) (2 * d) (by omega) (by omega)
  unfold curve_Nearest_r rnd
  simp only [joinF_eq]
  rw [wr64 (x := 2 * n) (by omega) (by omega), wr64 (x := 2 * n + d) (by omega) (by omega), wr64 (x := 2 * d) (by omega) (by omega), bif_pos (by omega), bif_pos (by omega), wr64 (x := (2 * n + d).tdiv (2 * d)) (by omega) (by omega)]
  by_cases hc : (2 * n + d).tmod (2 * d) < 0
  · rw [bif_pos hc, wr64 (x := (2 * n + d).tdiv (2 * d) - 1) (by omega) (by omega), tdiv_neg (by omega) hc]; rfl
  · rw [bif_neg hc, tdiv_pos (by omega) (by omega)]; rfl
end Go.Proofs.Ytjhdjjoacedlpaa
/- Device links: Convert interpolates and rounds once; the law DevicelinkConversions. -/
namespace Go.Proofs.Ytjhdjjoacedlpaa
open Go Go.RowKit
set_option linter.unusedSimpArgs false
set_option linter.unusedSectionVars false
set_option linter.unusedVariables false
theorem wf_len {n : Nat} (h : n ≤ maxLen) : (n : Int) ≤ 9223372036854775807 := by unfold maxLen at h; omega
theorem dl_raw (fu : Nat) (a : (Int × (Int × (Int × List Int))) × (List Int × Unit)) (v0 : Int × List Int) (v1 v2 : Int) : devicelink_Quick_l2 fu a v0 v1 v2 = raw_l1 (devicelink_Quick_j5 fu a) fu (a.1, (v0.2, ())) v1 v2 := rfl
theorem dl_sc (fu : Nat) (a : (Int × (Int × (Int × List Int))) × (List Int × Unit)) (v0 : Int × List Int) (v1 : Int) : R_Linked_l2 fu a v0 v1 = sc_l2 (fun v2 => loopF (R_Linked_l7 fu a v2) fu (((0 : Int), v2.2))) fu (a.1, (v0.2, ())) v1 := rfl
/-- the fine tones -/
def fineL (l : List Int) : List Int := tabL l.length fun q => 256 * l.getD q.toNat 0
theorem fineL_len (l : List Int) : (fineL l).length = l.length := tabL_length _ _
theorem fineL_at {l : List Int} {k : Nat} (hk : k < l.length) : (fineL l).getD k 0 = 256 * l.getD k 0 := by
  unfold fineL
  rw [tabL_getDN hk, Int.toNat_natCast]
section
variable {n o s : Nat} {vs l : List Int} {t : Int} (h : InOk n o s vs (fineL l) t) {fu : Nat} (hf : 18446744073709551616 ≤ fu) (hb : ∀ k, k < l.length → 0 ≤ l.getD k 0 ∧ l.getD k 0 ≤ 255)
include h
theorem dl_bd {q : Nat} (hq : q < o) : -1000000000000 ≤ smF n t (inP (fineL l) t) (inC (fineL l) t) s (inV o vs) (2 ^ n) q ∧ smF n t (inP (fineL l) t) (inC (fineL l) t) s (inV o vs) (2 ^ n) q ≤ 1000000000000 := by
  have a := sm_bd h hq (2 ^ n)
  have : 2 ^ n ≤ 16 := Nat.pow_le_pow_right (by decide) h.n4
  generalize 2 ^ n = N at *
  omega
include hf hb
theorem dquick_r : devicelink_Quick_r fu (((n : Int), ((o : Int), ((s : Int), vs))), (l, ())) = some (tabL o (fun q => rnd (smF n t (inP (fineL l) t) (inC (fineL l) t) s (inV o vs) (2 ^ n) q) (256 * t)), ()) := by
  have h' := h
  obtain ⟨n1, n4, o1, o8, s2, s9, sz, hv, vb, hl, bl, t1, t2, tt⟩ := h'
  rw [fineL_len] at hl
  have ht : (65280 : Int) / ((s : Int) - 1) = t := Int.ediv_eq_of_eq_mul_left (by omega) tt.symm
  unfold devicelink_Quick_r
  simp only
  rw [bif_and (by omega) (by omega), Int.toNat_natCast]
  refine stLoop (n := l.length) (st := fun k : Nat => ((k : Int), tabL l.length (fun q => if q < (k : Int) then 256 * l.getD q.toNat 0 else 0))) (by omega) ?_ (fun j k hk => ?_) (fun j => ?_)
  · refine Prod.ext rfl ?_
    show (tabL l.length fun q => if q < ((0 : Nat) : Int) then 256 * l.getD q.toNat 0 else 0) = List.replicate l.length 0
    exact tabL_rep fun q h0 h1 => by rw [if_neg (by omega)]
  · have := hb k hk
    unfold devicelink_Quick_l1
    simp only [Int.toNat_natCast, tabL_length]
    rw [bif_pos (by omega), bif_and (by omega) (by omega), bif_and (by omega) (by omega), s_wr (by omega) (by omega), s_wr (by omega) (by omega), tabP_set (A := fun q => 256 * l.getD q.toNat 0) (B := fun _ => 0) hk (by simp only [Int.toNat_natCast])]
    rfl
  · have e1 : (tabL l.length fun q => if q < ((l.length : Nat) : Int) then 256 * l.getD q.toNat 0 else 0) = fineL l := tabL_congr fun i h0 h1 => by rw [if_pos h1]
    unfold devicelink_Quick_l1
    simp only [e1]
    rw [bif_neg (by omega), s_wr (by omega) (by omega), bif_pos (by omega), s_td (by omega), ht, s_wr (by omega) (by omega), dl_raw]
    simp only
    rw [raw_all h hf]
    unfold devicelink_Quick_j5
    have sb : ∀ q, q < o → _ := fun q hq => dl_bd h (q := q) hq
    generalize hS : smF n t (inP (fineL l) t) (inC (fineL l) t) s (inV o vs) (2 ^ n) = S at *
    refine stLoop (n := o) (st := fun q => ((q : Int), tabL o (fun k => if k < (q : Int) then rnd (S k) (256 * t) else S k))) (by omega) ?_ (fun j' q hq => ?_) (fun j' => ?_)
    · exact Prod.ext rfl (tabP_zero (A := fun k => rnd (S k) (256 * t)) (B := S))
    · have := sb q hq
      unfold devicelink_Quick_l6
      simp only [Int.toNat_natCast, tabL_length, tabP_get hq]
      rw [bif_pos (by omega), bif_and (by omega) (by omega), s_wr (x := (s : Int) - 1) (by omega) (by omega), bif_pos (by omega), s_td (by omega), ht, s_wr (x := t) (by omega) (by omega), s_wr (x := 256 * t) (by omega) (by omega), nearest_s fu (by omega) (by omega) (by omega) (by omega)]
      simp only [bindO_some]
      rw [bif_and (by omega) (by omega), s_wr (by omega) (by omega), tabP_set hq rfl]
      rfl
    · unfold devicelink_Quick_l6
      simp only [tabL_length]
      rw [bif_neg (by omega)]
      have e1 : (tabL o fun k => if k < ((o : Nat) : Int) then rnd (S k) (256 * t) else S k) = tabL o (fun k => rnd (S k) (256 * t)) := tabL_congr fun i h0 h1 => by rw [if_pos h1]
      rw [e1]
theorem linked_r : R_Linked_r fu (((n : Int), ((o : Int), ((s : Int), vs))), (l, ())) = some (tabL o (fun q => rnd (smF n t (inP (fineL l) t) (inC (fineL l) t) s (inV o vs) (2 ^ n) q) (256 * t)), ()) := by
  have h' := h
  obtain ⟨n1, n4, o1, o8, s2, s9, sz, hv, vb, hl, bl, t1, t2, tt⟩ := h'
  rw [fineL_len] at hl
  have ht : (65280 : Int) / ((s : Int) - 1) = t := Int.ediv_eq_of_eq_mul_left (by omega) tt.symm
  unfold R_Linked_r
  simp only
  rw [bif_and (by omega) (by omega), Int.toNat_natCast]
  refine stLoop (n := l.length) (st := fun k : Nat => ((k : Int), tabL l.length (fun q => if q < (k : Int) then 256 * l.getD q.toNat 0 else 0))) (by omega) ?_ (fun j k hk => ?_) (fun j => ?_)
  · refine Prod.ext rfl ?_
    show (tabL l.length fun q => if q < ((0 : Nat) : Int) then 256 * l.getD q.toNat 0 else 0) = List.replicate l.length 0
    exact tabL_rep fun q h0 h1 => by rw [if_neg (by omega)]
  · have := hb k hk
    unfold R_Linked_l1
    simp only [Int.toNat_natCast, tabL_length]
    rw [bif_pos (by omega), bif_and (by omega) (by omega), bif_and (by omega) (by omega), s_wr (by omega) (by omega), s_wr (by omega) (by omega), tabP_set (A := fun q => 256 * l.getD q.toNat 0) (B := fun _ => 0) hk (by simp only [Int.toNat_natCast])]
    rfl
  · have e1 : (tabL l.length fun q => if q < ((l.length : Nat) : Int) then 256 * l.getD q.toNat 0 else 0) = fineL l := tabL_congr fun i h0 h1 => by rw [if_pos h1]
    unfold R_Linked_l1
    simp only [e1]
    rw [bif_neg (by omega), s_wr (by omega) (by omega), bif_pos (by omega), s_td (by omega), ht, s_wr (by omega) (by omega), bif_and (by omega) (by omega), bif_and (by omega) (by omega), Int.toNat_natCast, dl_sc]
    simp only
    rw [sc_all h hf]
    have sb : ∀ q, q < o → _ := fun q hq => dl_bd h (q := q) hq
    generalize hS : smF n t (inP (fineL l) t) (inC (fineL l) t) s (inV o vs) (2 ^ n) = S at *
    refine stLoop (n := o) (st := fun q => ((q : Int), tabL o (fun k => if k < (q : Int) then rnd (S k) (256 * t) else S k))) (by omega) ?_ (fun j' q hq => ?_) (fun j' => ?_)
    · exact Prod.ext rfl (tabP_zero (A := fun k => rnd (S k) (256 * t)) (B := S))
    · have := sb q hq
      unfold R_Linked_l7
      simp only [Int.toNat_natCast, tabL_length, tabP_get hq]
      rw [bif_pos (by omega), bif_and (by omega) (by omega), s_wr (x := (s : Int) - 1) (by omega) (by omega), bif_pos (by omega), s_td (by omega), ht, s_wr (x := t) (by omega) (by omega), s_wr (x := 256 * t) (by omega) (by omega), round_s fu (by omega) (by omega) (by omega) (by omega)]
      simp only [bindO_some]
      rw [bif_and (by omega) (by omega), s_wr (by omega) (by omega), tabP_set hq rfl]
      rfl
    · unfold R_Linked_l7
      simp only [tabL_length]
      rw [bif_neg (by omega)]
      have e1 : (tabL o fun k => if k < ((o : Nat) : Int) then rnd (S k) (256 * t) else S k) = tabL o (fun k => rnd (S k) (256 * t)) := tabL_congr fun i h0 h1 => by rw [if_pos h1]
      rw [e1]
end
/-! ### the law -/
def inE (g : GrT) (l : List Int) : Int := if grE g = 0 then tonesE l g.1 65280 else grE g
def lkE (g : GrT) : Int := if grE g = 0 then tonesE g.2.2.2 g.2.2.2.length 65280 else grE g
section
variable {fu : Nat} (hf : 18446744073709551616 ≤ fu) {i o s : Int} {vs l : List Int} (hv : (vs.length : Int) ≤ 9223372036854775807) (hl : (l.length : Int) ≤ 9223372036854775807)
theorem in_ok (h : inE (i, (o, (s, vs))) l = 0) : ∃ n' o' s' : Nat, i = n' ∧ o = o' ∧ s = s' ∧ InOk n' o' s' vs l (65280 / ((s' : Int) - 1)) := by
  unfold inE at h
  by_cases c : grE (i, (o, (s, vs))) = 0
  · rw [if_pos c] at h
    obtain ⟨ok, ok2, ok3, ok4⟩ := grE_ok c
    obtain ⟨l1, l2⟩ := tones_ok h
    unfold shOk at ok
    obtain ⟨n, rfl⟩ := Int.eq_ofNat_of_zero_le (show 0 ≤ i by omega)
    obtain ⟨o, rfl⟩ := Int.eq_ofNat_of_zero_le (show 0 ≤ o by omega)
    obtain ⟨s, rfl⟩ := Int.eq_ofNat_of_zero_le (show 0 ≤ s by omega)
    have e : (s : Int) ^ ((n : Int)).toNat * (o : Int) = ((s ^ n * o : Nat) : Int) := by rw [Int.toNat_natCast, Int.natCast_mul, Int.natCast_pow]
    rw [e] at ok2 ok3
    have ts : s = 2 ∨ s = 3 ∨ s = 4 ∨ s = 5 ∨ s = 6 ∨ s = 7 ∨ s = 9 := by omega
    refine ⟨n, o, s, rfl, rfl, rfl, ⟨by omega, by omega, by omega, by omega, by omega, by omega, by omega, by omega, ok4, by omega, fun k hk => l2 k (by omega), ?_, ?_, ?_⟩⟩
    · rcases ts with h | h | h | h | h | h | h <;> subst h <;> decide
    · rcases ts with h | h | h | h | h | h | h <;> subst h <;> decide
    · rcases ts with h | h | h | h | h | h | h <;> subst h <;> decide
  · rw [if_neg c] at h; omega
theorem fine_ok {n : Int} (h : tonesE l n 255 = 0) : tonesE (fineL l) n 65280 = 0 := by
  obtain ⟨h1, h2⟩ := tones_ok h
  unfold tonesE
  rw [fineL_len, if_pos h1]
  refine firstE_all _ _ fun k _ hk => ?_
  unfold tnE
  rw [fineL_at (by omega)]
  have := h2 k (by omega)
  rw [if_pos (by omega)]
include hf
theorem ptones_r (hl : (l.length : Int) ≤ 9223372036854775807) {n : Int} : profile_Tones_r fu (l, (n, ())) = some (tonesE l n 255, ()) := by
  unfold profile_Tones_r tonesE
  simp only
  by_cases c : (l.length : Int) = n
  · rw [if_pos c, bif_neg (fun g => g c), errLoop (n := l.length) (E := tnE l 255) (out := fun e => some (e, ())) (fin := some (0, ())) (by omega)]
    · split
      · rename_i e; rw [e]
      · rfl
    · intro j k hk
      unfold profile_Tones_l1 profile_Tones_j2 tnE
      simp only [joinF_eq, Int.toNat_natCast]
      rw [bif_pos (by omega), bif_and (by omega) (by omega)]
      by_cases g1 : l.getD k 0 < 0
      · have e : (if 0 ≤ l.getD k 0 ∧ l.getD k 0 ≤ 255 then (0 : Int) else 3) = 3 := if_neg (by omega)
        rw [bif_pos g1, e]; rfl
      · rw [bif_neg g1]
        by_cases g2 : 255 < l.getD k 0
        · have e : (if 0 ≤ l.getD k 0 ∧ l.getD k 0 ≤ 255 then (0 : Int) else 3) = 3 := if_neg (by omega)
          rw [s_pos g2, e]; rfl
        · have e : (if 0 ≤ l.getD k 0 ∧ l.getD k 0 ≤ 255 then (0 : Int) else 3) = 0 := if_pos (by omega)
          rw [s_neg g2, e, if_pos rfl]
          simp only [cond_false]
          rw [s_wr (by omega) (by omega)]
    · intro j
      unfold profile_Tones_l1
      rw [bif_neg (by simp only; omega)]
  · rw [if_neg c, bif_pos c]
include hv
theorem dcheck_r : devicelink_Check_r fu ((i, (o, (s, vs))), ()) = some (lkE (i, (o, (s, vs))), ()) := by
  unfold devicelink_Check_r lkE
  simp only
  rw [check_r hf hv]
  simp only [bindO_some]
  by_cases c : grE (i, (o, (s, vs))) = 0
  · rw [bif_neg (fun g => g c), if_pos c]
    unfold tonesE
    rw [if_pos rfl, errLoop (n := vs.length) (E := tnE vs 65280) (out := fun e => some (e, ())) (fin := some (0, ())) (by omega)]
    · split
      · rename_i e; rw [e]
      · rfl
    · intro j k hk
      unfold devicelink_Check_l1 devicelink_Check_j2 tnE
      simp only [joinF_eq, Int.toNat_natCast]
      rw [bif_pos (by omega), bif_and (by omega) (by omega)]
      by_cases g1 : vs.getD k 0 < 0
      · have e : (if 0 ≤ vs.getD k 0 ∧ vs.getD k 0 ≤ 65280 then (0 : Int) else 3) = 3 := if_neg (by omega)
        rw [bif_pos g1, e]; rfl
      · rw [bif_neg g1]
        by_cases g2 : 65280 < vs.getD k 0
        · have e : (if 0 ≤ vs.getD k 0 ∧ vs.getD k 0 ≤ 65280 then (0 : Int) else 3) = 3 := if_neg (by omega)
          rw [s_pos g2, e]; rfl
        · have e : (if 0 ≤ vs.getD k 0 ∧ vs.getD k 0 ≤ 65280 then (0 : Int) else 3) = 0 := if_pos (by omega)
          rw [s_neg g2, e, if_pos rfl]
          simp only [cond_false]
          rw [s_wr (by omega) (by omega)]
    · intro j
      unfold devicelink_Check_l1
      rw [bif_neg (by simp only; omega)]
  · rw [bif_pos c, if_neg c]
theorem linkErr_r : R_LinkErr_r fu ((i, (o, (s, vs))), ()) = some (lkE (i, (o, (s, vs))), ()) := by
  unfold R_LinkErr_r lkE
  simp only
  rw [gridErr_r hf hv]
  simp only [bindO_some]
  by_cases c : grE (i, (o, (s, vs))) = 0
  · rw [bif_neg (fun g => g c), if_pos c, tonesErr_r hf hv]; rfl
  · rw [bif_pos c, if_neg c]
include hl
theorem conversions_r (hW : law_devicelinkWorks_r fu () = some (true, ())) : law_DevicelinkConversions_r fu ((i, (o, (s, vs))), (l, ())) = some (true, ()) := by
  unfold law_DevicelinkConversions_r law_DevicelinkConversions_j1 devicelink_Convert_r
  simp only
  rw [hW, dcheck_r hf hv, linkErr_r hf hv]
  simp only [bindO_some, Bool.not_true, cond_false, joinF_eq]
  have e0 : decide (lkE (i, (o, (s, vs))) ≠ lkE (i, (o, (s, vs)))) = false := s_neg fun g => g rfl
  simp only [e0, cond_false]
  by_cases c : lkE (i, (o, (s, vs))) = 0
  · have e1 : decide (lkE (i, (o, (s, vs))) ≠ 0) = false := s_neg fun g => g c
    have e2 : decide (lkE (i, (o, (s, vs))) = 0) = true := s_pos c
    simp only [e1, e2, cond_false, cond_true]
    rw [ptones_r hf hl, tonesErr_r hf hl]
    simp only [bindO_some]
    by_cases c2 : tonesE l i 255 = 0
    · have e3 : decide (tonesE l i 255 ≠ 0) = false := s_neg fun g => g c2
      simp only [e3, cond_false]
      have cg : grE (i, (o, (s, vs))) = 0 := by
        unfold lkE at c
        by_cases g : grE (i, (o, (s, vs))) = 0
        · exact g
        · rw [if_neg g] at c; exact absurd c g
      have hin : inE (i, (o, (s, vs))) (fineL l) = 0 := by
        unfold inE
        rw [if_pos cg]
        exact fine_ok c2
      obtain ⟨n', o', s', rfl, rfl, rfl, hI⟩ := in_ok hin
      have hb := (tones_ok c2).2
      rw [dquick_r hI hf hb, linked_r hI hf hb]
      simp only [bindO_some]
      rw [bif_pos trivial, sameI_r hf (by rw [tabL_length]; have := hI.o8; omega)]
      rfl
    · have e3 : decide (tonesE l i 255 ≠ 0) = true := s_pos c2
      simp only [e3, cond_true, bindO_some]
      rw [none_s]
      simp [bindO_some]
  · have e1 : decide (lkE (i, (o, (s, vs))) ≠ 0) = true := s_pos c
    have e2 : decide (lkE (i, (o, (s, vs))) = 0) = false := s_neg c
    simp only [e1, e2, cond_false, cond_true, bindO_some]
    rw [none_s]
    simp [bindO_some]
end
end Go.Proofs.Ytjhdjjoacedlpaa
/- The step from a walk to a law's row, once for all laws of the seat: a law that returns true and leaves all that was there as it was. -/
namespace Go.Proofs.Ytjhdjjoacedlpaa
open Go.ChangeShapes Go.WideShapes Go.ChangeAt Go.RowKit

theorem own : ownKnob Try.prog.godebug = none := by kernel_rfl
theorem laidOut : laidOutB Try.prog = true := by kernel_rfl
theorem boolT : Try.prog.underlying 4 = some .bool := Try.underlying4

theorem trodAll_stays {H : Type} {enc : TypeId × Value → H} {P : Program} (hl : laidOutB P = true) {W W' : World} (hb : Below W.heap.size W W') :
    ∀ {ts : List TypeId} {vs : List Value} {ds : List (DataW H)} {ps : List MemPlace}, (∀ t ∈ ts, P.readableRec t = true ∧ t < P.types.size) → DataW.TrodAll enc P W 0 (fun _ => true) true ts vs ds ps →
      (∀ x ∈ ps, x.block < W.heap.size) → DataW.TrodAll enc P W' 0 (fun b => decide (b < W.heap.size)) true ts vs ds ps
  | [], [], [], _, _, h, _ => h
  | t :: ts, v :: vs, d :: ds, _, hr, ⟨p, q, h1, h2, e⟩, hlt =>
    ⟨p, q, Below.trod hl (hr t (by simp)).1 (hr t (by simp)).2 h1 hb (fun x hx => hlt x (by rw [e]; simp [hx])),
      trodAll_stays hl hb (fun t' ht => hr t' (by simp [ht])) h2 (fun x hx => hlt x (by rw [e]; simp [hx])), e⟩
  | [], [], _ :: _, _, _, h, _ => h.elim
  | [], _ :: _, _, _, _, h, _ => h.elim
  | _ :: _, [], _, _, _, h, _ => h.elim
  | _ :: _, _ :: _, [], _, _, h, _ => h.elim

/-- what a law's row asks of the readable types among its parameters -/
def readsAll (P : Program) (ts : List TypeId) : Bool := ts.all fun t => P.readableRec t && decide (t < P.types.size)
theorem readsAll_all {P : Program} {ts : List TypeId} (h : readsAll P ts = true) : ∀ t ∈ ts, P.readableRec t = true ∧ t < P.types.size := by
  intro t ht
  have := List.all_eq_true.1 h t ht
  simpa using this

theorem trodAll_length {H : Type} {enc : TypeId × Value → H} {P : Program} {W : World} {base : Nat} {spare : Nat → Bool} {held : Bool} :
    ∀ {ts : List TypeId} {vs : List Value} {ds : List (DataW H)} {ps : List MemPlace}, DataW.TrodAll enc P W base spare held ts vs ds ps → ds.length = ts.length
  | [], [], [], _, _ => rfl
  | _ :: _, _ :: _, _ :: _, _, ⟨_, _, _, h2, _⟩ => by simp [trodAll_length h2]
  | [], [], _ :: _, _, h => h.elim
  | [], _ :: _, _, _, h => h.elim
  | _ :: _, [], _, _, h => h.elim
  | _ :: _, _ :: _, [], _, h => h.elim

set_option maxRecDepth 100000 in
theorem law_lifted {os : Os} (started : os.Started) {H : Type} {enc : TypeId × Value → H} {f : FuncId} {fn : Func} {s : ChangeSpec}
    (noInit : Try.checked.prog.inits.idxOf? f = none) (hfn : Try.checked.prog.funcs[f]? = some fn)
    (witness : ∃ (w : World) (tape : Tape) (i : Input), w.os = os ∧ (w.forCall tape i).Shaped Try.checked.prog ∧ i.vars = [] ∧ Input.okWide Try.checked.prog (w.forCall tape i) .any w.heap.size f i ∧
      s.pre6 enc Try.checked.prog fn [] false (w.forCall tape i).memory i.args ∧ ({} : Assume).holds Try.checked.prog (lone (Frame.enter Try.checked.prog f i.args .normal) [] (w.forCall tape i)))
    (hvars : s.vars = []) (hres : fn.resultTypes = #[4]) (hread : readsAll Try.prog fn.params.toList = true)
    (hspec : ∀ ds : List (DataW H), ds.length = fn.params.toList.length → s.fn H ds = { results := [.lit (.bool true)], args := ds })
    (walk : ∀ (W : World) (base : Nat) (args : List Value) (ds : List (DataW H)) (ps : List MemPlace),
      (∀ (j : Nat) t v, fn.params[j]? = some t → args[j]? = some v → Value.okWide Try.prog W .any base t v) → DataW.TrodAll enc Try.prog W 0 (fun _ => true) true fn.params.toList args ds ps →
      (DataW.weightsEach Try.prog fn.params.toList ds).all (· ≤ reachBytes) = true → (∀ x ∈ ps, x.block < W.heap.size) →
      Calls Try.prog f args.toArray W fun e W' => e = .returned (.bool true) ∧ Below W.heap.size W W') :
    ReturnsInHanded {} Try.checked os f .any (s.pre6 enc Try.checked.prog fn [] false) (s.post enc Try.checked.prog fn false true false false) := by
  refine returnsInHanded_of_change_sized (C := Try.checked) own started noInit hfn witness ?_
  intro W base args ds gs before hval hW _ hsz _
  have hW' := hW
  obtain ⟨p, q, hA0, hV, rfl, hfz, hnd⟩ := hW
  rw [hvars] at hV
  obtain ⟨rfl, rfl⟩ := trodVars_none hV
  have hA : DataW.TrodAll enc Try.prog W 0 (fun _ => true) true fn.params.toList args.toList ds p := hA0
  have hlen : ds.length = fn.params.toList.length := trodAll_length hA
  have hlt : ∀ x ∈ p, x.block < W.heap.size := fun x hx => hW'.lt x (by simpa using hx)
  have hargs : args.toList.toArray = args := by simp
  have hsz' : (DataW.weightsEach Try.prog fn.params.toList ds).all (· ≤ reachBytes) = true := by
    have h := hsz
    have hvt : s.plain.varTypes Try.checked.prog = [] := by simp [DataSpec.varTypes, ChangeSpec.plain, hvars]
    rw [hvt] at h
    simp only [List.append_nil] at h
    exact h
  have hw := walk W base args.toList ds p (fun j t v ht hv => hval j t v ht (by simpa using hv)) hA hsz' hlt
  rw [hargs] at hw
  refine hw.mono fun e W' ⟨he, hb⟩ => ⟨.bool true, he, ?_⟩
  have hsf : s.fn H (ds ++ []) = { results := [.lit (.bool true)], args := ds } := by rw [List.append_nil]; exact hspec ds hlen
  refine ⟨ds, [], p ++ [], [], p, [], hW', ?_, ?_, ?_, hb.frame _, fun h => by cases h⟩
  · rw [hsf, hres]
    exact trodAll_mk1 (shut_bool boolT true)
  · rw [hsf]
    exact trodAll_stays laidOut hb (readsAll_all hread) hA hlt
  · rw [hsf, hvars]
    rfl
end Go.Proofs.Ytjhdjjoacedlpaa
/- Arguments opened: what slices and structs of numbers read as. -/
set_option maxRecDepth 100000
namespace Go.Proofs.Ytjhdjjoacedlpaa
open Go.ChangeShapes Go.WideShapes Go.ChangeAt Go.RowKit Go.Deep

theorem choose_list {α : Type} {n : Nat} {Q : Nat → α → Prop} (h : ∀ i, i < n → ∃ p, Q i p) : ∃ l : List α, l.length = n ∧ ∀ i p, l[i]? = some p → Q i p := by
  induction n with
  | zero => exact ⟨[], rfl, by intro i p hi; simp at hi⟩
  | succ n ih =>
    obtain ⟨l, hl, hq⟩ := ih (fun i hi => h i (by omega))
    obtain ⟨p, hp⟩ := h n (by omega)
    refine ⟨l ++ [p], by simp [hl], fun i q hi => ?_⟩
    rcases Nat.lt_trichotomy i n with hlt | rfl | hgt
    · rw [List.getElem?_append_left (by omega)] at hi
      exact hq i q hi
    · rw [List.getElem?_append_right (by omega), hl] at hi
      simp at hi
      subst hi; exact hp
    · rw [List.getElem?_eq_none (by simp; omega)] at hi
      cases hi

section
variable {H : Type} {enc : TypeId × Value → H} {P : Program} {w : World} {base : Nat} {spare : Nat → Bool} {held : Bool}
/-- a slice, whatever its elements: of each element its cells and its reading -/
theorem rd_slice {t e : TypeId} {fuel : Nat} {v : Value} {x : DataW H × List MemPlace} (ht : P.underlying t = some (.slice e)) (hc : 0 < P.cellsOf e) (h : DataW.trod enc P w base spare held fuel t [v] = some x) :
    ∃ A n c, v = .slice A n c ∧ n ≤ c ∧ c ≤ maxLen ∧ ∀ i, i < n → ∃ b o cs n' x', A = some ⟨b, o, none⟩ ∧ cs.length = P.cellsOf e ∧ (∀ j u, cs[j]? = some u → w.cell? ⟨b, o + i * P.cellsOf e + j, none⟩ = some u) ∧
      DataW.trod enc P w base spare held n' e cs = some x' := by
  rcases open_slice ht h with ⟨h0, _⟩ | ⟨a, len, cap, m, n', D, Pl, hcs, _, hl, hm, hmm, _, hi⟩
  · simp at h0
    subst h0
    exact ⟨none, 0, 0, rfl, by omega, by unfold maxLen; omega, by intro i hi; omega⟩
  · simp at hcs
    subst hcs
    refine ⟨some a, len, cap, rfl, hl, hm, fun i hil => ?_⟩
    have hlm : len ≤ m := by rw [hmm]; split <;> omega
    obtain ⟨cs, h1, h2⟩ := hi i (by omega)
    obtain ⟨hb, hlen, hat⟩ := World.cells?_some h1
    obtain ⟨b, o, spot⟩ := a
    have h00 := hat 0 (by omega)
    have hsp : spot = none := by
      obtain ⟨cs0, g1, _⟩ := hi 0 (by omega)
      obtain ⟨_, gl, gat⟩ := World.cells?_some g1
      have hx := gat 0 (by omega)
      rw [List.getElem?_eq_getElem (by omega)] at hx
      simpa [Addr.add] using World.cell?_spot hx
    subst hsp
    refine ⟨b, o, cs, n', _, rfl, hlen, ?_, h2⟩
    intro j u hu
    have hjl : j < P.cellsOf e := by rw [← hlen]; exact (List.getElem?_eq_some_iff.1 hu).1
    have := hat j hjl
    rw [hu, Addr.add_lit, Addr.add_lit] at this
    exact this
end

end Go.Proofs.Ytjhdjjoacedlpaa
/- Arguments opened, as abstract values. -/
set_option maxRecDepth 100000
namespace Go.Proofs.Ytjhdjjoacedlpaa
open Go Go.ChangeShapes Go.WideShapes Go.ChangeAt Go.RowKit Go.Deep

section
variable {H : Type} {enc : TypeId × Value → H} {P : Program} {w : World} {base : Nat} {spare : Nat → Bool} {held : Bool}
/-- data of the caller's -/
abbrev RelC (w : World) : AV → Value → Prop := RelD w (fun _ => False) w.heap.size
/-- one element's cells, read as enc p -/
def Reads {α : Type} (w : World) (sz : Nat) (ec : α → List AV) (Q : α → Prop) (cs : List Value) : Prop :=
  ∃ p, Q p ∧ (ec p).length = sz ∧ ∀ (j : Nat) (a : AV) (u : Value), (ec p)[j]? = some a → cs[j]? = some u → RelC w a u
theorem ro_slice {α : Type} (ec : α → List AV) (Q : α → Prop) {t e : TypeId} {sz fuel : Nat} {v : Value} {x : DataW H × List MemPlace} (ht : P.underlying t = some (.slice e)) (hz : P.cellsOf e = sz) (hc : 0 < sz)
    (hel : ∀ (fuel : Nat) (cs : List Value) (x : DataW H × List MemPlace), cs.length = sz → DataW.trod enc P w base spare held fuel e cs = some x → Reads w sz ec Q cs) (h : DataW.trod enc P w base spare held fuel t [v] = some x) :
    ∃ xs : List α, (∀ p ∈ xs, Q p) ∧ RelC w (.ro false sz (xs.map ec)) v := by
  subst hz
  obtain ⟨A, n, c, rfl, hn, hm, hi⟩ := rd_slice ht hc h
  obtain ⟨xs, hl, hq⟩ := choose_list (Q := fun i (p : α) => Q p ∧ ∃ (b o : Nat) (cs : List Value), A = some ⟨b, o, none⟩ ∧ cs.length = P.cellsOf e ∧ (∀ (j : Nat) (u : Value), cs[j]? = some u → w.cell? ⟨b, o + i * P.cellsOf e + j, none⟩ = some u) ∧ (ec p).length = P.cellsOf e ∧ ∀ (j : Nat) (a : AV) (u : Value), (ec p)[j]? = some a → cs[j]? = some u → RelC w a u) (n := n) (by
    intro i hil
    obtain ⟨b, o, cs, n', x', hA, hlen, hat, htr⟩ := hi i hil
    obtain ⟨p, h1, h2, h3⟩ := hel n' cs x' hlen htr
    exact ⟨p, h1, b, o, cs, hA, hlen, hat, h2, h3⟩)
  subst hl
  refine ⟨xs, fun p hp => ?_, ?_⟩
  · obtain ⟨i, hi⟩ := List.mem_iff_getElem?.1 hp
    exact (hq i p hi).1
  have key : ∀ (i : Nat) (row : List AV) (j : Nat) (a : AV), (xs.map ec)[i]? = some row → row[j]? = some a → ∃ b o u, A = some ⟨b, o, none⟩ ∧ w.cell? ⟨b, o + i * P.cellsOf e + j, none⟩ = some u ∧ RelC w a u := by
    intro i row j a hr ha
    rw [List.getElem?_map] at hr
    obtain ⟨p, hp, rfl⟩ := Option.map_eq_some_iff.1 hr
    obtain ⟨_, b, o, cs, hA, hlen, hat, hel, hrel⟩ := hq i p hp
    have hj : j < cs.length := by rw [hlen, ← hel]; exact (List.getElem?_eq_some_iff.1 ha).1
    have hu : cs[j]? = some cs[j] := List.getElem?_eq_getElem hj
    exact ⟨b, o, cs[j], hA, hat j _ hu, hrel j a _ ha hu⟩
  have hcon := RelD.ro (w := w) (own := fun _ => False) (bs := w.heap.size) false (P.cellsOf e) (xs.map ec) A c (fun i j => match A with
    | some ⟨b, o, _⟩ => (w.cell? ⟨b, o + i * P.cellsOf e + j, none⟩).getD undef
    | none => undef) (by simpa using hn) hm (fun i hi hA => by
      have hi : i < xs.length := by simpa using hi
      obtain ⟨_, b, o, _, h1, _⟩ := hq i xs[i] (List.getElem?_eq_getElem hi)
      rw [hA] at h1; cases h1) (fun i row j a hr ha => by
      obtain ⟨b, o, u, hA, hu, _⟩ := key i row j a hr ha
      subst hA
      exact ⟨b, o, rfl, fun h => h.elim, (fun h => by cases h), by simp [hu]⟩) (fun i row j a hr ha => by
      obtain ⟨b, o, u, hA, hu, hr⟩ := key i row j a hr ha
      subst hA
      simpa [hu] using hr)
  rw [List.length_map] at hcon
  exact hcon
end
/-- a law that answers true -/
theorem AF.yes {P : Program} {F : FuncId} {xs : List AV} {vs : Array Value} {w : World} (h : AF P F xs (.bool true)) (ha : ArgsV w (Gh.none w.heap.size) xs vs) : Calls P F vs w fun e w' => e = .returned (.bool true) ∧ Below w.heap.size w w' :=
  (h.out w vs ha).mono fun e w' ⟨v, he, hb, hv⟩ => ⟨by rw [he, hv.bool'], hb⟩
end Go.Proofs.Ytjhdjjoacedlpaa
/- Arguments of any type, opened by one theorem; the last step of a law that a residual program answers. -/
set_option maxRecDepth 100000
namespace Go.Proofs.Ytjhdjjoacedlpaa
open Go Go.ChangeShapes Go.WideShapes Go.ChangeAt Go.RowKit Go.Deep

/-- what every argument of a type meets -/
def Ty.wf : (t : Ty) → t.den → Prop
  | .int k, n => (Lit.int k n).wf = true
  | .bool, _ => True
  | .str, s => List.length s ≤ maxLen
  | .list t, xs => List.length xs ≤ maxLen ∧ ∀ x ∈ (xs : List t.den), t.wf x
  | .unit, _ => True
  | .pair a b, x => a.wf x.1 ∧ b.wf x.2
  | .agg t, x => t.wf x
  | .ptr _, _ => False
def prB (t : Ty) (f : Ty → Ty → Bool) : Bool := match t with
  | .pair x y => f x y
  | _ => false
def unB (t : Ty) : Bool := match t with
  | .unit => true
  | _ => false
theorem prB_ok {t : Ty} {f : Ty → Ty → Bool} (h : prB t f = true) : ∃ x y, t = .pair x y ∧ f x y = true := by
  unfold prB at h
  split at h
  · exact ⟨_, _, rfl, h⟩
  · cases h
theorem unB_ok {t : Ty} (h : unB t = true) : t = .unit := by
  unfold unB at h
  split at h
  · rfl
  · cases h
def fsB (g : TypeId → Ty → Bool) : List Field → Nat → Ty → Bool
  | [], _, t => unB t
  | [a], o, t => Nat.beq a.offset o && g a.type t
  | a :: b :: l, o, t => prB t fun x y => Nat.beq a.offset o && g a.type x && fsB g (b :: l) (o + x.size) y
def arB (g : Ty → Bool) : Nat → Ty → Bool
  | 0, t => unB t
  | 1, t => g t
  | n + 2, t => prB t fun x y => g x && arB g (n + 1) y
def intB (k : IntKind) (t : Ty) : Bool := match t with
  | .int k' => decide (k' = k)
  | _ => false
def boolB (t : Ty) : Bool := match t with
  | .bool => true
  | _ => false
def strB (t : Ty) : Bool := match t with
  | .str => true
  | _ => false
def sliceB (g : Ty → Bool) (t : Ty) : Bool := match t with
  | .list t' => g t' && Nat.blt 0 t'.size
  | _ => false
/-- a type as the program has it -/
def tyB (P : Program) : Nat → TypeId → Ty → Bool
  | 0, _, _ => false
  | f + 1, tid, t => Nat.beq (P.cellsOf tid) t.size && (match P.underlying tid with
    | some (.int k) => intB k t
    | some .bool => boolB t
    | some .string => strB t
    | some (.slice e) => sliceB (tyB P f e) t
    | some (.struct ⟨fs⟩) => fsB (tyB P f) fs 0 t
    | some (.array n e) => arB (tyB P f e) n t
    | _ => false)
section
variable {H : Type} {enc : TypeId × Value → H} {P : Program} {w : World} {base : Nat} {spare : Nat → Bool} {held : Bool}
abbrev ReadsT (w : World) (t : Ty) (cs : List Value) : Prop := Reads w t.size (t.cells false) t.wf cs
theorem tyB_size {f : Nat} {tid : TypeId} {t : Ty} (h : tyB P f tid t = true) : P.cellsOf tid = t.size := by
  cases f with
  | zero => cases h
  | succ f => rw [tyB, Bool.and_eq_true] at h; exact Nat.eq_of_beq_eq_true h.1
theorem ReadsT.pair {a b : Ty} {c d : List Value} (h : ReadsT w a c) (k : ReadsT w b d) (hl : c.length = a.size) : ReadsT w (.pair a b) (c ++ d) := by
  obtain ⟨x, x1, x2, x3⟩ := h
  obtain ⟨y, y1, y2, y3⟩ := k
  refine ⟨(x, y), ⟨x1, y1⟩, Ty.cells_length _ _ _, fun j v u hv hu => ?_⟩
  rw [Ty.cells] at hv
  by_cases hj : j < a.size
  · rw [List.getElem?_append_left (by rw [x2]; exact hj)] at hv
    rw [List.getElem?_append_left (by omega)] at hu
    exact x3 j v u hv hu
  · rw [List.getElem?_append_right (by rw [x2]; omega), x2] at hv
    rw [List.getElem?_append_right (by omega), hl] at hu
    exact y3 _ v u hv hu
theorem ReadsT.unit : ReadsT w .unit [] := ⟨(), trivial, rfl, fun j a u h _ => by simp [Ty.cells] at h⟩
theorem fs_reads {g : TypeId → Ty → Bool} (hg : ∀ (tid : TypeId) (t : Ty) (n : Nat) (cs : List Value) (x : DataW H × List MemPlace), g tid t = true → cs.length = t.size → DataW.trod enc P w base spare held n tid cs = some x → ReadsT w t cs) (hsz : ∀ tid t, g tid t = true → P.cellsOf tid = t.size) {cs : List Value} :
    ∀ (l : List Field) (o : Nat) (t : Ty), fsB g l o t = true → (∀ a ∈ l, ∃ n y, DataW.trod enc P w base spare held n a.type ((cs.drop a.offset).take (P.cellsOf a.type)) = some y) → o + t.size ≤ cs.length → ReadsT w t ((cs.drop o).take t.size)
  | [], o, t, h, _, _ => by
    rw [unB_ok h, show Ty.unit.size = 0 from rfl, List.take_zero]; exact .unit
  | [a], o, t, h, hr, hl => by
    rw [fsB, Bool.and_eq_true] at h
    obtain ⟨n, y, hy⟩ := hr a (by simp)
    rw [Nat.eq_of_beq_eq_true h.1, hsz _ _ h.2] at hy
    exact hg _ _ n _ y h.2 (by rw [List.length_take, List.length_drop]; omega) hy
  | a :: b :: l, o, t, h, hr, hl => by
    obtain ⟨x, y, rfl, h'⟩ := prB_ok h
    clear h
    have h := h'
    clear h'
    rw [Bool.and_eq_true, Bool.and_eq_true] at h
    obtain ⟨n, z, hz⟩ := hr a (by simp)
    rw [Nat.eq_of_beq_eq_true h.1.1, hsz _ _ h.1.2] at hz
    have hs : (Ty.pair x y).size = x.size + y.size := rfl
    rw [hs] at hl
    have h1 := hg _ _ n _ z h.1.2 (by rw [List.length_take, List.length_drop]; omega) hz
    have h2 := fs_reads hg hsz (b :: l) (o + x.size) y h.2 (fun a ha => hr a (List.mem_cons_of_mem _ ha)) (by omega)
    rw [hs, List.take_add, List.drop_drop]
    exact h1.pair h2 (by rw [List.length_take, List.length_drop]; omega)
theorem ar_reads {g : Ty → Bool} {e : TypeId} (hg : ∀ (t : Ty) (n : Nat) (cs : List Value) (x : DataW H × List MemPlace), g t = true → cs.length = t.size → DataW.trod enc P w base spare held n e cs = some x → ReadsT w t cs) (hsz : ∀ t, g t = true → P.cellsOf e = t.size) {cs : List Value} :
    ∀ (k o : Nat) (t : Ty), arB g k t = true → (∀ i, i < k → ∃ n y, DataW.trod enc P w base spare held n e ((cs.drop (o + i * P.cellsOf e)).take (P.cellsOf e)) = some y) → o + t.size ≤ cs.length → ReadsT w t ((cs.drop o).take t.size)
  | 0, o, t, h, _, _ => by
    rw [unB_ok h, show Ty.unit.size = 0 from rfl, List.take_zero]; exact .unit
  | 1, o, t, h, hr, hl => by
    rw [arB] at h
    obtain ⟨n, y, hy⟩ := hr 0 (by omega)
    rw [hsz _ h, Nat.zero_mul, Nat.add_zero] at hy
    exact hg _ n _ y h (by rw [List.length_take, List.length_drop]; omega) hy
  | k + 2, o, t, h, hr, hl => by
    obtain ⟨x, y, rfl, h'⟩ := prB_ok h
    clear h
    have h := h'
    clear h'
    rw [Bool.and_eq_true] at h
    obtain ⟨n, z, hz⟩ := hr 0 (by omega)
    rw [hsz _ h.1, Nat.zero_mul, Nat.add_zero] at hz
    have hs : (Ty.pair x y).size = x.size + y.size := rfl
    rw [hs] at hl
    have h1 := hg _ n _ z h.1 (by rw [List.length_take, List.length_drop]; omega) hz
    have h2 := ar_reads hg hsz (k + 1) (o + x.size) y h.2 (fun i hi => by
      obtain ⟨n, z, hz⟩ := hr (i + 1) (by omega)
      refine ⟨n, z, ?_⟩
      rw [← hz, ← hsz _ h.1, Nat.add_mul, Nat.one_mul, Nat.add_assoc, Nat.add_comm (P.cellsOf e)]) (by omega)
    rw [hs, List.take_add, List.drop_drop]
    exact h1.pair h2 (by rw [List.length_take, List.length_drop]; omega)
theorem ro_len {own : Nat → Prop} {bs sz : Nat} {fr : Bool} {rows : List (List AV)} {v : Value} (h : RelD w own bs (.ro fr sz rows) v) : rows.length ≤ maxLen := by
  cases h with
  | ro fr sz rows A c f hc hm h0 h1 h2 => omega
theorem one_cell {cs : List Value} (h : cs.length = 1) : ∃ u, cs = [u] := by match cs, h with | [u], _ => exact ⟨u, rfl⟩
theorem reads_ty : ∀ (f : Nat) (tid : TypeId) (t : Ty) (n : Nat) (cs : List Value) (x : DataW H × List MemPlace), tyB P f tid t = true → cs.length = t.size → DataW.trod enc P w base spare held n tid cs = some x → ReadsT w t cs
  | 0, _, _, _, _, _, h, _, _ => by cases h
  | f + 1, tid, t, n, cs, x, h, hl, hx => by
    have hsize := tyB_size h
    rw [tyB, Bool.and_eq_true] at h
    obtain ⟨_, h⟩ := h
    split at h
    · rename_i k hu
      unfold intB at h
      split at h
      · have hk := of_decide_eq_true h
        subst hk
        obtain ⟨m, rfl, _, hwf⟩ := DataW.trod_int hu hx
        refine ⟨m, hwf, rfl, fun j a u ha hu => ?_⟩
        match j with
        | 0 => simp [Ty.cells] at ha hu; subst ha; subst hu; exact .int _ _
        | j + 1 => simp [Ty.cells] at ha
      · cases h
    · rename_i hu
      unfold boolB at h
      split at h
      · obtain ⟨m, rfl, _⟩ := DataW.trod_bool hu hx
        refine ⟨m, trivial, rfl, fun j a u ha hu => ?_⟩
        match j with
        | 0 => simp [Ty.cells] at ha hu; subst ha; subst hu; exact .bool _
        | j + 1 => simp [Ty.cells] at ha
      · cases h
    · rename_i hu
      unfold strB at h
      split at h
      · obtain ⟨s, rfl, _, hs⟩ := DataW.trod_string hu hx
        refine ⟨s.data.toList, by rw [Ty.wf, Array.length_toList]; exact hs, rfl, fun j a u ha hu => ?_⟩
        match j with
        | 0 => simp [Ty.cells] at ha hu; subst ha; subst hu; exact .str _
        | j + 1 => simp [Ty.cells] at ha
      · cases h
    · rename_i e hu
      unfold sliceB at h
      split at h
      · rename_i _ t' _
        rw [Bool.and_eq_true] at h
        have hpos : 0 < t'.size := Nat.le_of_ble_eq_true h.2
        obtain ⟨v, rfl⟩ := one_cell hl
        obtain ⟨xs, hw, hr⟩ := ro_slice (t'.cells false) t'.wf hu (tyB_size h.1) hpos (fun m cs x hl hx => reads_ty f e t' m cs x h.1 hl hx) hx
        refine ⟨xs, ⟨?_, hw⟩, rfl, fun j a u ha hu => ?_⟩
        · have := ro_len hr
          rw [List.length_map] at this
          exact this
        match j with
        | 0 => simp [Ty.cells] at ha hu; subst ha; subst hu; exact hr
        | j + 1 => simp [Ty.cells] at ha
      · cases h
    · rename_i fs hu
      obtain ⟨xs, m, _, _, _, hxl, hat⟩ := DataW.trod_struct hu hx
      have := fs_reads (cs := cs) (fun tid t n cs x h1 h2 h3 => reads_ty f tid t n cs x h1 h2 h3) (fun tid t h => tyB_size h) fs 0 t h (fun a ha => by
        obtain ⟨i, hi⟩ := List.mem_iff_getElem?.1 ha
        have hi' : i < xs.length := by rw [hxl]; exact (List.getElem?_eq_some_iff.1 hi).1
        exact ⟨m, _, by rw [hat i a (by simpa using hi), List.getElem?_eq_getElem hi']⟩) (by omega)
      rw [List.drop_zero, List.take_of_length_le (by omega)] at this
      exact this
    · rename_i k e hu
      obtain ⟨xs, m, _, _, _, hxl, hat⟩ := DataW.trod_array hu hx
      have := ar_reads (cs := cs) (e := e) (fun t n cs x h1 h2 h3 => reads_ty f e t n cs x h1 h2 h3) (fun t h => tyB_size h) k 0 t h (fun i hi => by
        have hi' : i < xs.length := by rw [hxl]; exact hi
        exact ⟨m, _, by rw [Nat.zero_add, hat i hi, List.getElem?_eq_getElem hi']⟩) (by omega)
      rw [List.drop_zero, List.take_of_length_le (by omega)] at this
      exact this
    · cases h
/-! ### Arguments -/
def aggP (P : Program) (tid : TypeId) : Bool := match P.underlying tid with
  | some (.struct _) => true
  | some (.array _ _) => true
  | _ => false
def cellP (P : Program) (tid : TypeId) : Bool := match P.underlying tid with
  | some (.int _) => true
  | some .bool => true
  | some .string => true
  | some (.slice _) => true
  | _ => false
def argB (P : Program) (tid : TypeId) (a : Ty) : Bool := match a with
  | .agg t => tyB P 9 tid t && aggP P tid
  | .int k => tyB P 9 tid (.int k) && cellP P tid
  | .bool => tyB P 9 tid .bool && cellP P tid
  | .str => tyB P 9 tid .str && cellP P tid
  | .list t => tyB P 9 tid (.list t) && cellP P tid
  | _ => false
def argsB (P : Program) : List TypeId → Ty → Bool
  | [], t => unB t
  | tid :: l, t => prB t fun a b => argB P tid a && argsB P l b
theorem okWide_arr {n b : Nat} {r : Go.Reach} {t e : TypeId} {v : Value} (ht : P.underlying t = some (.array n e)) (h : Value.okWide P w r b t v) : ∃ cs, v = .agg cs ∧ cs.size = P.cellsOf t := by
  simp only [Value.okWide, ht] at h
  obtain ⟨cs, h1, h2, _⟩ := h
  exact ⟨cs, h1, h2⟩
theorem arg_agg {tid : TypeId} {t : Ty} {v : Value} {d : DataW H} {p : List MemPlace} {b : Nat} (h : tyB P 9 tid t = true) (ha : aggP P tid = true) (hv : Value.okWide P w .any b tid v) (hd : DataW.Trod enc P w base spare held tid v d p) : ∃ x : t.den, t.wf x ∧ RelV w (Gh.none w.heap.size) (.agg (t.cells false x)) v := by
  obtain ⟨cs, rfl, hs⟩ : ∃ cs, v = .agg cs ∧ cs.size = P.cellsOf tid := by
    unfold aggP at ha
    split at ha
    · rename_i h1; exact okWide_struct h1 hv
    · rename_i h1; exact okWide_arr h1 hv
    · cases ha
  obtain ⟨n, hd⟩ := hd
  have hl : cs.toList.length = t.size := by rw [← tyB_size h, ← hs]; simp
  obtain ⟨x, x1, x2, x3⟩ := reads_ty 9 tid t n cs.toList _ h hl hd
  exact ⟨x, x1, .agg _ _ (by rw [x2, ← hl]; simp) fun i a u ha hu => .dat (x3 i a u ha (by simpa using hu))⟩
theorem arg_cell {tid : TypeId} {t : Ty} {v : Value} {d : DataW H} {p : List MemPlace} {b : Nat} (h : tyB P 9 tid t = true) (hc : cellP P tid = true) (h1 : t.size = 1) (hv : Value.okWide P w .any b tid v) (hd : DataW.Trod enc P w base spare held tid v d p) : ∃ x : t.den, t.wf x ∧ ∀ a, (t.cells false x)[0]? = some a → RelV w (Gh.none w.heap.size) a v := by
  have hd : ∃ n, DataW.trod enc P w base spare held n tid [v] = some (d, p) := by
    unfold cellP at hc
    split at hc
    · rename_i hu
      obtain ⟨m, rfl⟩ := okWide_int hu hv
      exact hd
    · rename_i hu
      obtain ⟨m, rfl⟩ := okWide_bool hu hv
      exact hd
    · rename_i hu
      obtain ⟨m, rfl⟩ := okWide_string hu hv
      exact hd
    · rename_i hu
      obtain ⟨a, n, c, rfl⟩ := okWide_slice hu hv
      exact hd
    · cases hc
  obtain ⟨n, hd⟩ := hd
  obtain ⟨x, x1, x2, x3⟩ := reads_ty 9 tid t n [v] _ h (by rw [h1]; rfl) hd
  exact ⟨x, x1, fun a ha => .dat (x3 0 a v ha rfl)⟩
theorem arg_ty {tid : TypeId} {v : Value} {d : DataW H} {p : List MemPlace} {b : Nat} : ∀ {a : Ty}, argB P tid a = true → Value.okWide P w .any b tid v → DataW.Trod enc P w base spare held tid v d p → ∃ x : a.den, a.wf x ∧ RelV w (Gh.none w.heap.size) (a.av false x) v
  | .agg t, h, hv, hd => by
    rw [argB, Bool.and_eq_true] at h
    obtain ⟨x, h1, h2⟩ := arg_agg h.1 h.2 hv hd
    exact ⟨x, h1, by rw [Ty.av]; exact h2⟩
  | .int k, h, hv, hd => by
    rw [argB, Bool.and_eq_true] at h
    obtain ⟨x, h1, h2⟩ := arg_cell h.1 h.2 rfl hv hd
    exact ⟨x, h1, h2 _ rfl⟩
  | .bool, h, hv, hd => by
    rw [argB, Bool.and_eq_true] at h
    obtain ⟨x, h1, h2⟩ := arg_cell h.1 h.2 rfl hv hd
    exact ⟨x, h1, h2 _ rfl⟩
  | .str, h, hv, hd => by
    rw [argB, Bool.and_eq_true] at h
    obtain ⟨x, h1, h2⟩ := arg_cell h.1 h.2 rfl hv hd
    exact ⟨x, h1, h2 _ rfl⟩
  | .list t, h, hv, hd => by
    rw [argB, Bool.and_eq_true] at h
    obtain ⟨x, h1, h2⟩ := arg_cell h.1 h.2 rfl hv hd
    exact ⟨x, h1, h2 _ rfl⟩
  | .unit, h, _, _ => by cases h
  | .pair _ _, h, _, _ => by cases h
  | .ptr _, h, _, _ => by cases h
/-- values one by one -/
inductive RelsV (w : World) (G : Gh) : List AV → List Value → Prop
  | nil : RelsV w G [] []
  | cons {a : AV} {v : Value} {l : List AV} {m : List Value} (h : RelV w G a v) (k : RelsV w G l m) : RelsV w G (a :: l) (v :: m)
theorem RelsV.args {G : Gh} {l : List AV} {m : List Value} (h : RelsV w G l m) : ArgsV w G l m.toArray := by
  induction h with
  | nil => exact ⟨rfl, fun i a v ha hv => by simp at ha⟩
  | cons h k ih =>
    refine ⟨by have := ih.size; simp at this ⊢; exact this, fun i a v ha hv => ?_⟩
    cases i with
    | zero => simp at ha hv; subst ha; subst hv; exact h
    | succ i => exact ih.rel i a v (by simpa using ha) (by simpa using hv)
theorem args_ty {b : Nat} : ∀ {ts : List TypeId} {σ : Ty} {vs : List Value} {ds : List (DataW H)} {ps : List MemPlace}, argsB P ts σ = true → (∀ (j : Nat) t v, ts[j]? = some t → vs[j]? = some v → Value.okWide P w .any b t v) → DataW.TrodAll enc P w base spare held ts vs ds ps → ∃ x : σ.den, σ.wf x ∧ RelsV w (Gh.none w.heap.size) (σ.avs false x) vs
  | [], σ, vs, ds, ps, h, _, hA => by
    obtain ⟨rfl, rfl, rfl⟩ := trodAll_nil hA
    have e := unB_ok h
    subst e
    exact ⟨(), trivial, .nil⟩
  | tid :: l, σ, vs, ds, ps, h, hv, hA => by
    obtain ⟨v, vs, d, ds, p, q, rfl, rfl, rfl, h0, r0⟩ := trodAll_cons hA
    obtain ⟨a, c, rfl, h'⟩ := prB_ok h
    clear h
    have h := h'
    clear h'
    rw [Bool.and_eq_true] at h
    obtain ⟨x, x1, x2⟩ := arg_ty h.1 (hv 0 tid v rfl rfl) h0
    obtain ⟨y, y1, y2⟩ := args_ty h.2 (fun j t u ht hu => hv (j + 1) t u (by simpa using ht) (by simpa using hu)) r0
    exact ⟨(x, y), ⟨x1, y1⟩, by rw [Ty.avs]; exact .cons x2 y2⟩
end
/-- a law whose residual program answers true at all data -/
theorem law_any {H : Type} {enc : TypeId × Value → H} {F : Nat} {ts : List TypeId} {σ : Ty} {f : Nat → σ.den → Option (Bool × Unit)} {nm : Nat} (hc : CtrOk Try.prog F ⟨σ, .pair .bool .unit, f, nm⟩) (hB : argsB Try.prog ts σ = true) (hp : ∀ x : σ.den, σ.wf x → f FU x = some (true, ())) {W : World} {b : Nat} {args : List Value} {ds : List (DataW H)} {ps : List MemPlace}
    (hv : ∀ (j : Nat) t v, ts[j]? = some t → args[j]? = some v → Value.okWide Try.prog W .any b t v) (hA : DataW.TrodAll enc Try.prog W 0 (fun _ => true) true ts args ds ps) :
    Calls Try.prog F args.toArray W fun e W' => e = .returned (.bool true) ∧ Below W.heap.size W W' := by
  obtain ⟨x, hx, hr⟩ := args_ty hB hv hA
  exact AF.yes (hc FU x (true, ()) (hp x hx)) hr.args
end Go.Proofs.Ytjhdjjoacedlpaa
/- DevicelinkConversions: for every input this law returns true and leaves its arguments as they were. -/
namespace Go.Proofs.Ytjhdjjoacedlpaa
open Go.ChangeShapes Go.WideShapes Go.ChangeAt Go.RowKit

set_option maxRecDepth 100000 in
theorem devicelinkConversions_lifted (os : Os) (started : os.Started) (H : Type) (enc : TypeId × Value → H) :
    ReturnsInHanded {} Try.checked os 14 .any (Rows.devicelinkConversionsSpec.pre6 enc Try.prog Try.f14 Rows.devicelinkConversionsRow.domain false) (Rows.devicelinkConversionsSpec.post enc Try.prog Try.f14 false true false false) := by
  refine law_lifted started (by kernel_rfl) Try.func14
    (ChangeSpec.witness6 (enc := enc) (C := Try.checked) false ⟨#[], #[.agg #[.int .i64 0, .int .i64 0, .int .i64 0, .slice none 0 0], .slice none 0 0], []⟩ 8 (by kernel_rfl) (by kernel_rfl) (by kernel_rfl) (by kernel_rfl)) rfl rfl (by kernel_rfl)
    (fun ds h => by rw [Try.params14] at h; match ds, h with | [_, _], _ => rfl) ?_
  intro W base args ds ps hval hA hsz hlt
  rw [Try.params14] at hA hval
  exact law_any law_DevicelinkConversions_ok (by kernel_rfl) (fun x hx => conversions_r (Nat.le_of_eq FU_val.symm) (wf_len hx.1.2.2.2.1) (wf_len hx.2.1.1) rfl) (fun j t v ht hv => hval j t v (by simpa using ht) hv) hA

theorem devicelinkConversions_holds : Rows.DevicelinkConversionsSaid :=
  OpenClaim.holds_of_wide 14 Try.f14 rfl rfl rfl rfl rfl rfl rfl ⟨rfl, rfl, rfl, rfl, rfl⟩ rfl rfl rfl rfl rfl (by kernel_rfl) Try.func14 (by kernel_rfl)
    (of_decide_eq_true (by kernel_rfl)) (by unfold Func.isWrapper; first | (rw [if_pos (by decide +kernel)]; kernel_rfl) | (rw [if_neg (by decide +kernel)]; exact ⟨rfl, rfl⟩))
    (fun os started H enc _ => devicelinkConversions_lifted os started H enc)
end Go.Proofs.Ytjhdjjoacedlpaa
