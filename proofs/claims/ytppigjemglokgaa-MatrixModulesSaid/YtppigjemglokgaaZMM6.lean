/- Residual programs of functions (printed by a program out of the code), checked by the kernel, and the contracts that follow. -/
import Derived.Test.YtppigjemglokgaaZMM5
import Derived.Below
import Derived.Laws.Bits64b
import Derived.WalkKit
import Derived.WalkSpells
/- Residual programs of functions (printed by a program out of the code),checked by the kernel,and the contracts that follow. -/
namespace Go.Proofs.Ytppigjemglokgaa
open Go Go.RowKit
set_option linter.unusedVariables false
noncomputable section
def R_Border_j1 (fu:Nat) (a:Int×Int×Int×Unit) (v0:Bool):Option (Int×Unit) :=
 bif v0 then
  some (((1:Int),()))
 else
 let v1:Bool:=(decide (a.2.2.1=(0:Int)))
 bif v1 then
  let v2:Int:=(IntKind.i64.wrap ((1:Int)-(Int.tmod a.2.1 (2:Int))))
  some ((v2,()))
 else
 let v2:Bool:=(decide (a.2.1=(IntKind.i64.wrap (a.1-(1:Int)))))
 bif v2 then
  let v3:Int:=(IntKind.i64.wrap ((1:Int)-(Int.tmod (IntKind.i64.wrap ((IntKind.i64.wrap (a.1-(1:Int)))-a.2.2.1)) (2:Int))))
  some ((v3,()))
 else
 some (((2:Int),()))
def R_Border_r (fu:Nat) (a:Int×Int×Int×Unit):Option (Int×Unit) :=
 joinF (R_Border_j1 fu a) fun j0 =>
 let v1:Bool:=(decide (a.2.1=(0:Int)))
 bif v1 then
  j0 (v1)
 else
 let v2:Bool:=(decide (a.2.2.1=(IntKind.i64.wrap (a.1-(1:Int)))))
 j0 (v2)
def R_Border_an:An:=(.n none .z (.n none (.n none (.n (some ⟨[1,2,0],[],[],[.reg 7 .bool],0,[]⟩) (.n none .z (.n none .z .z)) (.n none (.n none .z .z) (.n none .z (.n none (.n none .z .z) (.n none .z (.n none (.n none .z .z) .z)))))) .z) (.n none .z .z)))
noncomputable def R_Border_dc:List (Nat×Ctr):=[]
def R_Border_ctr:Ctr:=⟨(.pair (.int .i64) (.pair (.int .i64) (.pair (.int .i64) .unit))),(.pair (.int .i64) .unit),R_Border_r,12⟩
theorem R_Border_ok:CtrOk Try.prog 12 R_Border_ctr:=ctr_ok (l:=R_Border_dc) (f:=12) (an:=R_Border_an) trivial fun fu x=>by kernel_rfl
def R_Within_r (fu:Nat) (a:Int×Int×Int×Unit):Option (Bool×Unit) :=
 bif (decide (a.2.1≤a.1)) then
  let v0:Bool:=(decide (a.1≤a.2.2.1))
  some ((v0,()))
 else
 some ((false,()))
def R_Within_an:An:=(.n none .z (.n none .z .z))
noncomputable def R_Within_dc:List (Nat×Ctr):=[]
def R_Within_ctr:Ctr:=⟨(.pair (.int .i64) (.pair (.int .i64) (.pair (.int .i64) .unit))),(.pair .bool .unit),R_Within_r,7⟩
theorem R_Within_ok:CtrOk Try.prog 7 R_Within_ctr:=ctr_ok (l:=R_Within_dc) (f:=12) (an:=R_Within_an) trivial fun fu x=>by kernel_rfl
def R_Bit_j1 (fu:Nat) (a:(Int×Int×List Int)×Int×Int×Unit) (v0:Bool):Option (Bool×Unit) :=
 bif v0 then
  some ((false,()))
 else
 bif ((decide ((0:Int)≤(IntKind.i64.wrap ((IntKind.i64.wrap (a.2.2.1*(IntKind.i64.wrap (Int.tdiv (IntKind.i64.wrap (a.1.1+(7:Int))) (8:Int)))))+(IntKind.i64.wrap (Int.tdiv a.2.1 (8:Int)))))))&&(decide ((IntKind.i64.wrap ((IntKind.i64.wrap (a.2.2.1*(IntKind.i64.wrap (Int.tdiv (IntKind.i64.wrap (a.1.1+(7:Int))) (8:Int)))))+(IntKind.i64.wrap (Int.tdiv a.2.1 (8:Int)))))<(List.length a.1.2.2:Int)))) then
 let v1:Int:=(List.getD a.1.2.2 (Int.toNat (IntKind.i64.wrap ((IntKind.i64.wrap (a.2.2.1*(IntKind.i64.wrap (Int.tdiv (IntKind.i64.wrap (a.1.1+(7:Int))) (8:Int)))))+(IntKind.i64.wrap (Int.tdiv a.2.1 (8:Int)))))) 0)
 bif ((decide ((0:Int)≤(Int.tmod a.2.1 (8:Int))))&&(decide ((Int.tmod a.2.1 (8:Int))≤(8:Int)))) then
 let v2:Bool:=(decide ((bits BinOp.and IntKind.u8 (IntKind.u8.wrap (v1*2 ^ (Int.toNat (Int.tmod a.2.1 (8:Int))))) (128:Int))≠(0:Int)))
 some ((v2,()))
 else none
 else none
def R_Bit_r (fu:Nat) (a:(Int×Int×List Int)×Int×Int×Unit):Option (Bool×Unit) :=
 joinF (R_Bit_j1 fu a) fun j0 =>
 bindO (R_Within_r fu ((a.2.1,((0:Int),((IntKind.i64.wrap (a.1.1-(1:Int))),()))))) fun v1 =>
 bif (!v1.1) then
  j0 (true)
 else
 bindO (R_Within_r fu ((a.2.2.1,((0:Int),((IntKind.i64.wrap (a.1.2.1-(1:Int))),()))))) fun v2 =>
 j0 ((!v2.1))
def R_Bit_an:An:=(.n none .z (.n none (.n (some ⟨[2,3,1],[0],[],[.reg 20 .bool],0,[]⟩) .z (.n none (.n none .z .z) .z)) (.n none .z .z)))
noncomputable def R_Bit_dc:List (Nat×Ctr):=[(7,R_Within_ctr)]
def R_Bit_ctr:Ctr:=⟨(.pair (.agg (.pair (.int .i64) (.pair (.int .i64) (.list (.int .u8))))) (.pair (.int .i64) (.pair (.int .i64) .unit))),(.pair .bool .unit),R_Bit_r,13⟩
theorem R_Bit_ok:CtrOk Try.prog 13 R_Bit_ctr:=ctr_ok (l:=R_Bit_dc) (f:=12) (an:=R_Bit_an) ⟨R_Within_ok,trivial⟩ fun fu x=>by kernel_rfl
def R_Times_j2 (fu:Nat) (j0:(Int×Int)→Option (Int×Unit)) (v1:Int×Int):Option (Int×Unit) :=
 j0 ((v1.2,(IntKind.i64.wrap (v1.1+(1:Int)))))
def R_Times_j4 (fu:Nat) (j1:(Int×Int)→Option (Int×Unit)) (v2:Int×Int):Option (Int×Unit) :=
 let v3:Int:=(IntKind.i64.wrap (v2.1-(1:Int)))
 j1 ((v2.2,v3))
def R_Times_l3 (fu:Nat) (j1:(Int×Int)→Option (Int×Unit)) (v1:Int×Int):Option (Int×Unit) :=
 bif (decide ((8:Int)≤v1.2)) then
  joinF (R_Times_j4 fu j1) fun j2 =>
  bif ((decide ((0:Int)≤v1.2))&&(decide (v1.2≤(64:Int)))) then
  bif (decide ((bits BinOp.and IntKind.i64 (v1.1 / 2 ^ (Int.toNat v1.2)) (1:Int))=(1:Int))) then
   bif ((decide ((0:Int)≤(IntKind.i64.wrap (v1.2-(8:Int)))))&&(decide ((IntKind.i64.wrap (v1.2-(8:Int)))≤(64:Int)))) then
   let v3:Int:=(bits BinOp.xor IntKind.i64 v1.1 (IntKind.i64.wrap ((285:Int)*2 ^ (Int.toNat (IntKind.i64.wrap (v1.2-(8:Int)))))))
   j2 ((v1.2,v3))
   else none
  else
  j2 ((v1.2,v1.1))
  else none
 else
 let v2:Int:=(IntKind.u8.wrap v1.1)
 some ((v2,()))
def R_Times_l1 (fu:Nat) (a:Int×Int×Unit) (j0:(Int×Int)→Option (Int×Unit)) (v0:Int×Int):Option (Int×Unit) :=
 bif (decide (v0.2<(8:Int))) then
  joinF (R_Times_j2 fu j0) fun j1 =>
  let v2:Int:=v0.2
  bif ((decide ((0:Int)≤v2))&&(decide (v2≤(8:Int)))) then
  bif (decide ((bits BinOp.and IntKind.u8 (a.2.1 / 2 ^ (Int.toNat v2)) (1:Int))=(1:Int))) then
   bif ((decide ((0:Int)≤v2))&&(decide (v2≤(64:Int)))) then
   let v3:Int:=(bits BinOp.xor IntKind.i64 v0.1 (IntKind.i64.wrap ((IntKind.i64.wrap a.1)*2 ^ (Int.toNat v2))))
   j1 ((v0.2,v3))
   else none
  else
  j1 ((v0.2,v0.1))
  else none
 else
 loopF (R_Times_l3 fu) fu ((v0.1,(14:Int)))
def R_Times_r (fu:Nat) (a:Int×Int×Unit):Option (Int×Unit) :=
 loopF (R_Times_l1 fu a) fu (((0:Int),(0:Int)))
def R_Times_an:An:=(.n none .z (.n none .z (.n none (.n none .z (.n none (.n (some ⟨[1,0,4],[],[],[.reg 5 (.int .i64),.reg 8 (.int .i64)],0,[]⟩) (.n none .z (.n none .z (.n (some ⟨[],[],[],[.reg 8 (.int .i64),.reg 5 (.int .i64)],0,[]⟩) (.n none (.n none .z (.n none .z (.n none .z .z))) .z) .z))) .z) .z)) (.n none (.n none .z (.n none (.n (some ⟨[4],[],[],[.reg 5 (.int .i64),.reg 7 (.int .i64)],0,[]⟩) (.n none (.n none .z .z) (.n (some ⟨[],[],[],[.reg 7 (.int .i64),.reg 5 (.int .i64)],0,[]⟩) (.n none (.n none .z (.n none .z .z)) .z) .z)) .z) .z)) (.n none .z .z)))))
noncomputable def R_Times_dc:List (Nat×Ctr):=[]
def R_Times_ctr:Ctr:=⟨(.pair (.int .u8) (.pair (.int .u8) .unit)),(.pair (.int .u8) .unit),R_Times_r,42⟩
theorem R_Times_ok:CtrOk Try.prog 42 R_Times_ctr:=ctr_ok (l:=R_Times_dc) (f:=12) (an:=R_Times_an) trivial fun fu x=>by kernel_rfl
def R_Inverse_l1 (fu:Nat) (a:Int×Unit) (j0:(Int)→Option (Int×Unit)) (v0:Int):Option (Int×Unit) :=
 bif (decide (v0<(256:Int))) then
  bindO (R_Times_r fu ((a.1,((IntKind.u8.wrap v0),())))) fun v1 =>
  bif (decide (v1.1=(1:Int))) then
   let v2:Int:=(IntKind.u8.wrap v0)
   some ((v2,()))
  else
  let v2:Int:=(IntKind.i64.wrap (v0+(1:Int)))
  j0 (v2)
 else
 some (((0:Int),()))
def R_Inverse_r (fu:Nat) (a:Int×Unit):Option (Int×Unit) :=
 loopF (R_Inverse_l1 fu a) fu ((1:Int))
def R_Inverse_an:An:=(.n none .z (.n none (.n none .z (.n none (.n (some ⟨[0],[],[],[.reg 3 (.int .i64)],0,[]⟩) (.n none (.n none .z .z) (.n none (.n none (.n none .z (.n none (.n none .z .z) .z)) .z) .z)) .z) .z)) (.n none .z .z)))
noncomputable def R_Inverse_dc:List (Nat×Ctr):=[(42,R_Times_ctr)]
def R_Inverse_ctr:Ctr:=⟨(.pair (.int .u8) .unit),(.pair (.int .u8) .unit),R_Inverse_r,44⟩
theorem R_Inverse_ok:CtrOk Try.prog 44 R_Inverse_ctr:=ctr_ok (l:=R_Inverse_dc) (f:=12) (an:=R_Inverse_an) ⟨R_Times_ok,trivial⟩ fun fu x=>by kernel_rfl
def R_Floor_j1 (fu:Nat) (v1:Int):Option (Int×Unit) :=
 some ((v1,()))
def R_Floor_r (fu:Nat) (a:Int×Int×Unit):Option (Int×Unit) :=
 bif (decide (a.2.1≠(0:Int))) then
 let v0:Int:=(IntKind.i64.wrap (Int.tdiv a.1 a.2.1))
 joinF (R_Floor_j1 fu) fun j1 =>
 bif (decide (a.1<(IntKind.i64.wrap (v0*a.2.1)))) then
  let v2:Int:=(IntKind.i64.wrap (v0-(1:Int)))
  j1 (v2)
 else
 j1 (v0)
 else none
def R_Floor_an:An:=(.n none .z (.n none .z (.n (some ⟨[],[],[],[.reg 5 (.int .i64)],0,[]⟩) (.n none .z (.n none .z .z)) (.n none .z .z))))
noncomputable def R_Floor_dc:List (Nat×Ctr):=[]
def R_Floor_ctr:Ctr:=⟨(.pair (.int .i64) (.pair (.int .i64) .unit)),(.pair (.int .i64) .unit),R_Floor_r,46⟩
theorem R_Floor_ok:CtrOk Try.prog 46 R_Floor_ctr:=ctr_ok (l:=R_Floor_dc) (f:=12) (an:=R_Floor_an) trivial fun fu x=>by kernel_rfl
def R_Mod_r (fu:Nat) (a:Int×Int×Unit):Option (Int×Unit) :=
 bindO (R_Floor_r fu ((a.1,(a.2.1,())))) fun v0 =>
 let v1:Int:=(IntKind.i64.wrap (a.1-(IntKind.i64.wrap (a.2.1*v0.1))))
 some ((v1,()))
def R_Mod_an:An:=(.n none .z (.n none .z .z))
noncomputable def R_Mod_dc:List (Nat×Ctr):=[(46,R_Floor_ctr)]
def R_Mod_ctr:Ctr:=⟨(.pair (.int .i64) (.pair (.int .i64) .unit)),(.pair (.int .i64) .unit),R_Mod_r,43⟩
theorem R_Mod_ok:CtrOk Try.prog 43 R_Mod_ctr:=ctr_ok (l:=R_Mod_dc) (f:=12) (an:=R_Mod_an) ⟨R_Floor_ok,trivial⟩ fun fu x=>by kernel_rfl
def R_Exp_j2 (fu:Nat) (v2:Int×Int×Int) (j2:(Int×Int×Int)→Option (Int×Unit)) (v3:Int×Int):Option (Int×Unit) :=
 bindO (R_Times_r fu ((v3.1,(v3.1,())))) fun v4 =>
 let v5:Int:=v4.1
 let v6:Int:=(IntKind.i64.wrap (Int.tdiv v2.2.2 (2:Int)))
 j2 ((v3.2,(v5,v6)))
def R_Exp_l1 (fu:Nat) (j2:(Int×Int×Int)→Option (Int×Unit)) (v2:Int×Int×Int):Option (Int×Unit) :=
 bif (decide ((0:Int)<v2.2.2)) then
  joinF (R_Exp_j2 fu v2 j2) fun j3 =>
  bif (decide ((Int.tmod v2.2.2 (2:Int))=(1:Int))) then
   bindO (R_Times_r fu ((v2.1,(v2.2.1,())))) fun v4 =>
   let v5:Int:=v4.1
   j3 ((v2.2.1,v5))
  else
  j3 ((v2.2.1,v2.1))
 else
 let v3:Int:=v2.1
 some ((v3,()))
def R_Exp_r (fu:Nat) (a:Int×Unit):Option (Int×Unit) :=
 bindO (R_Mod_r fu ((a.1,((255:Int),())))) fun v0 =>
 let v1:Int:=v0.1
 loopF (R_Exp_l1 fu) fu (((1:Int),((2:Int),v1)))
def R_Exp_an:An:=(.n none .z (.n none .z (.n none (.n none .z (.n none (.n (some ⟨[2],[],[],[.reg 3 (.int .u8),.reg 4 (.int .u8),.reg 0 (.int .i64)],0,[]⟩) (.n none (.n none .z .z) (.n none (.n none (.n (some ⟨[0],[],[],[.reg 4 (.int .u8),.reg 3 (.int .u8)],0,[]⟩) (.n none .z (.n none .z .z)) .z) .z) .z)) .z) .z)) (.n none .z .z))))
noncomputable def R_Exp_dc:List (Nat×Ctr):=[(42,R_Times_ctr),(43,R_Mod_ctr)]
def R_Exp_ctr:Ctr:=⟨(.pair (.int .i64) .unit),(.pair (.int .u8) .unit),R_Exp_r,33⟩
theorem R_Exp_ok:CtrOk Try.prog 33 R_Exp_ctr:=ctr_ok (l:=R_Exp_dc) (f:=12) (an:=R_Exp_an) ⟨R_Times_ok,⟨R_Mod_ok,trivial⟩⟩ fun fu x=>by kernel_rfl
def R_Syndromes_l2 (fu:Nat) (a:List Int×Int×Unit) (v0:Int×List Int) (v1:Int) (j0:(Int×List Int)→Option (List Int×Unit)) (j2:(Int×List Int)→Option (List Int×Unit)) (v2:Int×List Int):Option (List Int×Unit) :=
 bif (decide (v2.1<(List.length a.1:Int))) then
  bif ((decide ((0:Int)≤v2.1))&&(decide (v2.1<(List.length a.1:Int)))) then
  let v3:Int:=(List.getD a.1 (Int.toNat v2.1) 0)
  let v4:Int:=v2.1
  bif ((decide ((0:Int)≤v1))&&(decide (v1<(List.length v2.2:Int)))) then
  bindO (R_Exp_r fu (((IntKind.i64.wrap (v1*(IntKind.i64.wrap ((IntKind.i64.wrap ((List.length a.1:Int)-(1:Int)))-v4)))),()))) fun v5 =>
  bindO (R_Times_r fu ((v3,(v5.1,())))) fun v6 =>
  bif ((decide ((0:Int)≤v1))&&(decide (v1<(List.length v2.2:Int)))) then
  j2 (((IntKind.i64.wrap (v2.1+(1:Int))),(List.set v2.2 (Int.toNat v1) (bits BinOp.xor IntKind.u8 (List.getD v2.2 (Int.toNat v1) 0) v6.1))))
  else none
  else none
  else none
 else
 j0 (((IntKind.i64.wrap (v0.1+(1:Int))),v2.2))
def R_Syndromes_l1 (fu:Nat) (a:List Int×Int×Unit) (j0:(Int×List Int)→Option (List Int×Unit)) (v0:Int×List Int):Option (List Int×Unit) :=
 bif (decide (v0.1<(List.length (List.replicate (Int.toNat a.2.1) (0:Int)):Int))) then
  let v1:Int:=v0.1
  loopF (R_Syndromes_l2 fu a v0 v1 j0) fu (((0:Int),v0.2))
 else
 some ((v0.2,()))
def R_Syndromes_r (fu:Nat) (a:List Int×Int×Unit):Option (List Int×Unit) :=
 bif ((decide ((0:Int)≤a.2.1))&&(decide (((1:Int)*a.2.1)≤(281474976710656:Int)))) then
 loopF (R_Syndromes_l1 fu a) fu (((0:Int),(List.replicate (Int.toNat a.2.1) (0:Int))))
 else none
def R_Syndromes_an:An:=(.n none .z (.n none .z (.n none (.n none .z (.n none (.n (some ⟨[5,0,12,4],[],[],[.reg 13 (.int .i64),.row 0 true (.int .u8) 5 0],0,[]⟩) (.n none .z (.n none .z (.n none (.n none (.n none .z (.n none .z (.n none (.n (some ⟨[13,16,6,17],[],[],[.reg 18 (.int .i64),.row 0 true (.int .u8) 5 0],0,[]⟩) (.n none .z (.n none .z (.n none (.n none (.n none .z (.dr [] [])) .z) .z))) .z) .z))) .z) .z))) .z) .z)) (.n none .z .z))))
noncomputable def R_Syndromes_dc:List (Nat×Ctr):=[(33,R_Exp_ctr),(42,R_Times_ctr)]
def R_Syndromes_ctr:Ctr:=⟨(.pair (.list (.int .u8)) (.pair (.int .i64) .unit)),(.pair (.list (.int .u8)) .unit),R_Syndromes_r,32⟩
theorem R_Syndromes_ok:CtrOk Try.prog 32 R_Syndromes_ctr:=ctr_ok (l:=R_Syndromes_dc) (f:=12) (an:=R_Syndromes_an) ⟨R_Exp_ok,⟨R_Times_ok,trivial⟩⟩ fun fu x=>by kernel_rfl
def R_Corrected_j3 (fu:Nat) (j4:(Int×List (List Int)×List (Int×Int))→Option (List Int×Bool×Unit)) (v5:Int×List (List Int)×List (Int×Int)):Option (List Int×Bool×Unit) :=
 j4 (((IntKind.i64.wrap (v5.1+(1:Int))),v5.2))
def R_Corrected_l2 (fu:Nat) (a:List Int×Int×List Int×Unit) (v2:Int×List (List Int)×List (Int×Int)) (v3:Int) (j2:(Int×List (List Int)×List (Int×Int))→Option (List Int×Bool×Unit)) (j4:(Int×List (List Int)×List (Int×Int))→Option (List Int×Bool×Unit)) (v4:Int×List (List Int)×List (Int×Int)):Option (List Int×Bool×Unit) :=
 bif (decide (v4.1<(List.length a.2.2.1:Int))) then
  joinF (R_Corrected_j3 fu j4) fun j5 =>
  bif ((decide ((0:Int)≤v4.1))&&(decide (v4.1<(List.length a.2.2.1:Int)))) then
  let v6:Int:=(List.getD a.2.2.1 (Int.toNat v4.1) 0)
  bif ((decide ((0:Int)≤v3))&&(decide (v3<(List.length v4.2.2:Int)))) then
  bindO (R_Exp_r fu (((IntKind.i64.wrap (v3*(IntKind.i64.wrap ((IntKind.i64.wrap ((List.length a.1:Int)-(1:Int)))-v6)))),()))) fun v7 =>
  bif ((decide ((0:Int)≤(List.getD v4.2.2 (Int.toNat v3) (-1,0)).1))&&(decide ((List.getD v4.2.2 (Int.toNat v3) (-1,0)).1<(4294967296:Int)))) then
   bif ((((decide ((0:Int)≤(List.getD v4.2.2 (Int.toNat v3) (-1,0)).1))&&((decide ((List.getD v4.2.2 (Int.toNat v3) (-1,0)).1<(4294967296:Int)))&&(decide ((List.getD v4.2.2 (Int.toNat v3) (-1,0)).2=(List.length (List.getD v4.2.1 (Int.toNat (List.getD v4.2.2 (Int.toNat v3) (-1,0)).1) []):Int)))))&&(decide ((List.getD v4.2.2 (Int.toNat v3) (-1,0)).1<(List.length v4.2.1:Int))))&&(decide ((((List.length (List.getD v4.2.1 (Int.toNat (List.getD v4.2.2 (Int.toNat v3) (-1,0)).1) []):Int)+(List.length ([v7.1]:List Int):Int))*(1:Int))≤(140737488355328:Int)))) then
   let v8:List (List Int):=(List.set v4.2.1 (Int.toNat (List.getD v4.2.2 (Int.toNat v3) (-1,0)).1) ((List.getD v4.2.1 (Int.toNat (List.getD v4.2.2 (Int.toNat v3) (-1,0)).1) [])++([v7.1]:List Int)))
   bif ((decide ((0:Int)≤v3))&&(decide (v3<(List.length v4.2.2:Int)))) then
   j5 ((v4.1,(v8,(List.set v4.2.2 (Int.toNat v3) ((List.getD v4.2.2 (Int.toNat v3) (-1,0)).1,((List.getD v4.2.2 (Int.toNat v3) (-1,0)).2+(List.length ([v7.1]:List Int):Int)))))))
   else none
   else none
  else
  bif (decide (((List.length ([v7.1]:List Int):Int)*(1:Int))≤(140737488355328:Int))) then
  let v8:List (List Int):=v4.2.1
  bif ((decide ((0:Int)≤v3))&&(decide (v3<(List.length v4.2.2:Int)))) then
  bif ((decide ((0:Int)<(List.length ([v7.1]:List Int):Int)))&&(decide ((List.length v8:Int)<(4294967296:Int)))) then
  let v9:List (List Int):=(v8++([([v7.1]:List Int)]:List (List Int)))
  j5 ((v4.1,(v9,(List.set v4.2.2 (Int.toNat v3) ((List.length v8:Int),(List.length ([v7.1]:List Int):Int))))))
  else none
  else none
  else none
  else none
  else none
 else
 j2 (((IntKind.i64.wrap (v2.1+(1:Int))),v4.2))
def R_Corrected_l5 (fu:Nat) (a:List Int×Int×List Int×Unit) (v3:Bool×List (List Int)×List Int) (j5:(Int×List Int)→Option (List Int×Bool×Unit)) (v5:Int×List Int):Option (List Int×Bool×Unit) :=
 bif (decide (v5.1<(List.length a.2.2.1:Int))) then
  bif ((decide ((0:Int)≤v5.1))&&(decide (v5.1<(List.length a.2.2.1:Int)))) then
  let v6:Int:=(List.getD a.2.2.1 (Int.toNat v5.1) 0)
  let v7:Int:=v5.1
  bif ((decide ((0:Int)≤v6))&&(decide (v6<(List.length v5.2:Int)))) then
  bif ((decide ((0:Int)≤v7))&&(decide (v7<(List.length v3.2.2:Int)))) then
  bif ((decide ((0:Int)≤v6))&&(decide (v6<(List.length v5.2:Int)))) then
  j5 (((IntKind.i64.wrap (v5.1+(1:Int))),(List.set v5.2 (Int.toNat v6) (bits BinOp.xor IntKind.u8 (List.getD v5.2 (Int.toNat v6) 0) (List.getD v3.2.2 (Int.toNat v7) 0)))))
  else none
  else none
  else none
  else none
 else
 some ((v5.2,(true,())))
def R_Corrected_j4 (fu:Nat) (a:List Int×Int×List Int×Unit) (v3:Bool×List (List Int)×List Int):Option (List Int×Bool×Unit) :=
 bif (!v3.1) then
  some ((([]:List (Int)),(false,())))
 else
 let v4:List (List Int):=v3.2.1
 bif (decide ((((List.length ([]:List (Int)):Int)+(List.length a.1:Int))*(1:Int))≤(140737488355328:Int))) then
 loopF (R_Corrected_l5 fu a v3) fu (((0:Int),(([]:List (Int))++a.1)))
 else none
def R_Corrected_j12 (fu:Nat) (j13:(Int×List (List Int))→Option (List Int×Bool×Unit)) (v14:Int×List (List Int)):Option (List Int×Bool×Unit) :=
 j13 (((IntKind.i64.wrap (v14.1+(1:Int))),v14.2))
def R_Corrected_l14 (fu:Nat) (v5:Int×List (List Int)×List (Int×Int)) (v6:Int) (v7:Int) (v13:Int×List (List Int)) (v15:Int) (v16:Int) (v17:Bool×List (List Int)) (j14:(Int×List (List Int))→Option (List Int×Bool×Unit)) (j18:(Int×List (List Int))→Option (List Int×Bool×Unit)) (v18:Int×List (List Int)):Option (List Int×Bool×Unit) :=
 bif (decide (v18.1<(List.length (List.getD v17.2 (Int.toNat (List.getD (List.set (List.set v5.2.2 (Int.toNat v6) (List.getD v5.2.2 (Int.toNat v7) (-1,0))) (Int.toNat v7) (List.getD v5.2.2 (Int.toNat v6) (-1,0))) (Int.toNat v15) (-1,0)).1) []):Int))) then
  let v19:Int:=v18.1
  bif ((decide ((0:Int)≤v15))&&(decide (v15<(List.length (List.set (List.set v5.2.2 (Int.toNat v6) (List.getD v5.2.2 (Int.toNat v7) (-1,0))) (Int.toNat v7) (List.getD v5.2.2 (Int.toNat v6) (-1,0))):Int)))) then
  bif (((decide ((0:Int)≤(List.getD (List.set (List.set v5.2.2 (Int.toNat v6) (List.getD v5.2.2 (Int.toNat v7) (-1,0))) (Int.toNat v7) (List.getD v5.2.2 (Int.toNat v6) (-1,0))) (Int.toNat v15) (-1,0)).1))&&((decide ((List.getD (List.set (List.set v5.2.2 (Int.toNat v6) (List.getD v5.2.2 (Int.toNat v7) (-1,0))) (Int.toNat v7) (List.getD v5.2.2 (Int.toNat v6) (-1,0))) (Int.toNat v15) (-1,0)).1<(4294967296:Int)))&&(decide ((List.getD (List.set (List.set v5.2.2 (Int.toNat v6) (List.getD v5.2.2 (Int.toNat v7) (-1,0))) (Int.toNat v7) (List.getD v5.2.2 (Int.toNat v6) (-1,0))) (Int.toNat v15) (-1,0)).2=(List.length (List.getD v18.2 (Int.toNat (List.getD (List.set (List.set v5.2.2 (Int.toNat v6) (List.getD v5.2.2 (Int.toNat v7) (-1,0))) (Int.toNat v7) (List.getD v5.2.2 (Int.toNat v6) (-1,0))) (Int.toNat v15) (-1,0)).1) []):Int)))))&&((decide ((0:Int)≤v19))&&(decide (v19<(List.length (List.getD v18.2 (Int.toNat (List.getD (List.set (List.set v5.2.2 (Int.toNat v6) (List.getD v5.2.2 (Int.toNat v7) (-1,0))) (Int.toNat v7) (List.getD v5.2.2 (Int.toNat v6) (-1,0))) (Int.toNat v15) (-1,0)).1) []):Int))))) then
  bif ((decide ((0:Int)≤(List.getD (List.set (List.set v5.2.2 (Int.toNat v6) (List.getD v5.2.2 (Int.toNat v7) (-1,0))) (Int.toNat v7) (List.getD v5.2.2 (Int.toNat v6) (-1,0))) (Int.toNat v15) (-1,0)).1))&&((decide ((List.getD (List.set (List.set v5.2.2 (Int.toNat v6) (List.getD v5.2.2 (Int.toNat v7) (-1,0))) (Int.toNat v7) (List.getD v5.2.2 (Int.toNat v6) (-1,0))) (Int.toNat v15) (-1,0)).1<(4294967296:Int)))&&(decide ((List.getD (List.set (List.set v5.2.2 (Int.toNat v6) (List.getD v5.2.2 (Int.toNat v7) (-1,0))) (Int.toNat v7) (List.getD v5.2.2 (Int.toNat v6) (-1,0))) (Int.toNat v15) (-1,0)).2=(List.length (List.getD v18.2 (Int.toNat (List.getD (List.set (List.set v5.2.2 (Int.toNat v6) (List.getD v5.2.2 (Int.toNat v7) (-1,0))) (Int.toNat v7) (List.getD v5.2.2 (Int.toNat v6) (-1,0))) (Int.toNat v15) (-1,0)).1) []):Int))))) then
  bif ((decide ((0:Int)≤v6))&&(decide (v6<(List.length (List.set (List.set v5.2.2 (Int.toNat v6) (List.getD v5.2.2 (Int.toNat v7) (-1,0))) (Int.toNat v7) (List.getD v5.2.2 (Int.toNat v6) (-1,0))):Int)))) then
  bif (((decide ((0:Int)≤(List.getD (List.set (List.set v5.2.2 (Int.toNat v6) (List.getD v5.2.2 (Int.toNat v7) (-1,0))) (Int.toNat v7) (List.getD v5.2.2 (Int.toNat v6) (-1,0))) (Int.toNat v6) (-1,0)).1))&&((decide ((List.getD (List.set (List.set v5.2.2 (Int.toNat v6) (List.getD v5.2.2 (Int.toNat v7) (-1,0))) (Int.toNat v7) (List.getD v5.2.2 (Int.toNat v6) (-1,0))) (Int.toNat v6) (-1,0)).1<(4294967296:Int)))&&(decide ((List.getD (List.set (List.set v5.2.2 (Int.toNat v6) (List.getD v5.2.2 (Int.toNat v7) (-1,0))) (Int.toNat v7) (List.getD v5.2.2 (Int.toNat v6) (-1,0))) (Int.toNat v6) (-1,0)).2=(List.length (List.getD v18.2 (Int.toNat (List.getD (List.set (List.set v5.2.2 (Int.toNat v6) (List.getD v5.2.2 (Int.toNat v7) (-1,0))) (Int.toNat v7) (List.getD v5.2.2 (Int.toNat v6) (-1,0))) (Int.toNat v6) (-1,0)).1) []):Int)))))&&((decide ((0:Int)≤v19))&&(decide (v19<(List.length (List.getD v18.2 (Int.toNat (List.getD (List.set (List.set v5.2.2 (Int.toNat v6) (List.getD v5.2.2 (Int.toNat v7) (-1,0))) (Int.toNat v7) (List.getD v5.2.2 (Int.toNat v6) (-1,0))) (Int.toNat v6) (-1,0)).1) []):Int))))) then
  bif ((decide ((0:Int)≤(List.getD (List.set (List.set v5.2.2 (Int.toNat v6) (List.getD v5.2.2 (Int.toNat v7) (-1,0))) (Int.toNat v7) (List.getD v5.2.2 (Int.toNat v6) (-1,0))) (Int.toNat v6) (-1,0)).1))&&((decide ((List.getD (List.set (List.set v5.2.2 (Int.toNat v6) (List.getD v5.2.2 (Int.toNat v7) (-1,0))) (Int.toNat v7) (List.getD v5.2.2 (Int.toNat v6) (-1,0))) (Int.toNat v6) (-1,0)).1<(4294967296:Int)))&&(decide ((List.getD (List.set (List.set v5.2.2 (Int.toNat v6) (List.getD v5.2.2 (Int.toNat v7) (-1,0))) (Int.toNat v7) (List.getD v5.2.2 (Int.toNat v6) (-1,0))) (Int.toNat v6) (-1,0)).2=(List.length (List.getD v18.2 (Int.toNat (List.getD (List.set (List.set v5.2.2 (Int.toNat v6) (List.getD v5.2.2 (Int.toNat v7) (-1,0))) (Int.toNat v7) (List.getD v5.2.2 (Int.toNat v6) (-1,0))) (Int.toNat v6) (-1,0)).1) []):Int))))) then
  bindO (R_Times_r fu ((v16,((List.getD (List.getD v18.2 (Int.toNat (List.getD (List.set (List.set v5.2.2 (Int.toNat v6) (List.getD v5.2.2 (Int.toNat v7) (-1,0))) (Int.toNat v7) (List.getD v5.2.2 (Int.toNat v6) (-1,0))) (Int.toNat v6) (-1,0)).1) []) (Int.toNat v19) 0),())))) fun v20 =>
  bif (((decide ((0:Int)≤(List.getD (List.set (List.set v5.2.2 (Int.toNat v6) (List.getD v5.2.2 (Int.toNat v7) (-1,0))) (Int.toNat v7) (List.getD v5.2.2 (Int.toNat v6) (-1,0))) (Int.toNat v15) (-1,0)).1))&&((decide ((List.getD (List.set (List.set v5.2.2 (Int.toNat v6) (List.getD v5.2.2 (Int.toNat v7) (-1,0))) (Int.toNat v7) (List.getD v5.2.2 (Int.toNat v6) (-1,0))) (Int.toNat v15) (-1,0)).1<(4294967296:Int)))&&(decide ((List.getD (List.set (List.set v5.2.2 (Int.toNat v6) (List.getD v5.2.2 (Int.toNat v7) (-1,0))) (Int.toNat v7) (List.getD v5.2.2 (Int.toNat v6) (-1,0))) (Int.toNat v15) (-1,0)).2=(List.length (List.getD v18.2 (Int.toNat (List.getD (List.set (List.set v5.2.2 (Int.toNat v6) (List.getD v5.2.2 (Int.toNat v7) (-1,0))) (Int.toNat v7) (List.getD v5.2.2 (Int.toNat v6) (-1,0))) (Int.toNat v15) (-1,0)).1) []):Int)))))&&((decide ((0:Int)≤v19))&&(decide (v19<(List.length (List.getD v18.2 (Int.toNat (List.getD (List.set (List.set v5.2.2 (Int.toNat v6) (List.getD v5.2.2 (Int.toNat v7) (-1,0))) (Int.toNat v7) (List.getD v5.2.2 (Int.toNat v6) (-1,0))) (Int.toNat v15) (-1,0)).1) []):Int))))) then
  bif ((decide ((0:Int)≤(List.getD (List.set (List.set v5.2.2 (Int.toNat v6) (List.getD v5.2.2 (Int.toNat v7) (-1,0))) (Int.toNat v7) (List.getD v5.2.2 (Int.toNat v6) (-1,0))) (Int.toNat v15) (-1,0)).1))&&((decide ((List.getD (List.set (List.set v5.2.2 (Int.toNat v6) (List.getD v5.2.2 (Int.toNat v7) (-1,0))) (Int.toNat v7) (List.getD v5.2.2 (Int.toNat v6) (-1,0))) (Int.toNat v15) (-1,0)).1<(4294967296:Int)))&&(decide ((List.getD (List.set (List.set v5.2.2 (Int.toNat v6) (List.getD v5.2.2 (Int.toNat v7) (-1,0))) (Int.toNat v7) (List.getD v5.2.2 (Int.toNat v6) (-1,0))) (Int.toNat v15) (-1,0)).2=(List.length (List.getD v18.2 (Int.toNat (List.getD (List.set (List.set v5.2.2 (Int.toNat v6) (List.getD v5.2.2 (Int.toNat v7) (-1,0))) (Int.toNat v7) (List.getD v5.2.2 (Int.toNat v6) (-1,0))) (Int.toNat v15) (-1,0)).1) []):Int))))) then
  let v21:List (List Int):=(List.set v18.2 (Int.toNat (List.getD (List.set (List.set v5.2.2 (Int.toNat v6) (List.getD v5.2.2 (Int.toNat v7) (-1,0))) (Int.toNat v7) (List.getD v5.2.2 (Int.toNat v6) (-1,0))) (Int.toNat v15) (-1,0)).1) (List.set (List.getD v18.2 (Int.toNat (List.getD (List.set (List.set v5.2.2 (Int.toNat v6) (List.getD v5.2.2 (Int.toNat v7) (-1,0))) (Int.toNat v7) (List.getD v5.2.2 (Int.toNat v6) (-1,0))) (Int.toNat v15) (-1,0)).1) []) (Int.toNat v19) (bits BinOp.xor IntKind.u8 (List.getD (List.getD v18.2 (Int.toNat (List.getD (List.set (List.set v5.2.2 (Int.toNat v6) (List.getD v5.2.2 (Int.toNat v7) (-1,0))) (Int.toNat v7) (List.getD v5.2.2 (Int.toNat v6) (-1,0))) (Int.toNat v15) (-1,0)).1) []) (Int.toNat v19) 0) v20.1)))
  j18 (((IntKind.i64.wrap (v18.1+(1:Int))),v21))
  else none
  else none
  else none
  else none
  else none
  else none
  else none
  else none
 else
 j14 ((v13.1,v18.2))
def R_Corrected_j13 (fu:Nat) (v5:Int×List (List Int)×List (Int×Int)) (v6:Int) (v7:Int) (v13:Int×List (List Int)) (v15:Int) (v16:Int) (j14:(Int×List (List Int))→Option (List Int×Bool×Unit)) (v17:Bool×List (List Int)):Option (List Int×Bool×Unit) :=
 bif v17.1 then
  bif ((decide ((0:Int)≤v15))&&(decide (v15<(List.length (List.set (List.set v5.2.2 (Int.toNat v6) (List.getD v5.2.2 (Int.toNat v7) (-1,0))) (Int.toNat v7) (List.getD v5.2.2 (Int.toNat v6) (-1,0))):Int)))) then
  bif ((decide ((0:Int)≤(List.getD (List.set (List.set v5.2.2 (Int.toNat v6) (List.getD v5.2.2 (Int.toNat v7) (-1,0))) (Int.toNat v7) (List.getD v5.2.2 (Int.toNat v6) (-1,0))) (Int.toNat v15) (-1,0)).1))&&((decide ((List.getD (List.set (List.set v5.2.2 (Int.toNat v6) (List.getD v5.2.2 (Int.toNat v7) (-1,0))) (Int.toNat v7) (List.getD v5.2.2 (Int.toNat v6) (-1,0))) (Int.toNat v15) (-1,0)).1<(4294967296:Int)))&&(decide ((List.getD (List.set (List.set v5.2.2 (Int.toNat v6) (List.getD v5.2.2 (Int.toNat v7) (-1,0))) (Int.toNat v7) (List.getD v5.2.2 (Int.toNat v6) (-1,0))) (Int.toNat v15) (-1,0)).2=(List.length (List.getD v17.2 (Int.toNat (List.getD (List.set (List.set v5.2.2 (Int.toNat v6) (List.getD v5.2.2 (Int.toNat v7) (-1,0))) (Int.toNat v7) (List.getD v5.2.2 (Int.toNat v6) (-1,0))) (Int.toNat v15) (-1,0)).1) []):Int))))) then
  loopF (R_Corrected_l14 fu v5 v6 v7 v13 v15 v16 v17 j14) fu (((0:Int),v17.2))
  else none
  else none
 else
 j14 ((v13.1,v17.2))
def R_Corrected_l11 (fu:Nat) (v5:Int×List (List Int)×List (Int×Int)) (v6:Int) (v7:Int) (j5:(Int×List (List Int)×List (Int×Int))→Option (List Int×Bool×Unit)) (j13:(Int×List (List Int))→Option (List Int×Bool×Unit)) (v13:Int×List (List Int)):Option (List Int×Bool×Unit) :=
 bif (decide (v13.1<(List.length (List.set (List.set v5.2.2 (Int.toNat v6) (List.getD v5.2.2 (Int.toNat v7) (-1,0))) (Int.toNat v7) (List.getD v5.2.2 (Int.toNat v6) (-1,0))):Int))) then
  joinF (R_Corrected_j12 fu j13) fun j14 =>
  let v15:Int:=v13.1
  bif ((decide ((0:Int)≤v15))&&(decide (v15<(List.length (List.set (List.set v5.2.2 (Int.toNat v6) (List.getD v5.2.2 (Int.toNat v7) (-1,0))) (Int.toNat v7) (List.getD v5.2.2 (Int.toNat v6) (-1,0))):Int)))) then
  bif (((decide ((0:Int)≤(List.getD (List.set (List.set v5.2.2 (Int.toNat v6) (List.getD v5.2.2 (Int.toNat v7) (-1,0))) (Int.toNat v7) (List.getD v5.2.2 (Int.toNat v6) (-1,0))) (Int.toNat v15) (-1,0)).1))&&((decide ((List.getD (List.set (List.set v5.2.2 (Int.toNat v6) (List.getD v5.2.2 (Int.toNat v7) (-1,0))) (Int.toNat v7) (List.getD v5.2.2 (Int.toNat v6) (-1,0))) (Int.toNat v15) (-1,0)).1<(4294967296:Int)))&&(decide ((List.getD (List.set (List.set v5.2.2 (Int.toNat v6) (List.getD v5.2.2 (Int.toNat v7) (-1,0))) (Int.toNat v7) (List.getD v5.2.2 (Int.toNat v6) (-1,0))) (Int.toNat v15) (-1,0)).2=(List.length (List.getD v13.2 (Int.toNat (List.getD (List.set (List.set v5.2.2 (Int.toNat v6) (List.getD v5.2.2 (Int.toNat v7) (-1,0))) (Int.toNat v7) (List.getD v5.2.2 (Int.toNat v6) (-1,0))) (Int.toNat v15) (-1,0)).1) []):Int)))))&&((decide ((0:Int)≤v6))&&(decide (v6<(List.length (List.getD v13.2 (Int.toNat (List.getD (List.set (List.set v5.2.2 (Int.toNat v6) (List.getD v5.2.2 (Int.toNat v7) (-1,0))) (Int.toNat v7) (List.getD v5.2.2 (Int.toNat v6) (-1,0))) (Int.toNat v15) (-1,0)).1) []):Int))))) then
  bif ((decide ((0:Int)≤(List.getD (List.set (List.set v5.2.2 (Int.toNat v6) (List.getD v5.2.2 (Int.toNat v7) (-1,0))) (Int.toNat v7) (List.getD v5.2.2 (Int.toNat v6) (-1,0))) (Int.toNat v15) (-1,0)).1))&&((decide ((List.getD (List.set (List.set v5.2.2 (Int.toNat v6) (List.getD v5.2.2 (Int.toNat v7) (-1,0))) (Int.toNat v7) (List.getD v5.2.2 (Int.toNat v6) (-1,0))) (Int.toNat v15) (-1,0)).1<(4294967296:Int)))&&(decide ((List.getD (List.set (List.set v5.2.2 (Int.toNat v6) (List.getD v5.2.2 (Int.toNat v7) (-1,0))) (Int.toNat v7) (List.getD v5.2.2 (Int.toNat v6) (-1,0))) (Int.toNat v15) (-1,0)).2=(List.length (List.getD v13.2 (Int.toNat (List.getD (List.set (List.set v5.2.2 (Int.toNat v6) (List.getD v5.2.2 (Int.toNat v7) (-1,0))) (Int.toNat v7) (List.getD v5.2.2 (Int.toNat v6) (-1,0))) (Int.toNat v15) (-1,0)).1) []):Int))))) then
  let v16:Int:=(List.getD (List.getD v13.2 (Int.toNat (List.getD (List.set (List.set v5.2.2 (Int.toNat v6) (List.getD v5.2.2 (Int.toNat v7) (-1,0))) (Int.toNat v7) (List.getD v5.2.2 (Int.toNat v6) (-1,0))) (Int.toNat v15) (-1,0)).1) []) (Int.toNat v6) 0)
  joinF (R_Corrected_j13 fu v5 v6 v7 v13 v15 v16 j14) fun j17 =>
  bif (decide (v15≠v6)) then
   j17 (((decide (v16≠(0:Int))),v13.2))
  else
  j17 ((false,v13.2))
  else none
  else none
  else none
 else
 j5 (((IntKind.i64.wrap (v5.1+(1:Int))),(v13.2,(List.set (List.set v5.2.2 (Int.toNat v6) (List.getD v5.2.2 (Int.toNat v7) (-1,0))) (Int.toNat v7) (List.getD v5.2.2 (Int.toNat v6) (-1,0))))))
def R_Corrected_l10 (fu:Nat) (v5:Int×List (List Int)×List (Int×Int)) (v6:Int) (v7:Int) (v9:List (List Int)) (v11:Int) (j5:(Int×List (List Int)×List (Int×Int))→Option (List Int×Bool×Unit)) (j12:(Int×List (List Int))→Option (List Int×Bool×Unit)) (v12:Int×List (List Int)):Option (List Int×Bool×Unit) :=
 bif (decide (v12.1<(List.length (List.getD v9 (Int.toNat (List.getD (List.set (List.set v5.2.2 (Int.toNat v6) (List.getD v5.2.2 (Int.toNat v7) (-1,0))) (Int.toNat v7) (List.getD v5.2.2 (Int.toNat v6) (-1,0))) (Int.toNat v6) (-1,0)).1) []):Int))) then
  let v13:Int:=v12.1
  bif ((decide ((0:Int)≤v6))&&(decide (v6<(List.length (List.set (List.set v5.2.2 (Int.toNat v6) (List.getD v5.2.2 (Int.toNat v7) (-1,0))) (Int.toNat v7) (List.getD v5.2.2 (Int.toNat v6) (-1,0))):Int)))) then
  bif ((decide ((0:Int)≤v6))&&(decide (v6<(List.length (List.set (List.set v5.2.2 (Int.toNat v6) (List.getD v5.2.2 (Int.toNat v7) (-1,0))) (Int.toNat v7) (List.getD v5.2.2 (Int.toNat v6) (-1,0))):Int)))) then
  bif (((decide ((0:Int)≤(List.getD (List.set (List.set v5.2.2 (Int.toNat v6) (List.getD v5.2.2 (Int.toNat v7) (-1,0))) (Int.toNat v7) (List.getD v5.2.2 (Int.toNat v6) (-1,0))) (Int.toNat v6) (-1,0)).1))&&((decide ((List.getD (List.set (List.set v5.2.2 (Int.toNat v6) (List.getD v5.2.2 (Int.toNat v7) (-1,0))) (Int.toNat v7) (List.getD v5.2.2 (Int.toNat v6) (-1,0))) (Int.toNat v6) (-1,0)).1<(4294967296:Int)))&&(decide ((List.getD (List.set (List.set v5.2.2 (Int.toNat v6) (List.getD v5.2.2 (Int.toNat v7) (-1,0))) (Int.toNat v7) (List.getD v5.2.2 (Int.toNat v6) (-1,0))) (Int.toNat v6) (-1,0)).2=(List.length (List.getD v12.2 (Int.toNat (List.getD (List.set (List.set v5.2.2 (Int.toNat v6) (List.getD v5.2.2 (Int.toNat v7) (-1,0))) (Int.toNat v7) (List.getD v5.2.2 (Int.toNat v6) (-1,0))) (Int.toNat v6) (-1,0)).1) []):Int)))))&&((decide ((0:Int)≤v13))&&(decide (v13<(List.length (List.getD v12.2 (Int.toNat (List.getD (List.set (List.set v5.2.2 (Int.toNat v6) (List.getD v5.2.2 (Int.toNat v7) (-1,0))) (Int.toNat v7) (List.getD v5.2.2 (Int.toNat v6) (-1,0))) (Int.toNat v6) (-1,0)).1) []):Int))))) then
  bif ((decide ((0:Int)≤(List.getD (List.set (List.set v5.2.2 (Int.toNat v6) (List.getD v5.2.2 (Int.toNat v7) (-1,0))) (Int.toNat v7) (List.getD v5.2.2 (Int.toNat v6) (-1,0))) (Int.toNat v6) (-1,0)).1))&&((decide ((List.getD (List.set (List.set v5.2.2 (Int.toNat v6) (List.getD v5.2.2 (Int.toNat v7) (-1,0))) (Int.toNat v7) (List.getD v5.2.2 (Int.toNat v6) (-1,0))) (Int.toNat v6) (-1,0)).1<(4294967296:Int)))&&(decide ((List.getD (List.set (List.set v5.2.2 (Int.toNat v6) (List.getD v5.2.2 (Int.toNat v7) (-1,0))) (Int.toNat v7) (List.getD v5.2.2 (Int.toNat v6) (-1,0))) (Int.toNat v6) (-1,0)).2=(List.length (List.getD v12.2 (Int.toNat (List.getD (List.set (List.set v5.2.2 (Int.toNat v6) (List.getD v5.2.2 (Int.toNat v7) (-1,0))) (Int.toNat v7) (List.getD v5.2.2 (Int.toNat v6) (-1,0))) (Int.toNat v6) (-1,0)).1) []):Int))))) then
  bindO (R_Times_r fu (((List.getD (List.getD v12.2 (Int.toNat (List.getD (List.set (List.set v5.2.2 (Int.toNat v6) (List.getD v5.2.2 (Int.toNat v7) (-1,0))) (Int.toNat v7) (List.getD v5.2.2 (Int.toNat v6) (-1,0))) (Int.toNat v6) (-1,0)).1) []) (Int.toNat v13) 0),(v11,())))) fun v14 =>
  bif (((decide ((0:Int)≤(List.getD (List.set (List.set v5.2.2 (Int.toNat v6) (List.getD v5.2.2 (Int.toNat v7) (-1,0))) (Int.toNat v7) (List.getD v5.2.2 (Int.toNat v6) (-1,0))) (Int.toNat v6) (-1,0)).1))&&((decide ((List.getD (List.set (List.set v5.2.2 (Int.toNat v6) (List.getD v5.2.2 (Int.toNat v7) (-1,0))) (Int.toNat v7) (List.getD v5.2.2 (Int.toNat v6) (-1,0))) (Int.toNat v6) (-1,0)).1<(4294967296:Int)))&&(decide ((List.getD (List.set (List.set v5.2.2 (Int.toNat v6) (List.getD v5.2.2 (Int.toNat v7) (-1,0))) (Int.toNat v7) (List.getD v5.2.2 (Int.toNat v6) (-1,0))) (Int.toNat v6) (-1,0)).2=(List.length (List.getD v12.2 (Int.toNat (List.getD (List.set (List.set v5.2.2 (Int.toNat v6) (List.getD v5.2.2 (Int.toNat v7) (-1,0))) (Int.toNat v7) (List.getD v5.2.2 (Int.toNat v6) (-1,0))) (Int.toNat v6) (-1,0)).1) []):Int)))))&&((decide ((0:Int)≤v13))&&(decide (v13<(List.length (List.getD v12.2 (Int.toNat (List.getD (List.set (List.set v5.2.2 (Int.toNat v6) (List.getD v5.2.2 (Int.toNat v7) (-1,0))) (Int.toNat v7) (List.getD v5.2.2 (Int.toNat v6) (-1,0))) (Int.toNat v6) (-1,0)).1) []):Int))))) then
  bif ((decide ((0:Int)≤(List.getD (List.set (List.set v5.2.2 (Int.toNat v6) (List.getD v5.2.2 (Int.toNat v7) (-1,0))) (Int.toNat v7) (List.getD v5.2.2 (Int.toNat v6) (-1,0))) (Int.toNat v6) (-1,0)).1))&&((decide ((List.getD (List.set (List.set v5.2.2 (Int.toNat v6) (List.getD v5.2.2 (Int.toNat v7) (-1,0))) (Int.toNat v7) (List.getD v5.2.2 (Int.toNat v6) (-1,0))) (Int.toNat v6) (-1,0)).1<(4294967296:Int)))&&(decide ((List.getD (List.set (List.set v5.2.2 (Int.toNat v6) (List.getD v5.2.2 (Int.toNat v7) (-1,0))) (Int.toNat v7) (List.getD v5.2.2 (Int.toNat v6) (-1,0))) (Int.toNat v6) (-1,0)).2=(List.length (List.getD v12.2 (Int.toNat (List.getD (List.set (List.set v5.2.2 (Int.toNat v6) (List.getD v5.2.2 (Int.toNat v7) (-1,0))) (Int.toNat v7) (List.getD v5.2.2 (Int.toNat v6) (-1,0))) (Int.toNat v6) (-1,0)).1) []):Int))))) then
  let v15:List (List Int):=(List.set v12.2 (Int.toNat (List.getD (List.set (List.set v5.2.2 (Int.toNat v6) (List.getD v5.2.2 (Int.toNat v7) (-1,0))) (Int.toNat v7) (List.getD v5.2.2 (Int.toNat v6) (-1,0))) (Int.toNat v6) (-1,0)).1) (List.set (List.getD v12.2 (Int.toNat (List.getD (List.set (List.set v5.2.2 (Int.toNat v6) (List.getD v5.2.2 (Int.toNat v7) (-1,0))) (Int.toNat v7) (List.getD v5.2.2 (Int.toNat v6) (-1,0))) (Int.toNat v6) (-1,0)).1) []) (Int.toNat v13) v14.1))
  j12 (((IntKind.i64.wrap (v12.1+(1:Int))),v15))
  else none
  else none
  else none
  else none
  else none
  else none
 else
 loopF (R_Corrected_l11 fu v5 v6 v7 j5) fu (((0:Int),v12.2))
def R_Corrected_j9 (fu:Nat) (v5:Int×List (List Int)×List (Int×Int)) (v6:Int) (v7:Int) (j3:(Bool×List (List Int)×List Int)→Option (List Int×Bool×Unit)) (j5:(Int×List (List Int)×List (Int×Int))→Option (List Int×Bool×Unit)) (j7:(Int)→Option (List Int×Bool×Unit)) (v8:Bool):Option (List Int×Bool×Unit) :=
 bif v8 then
  let v9:Int:=(IntKind.i64.wrap (v7+(1:Int)))
  j7 (v9)
 else
 bif (decide (v7=(List.length v5.2.2:Int))) then
  j3 ((false,(v5.2.1,([]:List (Int)))))
 else
 bif ((decide ((0:Int)≤v7))&&(decide (v7<(List.length v5.2.2:Int)))) then
 bif ((decide ((0:Int)≤v6))&&(decide (v6<(List.length v5.2.2:Int)))) then
 bif ((decide ((0:Int)≤v6))&&(decide (v6<(List.length v5.2.2:Int)))) then
 bif ((decide ((0:Int)≤v7))&&(decide (v7<(List.length (List.set v5.2.2 (Int.toNat v6) (List.getD v5.2.2 (Int.toNat v7) (-1,0))):Int)))) then
 let v9:List (List Int):=v5.2.1
 bif ((decide ((0:Int)≤v6))&&(decide (v6<(List.length (List.set (List.set v5.2.2 (Int.toNat v6) (List.getD v5.2.2 (Int.toNat v7) (-1,0))) (Int.toNat v7) (List.getD v5.2.2 (Int.toNat v6) (-1,0))):Int)))) then
 bif (((decide ((0:Int)≤(List.getD (List.set (List.set v5.2.2 (Int.toNat v6) (List.getD v5.2.2 (Int.toNat v7) (-1,0))) (Int.toNat v7) (List.getD v5.2.2 (Int.toNat v6) (-1,0))) (Int.toNat v6) (-1,0)).1))&&((decide ((List.getD (List.set (List.set v5.2.2 (Int.toNat v6) (List.getD v5.2.2 (Int.toNat v7) (-1,0))) (Int.toNat v7) (List.getD v5.2.2 (Int.toNat v6) (-1,0))) (Int.toNat v6) (-1,0)).1<(4294967296:Int)))&&(decide ((List.getD (List.set (List.set v5.2.2 (Int.toNat v6) (List.getD v5.2.2 (Int.toNat v7) (-1,0))) (Int.toNat v7) (List.getD v5.2.2 (Int.toNat v6) (-1,0))) (Int.toNat v6) (-1,0)).2=(List.length (List.getD v9 (Int.toNat (List.getD (List.set (List.set v5.2.2 (Int.toNat v6) (List.getD v5.2.2 (Int.toNat v7) (-1,0))) (Int.toNat v7) (List.getD v5.2.2 (Int.toNat v6) (-1,0))) (Int.toNat v6) (-1,0)).1) []):Int)))))&&((decide ((0:Int)≤v6))&&(decide (v6<(List.length (List.getD v9 (Int.toNat (List.getD (List.set (List.set v5.2.2 (Int.toNat v6) (List.getD v5.2.2 (Int.toNat v7) (-1,0))) (Int.toNat v7) (List.getD v5.2.2 (Int.toNat v6) (-1,0))) (Int.toNat v6) (-1,0)).1) []):Int))))) then
 bif ((decide ((0:Int)≤(List.getD (List.set (List.set v5.2.2 (Int.toNat v6) (List.getD v5.2.2 (Int.toNat v7) (-1,0))) (Int.toNat v7) (List.getD v5.2.2 (Int.toNat v6) (-1,0))) (Int.toNat v6) (-1,0)).1))&&((decide ((List.getD (List.set (List.set v5.2.2 (Int.toNat v6) (List.getD v5.2.2 (Int.toNat v7) (-1,0))) (Int.toNat v7) (List.getD v5.2.2 (Int.toNat v6) (-1,0))) (Int.toNat v6) (-1,0)).1<(4294967296:Int)))&&(decide ((List.getD (List.set (List.set v5.2.2 (Int.toNat v6) (List.getD v5.2.2 (Int.toNat v7) (-1,0))) (Int.toNat v7) (List.getD v5.2.2 (Int.toNat v6) (-1,0))) (Int.toNat v6) (-1,0)).2=(List.length (List.getD v9 (Int.toNat (List.getD (List.set (List.set v5.2.2 (Int.toNat v6) (List.getD v5.2.2 (Int.toNat v7) (-1,0))) (Int.toNat v7) (List.getD v5.2.2 (Int.toNat v6) (-1,0))) (Int.toNat v6) (-1,0)).1) []):Int))))) then
 bindO (R_Inverse_r fu (((List.getD (List.getD v9 (Int.toNat (List.getD (List.set (List.set v5.2.2 (Int.toNat v6) (List.getD v5.2.2 (Int.toNat v7) (-1,0))) (Int.toNat v7) (List.getD v5.2.2 (Int.toNat v6) (-1,0))) (Int.toNat v6) (-1,0)).1) []) (Int.toNat v6) 0),()))) fun v10 =>
 let v11:Int:=v10.1
 bif ((decide ((0:Int)≤v6))&&(decide (v6<(List.length (List.set (List.set v5.2.2 (Int.toNat v6) (List.getD v5.2.2 (Int.toNat v7) (-1,0))) (Int.toNat v7) (List.getD v5.2.2 (Int.toNat v6) (-1,0))):Int)))) then
 bif ((decide ((0:Int)≤(List.getD (List.set (List.set v5.2.2 (Int.toNat v6) (List.getD v5.2.2 (Int.toNat v7) (-1,0))) (Int.toNat v7) (List.getD v5.2.2 (Int.toNat v6) (-1,0))) (Int.toNat v6) (-1,0)).1))&&((decide ((List.getD (List.set (List.set v5.2.2 (Int.toNat v6) (List.getD v5.2.2 (Int.toNat v7) (-1,0))) (Int.toNat v7) (List.getD v5.2.2 (Int.toNat v6) (-1,0))) (Int.toNat v6) (-1,0)).1<(4294967296:Int)))&&(decide ((List.getD (List.set (List.set v5.2.2 (Int.toNat v6) (List.getD v5.2.2 (Int.toNat v7) (-1,0))) (Int.toNat v7) (List.getD v5.2.2 (Int.toNat v6) (-1,0))) (Int.toNat v6) (-1,0)).2=(List.length (List.getD v9 (Int.toNat (List.getD (List.set (List.set v5.2.2 (Int.toNat v6) (List.getD v5.2.2 (Int.toNat v7) (-1,0))) (Int.toNat v7) (List.getD v5.2.2 (Int.toNat v6) (-1,0))) (Int.toNat v6) (-1,0)).1) []):Int))))) then
 loopF (R_Corrected_l10 fu v5 v6 v7 v9 v11 j5) fu (((0:Int),v9))
 else none
 else none
 else none
 else none
 else none
 else none
 else none
 else none
 else none
def R_Corrected_l8 (fu:Nat) (v5:Int×List (List Int)×List (Int×Int)) (v6:Int) (j3:(Bool×List (List Int)×List Int)→Option (List Int×Bool×Unit)) (j5:(Int×List (List Int)×List (Int×Int))→Option (List Int×Bool×Unit)) (j7:(Int)→Option (List Int×Bool×Unit)) (v7:Int):Option (List Int×Bool×Unit) :=
 joinF (R_Corrected_j9 fu v5 v6 v7 j3 j5 j7) fun j8 =>
 bif (decide (v7<(List.length v5.2.2:Int))) then
  bif ((decide ((0:Int)≤v7))&&(decide (v7<(List.length v5.2.2:Int)))) then
  bif (((decide ((0:Int)≤(List.getD v5.2.2 (Int.toNat v7) (-1,0)).1))&&((decide ((List.getD v5.2.2 (Int.toNat v7) (-1,0)).1<(4294967296:Int)))&&(decide ((List.getD v5.2.2 (Int.toNat v7) (-1,0)).2=(List.length (List.getD v5.2.1 (Int.toNat (List.getD v5.2.2 (Int.toNat v7) (-1,0)).1) []):Int)))))&&((decide ((0:Int)≤v6))&&(decide (v6<(List.length (List.getD v5.2.1 (Int.toNat (List.getD v5.2.2 (Int.toNat v7) (-1,0)).1) []):Int))))) then
  bif ((decide ((0:Int)≤(List.getD v5.2.2 (Int.toNat v7) (-1,0)).1))&&((decide ((List.getD v5.2.2 (Int.toNat v7) (-1,0)).1<(4294967296:Int)))&&(decide ((List.getD v5.2.2 (Int.toNat v7) (-1,0)).2=(List.length (List.getD v5.2.1 (Int.toNat (List.getD v5.2.2 (Int.toNat v7) (-1,0)).1) []):Int))))) then
  j8 ((decide ((List.getD (List.getD v5.2.1 (Int.toNat (List.getD v5.2.2 (Int.toNat v7) (-1,0)).1) []) (Int.toNat v6) 0)=(0:Int))))
  else none
  else none
  else none
 else
 j8 (false)
def R_Corrected_j16 (fu:Nat) (j7:(Int×List Int)→Option (List Int×Bool×Unit)) (v8:Int×List Int):Option (List Int×Bool×Unit) :=
 j7 (((IntKind.i64.wrap (v8.1+(1:Int))),v8.2))
def R_Corrected_l15 (fu:Nat) (a:List Int×Int×List Int×Unit) (v5:Int×List (List Int)×List (Int×Int)) (v6:List (List Int)) (j3:(Bool×List (List Int)×List Int)→Option (List Int×Bool×Unit)) (j7:(Int×List Int)→Option (List Int×Bool×Unit)) (v7:Int×List Int):Option (List Int×Bool×Unit) :=
 bif (decide (v7.1<(List.length v5.2.2:Int))) then
  joinF (R_Corrected_j16 fu j7) fun j8 =>
  let v9:Int:=v7.1
  bif (decide (v9<(List.length a.2.2.1:Int))) then
   bif ((decide ((0:Int)≤v9))&&(decide (v9<(List.length v5.2.2:Int)))) then
   bif (((decide ((0:Int)≤(List.getD v5.2.2 (Int.toNat v9) (-1,0)).1))&&((decide ((List.getD v5.2.2 (Int.toNat v9) (-1,0)).1<(4294967296:Int)))&&(decide ((List.getD v5.2.2 (Int.toNat v9) (-1,0)).2=(List.length (List.getD v6 (Int.toNat (List.getD v5.2.2 (Int.toNat v9) (-1,0)).1) []):Int)))))&&((decide ((0:Int)≤(List.length a.2.2.1:Int)))&&(decide ((List.length a.2.2.1:Int)<(List.length (List.getD v6 (Int.toNat (List.getD v5.2.2 (Int.toNat v9) (-1,0)).1) []):Int))))) then
   bif ((decide ((0:Int)≤(List.getD v5.2.2 (Int.toNat v9) (-1,0)).1))&&((decide ((List.getD v5.2.2 (Int.toNat v9) (-1,0)).1<(4294967296:Int)))&&(decide ((List.getD v5.2.2 (Int.toNat v9) (-1,0)).2=(List.length (List.getD v6 (Int.toNat (List.getD v5.2.2 (Int.toNat v9) (-1,0)).1) []):Int))))) then
   bif ((decide ((0:Int)≤v9))&&(decide (v9<(List.length v7.2:Int)))) then
   j8 ((v7.1,(List.set v7.2 (Int.toNat v9) (List.getD (List.getD v6 (Int.toNat (List.getD v5.2.2 (Int.toNat v9) (-1,0)).1) []) (Int.toNat (List.length a.2.2.1:Int)) 0))))
   else none
   else none
   else none
   else none
  else
  bif ((decide ((0:Int)≤v9))&&(decide (v9<(List.length v5.2.2:Int)))) then
  bif (((decide ((0:Int)≤(List.getD v5.2.2 (Int.toNat v9) (-1,0)).1))&&((decide ((List.getD v5.2.2 (Int.toNat v9) (-1,0)).1<(4294967296:Int)))&&(decide ((List.getD v5.2.2 (Int.toNat v9) (-1,0)).2=(List.length (List.getD v6 (Int.toNat (List.getD v5.2.2 (Int.toNat v9) (-1,0)).1) []):Int)))))&&((decide ((0:Int)≤(List.length a.2.2.1:Int)))&&(decide ((List.length a.2.2.1:Int)<(List.length (List.getD v6 (Int.toNat (List.getD v5.2.2 (Int.toNat v9) (-1,0)).1) []):Int))))) then
  bif ((decide ((0:Int)≤(List.getD v5.2.2 (Int.toNat v9) (-1,0)).1))&&((decide ((List.getD v5.2.2 (Int.toNat v9) (-1,0)).1<(4294967296:Int)))&&(decide ((List.getD v5.2.2 (Int.toNat v9) (-1,0)).2=(List.length (List.getD v6 (Int.toNat (List.getD v5.2.2 (Int.toNat v9) (-1,0)).1) []):Int))))) then
  bif (decide ((List.getD (List.getD v6 (Int.toNat (List.getD v5.2.2 (Int.toNat v9) (-1,0)).1) []) (Int.toNat (List.length a.2.2.1:Int)) 0)≠(0:Int))) then
   j3 ((false,(v6,([]:List (Int)))))
  else
  j8 (v7)
  else none
  else none
  else none
 else
 j3 ((true,(v6,v7.2)))
def R_Corrected_l7 (fu:Nat) (a:List Int×Int×List Int×Unit) (j3:(Bool×List (List Int)×List Int)→Option (List Int×Bool×Unit)) (j5:(Int×List (List Int)×List (Int×Int))→Option (List Int×Bool×Unit)) (v5:Int×List (List Int)×List (Int×Int)):Option (List Int×Bool×Unit) :=
 bif (decide (v5.1<(List.length a.2.2.1:Int))) then
  let v6:Int:=v5.1
  loopF (R_Corrected_l8 fu v5 v6 j3 j5) fu (v6)
 else
 bif ((decide ((0:Int)≤(List.length a.2.2.1:Int)))&&(decide (((1:Int)*(List.length a.2.2.1:Int))≤(281474976710656:Int)))) then
 let v6:List (List Int):=v5.2.1
 loopF (R_Corrected_l15 fu a v5 v6 j3) fu (((0:Int),(List.replicate (Int.toNat (List.length a.2.2.1:Int)) (0:Int))))
 else none
def R_Corrected_l6 (fu:Nat) (a:List Int×Int×List Int×Unit) (v1:List Int) (v2:Int×List (List Int)×List (Int×Int)) (j3:(Bool×List (List Int)×List Int)→Option (List Int×Bool×Unit)) (j4:(Int×List (List Int)×List (Int×Int))→Option (List Int×Bool×Unit)) (v4:Int×List (List Int)×List (Int×Int)):Option (List Int×Bool×Unit) :=
 bif (decide (v4.1<(List.length v2.2.2:Int))) then
  let v5:Int:=v4.1
  bif ((decide ((0:Int)≤v5))&&(decide (v5<(List.length v2.2.2:Int)))) then
  bif (((decide ((0:Int)≤(List.getD v2.2.2 (Int.toNat v5) (-1,0)).1))&&((decide ((List.getD v2.2.2 (Int.toNat v5) (-1,0)).1<(4294967296:Int)))&&(decide ((List.getD v2.2.2 (Int.toNat v5) (-1,0)).2=(List.length (List.getD v4.2.1 (Int.toNat (List.getD v2.2.2 (Int.toNat v5) (-1,0)).1) []):Int)))))&&(decide ((((List.length ([]:List (Int)):Int)+(List.length (List.getD v4.2.1 (Int.toNat (List.getD v2.2.2 (Int.toNat v5) (-1,0)).1) []):Int))*(1:Int))≤(140737488355328:Int)))) then
  bif ((decide ((0:Int)≤v5))&&(decide (v5<(List.length v1:Int)))) then
  let v6:Int:=(List.getD v1 (Int.toNat v5) 0)
  bif (decide ((((List.length (([]:List (Int))++(List.getD v4.2.1 (Int.toNat (List.getD v2.2.2 (Int.toNat v5) (-1,0)).1) [])):Int)+(List.length ([v6]:List Int):Int))*(1:Int))≤(140737488355328:Int))) then
  bif ((decide ((0:Int)≤v5))&&(decide (v5<(List.length v4.2.2:Int)))) then
  bif ((decide ((0:Int)<(List.length ((([]:List (Int))++(List.getD v4.2.1 (Int.toNat (List.getD v2.2.2 (Int.toNat v5) (-1,0)).1) []))++([v6]:List Int)):Int)))&&(decide ((List.length v4.2.1:Int)<(4294967296:Int)))) then
  let v7:List (List Int):=(v4.2.1++([((([]:List (Int))++(List.getD v4.2.1 (Int.toNat (List.getD v2.2.2 (Int.toNat v5) (-1,0)).1) []))++([v6]:List Int))]:List (List Int)))
  j4 (((IntKind.i64.wrap (v4.1+(1:Int))),(v7,(List.set v4.2.2 (Int.toNat v5) ((List.length v4.2.1:Int),(List.length ((([]:List (Int))++(List.getD v4.2.1 (Int.toNat (List.getD v2.2.2 (Int.toNat v5) (-1,0)).1) []))++([v6]:List Int)):Int))))))
  else none
  else none
  else none
  else none
  else none
  else none
 else
 loopF (R_Corrected_l7 fu a j3) fu (((0:Int),v4.2))
def R_Corrected_l1 (fu:Nat) (a:List Int×Int×List Int×Unit) (v1:List Int) (j2:(Int×List (List Int)×List (Int×Int))→Option (List Int×Bool×Unit)) (v2:Int×List (List Int)×List (Int×Int)):Option (List Int×Bool×Unit) :=
 bif (decide (v2.1<(List.length (List.replicate (Int.toNat a.2.1) ((-1:Int),(0:Int))):Int))) then
  let v3:Int:=v2.1
  loopF (R_Corrected_l2 fu a v2 v3 j2) fu (((0:Int),v2.2))
 else
 bif (decide (a.2.1<(List.length a.2.2.1:Int))) then
  some ((([]:List (Int)),(false,())))
 else
 joinF (R_Corrected_j4 fu a) fun j3 =>
 bif ((decide ((0:Int)≤(List.length v2.2.2:Int)))&&(decide (((24:Int)*(List.length v2.2.2:Int))≤(281474976710656:Int)))) then
 loopF (R_Corrected_l6 fu a v1 v2 j3) fu (((0:Int),(v2.2.1,(List.replicate (Int.toNat (List.length v2.2.2:Int)) ((-1:Int),(0:Int))))))
 else none
def R_Corrected_r (fu:Nat) (a:List Int×Int×List Int×Unit):Option (List Int×Bool×Unit) :=
 bindO (R_Syndromes_r fu ((a.1,(a.2.1,())))) fun v0 =>
 let v1:List Int:=v0.1
 bif ((decide ((0:Int)≤a.2.1))&&(decide (((24:Int)*a.2.1)≤(281474976710656:Int)))) then
 loopF (R_Corrected_l1 fu a v1) fu (((0:Int),(([]:List (List (Int))),(List.replicate (Int.toNat a.2.1) ((-1:Int),(0:Int))))))
 else none
def R_Corrected_an:An:=(.n (some ⟨[999999],[],[],[.arn (.int .u8) 5],0,[]⟩) (.n none .z (.n none .z (.n none (.ops [(1,(.dr [] []))]) (.n none (.n none .z (.n none (.n (some ⟨[2,0,8,9,1,24,6,7],[],[],[.reg 25 (.int .i64),.arn (.int .u8) 5,.row 1 true .aix 22 0],0,[]⟩) (.n none .z (.n none .z (.n none (.n none (.n none .z (.n none .z (.n none (.n (some ⟨[25,28,10,29],[],[],[.reg 30 (.int .i64),.arn (.int .u8) 5,.row 1 true .aix 22 0],0,[]⟩) (.n none .z (.n none .z (.n (some ⟨[],[],[],[.reg 30 (.int .i64),.arn (.int .u8) 5,.row 1 true .aix 22 0],0,[]⟩) (.n none (.n none .z (.dr [(888888,15),(16,0),(0,0),(1,0)] [(15,(.ops [(999998,.z)]))])) .z) .z))) .z) .z))) .z) .z))) .z) .z)) (.n none (.n none .z (.n none (.n none .z .z) .z)) (.n (some ⟨[0,2],[1],[(13,(.osl 2 0))],[.reg 14 .bool,.arn (.int .u8) 5,.row 2 true (.int .u8) 5 0],1,[(13,(.int .u8),5)]⟩) (.ops [(4,(.n none (.n none .z (.n none (.ops [(2,(.dr [] []))]) (.n none (.n none .z (.n none (.n (some ⟨[8,2,0,1,23,6,7],[],[],[.reg 24 (.int .i64),.arn (.int .u8) 5,.row 2 true .aix 22 0],0,[]⟩) (.n none .z (.n none .z (.n none (.n none (.n none .z (.dr [] [])) .z) .z))) .z) .z)) (.n none (.n none .z (.n none (.n (some ⟨[2,8,43],[],[],[.reg 44 (.int .i64),.arn (.int .u8) 5,.row 2 true .aix 22 0],0,[]⟩) (.n none .z (.n none .z (.n none (.n none (.n none .z (.n none .z (.n none (.n none (.n (some ⟨[44,10],[0,2],[],[.reg 11 (.int .i64)],0,[]⟩) (.n none (.n (some ⟨[11],[],[],[.reg 61 .bool],0,[]⟩) .z .z) (.n none .z .z)) .z) .z) (.n none (.n none .z (.n none (.n none .z .z) .z)) (.n none (.dr [] []) (.n none .z (.n none (.n none .z (.n none (.n (some ⟨[10,44,12,94],[2],[],[.reg 95 (.int .i64),.arn (.int .u8) 5],0,[]⟩) (.n none .z (.n none .z (.n none (.n none (.n none .z (.dr [] [])) .z) .z))) .z) .z)) (.n none .z (.n none (.n (some ⟨[44,10,115],[2],[],[.reg 116 (.int .i64),.arn (.int .u8) 5],0,[]⟩) (.n none .z (.n none .z (.n (some ⟨[],[],[],[.reg 116 (.int .i64),.arn (.int .u8) 5],0,[]⟩) (.n none (.n none .z (.n none .z (.n (some ⟨[15,14,116],[],[],[.reg 132 .bool,.arn (.int .u8) 5],0,[]⟩) .z (.n none (.n none .z (.n none (.n (some ⟨[137],[],[],[.reg 138 (.int .i64),.arn (.int .u8) 5],0,[]⟩) (.n none .z (.n none .z (.n none (.n none (.n none .z (.dr [] [])) .z) .z))) .z) .z)) .z)))) .z) .z))) .z) .z))))))))) .z) .z))) .z) .z)) (.n none .z (.n none (.n none .z (.n none (.n (some ⟨[17,8,2,165],[0,2],[],[.reg 166 (.int .i64),.row 3 true (.int .u8) 5 0],0,[]⟩) (.n none .z (.n none .z (.n (some ⟨[],[],[],[.reg 166 (.int .i64),.row 3 true (.int .u8) 5 0],0,[]⟩) (.n none (.n none .z (.n none .z (.n none .z (.n none .z (.n none (.n none .z .z) .z))))) .z) .z))) .z) .z)) (.n none .z .z))))))) .z))]) (.n none (.n none .z (.n none (.n none .z .z) .z)) (.n none .z (.n none (.n none .z (.n none (.n (some ⟨[15,70,13,71],[0,2],[],[.reg 72 (.int .i64),.row 3 false (.int .u8) 5 1],0,[]⟩) (.n none .z (.n none .z (.n none (.n none (.n none .z (.dr [] [])) .z) .z))) .z) .z)) (.n none .z .z)))))))))) .z)
noncomputable def R_Corrected_dc:List (Nat×Ctr):=[(32,R_Syndromes_ctr),(33,R_Exp_ctr),(42,R_Times_ctr),(44,R_Inverse_ctr)]
def R_Corrected_ctr:Ctr:=⟨(.pair (.list (.int .u8)) (.pair (.int .i64) (.pair (.list (.int .i64)) .unit))),(.pair (.list (.int .u8)) (.pair .bool .unit)),R_Corrected_r,22⟩
theorem R_Corrected_ok:CtrOk Try.prog 22 R_Corrected_ctr:=ctr_ok (l:=R_Corrected_dc) (f:=12) (an:=R_Corrected_an) ⟨R_Syndromes_ok,⟨R_Exp_ok,⟨R_Times_ok,⟨R_Inverse_ok,trivial⟩⟩⟩⟩ fun fu x=>by kernel_rfl
def R_Checks_l1 (fu:Nat) (a:List Int×Int×Unit) (j0:(Int×List Int)→Option (List Int×Unit)) (v0:Int×List Int):Option (List Int×Unit) :=
 bif (decide (v0.1<a.2.1)) then
  let v1:Int:=v0.1
  bif (decide ((((List.length v0.2:Int)+(List.length ([(IntKind.i64.wrap ((List.length a.1:Int)+v1))]:List Int):Int))*(8:Int))≤(140737488355328:Int))) then
  j0 (((IntKind.i64.wrap (v0.1+(1:Int))),(v0.2++([(IntKind.i64.wrap ((List.length a.1:Int)+v1))]:List Int))))
  else none
 else
 bindO (R_Corrected_r fu ((((([]:List (Int))++a.1)++(List.replicate (Int.toNat a.2.1) (0:Int))),(a.2.1,(v0.2,()))))) fun v1 =>
 let v2:List Int:=v1.1
 let v3:Bool:=v1.2.1
 bif (decide ((List.length v2:Int)<(List.length a.1:Int))) then
  some ((([]:List (Int)),()))
 else
 bif ((decide ((0:Int)≤(List.length a.1:Int)))&&(decide ((List.length a.1:Int)≤(List.length v2:Int)))) then
 let v4:List Int:=(List.drop (Int.toNat (List.length a.1:Int)) (List.take (Int.toNat (List.length v2:Int)) v2))
 some ((v4,()))
 else none
def R_Checks_r (fu:Nat) (a:List Int×Int×Unit):Option (List Int×Unit) :=
 bif (decide ((((List.length ([]:List (Int)):Int)+(List.length a.1:Int))*(1:Int))≤(140737488355328:Int))) then
 bif ((decide ((0:Int)≤a.2.1))&&((decide ((List.length (([]:List (Int))++a.1):Int)≤(500000:Int)))&&(decide (a.2.1≤(500000:Int))))) then
 loopF (R_Checks_l1 fu a) fu (((0:Int),([]:List (Int))))
 else none
 else none
def R_Checks_an:An:=(.n none .z (.n none .z (.n none .z (.n none (.n none .z (.n none (.n (some ⟨[0,1,5,15,4],[0],[(6,(.osl 1 0))],[.reg 16 (.int .i64),.row 1 true (.int .i64) 3 0],1,[(6,(.int .i64),3)]⟩) (.n none .z (.n none .z (.n none (.n none (.n none .z .z) .z) .z))) .z) .z)) (.n none .z (.n none (.n none .z (.n none (.n none .z .z) .z)) (.n none .z .z)))))))
noncomputable def R_Checks_dc:List (Nat×Ctr):=[(22,R_Corrected_ctr)]
def R_Checks_ctr:Ctr:=⟨(.pair (.list (.int .u8)) (.pair (.int .i64) .unit)),(.pair (.list (.int .u8)) .unit),R_Checks_r,11⟩
theorem R_Checks_ok:CtrOk Try.prog 11 R_Checks_ctr:=ctr_ok (l:=R_Checks_dc) (f:=12) (an:=R_Checks_an) ⟨R_Corrected_ok,trivial⟩ fun fu x=>by kernel_rfl
def R_BitsErr_j4 (fu:Nat) (v4:Int) (j4:(Int)→Option (Int×Unit)) (v5:Bool):Option (Int×Unit) :=
 bif v5 then
  some (((4:Int),()))
 else
 j4 ((IntKind.i64.wrap (v4+(1:Int))))
def R_BitsErr_l3 (fu:Nat) (a:(Int×Int×List Int)×Unit) (v1:Int) (v2:Int) (v3:Int) (j2:(Int)→Option (Int×Unit)) (j4:(Int)→Option (Int×Unit)) (v4:Int):Option (Int×Unit) :=
 bif (decide (v4<(8:Int))) then
  joinF (R_BitsErr_j4 fu v4 j4) fun j5 =>
  bif (decide (v1≠(0:Int))) then
  bif (decide (a.1.1≤(IntKind.i64.wrap ((IntKind.i64.wrap ((Int.tmod v2 v1)*(8:Int)))+v4)))) then
   bif ((decide ((0:Int)≤v4))&&(decide (v4≤(8:Int)))) then
   j5 ((decide ((bits BinOp.and IntKind.u8 (IntKind.u8.wrap (v3*2 ^ (Int.toNat v4))) (128:Int))≠(0:Int))))
   else none
  else
  j5 (false)
  else none
 else
 j2 ((IntKind.i64.wrap (v2+(1:Int))))
def R_BitsErr_l2 (fu:Nat) (a:(Int×Int×List Int)×Unit) (v1:Int) (j2:(Int)→Option (Int×Unit)) (v2:Int):Option (Int×Unit) :=
 bif (decide (v2<(List.length a.1.2.2:Int))) then
  bif ((decide ((0:Int)≤v2))&&(decide (v2<(List.length a.1.2.2:Int)))) then
  let v3:Int:=(List.getD a.1.2.2 (Int.toNat v2) 0)
  loopF (R_BitsErr_l3 fu a v1 v2 v3 j2) fu ((0:Int))
  else none
 else
 some (((0:Int),()))
def R_BitsErr_j1 (fu:Nat) (a:(Int×Int×List Int)×Unit) (v0:Bool):Option (Int×Unit) :=
 bif v0 then
  some (((3:Int),()))
 else
 let v1:Int:=(IntKind.i64.wrap (Int.tdiv (IntKind.i64.wrap (a.1.1+(7:Int))) (8:Int)))
 bif (decide ((List.length a.1.2.2:Int)≠(IntKind.i64.wrap (v1*a.1.2.1)))) then
  some (((4:Int),()))
 else
 loopF (R_BitsErr_l2 fu a v1) fu ((0:Int))
def R_BitsErr_r (fu:Nat) (a:(Int×Int×List Int)×Unit):Option (Int×Unit) :=
 joinF (R_BitsErr_j1 fu a) fun j0 =>
 bindO (R_Within_r fu ((a.1.1,((1:Int),((1024:Int),()))))) fun v1 =>
 bif (!v1.1) then
  j0 (true)
 else
 bindO (R_Within_r fu ((a.1.2.1,((1:Int),((1024:Int),()))))) fun v2 =>
 j0 ((!v2.1))
def R_BitsErr_an:An:=(.n none .z (.n none (.n (some ⟨[1],[0],[],[.reg 16 .bool],0,[]⟩) .z (.n none (.n none .z .z) .z)) (.n none .z (.n none (.n none .z (.n none (.n none .z .z) .z)) (.n none (.n none .z (.n none (.n (some ⟨[30,3,1,31],[0],[],[.reg 32 (.int .i64)],0,[]⟩) (.n none .z (.n none .z (.n none (.n none (.n none .z (.n none .z (.n none (.n (some ⟨[32,4,5],[],[],[.reg 37 (.int .i64)],0,[]⟩) (.n none .z (.n none .z (.n none (.n none (.n none .z (.n (some ⟨[37],[],[],[.reg 55 .bool],0,[]⟩) (.dr [] []) (.n none (.n none .z .z) .z))) .z) .z))) .z) .z))) .z) .z))) .z) .z)) (.n none .z .z))))))
noncomputable def R_BitsErr_dc:List (Nat×Ctr):=[(7,R_Within_ctr)]
def R_BitsErr_ctr:Ctr:=⟨(.pair (.agg (.pair (.int .i64) (.pair (.int .i64) (.list (.int .u8))))) .unit),(.pair (.int .i64) .unit),R_BitsErr_r,10⟩
theorem R_BitsErr_ok:CtrOk Try.prog 10 R_BitsErr_ctr:=ctr_ok (l:=R_BitsErr_dc) (f:=12) (an:=R_BitsErr_an) ⟨R_Within_ok,trivial⟩ fun fu x=>by kernel_rfl
def R_NoBits_r (fu:Nat) (a:(Int×Int×List Int)×Unit):Option (Bool×Unit) :=
 bif (decide (a.1.1=(0:Int))) then
  bif (decide (a.1.2.1=(0:Int))) then
   let v0:Bool:=(decide ((List.length a.1.2.2:Int)=(0:Int)))
   some ((v0,()))
  else
  some ((false,()))
 else
 some ((false,()))
def R_NoBits_an:An:=(.n none .z (.n none .z .z))
noncomputable def R_NoBits_dc:List (Nat×Ctr):=[]
def R_NoBits_ctr:Ctr:=⟨(.pair (.agg (.pair (.int .i64) (.pair (.int .i64) (.list (.int .u8))))) .unit),(.pair .bool .unit),R_NoBits_r,21⟩
theorem R_NoBits_ok:CtrOk Try.prog 21 R_NoBits_ctr:=ctr_ok (l:=R_NoBits_dc) (f:=12) (an:=R_NoBits_an) trivial fun fu x=>by kernel_rfl
def law_refused_r (fu:Nat) (a:(Int×Int×List Int)×Int×Int×Unit):Option (Bool×Unit) :=
 bindO (R_NoBits_r fu ((a.1,()))) fun v0 =>
 bif v0.1 then
  let v1:Bool:=(decide (a.2.1=a.2.2.1))
  some ((v1,()))
 else
 some ((false,()))
def law_refused_an:An:=(.n none .z (.n none .z .z))
noncomputable def law_refused_dc:List (Nat×Ctr):=[(21,R_NoBits_ctr)]
def law_refused_ctr:Ctr:=⟨(.pair (.agg (.pair (.int .i64) (.pair (.int .i64) (.list (.int .u8))))) (.pair (.int .i64) (.pair (.int .i64) .unit))),(.pair .bool .unit),law_refused_r,8⟩
theorem law_refused_ok:CtrOk Try.prog 8 law_refused_ctr:=ctr_ok (l:=law_refused_dc) (f:=12) (an:=law_refused_an) ⟨R_NoBits_ok,trivial⟩ fun fu x=>by kernel_rfl
def law_none_r (fu:Nat) (a:Bool×Int×Int×Unit):Option (Bool×Unit) :=
 bif a.1 then
  let v0:Bool:=(decide (a.2.1=a.2.2.1))
  some ((v0,()))
 else
 some ((false,()))
def law_none_an:An:=(.n none .z (.n none .z .z))
noncomputable def law_none_dc:List (Nat×Ctr):=[]
def law_none_ctr:Ctr:=⟨(.pair .bool (.pair (.int .i64) (.pair (.int .i64) .unit))),(.pair .bool .unit),law_none_r,9⟩
theorem law_none_ok:CtrOk Try.prog 9 law_none_ctr:=ctr_ok (l:=law_none_dc) (f:=12) (an:=law_none_an) trivial fun fu x=>by kernel_rfl
def matrix_isSide_r (fu:Nat) (a:Int×Unit):Option (Bool×Unit) :=
 bif (decide ((8:Int)≤a.1)) then
  bif (decide (a.1≤(32:Int))) then
   let v0:Bool:=(decide ((Int.tmod a.1 (2:Int))=(0:Int)))
   some ((v0,()))
  else
  some ((false,()))
 else
 some ((false,()))
def matrix_isSide_an:An:=(.n none .z (.n none .z .z))
noncomputable def matrix_isSide_dc:List (Nat×Ctr):=[]
def matrix_isSide_ctr:Ctr:=⟨(.pair (.int .i64) .unit),(.pair .bool .unit),matrix_isSide_r,20⟩
theorem matrix_isSide_ok:CtrOk Try.prog 20 matrix_isSide_ctr:=ctr_ok (l:=matrix_isSide_dc) (f:=12) (an:=matrix_isSide_an) trivial fun fu x=>by kernel_rfl
def matrix_Size_r (fu:Nat) (a:Int×Unit):Option (Int×Int×Int×Int×Unit) :=
 bindO (matrix_isSide_r fu ((a.1,()))) fun v0 =>
 bif (!v0.1) then
  some (((0:Int),((0:Int),((0:Int),((3:Int),())))))
 else
 let v1:Int:=(IntKind.i64.wrap (Int.tdiv (IntKind.i64.wrap ((IntKind.i64.wrap (a.1-(2:Int)))*(IntKind.i64.wrap (a.1-(2:Int))))) (8:Int)))
 let v2:Int:=(max (2:Int) (IntKind.i64.wrap ((IntKind.i64.wrap (Int.tdiv v1 (6:Int)))*(2:Int))))
 let v3:Int:=(IntKind.i64.wrap ((IntKind.i64.wrap (v1-v2))-(1:Int)))
 some ((v1,(v2,(v3,((0:Int),())))))
def matrix_Size_an:An:=(.n none .z (.n none (.n none .z (.n none (.n none .z .z) .z)) (.n none .z (.n none .z (.n none .z .z)))))
noncomputable def matrix_Size_dc:List (Nat×Ctr):=[(20,matrix_isSide_ctr)]
def matrix_Size_ctr:Ctr:=⟨(.pair (.int .i64) .unit),(.pair (.int .i64) (.pair (.int .i64) (.pair (.int .i64) (.pair (.int .i64) .unit)))),matrix_Size_r,6⟩
theorem matrix_Size_ok:CtrOk Try.prog 6 matrix_Size_ctr:=ctr_ok (l:=matrix_Size_dc) (f:=12) (an:=matrix_Size_an) ⟨matrix_isSide_ok,trivial⟩ fun fu x=>by kernel_rfl
def matrix_dark_j1 (fu:Nat) (a:Int×Int×Int×Unit) (v0:Bool):Option (Bool×Bool×Unit) :=
 bif v0 then
  some ((true,(true,())))
 else
 let v1:Bool:=(decide (a.2.2.1=(0:Int)))
 bif v1 then
  let v2:Bool:=(decide ((Int.tmod a.2.1 (2:Int))=(0:Int)))
  some ((v2,(true,())))
 else
 let v2:Bool:=(decide (a.2.1=(IntKind.i64.wrap (a.1-(1:Int)))))
 bif v2 then
  let v3:Bool:=(decide ((Int.tmod (IntKind.i64.wrap ((IntKind.i64.wrap (a.1-(1:Int)))-a.2.2.1)) (2:Int))=(0:Int)))
  some ((v3,(true,())))
 else
 some ((false,(false,())))
def matrix_dark_r (fu:Nat) (a:Int×Int×Int×Unit):Option (Bool×Bool×Unit) :=
 joinF (matrix_dark_j1 fu a) fun j0 =>
 bif (decide (a.2.1=(0:Int))) then
  j0 (true)
 else
 let v1:Bool:=(decide (a.2.2.1=(IntKind.i64.wrap (a.1-(1:Int)))))
 j0 (v1)
def matrix_dark_an:An:=(.n none .z (.n none (.n none (.n (some ⟨[1,2,0],[],[],[.reg 8 .bool],0,[]⟩) .z (.n none (.n none .z .z) (.n none .z (.n none (.n none .z .z) (.n none .z (.n none (.n none .z .z) .z)))))) .z) (.n none .z .z)))
noncomputable def matrix_dark_dc:List (Nat×Ctr):=[]
def matrix_dark_ctr:Ctr:=⟨(.pair (.int .i64) (.pair (.int .i64) (.pair (.int .i64) .unit))),(.pair .bool (.pair .bool .unit)),matrix_dark_r,18⟩
theorem matrix_dark_ok:CtrOk Try.prog 18 matrix_dark_ctr:=ctr_ok (l:=matrix_dark_dc) (f:=12) (an:=matrix_dark_an) trivial fun fu x=>by kernel_rfl
def bitmap_stride_r (fu:Nat) (a:Int×Unit):Option (Int×Unit) :=
 let v0:Int:=(IntKind.i64.wrap (Int.tdiv (IntKind.i64.wrap (a.1+(7:Int))) (8:Int)))
 some ((v0,()))
def bitmap_stride_an:An:=(.n none .z (.n none .z .z))
noncomputable def bitmap_stride_dc:List (Nat×Ctr):=[]
def bitmap_stride_ctr:Ctr:=⟨(.pair (.int .i64) .unit),(.pair (.int .i64) .unit),bitmap_stride_r,31⟩
theorem bitmap_stride_ok:CtrOk Try.prog 31 bitmap_stride_ctr:=ctr_ok (l:=bitmap_stride_dc) (f:=12) (an:=bitmap_stride_an) trivial fun fu x=>by kernel_rfl
def reedsolomon_Mul_l1 (fu:Nat) (j0:(Int×Int×Int)→Option (Int×Unit)) (v0:Int×Int×Int):Option (Int×Unit) :=
 bif (decide ((0:Int)<v0.2.2)) then
  let v1:Int:=(bits BinOp.xor IntKind.u8 v0.1 (bits BinOp.and IntKind.u8 v0.2.1 (IntKind.u8.wrap (-(bits BinOp.and IntKind.u8 v0.2.2 (1:Int))))))
  let v2:Int:=(bits BinOp.xor IntKind.u8 (IntKind.u8.wrap (v0.2.1*2 ^ (Int.toNat (1:Int)))) (bits BinOp.and IntKind.u8 (29:Int) (IntKind.u8.wrap (-(v0.2.1 / 2 ^ (Int.toNat (7:Int)))))))
  let v3:Int:=(v0.2.2 / 2 ^ (Int.toNat (1:Int)))
  j0 ((v1,(v2,v3)))
 else
 let v1:Int:=v0.1
 some ((v1,()))
def reedsolomon_Mul_r (fu:Nat) (a:Int×Int×Unit):Option (Int×Unit) :=
 loopF (reedsolomon_Mul_l1 fu) fu (((0:Int),(a.1,a.2.1)))
def reedsolomon_Mul_an:An:=(.n none .z (.n none .z (.n none (.n none (.n (some ⟨[4],[],[],[.reg 5 (.int .u8),.reg 0 (.int .u8),.reg 1 (.int .u8)],0,[]⟩) (.n none (.n none .z .z) (.n none (.n none .z (.n none .z .z)) .z)) .z) .z) (.n none .z .z))))
noncomputable def reedsolomon_Mul_dc:List (Nat×Ctr):=[]
def reedsolomon_Mul_ctr:Ctr:=⟨(.pair (.int .u8) (.pair (.int .u8) .unit)),(.pair (.int .u8) .unit),reedsolomon_Mul_r,30⟩
theorem reedsolomon_Mul_ok:CtrOk Try.prog 30 reedsolomon_Mul_ctr:=ctr_ok (l:=reedsolomon_Mul_dc) (f:=12) (an:=reedsolomon_Mul_an) trivial fun fu x=>by kernel_rfl
def reedsolomon_power_j2 (fu:Nat) (v0:Int×Int×Int) (j0:(Int×Int×Int)→Option (Int×Unit)) (v1:Int×Int):Option (Int×Unit) :=
 bindO (reedsolomon_Mul_r fu ((v1.1,(v1.1,())))) fun v2 =>
 let v3:Int:=v2.1
 let v4:Int:=(v0.2.2 / 2 ^ (Int.toNat (1:Int)))
 j0 ((v1.2,(v3,v4)))
def reedsolomon_power_l1 (fu:Nat) (j0:(Int×Int×Int)→Option (Int×Unit)) (v0:Int×Int×Int):Option (Int×Unit) :=
 bif (decide ((0:Int)<v0.2.2)) then
  joinF (reedsolomon_power_j2 fu v0 j0) fun j1 =>
  bif (decide ((bits BinOp.and IntKind.i64 v0.2.2 (1:Int))=(1:Int))) then
   bindO (reedsolomon_Mul_r fu ((v0.1,(v0.2.1,())))) fun v2 =>
   let v3:Int:=v2.1
   j1 ((v0.2.1,v3))
  else
  j1 ((v0.2.1,v0.1))
 else
 let v1:Int:=v0.1
 some ((v1,()))
def reedsolomon_power_r (fu:Nat) (a:Int×Int×Unit):Option (Int×Unit) :=
 loopF (reedsolomon_power_l1 fu) fu (((1:Int),(a.1,a.2.1)))
def reedsolomon_power_an:An:=(.n none .z (.n none .z (.n none (.n none (.n (some ⟨[4],[],[],[.reg 5 (.int .u8),.reg 0 (.int .u8),.reg 1 (.int .i64)],0,[]⟩) (.n none (.n none .z .z) (.n none (.n none (.n (some ⟨[1],[],[],[.reg 0 (.int .u8),.reg 5 (.int .u8)],0,[]⟩) (.n none .z (.n none .z .z)) .z) .z) .z)) .z) .z) (.n none .z .z))))
noncomputable def reedsolomon_power_dc:List (Nat×Ctr):=[(30,reedsolomon_Mul_ctr)]
def reedsolomon_power_ctr:Ctr:=⟨(.pair (.int .u8) (.pair (.int .i64) .unit)),(.pair (.int .u8) .unit),reedsolomon_power_r,29⟩
theorem reedsolomon_power_ok:CtrOk Try.prog 29 reedsolomon_power_ctr:=ctr_ok (l:=reedsolomon_power_dc) (f:=12) (an:=reedsolomon_power_an) ⟨reedsolomon_Mul_ok,trivial⟩ fun fu x=>by kernel_rfl
def _reedsolomon_poly__times_j3 (fu:Nat) (j3:(Int×List Int)→Option (List Int×Unit)) (v4:Int×List Int):Option (List Int×Unit) :=
 j3 (((IntKind.i64.wrap (v4.1+(1:Int))),v4.2))
def _reedsolomon_poly__times_l2 (fu:Nat) (a:List Int×List Int×Int×Unit) (v0:Int×List Int) (v1:Int) (v2:Int) (j0:(Int×List Int)→Option (List Int×Unit)) (j3:(Int×List Int)→Option (List Int×Unit)) (v3:Int×List Int):Option (List Int×Unit) :=
 bif (decide (v3.1<(List.length a.2.1:Int))) then
  joinF (_reedsolomon_poly__times_j3 fu j3) fun j4 =>
  bif ((decide ((0:Int)≤v3.1))&&(decide (v3.1<(List.length a.2.1:Int)))) then
  let v5:Int:=(List.getD a.2.1 (Int.toNat v3.1) 0)
  let v6:Int:=v3.1
  bif (decide ((IntKind.i64.wrap (v2+v6))<(List.length v3.2:Int))) then
   bif ((decide ((0:Int)≤(IntKind.i64.wrap (v2+v6))))&&(decide ((IntKind.i64.wrap (v2+v6))<(List.length v3.2:Int)))) then
   bindO (reedsolomon_Mul_r fu ((v1,(v5,())))) fun v7 =>
   bif ((decide ((0:Int)≤(IntKind.i64.wrap (v2+v6))))&&(decide ((IntKind.i64.wrap (v2+v6))<(List.length v3.2:Int)))) then
   j4 ((v3.1,(List.set v3.2 (Int.toNat (IntKind.i64.wrap (v2+v6))) (bits BinOp.xor IntKind.u8 (List.getD v3.2 (Int.toNat (IntKind.i64.wrap (v2+v6))) 0) v7.1))))
   else none
   else none
  else
  j4 (v3)
  else none
 else
 j0 (((IntKind.i64.wrap (v0.1+(1:Int))),v3.2))
def _reedsolomon_poly__times_l1 (fu:Nat) (a:List Int×List Int×Int×Unit) (j0:(Int×List Int)→Option (List Int×Unit)) (v0:Int×List Int):Option (List Int×Unit) :=
 bif (decide (v0.1<(List.length a.1:Int))) then
  bif ((decide ((0:Int)≤v0.1))&&(decide (v0.1<(List.length a.1:Int)))) then
  let v1:Int:=(List.getD a.1 (Int.toNat v0.1) 0)
  let v2:Int:=v0.1
  loopF (_reedsolomon_poly__times_l2 fu a v0 v1 v2 j0) fu (((0:Int),v0.2))
  else none
 else
 some ((v0.2,()))
def _reedsolomon_poly__times_r (fu:Nat) (a:List Int×List Int×Int×Unit):Option (List Int×Unit) :=
 bif ((decide ((0:Int)≤(min a.2.2.1 (IntKind.i64.wrap ((IntKind.i64.wrap ((List.length a.1:Int)+(List.length a.2.1:Int)))-(1:Int))))))&&(decide (((1:Int)*(min a.2.2.1 (IntKind.i64.wrap ((IntKind.i64.wrap ((List.length a.1:Int)+(List.length a.2.1:Int)))-(1:Int)))))≤(281474976710656:Int)))) then
 loopF (_reedsolomon_poly__times_l1 fu a) fu (((0:Int),(List.replicate (Int.toNat (min a.2.2.1 (IntKind.i64.wrap ((IntKind.i64.wrap ((List.length a.1:Int)+(List.length a.2.1:Int)))-(1:Int))))) (0:Int))))
 else none
def _reedsolomon_poly__times_an:An:=(.n none .z (.n none .z (.n none (.n none .z (.n none (.n (some ⟨[7,21,1,22,6],[],[],[.reg 23 (.int .i64),.row 0 true (.int .u8) 5 0],0,[]⟩) (.n none .z (.n none .z (.n none (.n none (.n none .z (.n none .z (.n none (.n (some ⟨[23,28,9,8,29],[],[],[.reg 30 (.int .i64),.row 0 true (.int .u8) 5 0],0,[]⟩) (.n none .z (.n none .z (.n (some ⟨[],[],[],[.reg 30 (.int .i64),.row 0 true (.int .u8) 5 0],0,[]⟩) (.n none (.n none .z (.n none .z (.n none (.dr [] []) .z))) .z) .z))) .z) .z))) .z) .z))) .z) .z)) (.n none .z .z))))
noncomputable def _reedsolomon_poly__times_dc:List (Nat×Ctr):=[(30,reedsolomon_Mul_ctr)]
def _reedsolomon_poly__times_ctr:Ctr:=⟨(.pair (.list (.int .u8)) (.pair (.list (.int .u8)) (.pair (.int .i64) .unit))),(.pair (.list (.int .u8)) .unit),_reedsolomon_poly__times_r,28⟩
theorem _reedsolomon_poly__times_ok:CtrOk Try.prog 28 _reedsolomon_poly__times_ctr:=ctr_ok (l:=_reedsolomon_poly__times_dc) (f:=12) (an:=_reedsolomon_poly__times_an) ⟨reedsolomon_Mul_ok,trivial⟩ fun fu x=>by kernel_rfl
def reedsolomon_Encode_l4 (fu:Nat) (a:List Int×Int×Unit) (v1:List Int×Int) (v2:Int×List Int) (v4:Int) (j2:(Int×List Int)→Option (List Int×Int×Unit)) (j5:(Int×List Int)→Option (List Int×Int×Unit)) (v5:Int×List Int):Option (List Int×Int×Unit) :=
 bif (decide (v5.1<(List.length (List.set ((List.drop (Int.toNat (0:Int)) (List.take (Int.toNat (min (List.length (List.drop (Int.toNat (1:Int)) (List.take (Int.toNat (List.length v2.2:Int)) v2.2)):Int) (List.length v2.2:Int))) (List.drop (Int.toNat (1:Int)) (List.take (Int.toNat (List.length v2.2:Int)) v2.2))))++(List.drop (Int.toNat (min (List.length (List.drop (Int.toNat (1:Int)) (List.take (Int.toNat (List.length v2.2:Int)) v2.2)):Int) (List.length v2.2:Int))) (List.take (Int.toNat (List.length v2.2:Int)) v2.2))) (Int.toNat (IntKind.i64.wrap (a.2.1-(1:Int)))) (0:Int)):Int))) then
  let v6:Int:=v5.1
  bif ((decide ((0:Int)≤v6))&&(decide (v6<(List.length v5.2:Int)))) then
  bif ((decide ((0:Int)≤(IntKind.i64.wrap ((IntKind.i64.wrap (a.2.1-(1:Int)))-v6))))&&(decide ((IntKind.i64.wrap ((IntKind.i64.wrap (a.2.1-(1:Int)))-v6))<(List.length v1.1:Int)))) then
  let v7:Int:=(List.getD v1.1 (Int.toNat (IntKind.i64.wrap ((IntKind.i64.wrap (a.2.1-(1:Int)))-v6))) 0)
  bindO (reedsolomon_Mul_r fu ((v4,(v7,())))) fun v8 =>
  bif ((decide ((0:Int)≤v6))&&(decide (v6<(List.length v5.2:Int)))) then
  j5 (((IntKind.i64.wrap (v5.1+(1:Int))),(List.set v5.2 (Int.toNat v6) (bits BinOp.xor IntKind.u8 (List.getD v5.2 (Int.toNat v6) 0) v8.1))))
  else none
  else none
  else none
 else
 j2 (((IntKind.i64.wrap (v2.1+(1:Int))),v5.2))
def reedsolomon_Encode_l3 (fu:Nat) (a:List Int×Int×Unit) (v1:List Int×Int) (j2:(Int×List Int)→Option (List Int×Int×Unit)) (v2:Int×List Int):Option (List Int×Int×Unit) :=
 bif (decide (v2.1<(List.length a.1:Int))) then
  bif ((decide ((0:Int)≤v2.1))&&(decide (v2.1<(List.length a.1:Int)))) then
  let v3:Int:=(List.getD a.1 (Int.toNat v2.1) 0)
  bif (decide ((0:Int)<(List.length v2.2:Int))) then
  let v4:Int:=(bits BinOp.xor IntKind.u8 v3 (List.getD v2.2 (Int.toNat (0:Int)) 0))
  bif (decide ((1:Int)≤(List.length v2.2:Int))) then
  bif ((decide ((0:Int)≤(IntKind.i64.wrap (a.2.1-(1:Int)))))&&(decide ((IntKind.i64.wrap (a.2.1-(1:Int)))<(List.length ((List.drop (Int.toNat (0:Int)) (List.take (Int.toNat (min (List.length (List.drop (Int.toNat (1:Int)) (List.take (Int.toNat (List.length v2.2:Int)) v2.2)):Int) (List.length v2.2:Int))) (List.drop (Int.toNat (1:Int)) (List.take (Int.toNat (List.length v2.2:Int)) v2.2))))++(List.drop (Int.toNat (min (List.length (List.drop (Int.toNat (1:Int)) (List.take (Int.toNat (List.length v2.2:Int)) v2.2)):Int) (List.length v2.2:Int))) (List.take (Int.toNat (List.length v2.2:Int)) v2.2))):Int)))) then
  loopF (reedsolomon_Encode_l4 fu a v1 v2 v4 j2) fu (((0:Int),(List.set ((List.drop (Int.toNat (0:Int)) (List.take (Int.toNat (min (List.length (List.drop (Int.toNat (1:Int)) (List.take (Int.toNat (List.length v2.2:Int)) v2.2)):Int) (List.length v2.2:Int))) (List.drop (Int.toNat (1:Int)) (List.take (Int.toNat (List.length v2.2:Int)) v2.2))))++(List.drop (Int.toNat (min (List.length (List.drop (Int.toNat (1:Int)) (List.take (Int.toNat (List.length v2.2:Int)) v2.2)):Int) (List.length v2.2:Int))) (List.take (Int.toNat (List.length v2.2:Int)) v2.2))) (Int.toNat (IntKind.i64.wrap (a.2.1-(1:Int)))) (0:Int))))
  else none
  else none
  else none
  else none
 else
 bif (decide (((List.length a.1:Int)*(1:Int))≤(140737488355328:Int))) then
 bif (decide ((((List.length a.1:Int)+(List.length v2.2:Int))*(1:Int))≤(140737488355328:Int))) then
 some (((a.1++v2.2),((0:Int),())))
 else none
 else none
def reedsolomon_Encode_l2 (fu:Nat) (a:List Int×Int×Unit) (j1:(List Int×Int)→Option (List Int×Int×Unit)) (v1:List Int×Int):Option (List Int×Int×Unit) :=
 bif (decide (v1.2<a.2.1)) then
  let v2:Int:=v1.2
  bindO (reedsolomon_power_r fu (((2:Int),(v2,())))) fun v3 =>
  bindO (_reedsolomon_poly__times_r fu ((v1.1,(([v3.1,(1:Int)]:List Int),((IntKind.i64.wrap (a.2.1+(1:Int))),()))))) fun v4 =>
  let v5:List Int:=v4.1
  j1 ((v5,(IntKind.i64.wrap (v1.2+(1:Int)))))
 else
 bif ((decide ((0:Int)≤a.2.1))&&(decide (((1:Int)*a.2.1)≤(281474976710656:Int)))) then
 loopF (reedsolomon_Encode_l3 fu a v1) fu (((0:Int),(List.replicate (Int.toNat a.2.1) (0:Int))))
 else none
def reedsolomon_Encode_j1 (fu:Nat) (a:List Int×Int×Unit) (v0:Bool):Option (List Int×Int×Unit) :=
 bif v0 then
  some ((([]:List (Int)),((3:Int),())))
 else
 bif (decide ((List.length a.1:Int)=(0:Int))) then
  some ((([]:List (Int)),((1:Int),())))
 else
 bif (decide ((255:Int)<(IntKind.i64.wrap ((List.length a.1:Int)+a.2.1)))) then
  some ((([]:List (Int)),((2:Int),())))
 else
 loopF (reedsolomon_Encode_l2 fu a) fu ((([(1:Int)]:List Int),(0:Int)))
def reedsolomon_Encode_r (fu:Nat) (a:List Int×Int×Unit):Option (List Int×Int×Unit) :=
 joinF (reedsolomon_Encode_j1 fu a) fun j0 =>
 bif (decide (a.2.1<(1:Int))) then
  j0 (true)
 else
 j0 ((decide ((64:Int)<a.2.1)))
def reedsolomon_Encode_an:An:=(.n none .z (.n none (.n (some ⟨[1,0],[],[],[.reg 18 .bool],0,[]⟩) .z (.n none (.n none .z .z) .z)) (.n none (.n none .z (.n none (.n none .z .z) .z)) (.n none (.n none .z (.n none (.n none .z .z) .z)) (.n none .z (.n none (.n none .z (.n none (.n (some ⟨[1,0,28],[],[],[.reg 6 (.ro true (.int .u8)),.reg 29 (.int .i64)],0,[]⟩) (.n none .z (.n none .z (.n none (.n none (.n none .z .z) .z) .z))) .z) .z)) (.n none .z (.n none (.n none .z (.n none (.n (some ⟨[8,0,42,6,1,43],[],[],[.reg 44 (.int .i64),.row 1 true (.int .u8) 5 0],0,[]⟩) (.n none .z (.n none .z (.n none (.n none (.n none .z (.n none .z (.n none .z (.n none .z (.n none .z (.n none (.n (some ⟨[44,11,62],[],[],[.reg 63 (.int .i64),.row 1 true (.int .u8) 5 0],0,[]⟩) (.n none .z (.n none .z (.n none (.n none (.n none .z (.dr [] [])) .z) .z))) .z) .z)))))) .z) .z))) .z) .z)) (.n none .z .z)))))))))
noncomputable def reedsolomon_Encode_dc:List (Nat×Ctr):=[(28,_reedsolomon_poly__times_ctr),(29,reedsolomon_power_ctr),(30,reedsolomon_Mul_ctr)]
def reedsolomon_Encode_ctr:Ctr:=⟨(.pair (.list (.int .u8)) (.pair (.int .i64) .unit)),(.pair (.list (.int .u8)) (.pair (.int .i64) .unit)),reedsolomon_Encode_r,16⟩
theorem reedsolomon_Encode_ok:CtrOk Try.prog 16 reedsolomon_Encode_ctr:=ctr_ok (l:=reedsolomon_Encode_dc) (f:=12) (an:=reedsolomon_Encode_an) ⟨_reedsolomon_poly__times_ok,⟨reedsolomon_power_ok,⟨reedsolomon_Mul_ok,trivial⟩⟩⟩ fun fu x=>by kernel_rfl
def matrix_Encode_j3 (fu:Nat) (j11:(Int×Int×List Int)→Option ((Int×Int×List Int)×Int×Unit)) (v12:Int×Int×List Int):Option ((Int×Int×List Int)×Int×Unit) :=
 j11 ((v12.2.1,((IntKind.i64.wrap (v12.1+(1:Int))),v12.2.2)))
def matrix_Encode_j4 (fu:Nat) (a:List Int×Int×Unit) (v10:Int) (v11:Int×Int×List Int) (v13:Int) (j12:(Int×Int×List Int)→Option ((Int×Int×List Int)×Int×Unit)) (v17:Bool×Int):Option ((Int×Int×List Int)×Int×Unit) :=
 bif v17.1 then
  bindO (bitmap_stride_r fu ((a.2.1,()))) fun v18 =>
  bif ((decide ((0:Int)≤(IntKind.i64.wrap ((IntKind.i64.wrap (v10*v18.1))+(IntKind.i64.wrap (Int.tdiv v13 (8:Int)))))))&&(decide ((IntKind.i64.wrap ((IntKind.i64.wrap (v10*v18.1))+(IntKind.i64.wrap (Int.tdiv v13 (8:Int)))))<(List.length v11.2.2:Int)))) then
  bif ((decide ((0:Int)≤(Int.tmod v13 (8:Int))))&&(decide ((Int.tmod v13 (8:Int))≤(8:Int)))) then
  bif ((decide ((0:Int)≤(IntKind.i64.wrap ((IntKind.i64.wrap (v10*v18.1))+(IntKind.i64.wrap (Int.tdiv v13 (8:Int)))))))&&(decide ((IntKind.i64.wrap ((IntKind.i64.wrap (v10*v18.1))+(IntKind.i64.wrap (Int.tdiv v13 (8:Int)))))<(List.length v11.2.2:Int)))) then
  j12 ((v11.2.1,(v17.2,(List.set v11.2.2 (Int.toNat (IntKind.i64.wrap ((IntKind.i64.wrap (v10*v18.1))+(IntKind.i64.wrap (Int.tdiv v13 (8:Int)))))) (bits BinOp.or IntKind.u8 (List.getD v11.2.2 (Int.toNat (IntKind.i64.wrap ((IntKind.i64.wrap (v10*v18.1))+(IntKind.i64.wrap (Int.tdiv v13 (8:Int)))))) 0) ((128:Int) / 2 ^ (Int.toNat (Int.tmod v13 (8:Int)))))))))
  else none
  else none
  else none
 else
 j12 ((v11.2.1,(v17.2,v11.2.2)))
def matrix_Encode_j5 (fu:Nat) (j17:(Bool×Int)→Option ((Int×Int×List Int)×Int×Unit)) (v18:Int×Bool):Option ((Int×Int×List Int)×Int×Unit) :=
 let v19:Int:=(IntKind.i64.wrap (v18.1+(1:Int)))
 j17 ((v18.2,v19))
def matrix_Encode_l2 (fu:Nat) (a:List Int×Int×Unit) (v1:Int) (v6:List Int) (v9:Int×Int×List Int) (v10:Int) (j9:(Int×Int×List Int)→Option ((Int×Int×List Int)×Int×Unit)) (j11:(Int×Int×List Int)→Option ((Int×Int×List Int)×Int×Unit)) (v11:Int×Int×List Int):Option ((Int×Int×List Int)×Int×Unit) :=
 bif (decide (v11.2.1<a.2.1)) then
  joinF (matrix_Encode_j3 fu j11) fun j12 =>
  let v13:Int:=v11.2.1
  bindO (matrix_dark_r fu ((a.2.1,(v13,(v10,()))))) fun v14 =>
  let v15:Bool:=v14.1
  let v16:Bool:=v14.2.1
  joinF (matrix_Encode_j4 fu a v10 v11 v13 j12) fun j17 =>
  bif (!v16) then
   joinF (matrix_Encode_j5 fu j17) fun j18 =>
   bif (decide (v11.1<(IntKind.i64.wrap ((8:Int)*v1)))) then
    bif ((decide ((0:Int)≤(IntKind.i64.wrap (Int.tdiv v11.1 (8:Int)))))&&(decide ((IntKind.i64.wrap (Int.tdiv v11.1 (8:Int)))<(List.length v6:Int)))) then
    let v19:Int:=(List.getD v6 (Int.toNat (IntKind.i64.wrap (Int.tdiv v11.1 (8:Int)))) 0)
    bif ((decide ((0:Int)≤(IntKind.i64.wrap ((7:Int)-(Int.tmod v11.1 (8:Int))))))&&(decide ((IntKind.i64.wrap ((7:Int)-(Int.tmod v11.1 (8:Int))))≤(8:Int)))) then
    let v20:Bool:=(decide ((bits BinOp.and IntKind.u8 (v19 / 2 ^ (Int.toNat (IntKind.i64.wrap ((7:Int)-(Int.tmod v11.1 (8:Int)))))) (1:Int))=(1:Int)))
    j18 ((v11.1,v20))
    else none
    else none
   else
   j18 ((v11.1,false))
  else
  j17 ((v15,v11.1))
 else
 j9 (((IntKind.i64.wrap (v9.1+(1:Int))),(v11.1,v11.2.2)))
def matrix_Encode_l1 (fu:Nat) (a:List Int×Int×Unit) (v1:Int) (v6:List Int) (j9:(Int×Int×List Int)→Option ((Int×Int×List Int)×Int×Unit)) (v9:Int×Int×List Int):Option ((Int×Int×List Int)×Int×Unit) :=
 bif (decide (v9.1<a.2.1)) then
  let v10:Int:=v9.1
  loopF (matrix_Encode_l2 fu a v1 v6 v9 v10 j9) fu ((v9.2.1,((0:Int),v9.2.2)))
 else
 some (((a.2.1,(a.2.1,v9.2.2)),((0:Int),())))
def matrix_Encode_r (fu:Nat) (a:List Int×Int×Unit):Option ((Int×Int×List Int)×Int×Unit) :=
 bindO (matrix_Size_r fu ((a.2.1,()))) fun v0 =>
 let v1:Int:=v0.1
 let v2:Int:=v0.2.1
 let v3:Int:=v0.2.2.1
 let v4:Int:=v0.2.2.2.1
 bif (decide (v4≠(0:Int))) then
  some ((((0:Int),((0:Int),([]:List (Int)))),(v4,())))
 else
 bif (decide (v3<(List.length a.1:Int))) then
  some ((((0:Int),((0:Int),([]:List (Int)))),((2:Int),())))
 else
 bif ((decide ((0:Int)≤(IntKind.i64.wrap (v1-v2))))&&(decide (((1:Int)*(IntKind.i64.wrap (v1-v2)))≤(281474976710656:Int)))) then
 bif (decide ((0:Int)<(List.length (List.replicate (Int.toNat (IntKind.i64.wrap (v1-v2))) (0:Int)):Int))) then
 bif (decide ((1:Int)≤(List.length (List.set (List.replicate (Int.toNat (IntKind.i64.wrap (v1-v2))) (0:Int)) (Int.toNat (0:Int)) (IntKind.u8.wrap (List.length a.1:Int))):Int))) then
 bif ((decide ((1:Int)≤(List.length (List.set (List.replicate (Int.toNat (IntKind.i64.wrap (v1-v2))) (0:Int)) (Int.toNat (0:Int)) (IntKind.u8.wrap (List.length a.1:Int))):Int)))&&(decide ((List.length (List.set (List.replicate (Int.toNat (IntKind.i64.wrap (v1-v2))) (0:Int)) (Int.toNat (0:Int)) (IntKind.u8.wrap (List.length a.1:Int))):Int)≤(List.length (List.set (List.replicate (Int.toNat (IntKind.i64.wrap (v1-v2))) (0:Int)) (Int.toNat (0:Int)) (IntKind.u8.wrap (List.length a.1:Int))):Int)))) then
 bindO (reedsolomon_Encode_r fu ((((List.drop (Int.toNat (0:Int)) (List.take (Int.toNat (1:Int)) (List.set (List.replicate (Int.toNat (IntKind.i64.wrap (v1-v2))) (0:Int)) (Int.toNat (0:Int)) (IntKind.u8.wrap (List.length a.1:Int)))))++((List.drop (Int.toNat (0:Int)) (List.take (Int.toNat (min (List.length a.1:Int) ((List.length (List.set (List.replicate (Int.toNat (IntKind.i64.wrap (v1-v2))) (0:Int)) (Int.toNat (0:Int)) (IntKind.u8.wrap (List.length a.1:Int))):Int)-(1:Int)))) a.1))++(List.drop (Int.toNat ((1:Int)+(min (List.length a.1:Int) ((List.length (List.set (List.replicate (Int.toNat (IntKind.i64.wrap (v1-v2))) (0:Int)) (Int.toNat (0:Int)) (IntKind.u8.wrap (List.length a.1:Int))):Int)-(1:Int))))) (List.take (Int.toNat (List.length (List.set (List.replicate (Int.toNat (IntKind.i64.wrap (v1-v2))) (0:Int)) (Int.toNat (0:Int)) (IntKind.u8.wrap (List.length a.1:Int))):Int)) (List.set (List.replicate (Int.toNat (IntKind.i64.wrap (v1-v2))) (0:Int)) (Int.toNat (0:Int)) (IntKind.u8.wrap (List.length a.1:Int))))))),(v2,())))) fun v5 =>
 let v6:List Int:=v5.1
 let v7:Int:=v5.2.1
 bif (decide (v7≠(0:Int))) then
  some ((((0:Int),((0:Int),([]:List (Int)))),(v7,())))
 else
 bindO (bitmap_stride_r fu ((a.2.1,()))) fun v8 =>
 bif ((decide ((0:Int)≤(IntKind.i64.wrap (v8.1*a.2.1))))&&(decide (((1:Int)*(IntKind.i64.wrap (v8.1*a.2.1)))≤(281474976710656:Int)))) then
 loopF (matrix_Encode_l1 fu a v1 v6) fu (((0:Int),((0:Int),(List.replicate (Int.toNat (IntKind.i64.wrap (v8.1*a.2.1))) (0:Int)))))
 else none
 else none
 else none
 else none
 else none
def matrix_Encode_an:An:=(.n none .z (.n none .z (.n none (.n none .z (.n none (.n none .z .z) .z)) (.n none (.n none .z (.n none (.n none .z .z) .z)) (.n none .z (.n none .z (.n none .z (.n none .z (.n none (.n none .z (.n none (.n none .z .z) .z)) (.n none (.ops [(2,(.n none (.n none .z (.n none .z .z)) .z))]) (.n none .z (.n none (.n none .z (.n none (.n (some ⟨[4,12,1,11,6,60,5],[0,1,4],[],[.reg 61 (.int .i64),.reg 13 (.int .i64),.row 3 true (.int .u8) 5 0],0,[]⟩) (.n none .z (.n none .z (.n none (.n none (.n none .z (.n none .z (.n none (.n (some ⟨[61,14,64],[],[],[.reg 13 (.int .i64),.reg 65 (.int .i64),.row 3 true (.int .u8) 5 0],0,[]⟩) (.n none .z (.n none .z (.n (some ⟨[],[],[],[.reg 65 (.int .i64),.reg 13 (.int .i64),.row 3 true (.int .u8) 5 0],0,[]⟩) (.n none (.n none .z (.n none .z (.n (some ⟨[15,65],[3],[],[.reg 16 .bool,.reg 13 (.int .i64)],0,[]⟩) (.n none .z (.n none (.n (some ⟨[],[],[],[.reg 13 (.int .i64),.reg 16 .bool],0,[]⟩) .z .z) .z)) (.n none .z (.n none (.ops [(2,(.n none (.dr [] []) .z))]) .z))))) .z) .z))) .z) .z))) .z) .z))) .z) .z)) (.n none .z .z)))))))))))))
noncomputable def matrix_Encode_dc:List (Nat×Ctr):=[(6,matrix_Size_ctr),(16,reedsolomon_Encode_ctr),(18,matrix_dark_ctr),(31,bitmap_stride_ctr)]
def matrix_Encode_ctr:Ctr:=⟨(.pair (.list (.int .u8)) (.pair (.int .i64) .unit)),(.pair (.agg (.pair (.int .i64) (.pair (.int .i64) (.list (.int .u8))))) (.pair (.int .i64) .unit)),matrix_Encode_r,5⟩
theorem matrix_Encode_ok:CtrOk Try.prog 5 matrix_Encode_ctr:=ctr_ok (l:=matrix_Encode_dc) (f:=12) (an:=matrix_Encode_an) ⟨matrix_Size_ok,⟨reedsolomon_Encode_ok,⟨matrix_dark_ok,⟨bitmap_stride_ok,trivial⟩⟩⟩⟩ fun fu x=>by kernel_rfl
def reedsolomon_syndromes_j2 (fu:Nat) (j0:(Bool×Int×List Int)→Option (List Int×Bool×Unit)) (v1:Int×Bool×List Int):Option (List Int×Bool×Unit) :=
 j0 ((v1.2.1,((IntKind.i64.wrap (v1.1+(1:Int))),v1.2.2)))
def reedsolomon_syndromes_l3 (fu:Nat) (a:List Int×Int×Unit) (v0:Bool×Int×List Int) (v2:Int) (v4:Int) (j1:(Int×Bool×List Int)→Option (List Int×Bool×Unit)) (j5:(Int×Int)→Option (List Int×Bool×Unit)) (v5:Int×Int):Option (List Int×Bool×Unit) :=
 bif (decide (v5.2<(List.length a.1:Int))) then
  bif ((decide ((0:Int)≤v5.2))&&(decide (v5.2<(List.length a.1:Int)))) then
  let v6:Int:=(List.getD a.1 (Int.toNat v5.2) 0)
  bindO (reedsolomon_Mul_r fu ((v5.1,(v4,())))) fun v7 =>
  let v8:Int:=(bits BinOp.xor IntKind.u8 v7.1 v6)
  j5 ((v8,(IntKind.i64.wrap (v5.2+(1:Int)))))
  else none
 else
 bif ((decide ((0:Int)≤v2))&&(decide (v2<(List.length v0.2.2:Int)))) then
 bif v0.1 then
  let v6:Bool:=(decide (v5.1=(0:Int)))
  j1 ((v0.2.1,(v6,(List.set v0.2.2 (Int.toNat v2) v5.1))))
 else
 j1 ((v0.2.1,(false,(List.set v0.2.2 (Int.toNat v2) v5.1))))
 else none
def reedsolomon_syndromes_l1 (fu:Nat) (a:List Int×Int×Unit) (j0:(Bool×Int×List Int)→Option (List Int×Bool×Unit)) (v0:Bool×Int×List Int):Option (List Int×Bool×Unit) :=
 bif (decide (v0.2.1<(List.length (List.replicate (Int.toNat a.2.1) (0:Int)):Int))) then
  joinF (reedsolomon_syndromes_j2 fu j0) fun j1 =>
  let v2:Int:=v0.2.1
  bindO (reedsolomon_power_r fu (((2:Int),(v2,())))) fun v3 =>
  let v4:Int:=v3.1
  loopF (reedsolomon_syndromes_l3 fu a v0 v2 v4 j1) fu (((0:Int),(0:Int)))
 else
 let v1:Bool:=v0.1
 some ((v0.2.2,(v1,())))
def reedsolomon_syndromes_r (fu:Nat) (a:List Int×Int×Unit):Option (List Int×Bool×Unit) :=
 bif ((decide ((0:Int)≤a.2.1))&&(decide (((1:Int)*a.2.1)≤(281474976710656:Int)))) then
 loopF (reedsolomon_syndromes_l1 fu a) fu ((true,((0:Int),(List.replicate (Int.toNat a.2.1) (0:Int)))))
 else none
def reedsolomon_syndromes_an:An:=(.n none .z (.n none .z (.n none (.n none .z (.n none (.n (some ⟨[6,0,16,4,5],[],[],[.reg 7 .bool,.reg 17 (.int .i64),.row 0 true (.int .u8) 5 0],0,[]⟩) (.n none .z (.n none .z (.n (some ⟨[],[],[],[.reg 17 (.int .i64),.reg 7 .bool,.row 0 true (.int .u8) 5 0],0,[]⟩) (.n none (.n none .z (.n none .z (.n none .z (.n none (.n none .z (.n none (.n (some ⟨[17,7,8,22,9,23],[0],[],[.reg 10 (.int .u8),.reg 24 (.int .i64)],0,[]⟩) (.n none .z (.n none .z (.n none (.n none (.n none .z .z) .z) .z))) .z) .z)) (.n none .z .z))))) .z) .z))) .z) .z)) (.n none .z .z))))
noncomputable def reedsolomon_syndromes_dc:List (Nat×Ctr):=[(29,reedsolomon_power_ctr),(30,reedsolomon_Mul_ctr)]
def reedsolomon_syndromes_ctr:Ctr:=⟨(.pair (.list (.int .u8)) (.pair (.int .i64) .unit)),(.pair (.list (.int .u8)) (.pair .bool .unit)),reedsolomon_syndromes_r,39⟩
theorem reedsolomon_syndromes_ok:CtrOk Try.prog 39 reedsolomon_syndromes_ctr:=ctr_ok (l:=reedsolomon_syndromes_dc) (f:=12) (an:=reedsolomon_syndromes_an) ⟨reedsolomon_power_ok,⟨reedsolomon_Mul_ok,trivial⟩⟩ fun fu x=>by kernel_rfl
def _reedsolomon_poly__at_l1 (fu:Nat) (a:List Int×Int×Unit) (j1:(Int×Int)→Option (Int×Unit)) (v1:Int×Int):Option (Int×Unit) :=
 bif (decide ((0:Int)≤v1.2)) then
  bindO (reedsolomon_Mul_r fu ((v1.1,(a.2.1,())))) fun v2 =>
  bif ((decide ((0:Int)≤v1.2))&&(decide (v1.2<(List.length a.1:Int)))) then
  let v3:Int:=(List.getD a.1 (Int.toNat v1.2) 0)
  let v4:Int:=(bits BinOp.xor IntKind.u8 v2.1 v3)
  let v5:Int:=(IntKind.i64.wrap (v1.2-(1:Int)))
  j1 ((v4,v5))
  else none
 else
 let v2:Int:=v1.1
 some ((v2,()))
def _reedsolomon_poly__at_r (fu:Nat) (a:List Int×Int×Unit):Option (Int×Unit) :=
 let v0:Int:=(IntKind.i64.wrap ((List.length a.1:Int)-(1:Int)))
 loopF (_reedsolomon_poly__at_l1 fu a) fu (((0:Int),v0))
def _reedsolomon_poly__at_an:An:=(.n none .z (.n none .z (.n none (.n none .z (.n none (.n (some ⟨[1,0,4],[],[],[.reg 5 (.int .u8),.reg 6 (.int .i64)],0,[]⟩) (.n none (.n none .z .z) (.n none (.n none (.dr [] []) .z) .z)) .z) .z)) (.n none .z .z))))
noncomputable def _reedsolomon_poly__at_dc:List (Nat×Ctr):=[(30,reedsolomon_Mul_ctr)]
def _reedsolomon_poly__at_ctr:Ctr:=⟨(.pair (.list (.int .u8)) (.pair (.int .u8) .unit)),(.pair (.int .u8) .unit),_reedsolomon_poly__at_r,45⟩
theorem _reedsolomon_poly__at_ok:CtrOk Try.prog 45 _reedsolomon_poly__at_ctr:=ctr_ok (l:=_reedsolomon_poly__at_dc) (f:=12) (an:=_reedsolomon_poly__at_an) ⟨reedsolomon_Mul_ok,trivial⟩ fun fu x=>by kernel_rfl
def reedsolomon_locate_j2 (fu:Nat) (j2:(Int×Int×Int×Int×List Int×List Int)→Option (List Int×Unit)) (v3:Int×Int×Int×Int×List Int×List Int):Option (List Int×Unit) :=
 let v4:Int:=(IntKind.i64.wrap (v3.1+(1:Int)))
 j2 ((v4,v3.2))
def reedsolomon_locate_l6 (fu:Nat) (a:List Int×List Int×Int×Unit) (v2:Int×Int×Int×Int×List Int×List Int) (v5:Int×Int×List Int) (v9:Int) (v10:List Int×List Int) (j3:(Int×Int×Int×Int×List Int×List Int)→Option (List Int×Unit)) (j11:(Int×List Int×List Int)→Option (List Int×Unit)) (v11:Int×List Int×List Int):Option (List Int×Unit) :=
 bif (decide (v11.1<(List.length v10.2:Int))) then
  bif ((decide ((0:Int)≤v11.1))&&(decide (v11.1<(List.length v11.2.2:Int)))) then
  let v12:Int:=v11.1
  let v13:Int:=(List.getD v11.2.2 (Int.toNat v11.1) 0)
  bif ((decide ((0:Int)≤(IntKind.i64.wrap (v12+v2.2.1))))&&(decide ((IntKind.i64.wrap (v12+v2.2.1))<(List.length v11.2.1:Int)))) then
  bindO (reedsolomon_Mul_r fu ((v9,(v13,())))) fun v14 =>
  bif ((decide ((0:Int)≤(IntKind.i64.wrap (v12+v2.2.1))))&&(decide ((IntKind.i64.wrap (v12+v2.2.1))<(List.length v11.2.1:Int)))) then
  j11 (((IntKind.i64.wrap (v11.1+(1:Int))),((List.set v11.2.1 (Int.toNat (IntKind.i64.wrap (v12+v2.2.1))) (bits BinOp.xor IntKind.u8 (List.getD v11.2.1 (Int.toNat (IntKind.i64.wrap (v12+v2.2.1))) 0) v14.1)),v11.2.2)))
  else none
  else none
  else none
 else
 bif (decide ((IntKind.i64.wrap ((2:Int)*v2.2.2.1))≤(IntKind.i64.wrap (v2.1+a.2.2.1)))) then
  let v12:Int:=(IntKind.i64.wrap ((IntKind.i64.wrap ((IntKind.i64.wrap (v2.1+(1:Int)))+a.2.2.1))-v2.2.2.1))
  let v13:Int:=v5.1
  j3 ((v2.1,((1:Int),(v12,(v13,(v11.2.1,v2.2.2.2.2.1))))))
 else
 let v12:Int:=(IntKind.i64.wrap (v2.2.1+(1:Int)))
 j3 ((v2.1,(v12,(v2.2.2.1,(v2.2.2.2.1,v11.2)))))
def reedsolomon_locate_l5 (fu:Nat) (a:List Int×List Int×Int×Unit) (v2:Int×Int×Int×Int×List Int×List Int) (v5:Int×Int×List Int) (v9:Int) (j3:(Int×Int×Int×Int×List Int×List Int)→Option (List Int×Unit)) (j10:(List Int×List Int)→Option (List Int×Unit)) (v10:List Int×List Int):Option (List Int×Unit) :=
 bif (decide ((List.length v10.1:Int)<(IntKind.i64.wrap ((List.length v10.2:Int)+v2.2.1)))) then
  bif (decide ((((List.length v10.1:Int)+(List.length ([(0:Int)]:List Int):Int))*(1:Int))≤(140737488355328:Int))) then
  j10 (((v10.1++([(0:Int)]:List Int)),v10.2))
  else none
 else
 loopF (reedsolomon_locate_l6 fu a v2 v5 v9 v10 j3) fu (((0:Int),v10))
def reedsolomon_locate_j4 (fu:Nat) (a:List Int×List Int×Int×Unit) (v2:Int×Int×Int×Int×List Int×List Int) (v5:Int×Int×List Int) (j3:(Int×Int×Int×Int×List Int×List Int)→Option (List Int×Unit)) (j5:(Int×Int×List Int)→Option (List Int×Unit)) (v6:Bool×List Int):Option (List Int×Unit) :=
 bif v6.1 then
  bif ((decide ((0:Int)≤v5.2.1))&&(decide (v5.2.1<(List.length v2.2.2.2.2.1:Int)))) then
  bif ((decide ((0:Int)≤(IntKind.i64.wrap (v2.1-v5.2.1))))&&(decide ((IntKind.i64.wrap (v2.1-v5.2.1))<(List.length a.1:Int)))) then
  let v7:Int:=(List.getD a.1 (Int.toNat (IntKind.i64.wrap (v2.1-v5.2.1))) 0)
  bindO (reedsolomon_Mul_r fu (((List.getD v2.2.2.2.2.1 (Int.toNat v5.2.1) 0),(v7,())))) fun v8 =>
  let v9:Int:=(bits BinOp.xor IntKind.u8 v5.1 v8.1)
  let v10:Int:=(IntKind.i64.wrap (v5.2.1+(1:Int)))
  j5 ((v9,(v10,v6.2)))
  else none
  else none
 else
 bif (decide (v5.1=(0:Int))) then
  let v7:Int:=(IntKind.i64.wrap (v2.2.1+(1:Int)))
  j3 ((v2.1,(v7,(v2.2.2.1,(v2.2.2.2.1,(v2.2.2.2.2.1,v6.2))))))
 else
 bif (decide (((List.length v2.2.2.2.2.1:Int)*(1:Int))≤(140737488355328:Int))) then
 bindO (reedsolomon_power_r fu ((v2.2.2.2.1,((254:Int),())))) fun v7 =>
 bindO (reedsolomon_Mul_r fu ((v5.1,(v7.1,())))) fun v8 =>
 let v9:Int:=v8.1
 loopF (reedsolomon_locate_l5 fu a v2 v5 v9 j3) fu ((v2.2.2.2.2.1,v6.2))
 else none
def reedsolomon_locate_l3 (fu:Nat) (a:List Int×List Int×Int×Unit) (v2:Int×Int×Int×Int×List Int×List Int) (j3:(Int×Int×Int×Int×List Int×List Int)→Option (List Int×Unit)) (j5:(Int×Int×List Int)→Option (List Int×Unit)) (v5:Int×Int×List Int):Option (List Int×Unit) :=
 joinF (reedsolomon_locate_j4 fu a v2 v5 j3 j5) fun j6 =>
 bif (decide (v5.2.1<(List.length v2.2.2.2.2.1:Int))) then
  j6 (((decide (v5.2.1≤v2.1)),v5.2.2))
 else
 j6 ((false,v5.2.2))
def reedsolomon_locate_l1 (fu:Nat) (a:List Int×List Int×Int×Unit) (j2:(Int×Int×Int×Int×List Int×List Int)→Option (List Int×Unit)) (v2:Int×Int×Int×Int×List Int×List Int):Option (List Int×Unit) :=
 bif (decide (v2.1<(List.length a.1:Int))) then
  joinF (reedsolomon_locate_j2 fu j2) fun j3 =>
  bif ((decide ((0:Int)≤v2.1))&&(decide (v2.1<(List.length a.1:Int)))) then
  let v4:Int:=(List.getD a.1 (Int.toNat v2.1) 0)
  loopF (reedsolomon_locate_l3 fu a v2 j3) fu ((v4,((1:Int),v2.2.2.2.2.2)))
  else none
 else
 some ((v2.2.2.2.2.1,()))
def reedsolomon_locate_r (fu:Nat) (a:List Int×List Int×Int×Unit):Option (List Int×Unit) :=
 bif (decide (((List.length a.2.1:Int)*(1:Int))≤(140737488355328:Int))) then
 bif (decide (((List.length a.2.1:Int)*(1:Int))≤(140737488355328:Int))) then
 let v0:Int:=a.2.2.1
 let v1:Int:=a.2.2.1
 loopF (reedsolomon_locate_l1 fu a) fu ((v1,((1:Int),(v0,((1:Int),(a.2.1,a.2.1))))))
 else none
 else none
def reedsolomon_locate_an:An:=(.n none .z (.n none .z (.n none .z (.n none (.n none .z (.n none (.n (some ⟨[2,0,6],[],[(7,(.osl 0 0)),(8,(.osl 1 0))],[.reg 12 (.int .i64),.reg 10 (.int .i64),.reg 9 (.int .i64),.reg 11 (.int .u8),.row 0 false (.int .u8) 5 0,.row 1 false (.int .u8) 5 0],0,[]⟩) (.n none (.n none .z .z) (.n (some ⟨[],[],[(7,(.osl 0 0)),(8,(.osl 1 0))],[.reg 12 (.int .i64),.reg 10 (.int .i64),.reg 9 (.int .i64),.reg 11 (.int .u8),.row 0 false (.int .u8) 5 0,.row 1 false (.int .u8) 5 0],0,[]⟩) (.n none (.n none .z (.n none (.n none .z (.n none (.n (some ⟨[11,9,8,7,12,10],[0],[],[.reg 13 (.int .u8),.reg 14 (.int .i64),.row 1 false (.int .u8) 5 0],0,[]⟩) (.n none (.n (some ⟨[14,13],[],[],[.reg 43 .bool,.row 1 false (.int .u8) 5 0],0,[]⟩) .z .z) (.n none (.n none (.dr [] []) .z) .z)) .z) .z)) (.n none (.n none .z (.n none (.n none .z .z) .z)) (.n none .z (.n none .z (.n none (.n none (.n (some ⟨[16,13,15,10,12,8,9,11],[2],[(7,(.osl 0 0))],[.row 0 false (.int .u8) 5 0,.row 1 false (.int .u8) 5 0],0,[]⟩) (.n none (.n none .z .z) (.n none .z .z)) .z) .z) (.n none (.n none .z (.n none (.n (some ⟨[11,9,8,7,12,10,15,13,79,16,80],[2],[],[.reg 81 (.int .i64),.row 0 false (.int .u8) 5 0,.row 1 false (.int .u8) 5 0],0,[]⟩) (.n none .z (.n none .z (.n none (.n none (.n none .z (.dr [] [])) .z) .z))) .z) .z)) (.n none .z (.n none .z .z))))))))) .z) .z)) .z) .z)) (.n none .z .z)))))
noncomputable def reedsolomon_locate_dc:List (Nat×Ctr):=[(29,reedsolomon_power_ctr),(30,reedsolomon_Mul_ctr)]
def reedsolomon_locate_ctr:Ctr:=⟨(.pair (.list (.int .u8)) (.pair (.list (.int .u8)) (.pair (.int .i64) .unit))),(.pair (.list (.int .u8)) .unit),reedsolomon_locate_r,41⟩
theorem reedsolomon_locate_ok:CtrOk Try.prog 41 reedsolomon_locate_ctr:=ctr_ok (l:=reedsolomon_locate_dc) (f:=12) (an:=reedsolomon_locate_an) ⟨reedsolomon_power_ok,⟨reedsolomon_Mul_ok,trivial⟩⟩ fun fu x=>by kernel_rfl
def reedsolomon_check_j1 (fu:Nat) (a:List Int×Int×Unit) (v0:Bool):Option (Int×Unit) :=
 bif v0 then
  some (((3:Int),()))
 else
 let v1:Bool:=(decide ((255:Int)<(List.length a.1:Int)))
 bif v1 then
  some (((2:Int),()))
 else
 let v2:Bool:=(decide ((List.length a.1:Int)≤a.2.1))
 bif v2 then
  some (((12:Int),()))
 else
 some (((0:Int),()))
def reedsolomon_check_r (fu:Nat) (a:List Int×Int×Unit):Option (Int×Unit) :=
 joinF (reedsolomon_check_j1 fu a) fun j0 =>
 bif (decide (a.2.1<(1:Int))) then
  j0 (true)
 else
 let v1:Bool:=(decide ((64:Int)<a.2.1))
 j0 (v1)
def reedsolomon_check_an:An:=(.n none .z (.n none (.n none (.n (some ⟨[0,1],[],[],[.reg 5 .bool],0,[]⟩) .z (.n none (.n none .z .z) (.n none .z (.n none (.n none .z .z) (.n none .z (.n none (.n none .z .z) .z)))))) .z) (.n none .z .z)))
noncomputable def reedsolomon_check_dc:List (Nat×Ctr):=[]
def reedsolomon_check_ctr:Ctr:=⟨(.pair (.list (.int .u8)) (.pair (.int .i64) .unit)),(.pair (.int .i64) .unit),reedsolomon_check_r,38⟩
theorem reedsolomon_check_ok:CtrOk Try.prog 38 reedsolomon_check_ctr:=ctr_ok (l:=reedsolomon_check_dc) (f:=12) (an:=reedsolomon_check_an) trivial fun fu x=>by kernel_rfl
def reedsolomon_Decode_j2 (fu:Nat) (a:List Int×Int×List Int×Unit) (v2:List Int×Int×List Bool) (v3:Int) (j2:(List Int×Int×List Bool)→Option (List Int×Int×Int×Unit)) (v4:Bool):Option (List Int×Int×Int×Unit) :=
 bif v4 then
  some ((([]:List (Int)),((0:Int),((3:Int),()))))
 else
 bif ((decide ((0:Int)≤v3))&&(decide (v3<(List.length v2.2.2:Int)))) then
 bif (List.getD v2.2.2 (Int.toNat v3) false) then
  some ((([]:List (Int)),((0:Int),((7:Int),()))))
 else
 bif ((decide ((0:Int)≤v3))&&(decide (v3<(List.length v2.2.2:Int)))) then
 bindO (reedsolomon_power_r fu (((2:Int),((IntKind.i64.wrap ((IntKind.i64.wrap ((List.length a.1:Int)-(1:Int)))-v3)),())))) fun v5 =>
 bindO (_reedsolomon_poly__times_r fu ((v2.1,(([(1:Int),v5.1]:List Int),((256:Int),()))))) fun v6 =>
 let v7:List Int:=v6.1
 j2 ((v7,((IntKind.i64.wrap (v2.2.1+(1:Int))),(List.set v2.2.2 (Int.toNat v3) true))))
 else none
 else none
def reedsolomon_Decode_j4 (fu:Nat) (j9:(Int×List Int)→Option (List Int×Int×Int×Unit)) (v10:Int×List Int):Option (List Int×Int×Int×Unit) :=
 j9 (((IntKind.i64.wrap (v10.1+(1:Int))),v10.2))
def reedsolomon_Decode_l5 (fu:Nat) (v6:List Int×Unit) (v8:List Int) (v9:Int×List Int) (v11:Int) (v13:Int) (v15:Int) (j10:(Int×List Int)→Option (List Int×Int×Int×Unit)) (j17:(Int×Int)→Option (List Int×Int×Int×Unit)) (v17:Int×Int):Option (List Int×Int×Int×Unit) :=
 bif (decide (v17.2<(List.length v6.1:Int))) then
  bif ((decide ((0:Int)≤v17.2))&&(decide (v17.2<(List.length v6.1:Int)))) then
  let v18:Int:=(List.getD v6.1 (Int.toNat v17.2) 0)
  bindO (reedsolomon_power_r fu ((v15,((IntKind.i64.wrap (v17.2-(1:Int))),())))) fun v19 =>
  bindO (reedsolomon_Mul_r fu ((v18,(v19.1,())))) fun v20 =>
  let v21:Int:=(bits BinOp.xor IntKind.u8 v17.1 v20.1)
  let v22:Int:=(IntKind.i64.wrap (v17.2+(2:Int)))
  j17 ((v21,v22))
  else none
 else
 bif (decide (v17.1≠(0:Int))) then
  bif ((decide ((0:Int)≤v11))&&(decide (v11<(List.length v9.2:Int)))) then
  bindO (_reedsolomon_poly__at_r fu ((v8,(v15,())))) fun v18 =>
  bindO (reedsolomon_Mul_r fu ((v13,(v18.1,())))) fun v19 =>
  bindO (reedsolomon_power_r fu ((v17.1,((254:Int),())))) fun v20 =>
  bindO (reedsolomon_Mul_r fu ((v19.1,(v20.1,())))) fun v21 =>
  bif ((decide ((0:Int)≤v11))&&(decide (v11<(List.length v9.2:Int)))) then
  j10 ((v9.1,(List.set v9.2 (Int.toNat v11) (bits BinOp.xor IntKind.u8 (List.getD v9.2 (Int.toNat v11) 0) v21.1))))
  else none
  else none
 else
 j10 (v9)
def reedsolomon_Decode_j7 (fu:Nat) (j10:(Int×Int×Int)→Option (List Int×Int×Int×Unit)) (v11:Int×Int×Int):Option (List Int×Int×Int×Unit) :=
 j10 ((v11.2.1,(v11.2.2,(IntKind.i64.wrap (v11.1+(1:Int))))))
def reedsolomon_Decode_j8 (fu:Nat) (v9:Int×List Int) (v10:Int×Int×Int) (v13:Bool):Option (List Int×Int×Int×Unit) :=
 bif v13 then
  some ((([]:List (Int)),((0:Int),((21:Int),()))))
 else
 let v14:Int:=v10.1
 some ((v9.2,(v14,((0:Int),()))))
def reedsolomon_Decode_l6 (fu:Nat) (a:List Int×Int×List Int×Unit) (v2:List Int×Int×List Bool) (v9:Int×List Int) (j10:(Int×Int×Int)→Option (List Int×Int×Int×Unit)) (v10:Int×Int×Int):Option (List Int×Int×Int×Unit) :=
 bif (decide (v10.2.2<(List.length v9.2:Int))) then
  joinF (reedsolomon_Decode_j7 fu j10) fun j11 =>
  bif ((decide ((0:Int)≤v10.2.2))&&(decide (v10.2.2<(List.length v9.2:Int)))) then
  let v12:Int:=v10.2.2
  let v13:Int:=(List.getD v9.2 (Int.toNat v10.2.2) 0)
  bif ((decide ((0:Int)≤v12))&&(decide (v12<(List.length a.1:Int)))) then
  let v14:Int:=(List.getD a.1 (Int.toNat v12) 0)
  bif (decide (v13≠v14)) then
   let v15:Int:=(IntKind.i64.wrap (v10.1+(1:Int)))
   bif ((decide ((0:Int)≤v12))&&(decide (v12<(List.length v2.2.2:Int)))) then
   bif (!(List.getD v2.2.2 (Int.toNat v12) false)) then
    let v16:Int:=(IntKind.i64.wrap (v10.2.1+(1:Int)))
    j11 ((v10.2.2,(v15,v16)))
   else
   j11 ((v10.2.2,(v15,v10.2.1)))
   else none
  else
  j11 ((v10.2.2,(v10.1,v10.2.1)))
  else none
  else none
 else
 bindO (reedsolomon_syndromes_r fu ((v9.2,(a.2.1,())))) fun v11 =>
 let v12:Bool:=v11.2.1
 joinF (reedsolomon_Decode_j8 fu v9 v10) fun j13 =>
 bif (!v12) then
  j13 (true)
 else
 j13 ((decide ((IntKind.i64.wrap (a.2.1-(List.length a.2.2.1:Int)))<(IntKind.i64.wrap ((2:Int)*v10.2.1)))))
def reedsolomon_Decode_l3 (fu:Nat) (a:List Int×Int×List Int×Unit) (v2:List Int×Int×List Bool) (v6:List Int×Unit) (v8:List Int) (j9:(Int×List Int)→Option (List Int×Int×Int×Unit)) (v9:Int×List Int):Option (List Int×Int×Int×Unit) :=
 bif (decide (v9.1<(List.length a.1:Int))) then
  joinF (reedsolomon_Decode_j4 fu j9) fun j10 =>
  let v11:Int:=v9.1
  bindO (reedsolomon_power_r fu (((2:Int),((IntKind.i64.wrap ((IntKind.i64.wrap ((List.length v9.2:Int)-(1:Int)))-v11)),())))) fun v12 =>
  let v13:Int:=v12.1
  bindO (reedsolomon_power_r fu ((v13,((254:Int),())))) fun v14 =>
  let v15:Int:=v14.1
  bindO (_reedsolomon_poly__at_r fu ((v6.1,(v15,())))) fun v16 =>
  bif (decide (v16.1≠(0:Int))) then
   j10 (v9)
  else
  loopF (reedsolomon_Decode_l5 fu v6 v8 v9 v11 v13 v15 j10) fu (((0:Int),(1:Int)))
 else
 loopF (reedsolomon_Decode_l6 fu a v2 v9) fu (((0:Int),((0:Int),(0:Int))))
def reedsolomon_Decode_l1 (fu:Nat) (a:List Int×Int×List Int×Unit) (j2:(List Int×Int×List Bool)→Option (List Int×Int×Int×Unit)) (v2:List Int×Int×List Bool):Option (List Int×Int×Int×Unit) :=
 bif (decide (v2.2.1<(List.length a.2.2.1:Int))) then
  bif ((decide ((0:Int)≤v2.2.1))&&(decide (v2.2.1<(List.length a.2.2.1:Int)))) then
  let v3:Int:=(List.getD a.2.2.1 (Int.toNat v2.2.1) 0)
  joinF (reedsolomon_Decode_j2 fu a v2 v3 j2) fun j4 =>
  bif (decide (v3<(0:Int))) then
   j4 (true)
  else
  j4 ((decide ((List.length a.1:Int)≤v3)))
  else none
 else
 bif (decide (a.2.1<(List.length a.2.2.1:Int))) then
  some ((([]:List (Int)),((0:Int),((21:Int),()))))
 else
 bif (decide (((List.length a.1:Int)*(1:Int))≤(140737488355328:Int))) then
 bindO (reedsolomon_syndromes_r fu ((a.1,(a.2.1,())))) fun v3 =>
 let v4:List Int:=v3.1
 let v5:Bool:=v3.2.1
 bif v5 then
  some ((a.1,((0:Int),((0:Int),()))))
 else
 bindO (reedsolomon_locate_r fu ((v4,(v2.1,((List.length a.2.2.1:Int),()))))) fun v6 =>
 bindO (_reedsolomon_poly__times_r fu ((v4,(v6.1,((List.length v4:Int),()))))) fun v7 =>
 let v8:List Int:=v7.1
 loopF (reedsolomon_Decode_l3 fu a v2 v6 v8) fu (((0:Int),a.1))
 else none
def reedsolomon_Decode_r (fu:Nat) (a:List Int×Int×List Int×Unit):Option (List Int×Int×Int×Unit) :=
 bindO (reedsolomon_check_r fu ((a.1,(a.2.1,())))) fun v0 =>
 let v1:Int:=v0.1
 bif (decide (v1≠(0:Int))) then
  some ((([]:List (Int)),((0:Int),(v1,()))))
 else
 bif ((decide ((0:Int)≤(List.length a.1:Int)))&&(decide (((1:Int)*(List.length a.1:Int))≤(281474976710656:Int)))) then
 loopF (reedsolomon_Decode_l1 fu a) fu ((([(1:Int)]:List Int),((0:Int),(List.replicate (Int.toNat (List.length a.1:Int)) false))))
 else none
def reedsolomon_Decode_an:An:=(.n none .z (.n none (.n none .z (.n none .z (.n none (.n none .z .z) .z))) (.n none .z (.n none .z (.n none (.n none .z (.n none (.n (some ⟨[10,0,1,2,31,32],[],[],[.reg 11 (.ro true (.int .u8)),.reg 33 (.int .i64),.row 0 true .bool 4 0],0,[]⟩) (.n none .z (.n none .z (.n none (.n none (.n none .z (.n none (.n (some ⟨[11,13,33],[0],[],[.reg 44 .bool],0,[]⟩) .z (.n none (.n none .z .z) .z)) (.n none (.n none .z (.n none (.n none .z .z) .z)) (.n none .z .z)))) .z) .z))) .z) .z)) (.n none (.n none .z (.n none (.n none .z .z) .z)) (.n none .z (.n none .z (.n none (.n none .z (.n none (.n none .z .z) .z)) (.n none (.ops [(7,(.n none (.n none .z (.n none .z (.n none (.n (some ⟨[0,6,2,18],[0],[],[.reg 19 (.int .i64),.row 2 false (.int .u8) 5 0],0,[]⟩) (.n none .z (.n none .z (.n (some ⟨[],[],[],[.reg 19 (.int .i64),.row 2 false (.int .u8) 5 0],0,[]⟩) (.n none (.n none .z (.n none .z (.n none .z (.n none (.n none .z .z) (.n none .z (.n none (.n none .z (.n none (.n (some ⟨[19,7,8,9],[2],[],[.reg 10 (.int .u8),.reg 11 (.int .i64)],0,[]⟩) (.n none (.n none .z .z) (.n none (.n none (.dr [] []) .z) .z)) .z) .z)) (.n none .z (.n none (.dr [] []) .z)))))))) .z) .z))) .z) .z))) .z))]) (.n none .z (.n none (.n none .z (.n none (.n (some ⟨[14,2,1,84,0,10,85],[0,2],[],[.reg 17 (.int .i64),.reg 18 (.int .i64),.reg 86 (.int .i64)],0,[]⟩) (.n none .z (.n none .z (.n (some ⟨[],[],[],[.reg 86 (.int .i64),.reg 17 (.int .i64),.reg 18 (.int .i64)],0,[]⟩) (.n none (.n none .z (.n none .z (.n none (.n none .z (.n none .z (.n none .z .z))) .z))) .z) .z))) .z) .z)) (.n none (.n none .z (.n (some ⟨[14,17],[0,2],[],[.reg 123 .bool],0,[]⟩) .z (.n none (.n none .z .z) .z))) (.n none .z .z))))))))))))))
noncomputable def reedsolomon_Decode_dc:List (Nat×Ctr):=[(28,_reedsolomon_poly__times_ctr),(29,reedsolomon_power_ctr),(30,reedsolomon_Mul_ctr),(38,reedsolomon_check_ctr),(39,reedsolomon_syndromes_ctr),(41,reedsolomon_locate_ctr),(45,_reedsolomon_poly__at_ctr)]
def reedsolomon_Decode_ctr:Ctr:=⟨(.pair (.list (.int .u8)) (.pair (.int .i64) (.pair (.list (.int .i64)) .unit))),(.pair (.list (.int .u8)) (.pair (.int .i64) (.pair (.int .i64) .unit))),reedsolomon_Decode_r,27⟩
theorem reedsolomon_Decode_ok:CtrOk Try.prog 27 reedsolomon_Decode_ctr:=ctr_ok (l:=reedsolomon_Decode_dc) (f:=12) (an:=reedsolomon_Decode_an) ⟨_reedsolomon_poly__times_ok,⟨reedsolomon_power_ok,⟨reedsolomon_Mul_ok,⟨reedsolomon_check_ok,⟨reedsolomon_syndromes_ok,⟨reedsolomon_locate_ok,⟨_reedsolomon_poly__at_ok,trivial⟩⟩⟩⟩⟩⟩⟩ fun fu x=>by kernel_rfl
def bitmap_Is_r (fu:Nat) (a:(Int×Int×List Int)×Int×Int×Unit):Option (Bool×Unit) :=
 bif (decide ((0:Int)≤a.2.1)) then
  bif (decide (a.2.1<a.1.1)) then
   bif (decide ((0:Int)≤a.2.2.1)) then
    bif (decide (a.2.2.1<a.1.2.1)) then
     bindO (bitmap_stride_r fu ((a.1.1,()))) fun v0 =>
     bif ((decide ((0:Int)≤(IntKind.i64.wrap ((IntKind.i64.wrap (a.2.2.1*v0.1))+(IntKind.i64.wrap (Int.tdiv a.2.1 (8:Int)))))))&&(decide ((IntKind.i64.wrap ((IntKind.i64.wrap (a.2.2.1*v0.1))+(IntKind.i64.wrap (Int.tdiv a.2.1 (8:Int)))))<(List.length a.1.2.2:Int)))) then
     let v1:Int:=(List.getD a.1.2.2 (Int.toNat (IntKind.i64.wrap ((IntKind.i64.wrap (a.2.2.1*v0.1))+(IntKind.i64.wrap (Int.tdiv a.2.1 (8:Int)))))) 0)
     bif ((decide ((0:Int)≤(Int.tmod a.2.1 (8:Int))))&&(decide ((Int.tmod a.2.1 (8:Int))≤(8:Int)))) then
     let v2:Bool:=(decide ((bits BinOp.and IntKind.u8 v1 ((128:Int) / 2 ^ (Int.toNat (Int.tmod a.2.1 (8:Int)))))≠(0:Int)))
     some ((v2,()))
     else none
     else none
    else
    some ((false,()))
   else
   some ((false,()))
  else
  some ((false,()))
 else
 some ((false,()))
def bitmap_Is_an:An:=(.n none .z (.n none (.dr [] []) .z))
noncomputable def bitmap_Is_dc:List (Nat×Ctr):=[(31,bitmap_stride_ctr)]
def bitmap_Is_ctr:Ctr:=⟨(.pair (.ptr (.pair (.int .i64) (.pair (.int .i64) (.list (.int .u8))))) (.pair (.int .i64) (.pair (.int .i64) .unit))),(.pair .bool .unit),bitmap_Is_r,26⟩
theorem bitmap_Is_ok:CtrOk Try.prog 26 bitmap_Is_ctr:=ctr_ok (l:=bitmap_Is_dc) (f:=12) (an:=bitmap_Is_an) ⟨bitmap_stride_ok,trivial⟩ fun fu x=>by kernel_rfl
def bitmap_Turned_2_r (fu:Nat) (a:Int×Int×(Int×Int×List Int)×Unit):Option (Bool×Unit) :=
 bindO (bitmap_Is_r fu ((a.2.2.1,(a.2.1,((IntKind.i64.wrap ((IntKind.i64.wrap (a.2.2.1.2.1-(1:Int)))-a.1)),()))))) fun v0 =>
 let v1:Bool:=v0.1
 some ((v1,()))
def bitmap_Turned_2_an:An:=(.n none .z (.n none .z .z))
noncomputable def bitmap_Turned_2_dc:List (Nat×Ctr):=[(26,bitmap_Is_ctr)]
def bitmap_Turned_2_ctr:Ctr:=⟨(.pair (.int .i64) (.pair (.int .i64) (.pair (.ptr (.pair (.int .i64) (.pair (.int .i64) (.list (.int .u8))))) .unit))),(.pair .bool .unit),bitmap_Turned_2_r,37⟩
theorem bitmap_Turned_2_ok:CtrOk Try.prog 37 bitmap_Turned_2_ctr:=ctr_ok (l:=bitmap_Turned_2_dc) (f:=12) (an:=bitmap_Turned_2_an) ⟨bitmap_Is_ok,trivial⟩ fun fu x=>by kernel_rfl
def bitmap_Turned_j5 (fu:Nat) (j5:(Int×List Int)→Option ((Int×Int×List Int)×Unit)) (v6:Int×List Int):Option ((Int×Int×List Int)×Unit) :=
 j5 (((IntKind.i64.wrap (v6.1+(1:Int))),v6.2))
def bitmap_Turned_l4 (fu:Nat) (v1:Int×List Int×Int×Int×Unit) (v3:Int×List Int) (v4:Int) (j3:(Int×List Int)→Option ((Int×Int×List Int)×Unit)) (j5:(Int×List Int)→Option ((Int×Int×List Int)×Unit)) (v5:Int×List Int):Option ((Int×Int×List Int)×Unit) :=
 bif (decide (v5.1<v1.2.2.2.1)) then
  joinF (bitmap_Turned_j5 fu j5) fun j6 =>
  let v7:Int:=v5.1
  bindO (bitmap_Turned_2_r fu ((v7,(v4,((v1.2.2.1,(v1.2.2.2.1,v1.2.1)),()))))) fun v8 =>
  bif v8.1 then
   bindO (bitmap_stride_r fu ((v1.2.2.2.1,()))) fun v9 =>
   bif ((decide ((0:Int)≤(IntKind.i64.wrap ((IntKind.i64.wrap (v4*v9.1))+(IntKind.i64.wrap (Int.tdiv v7 (8:Int)))))))&&(decide ((IntKind.i64.wrap ((IntKind.i64.wrap (v4*v9.1))+(IntKind.i64.wrap (Int.tdiv v7 (8:Int)))))<(List.length v5.2:Int)))) then
   bif ((decide ((0:Int)≤(Int.tmod v7 (8:Int))))&&(decide ((Int.tmod v7 (8:Int))≤(8:Int)))) then
   bif ((decide ((0:Int)≤(IntKind.i64.wrap ((IntKind.i64.wrap (v4*v9.1))+(IntKind.i64.wrap (Int.tdiv v7 (8:Int)))))))&&(decide ((IntKind.i64.wrap ((IntKind.i64.wrap (v4*v9.1))+(IntKind.i64.wrap (Int.tdiv v7 (8:Int)))))<(List.length v5.2:Int)))) then
   j6 ((v5.1,(List.set v5.2 (Int.toNat (IntKind.i64.wrap ((IntKind.i64.wrap (v4*v9.1))+(IntKind.i64.wrap (Int.tdiv v7 (8:Int)))))) (bits BinOp.or IntKind.u8 (List.getD v5.2 (Int.toNat (IntKind.i64.wrap ((IntKind.i64.wrap (v4*v9.1))+(IntKind.i64.wrap (Int.tdiv v7 (8:Int)))))) 0) ((128:Int) / 2 ^ (Int.toNat (Int.tmod v7 (8:Int))))))))
   else none
   else none
   else none
  else
  j6 (v5)
 else
 j3 (((IntKind.i64.wrap (v3.1+(1:Int))),v5.2))
def bitmap_Turned_l3 (fu:Nat) (v1:Int×List Int×Int×Int×Unit) (j1:(Int×List Int×Int×Int×Unit)→Option ((Int×Int×List Int)×Unit)) (j3:(Int×List Int)→Option ((Int×Int×List Int)×Unit)) (v3:Int×List Int):Option ((Int×Int×List Int)×Unit) :=
 bif (decide (v3.1<v1.2.2.1)) then
  let v4:Int:=v3.1
  loopF (bitmap_Turned_l4 fu v1 v3 v4 j3) fu (((0:Int),v3.2))
 else
 j1 (((IntKind.i64.wrap (v1.1+(1:Int))),(v3.2,(v1.2.2.2.1,(v1.2.2.1,())))))
def bitmap_Turned_l2 (fu:Nat) (a:(Int×Int×List Int)×Int×Unit) (j1:(Int×List Int×Int×Int×Unit)→Option ((Int×Int×List Int)×Unit)) (v1:Int×List Int×Int×Int×Unit):Option ((Int×Int×List Int)×Unit) :=
 bif (decide (v1.1<(Int.tmod a.2.1 (4:Int)))) then
  bindO (bitmap_stride_r fu ((v1.2.2.2.1,()))) fun v2 =>
  bif ((decide ((0:Int)≤(IntKind.i64.wrap (v2.1*v1.2.2.1))))&&(decide (((1:Int)*(IntKind.i64.wrap (v2.1*v1.2.2.1)))≤(281474976710656:Int)))) then
  loopF (bitmap_Turned_l3 fu v1 j1) fu (((0:Int),(List.replicate (Int.toNat (IntKind.i64.wrap (v2.1*v1.2.2.1))) (0:Int))))
  else none
 else
 some (((v1.2.2.1,(v1.2.2.2.1,v1.2.1)),()))
def bitmap_Turned_j1 (fu:Nat) (a:(Int×Int×List Int)×Int×Unit) (v0:(Int×Int×Unit)×List Int):Option ((Int×Int×List Int)×Unit) :=
 loopF (bitmap_Turned_l2 fu a) fu (((0:Int),(v0.2,(v0.1.1,(v0.1.2.1,())))))
def bitmap_Turned_j8 (fu:Nat) (j4:(Int×List Int)→Option ((Int×Int×List Int)×Unit)) (v5:Int×List Int):Option ((Int×Int×List Int)×Unit) :=
 j4 (((IntKind.i64.wrap (v5.1+(1:Int))),v5.2))
def bitmap_Turned_l7 (fu:Nat) (a:(Int×Int×List Int)×Int×Unit) (v2:Int×List Int) (v3:Int) (j2:(Int×List Int)→Option ((Int×Int×List Int)×Unit)) (j4:(Int×List Int)→Option ((Int×Int×List Int)×Unit)) (v4:Int×List Int):Option ((Int×Int×List Int)×Unit) :=
 bif (decide (v4.1<a.1.1)) then
  joinF (bitmap_Turned_j8 fu j4) fun j5 =>
  let v6:Int:=v4.1
  bindO (bitmap_Is_r fu ((a.1,((IntKind.i64.wrap ((IntKind.i64.wrap (a.1.1-(1:Int)))-v6)),(v3,()))))) fun v7 =>
  let v8:Bool:=v7.1
  bif v8 then
   bindO (bitmap_stride_r fu ((a.1.1,()))) fun v9 =>
   bif ((decide ((0:Int)≤(IntKind.i64.wrap ((IntKind.i64.wrap (v3*v9.1))+(IntKind.i64.wrap (Int.tdiv v6 (8:Int)))))))&&(decide ((IntKind.i64.wrap ((IntKind.i64.wrap (v3*v9.1))+(IntKind.i64.wrap (Int.tdiv v6 (8:Int)))))<(List.length v4.2:Int)))) then
   bif ((decide ((0:Int)≤(Int.tmod v6 (8:Int))))&&(decide ((Int.tmod v6 (8:Int))≤(8:Int)))) then
   bif ((decide ((0:Int)≤(IntKind.i64.wrap ((IntKind.i64.wrap (v3*v9.1))+(IntKind.i64.wrap (Int.tdiv v6 (8:Int)))))))&&(decide ((IntKind.i64.wrap ((IntKind.i64.wrap (v3*v9.1))+(IntKind.i64.wrap (Int.tdiv v6 (8:Int)))))<(List.length v4.2:Int)))) then
   j5 ((v4.1,(List.set v4.2 (Int.toNat (IntKind.i64.wrap ((IntKind.i64.wrap (v3*v9.1))+(IntKind.i64.wrap (Int.tdiv v6 (8:Int)))))) (bits BinOp.or IntKind.u8 (List.getD v4.2 (Int.toNat (IntKind.i64.wrap ((IntKind.i64.wrap (v3*v9.1))+(IntKind.i64.wrap (Int.tdiv v6 (8:Int)))))) 0) ((128:Int) / 2 ^ (Int.toNat (Int.tmod v6 (8:Int))))))))
   else none
   else none
   else none
  else
  j5 (v4)
 else
 j2 (((IntKind.i64.wrap (v2.1+(1:Int))),v4.2))
def bitmap_Turned_l6 (fu:Nat) (a:(Int×Int×List Int)×Int×Unit) (j0:((Int×Int×Unit)×List Int)→Option ((Int×Int×List Int)×Unit)) (j2:(Int×List Int)→Option ((Int×Int×List Int)×Unit)) (v2:Int×List Int):Option ((Int×Int×List Int)×Unit) :=
 bif (decide (v2.1<a.1.2.1)) then
  let v3:Int:=v2.1
  loopF (bitmap_Turned_l7 fu a v2 v3 j2) fu (((0:Int),v2.2))
 else
 j0 (((a.1.1,(a.1.2.1,())),v2.2))
def bitmap_Turned_r (fu:Nat) (a:(Int×Int×List Int)×Int×Unit):Option ((Int×Int×List Int)×Unit) :=
 bif (decide (((List.length a.1.2.2:Int)*(1:Int))≤(140737488355328:Int))) then
 joinF (bitmap_Turned_j1 fu a) fun j0 =>
 bif (decide ((4:Int)≤a.2.1)) then
  bindO (bitmap_stride_r fu ((a.1.1,()))) fun v1 =>
  bif ((decide ((0:Int)≤(IntKind.i64.wrap (v1.1*a.1.2.1))))&&(decide (((1:Int)*(IntKind.i64.wrap (v1.1*a.1.2.1)))≤(281474976710656:Int)))) then
  loopF (bitmap_Turned_l6 fu a j0) fu (((0:Int),(List.replicate (Int.toNat (IntKind.i64.wrap (v1.1*a.1.2.1))) (0:Int))))
  else none
 else
 j0 (((a.1.1,(a.1.2.1,())),a.1.2.2))
 else none
def bitmap_Turned_an:An:=(.n none .z (.n none .z (.n none .z (.n (some ⟨[1,4,5],[0,1],[],[.box 2 [(.int .i64),(.int .i64),(.osl 4 0)] 25,.row 4 false (.int .u8) 5 0],1,[]⟩) (.n none .z (.n none (.dr [] [(9,(.n none (.n none .z (.n none (.ops [(2,(.n none (.n none .z (.n none .z .z)) .z))]) (.n none (.n none .z (.n none (.n (some ⟨[6,7,0,2,13],[3,2,4,7],[],[.reg 14 (.int .i64),.row 6 true (.int .u8) 5 0],0,[]⟩) (.n none .z (.n none .z (.n none (.n none (.n none .z (.n none .z (.n none (.n (some ⟨[14,8,17],[],[],[.reg 18 (.int .i64),.row 6 true (.int .u8) 5 0],0,[]⟩) (.n none .z (.n none .z (.n (some ⟨[],[],[],[.reg 18 (.int .i64),.row 6 true (.int .u8) 5 0],0,[]⟩) (.n none (.n none .z (.n none (.ops [(3,(.n none (.n none .z (.n none (.dr [] []) .z)) .z))]) (.n none (.ops [(2,(.n none (.dr [] []) .z))]) .z))) .z) .z))) .z) .z))) .z) .z))) .z) .z)) (.n none .z .z)))) .z))]) .z)) (.n none (.n none .z (.n none (.n (some ⟨[29],[],[],[.reg 30 (.int .i64),.row 4 false (.int .u8) 5 0,.box 2 [(.int .i64),(.int .i64),(.osl 4 0)] 25],0,[]⟩) (.n none .z (.n none .z (.n none (.n none (.n none .z (.ops [(5,(.n none (.n none .z (.n none (.ops [(2,(.n none (.n none .z (.n none .z .z)) .z))]) (.n none (.n none .z (.n none (.n (some ⟨[6,7,0,2,13],[2,4,5,6,9],[],[.reg 14 (.int .i64),.row 8 true (.int .u8) 5 0],0,[]⟩) (.n none .z (.n none .z (.n none (.n none (.n none .z (.n none .z (.n none (.n (some ⟨[14,8,17],[],[],[.reg 18 (.int .i64),.row 8 true (.int .u8) 5 0],0,[]⟩) (.n none .z (.n none .z (.n (some ⟨[],[],[],[.reg 18 (.int .i64),.row 8 true (.int .u8) 5 0],0,[]⟩) (.n none (.n none .z (.n none .z (.n none (.ops [(2,(.n none (.dr [] []) .z))]) .z))) .z) .z))) .z) .z))) .z) .z))) .z) .z)) (.n none .z .z)))) .z))])) .z) .z))) .z) .z)) (.n none .z .z))))))
noncomputable def bitmap_Turned_dc:List (Nat×Ctr):=[(26,bitmap_Is_ctr),(31,bitmap_stride_ctr),(37,bitmap_Turned_2_ctr)]
def bitmap_Turned_ctr:Ctr:=⟨(.pair (.ptr (.pair (.int .i64) (.pair (.int .i64) (.list (.int .u8))))) (.pair (.int .i64) .unit)),(.pair (.agg (.pair (.int .i64) (.pair (.int .i64) (.list (.int .u8))))) .unit),bitmap_Turned_r,25⟩
theorem bitmap_Turned_ok:CtrOk Try.prog 25 bitmap_Turned_ctr:=ctr_ok (l:=bitmap_Turned_dc) (f:=12) (an:=bitmap_Turned_an) ⟨bitmap_Is_ok,⟨bitmap_stride_ok,⟨bitmap_Turned_2_ok,trivial⟩⟩⟩ fun fu x=>by kernel_rfl
def matrix_Border_j2 (fu:Nat) (j1:(Int×Int×Int)→Option (Int×Int×Unit)) (v2:Int×Int×Int):Option (Int×Int×Unit) :=
 j1 ((v2.2.1,(v2.2.2,(IntKind.i64.wrap (v2.1+(1:Int))))))
def matrix_Border_j5 (fu:Nat) (j7:(Int×Int)→Option (Int×Int×Unit)) (v8:Int×Int):Option (Int×Int×Unit) :=
 j7 ((v8.2,(IntKind.i64.wrap (v8.1+(1:Int)))))
def matrix_Border_j6 (fu:Nat) (v7:Int×Int) (j8:(Int×Int)→Option (Int×Int×Unit)) (v13:Bool×Int):Option (Int×Int×Unit) :=
 bif v13.1 then
  let v14:Int:=(IntKind.i64.wrap (v13.2+(1:Int)))
  j8 ((v7.2,v14))
 else
 j8 ((v7.2,v13.2))
def matrix_Border_l4 (fu:Nat) (v4:(Int×Int×List Int)×Unit) (v5:Int×Int) (v6:Int) (j5:(Int×Int)→Option (Int×Int×Unit)) (j7:(Int×Int)→Option (Int×Int×Unit)) (v7:Int×Int):Option (Int×Int×Unit) :=
 bif (decide (v7.2<v4.1.1)) then
  joinF (matrix_Border_j5 fu j7) fun j8 =>
  let v9:Int:=v7.2
  bindO (matrix_dark_r fu ((v4.1.1,(v9,(v6,()))))) fun v10 =>
  let v11:Bool:=v10.1
  let v12:Bool:=v10.2.1
  joinF (matrix_Border_j6 fu v7 j8) fun j13 =>
  bif v12 then
   bindO (bitmap_Is_r fu ((v4.1,(v9,(v6,()))))) fun v14 =>
   j13 (((v11 != v14.1),v7.1))
  else
  j13 ((false,v7.1))
 else
 j5 ((v7.1,(IntKind.i64.wrap (v5.2+(1:Int)))))
def matrix_Border_l3 (fu:Nat) (v1:Int×Int×Int) (v3:Int) (v4:(Int×Int×List Int)×Unit) (j2:(Int×Int×Int)→Option (Int×Int×Unit)) (j5:(Int×Int)→Option (Int×Int×Unit)) (v5:Int×Int):Option (Int×Int×Unit) :=
 bif (decide (v5.2<v4.1.2.1)) then
  let v6:Int:=v5.2
  loopF (matrix_Border_l4 fu v4 v5 v6 j5) fu ((v5.1,(0:Int)))
 else
 bif (decide (v5.1<v1.1)) then
  let v6:Int:=v5.1
  j2 ((v1.2.2,(v6,v3)))
 else
 j2 ((v1.2.2,(v1.1,v1.2.1)))
def matrix_Border_l1 (fu:Nat) (a:(Int×Int×List Int)×Unit) (j1:(Int×Int×Int)→Option (Int×Int×Unit)) (v1:Int×Int×Int):Option (Int×Int×Unit) :=
 bif (decide (v1.2.2<(4:Int))) then
  joinF (matrix_Border_j2 fu j1) fun j2 =>
  let v3:Int:=v1.2.2
  bindO (bitmap_Turned_r fu ((a.1,(v3,())))) fun v4 =>
  loopF (matrix_Border_l3 fu v1 v3 v4 j2) fu (((0:Int),(0:Int)))
 else
 let v2:Int:=v1.2.1
 let v3:Int:=v1.1
 some ((v2,(v3,())))
def matrix_Border_r (fu:Nat) (a:(Int×Int×List Int)×Unit):Option (Int×Int×Unit) :=
 let v0:Int:=(IntKind.i64.wrap ((4:Int)*a.1.1))
 loopF (matrix_Border_l1 fu a) fu ((v0,((0:Int),(0:Int))))
def matrix_Border_an:An:=(.n none .z (.n none .z (.n none (.n none .z (.n none (.n (some ⟨[0],[],[],[.reg 3 (.int .i64),.reg 2 (.int .i64),.reg 16 (.int .i64)],0,[]⟩) (.n none .z (.n none .z (.n (some ⟨[],[],[],[.reg 16 (.int .i64),.reg 3 (.int .i64),.reg 2 (.int .i64)],0,[]⟩) (.n none (.n none .z (.n none .z (.n none .z (.n none (.n none .z (.n none (.n (some ⟨[2,3,16,4,5,23],[0],[],[.reg 6 (.int .i64),.reg 24 (.int .i64)],0,[]⟩) (.n none .z (.n none .z (.n none (.n none (.n none .z (.n none .z (.n none (.n (some ⟨[24,7,28],[],[],[.reg 6 (.int .i64),.reg 29 (.int .i64)],0,[]⟩) (.n none .z (.n none .z (.n (some ⟨[],[],[],[.reg 29 (.int .i64),.reg 6 (.int .i64)],0,[]⟩) (.n none (.n none .z (.n none .z (.n (some ⟨[29],[],[],[.reg 47 .bool,.reg 6 (.int .i64)],0,[]⟩) .z (.n none .z .z)))) .z) .z))) .z) .z))) .z) .z))) .z) .z)) (.n none .z (.n none .z .z)))))) .z) .z))) .z) .z)) (.n none .z .z))))
noncomputable def matrix_Border_dc:List (Nat×Ctr):=[(18,matrix_dark_ctr),(25,bitmap_Turned_ctr),(26,bitmap_Is_ctr)]
def matrix_Border_ctr:Ctr:=⟨(.pair (.ptr (.pair (.int .i64) (.pair (.int .i64) (.list (.int .u8))))) .unit),(.pair (.int .i64) (.pair (.int .i64) .unit)),matrix_Border_r,24⟩
theorem matrix_Border_ok:CtrOk Try.prog 24 matrix_Border_ctr:=ctr_ok (l:=matrix_Border_dc) (f:=12) (an:=matrix_Border_an) ⟨matrix_dark_ok,⟨bitmap_Turned_ok,⟨bitmap_Is_ok,trivial⟩⟩⟩ fun fu x=>by kernel_rfl
def bitmap_Check_j2 (fu:Nat) (v3:Unit):Option (Int×Unit) :=
 some (((0:Int),()))
def bitmap_Check_l3 (fu:Nat) (a:(Int×Int×List Int)×Unit) (v2:Int) (v4:Int) (j3:(Unit)→Option (Int×Unit)) (j5:(Int)→Option (Int×Unit)) (v5:Int):Option (Int×Unit) :=
 bif (decide (v5<a.1.2.1)) then
  bif ((decide ((0:Int)≤(IntKind.i64.wrap ((IntKind.i64.wrap ((IntKind.i64.wrap (v5*v2))+v2))-(1:Int)))))&&(decide ((IntKind.i64.wrap ((IntKind.i64.wrap ((IntKind.i64.wrap (v5*v2))+v2))-(1:Int)))<(List.length a.1.2.2:Int)))) then
  let v6:Int:=(List.getD a.1.2.2 (Int.toNat (IntKind.i64.wrap ((IntKind.i64.wrap ((IntKind.i64.wrap (v5*v2))+v2))-(1:Int)))) 0)
  bif (decide ((bits BinOp.and IntKind.u8 v6 v4)≠(0:Int))) then
   some (((4:Int),()))
  else
  j5 ((IntKind.i64.wrap (v5+(1:Int))))
  else none
 else
 j3 (())
def bitmap_Check_j1 (fu:Nat) (a:(Int×Int×List Int)×Unit) (v0:Bool):Option (Int×Unit) :=
 bif v0 then
  some (((3:Int),()))
 else
 bindO (bitmap_stride_r fu ((a.1.1,()))) fun v1 =>
 let v2:Int:=v1.1
 bif (decide ((List.length a.1.2.2:Int)≠(IntKind.i64.wrap (v2*a.1.2.1)))) then
  some (((4:Int),()))
 else
 joinF (bitmap_Check_j2 fu) fun j3 =>
 bif ((decide ((0:Int)≤(IntKind.i64.wrap ((IntKind.i64.wrap ((8:Int)*v2))-a.1.1))))&&(decide ((IntKind.i64.wrap ((IntKind.i64.wrap ((8:Int)*v2))-a.1.1))≤(8:Int)))) then
 let v4:Int:=(IntKind.u8.wrap ((IntKind.u8.wrap ((1:Int)*2 ^ (Int.toNat (IntKind.i64.wrap ((IntKind.i64.wrap ((8:Int)*v2))-a.1.1)))))-(1:Int)))
 bif (decide (v4≠(0:Int))) then
  loopF (bitmap_Check_l3 fu a v2 v4 j3) fu ((0:Int))
 else
 j3 (())
 else none
def bitmap_Check_r (fu:Nat) (a:(Int×Int×List Int)×Unit):Option (Int×Unit) :=
 joinF (bitmap_Check_j1 fu a) fun j0 =>
 bif (decide (a.1.1<(1:Int))) then
  j0 (true)
 else
 bif (decide ((1024:Int)<a.1.1)) then
  j0 (true)
 else
 bif (decide (a.1.2.1<(1:Int))) then
  j0 (true)
 else
 j0 ((decide ((1024:Int)<a.1.2.1)))
def bitmap_Check_an:An:=(.n none .z (.n none (.n (some ⟨[1],[0],[],[.reg 23 .bool],0,[]⟩) .z (.n none (.n none .z .z) .z)) (.n none .z (.n none (.n none .z (.n none (.n none .z .z) .z)) (.n (some ⟨[],[0],[],[],0,[]⟩) (.n none .z (.n none .z (.n none (.n none .z (.n none (.n (some ⟨[1,3,4,45],[],[],[.reg 46 (.int .i64)],0,[]⟩) (.n none .z (.n none .z (.n none (.n none (.n none .z (.n none .z (.n none (.n none .z .z) .z))) .z) .z))) .z) .z)) .z))) (.n none .z .z))))))
noncomputable def bitmap_Check_dc:List (Nat×Ctr):=[(31,bitmap_stride_ctr)]
def bitmap_Check_ctr:Ctr:=⟨(.pair (.agg (.pair (.int .i64) (.pair (.int .i64) (.list (.int .u8))))) .unit),(.pair (.int .i64) .unit),bitmap_Check_r,23⟩
theorem bitmap_Check_ok:CtrOk Try.prog 23 bitmap_Check_ctr:=ctr_ok (l:=bitmap_Check_dc) (f:=12) (an:=bitmap_Check_an) ⟨bitmap_stride_ok,trivial⟩ fun fu x=>by kernel_rfl
def matrix_Decode_j4 (fu:Nat) (j14:(Int×Int×List Int)→Option (List Int×Int×Int×Int×Unit)) (v15:Int×Int×List Int):Option (List Int×Int×Int×Int×Unit) :=
 j14 ((v15.2.1,((IntKind.i64.wrap (v15.1+(1:Int))),v15.2.2)))
def matrix_Decode_j5 (fu:Nat) (v14:Int×Int×List Int) (j15:(Int×Int×List Int)→Option (List Int×Int×Int×Int×Unit)) (v20:Int×List Int):Option (List Int×Int×Int×Int×Unit) :=
 let v21:Int:=(IntKind.i64.wrap (v20.1+(1:Int)))
 j15 ((v14.2.1,(v21,v20.2)))
def matrix_Decode_j6 (fu:Nat) (v14:Int×Int×List Int) (j20:(Int×List Int)→Option (List Int×Int×Int×Int×Unit)) (v21:Bool):Option (List Int×Int×Int×Int×Unit) :=
 bif v21 then
  bif ((decide ((0:Int)≤(IntKind.i64.wrap (Int.tdiv v14.1 (8:Int)))))&&(decide ((IntKind.i64.wrap (Int.tdiv v14.1 (8:Int)))<(List.length v14.2.2:Int)))) then
  bif ((decide ((0:Int)≤(Int.tmod v14.1 (8:Int))))&&(decide ((Int.tmod v14.1 (8:Int))≤(8:Int)))) then
  bif ((decide ((0:Int)≤(IntKind.i64.wrap (Int.tdiv v14.1 (8:Int)))))&&(decide ((IntKind.i64.wrap (Int.tdiv v14.1 (8:Int)))<(List.length v14.2.2:Int)))) then
  j20 ((v14.1,(List.set v14.2.2 (Int.toNat (IntKind.i64.wrap (Int.tdiv v14.1 (8:Int)))) (bits BinOp.or IntKind.u8 (List.getD v14.2.2 (Int.toNat (IntKind.i64.wrap (Int.tdiv v14.1 (8:Int)))) 0) ((128:Int) / 2 ^ (Int.toNat (Int.tmod v14.1 (8:Int))))))))
  else none
  else none
  else none
 else
 j20 ((v14.1,v14.2.2))
def matrix_Decode_l3 (fu:Nat) (v6:(Int×Int×List Int)×Unit) (v8:Int) (v12:Int×Int×List Int) (v13:Int) (j12:(Int×Int×List Int)→Option (List Int×Int×Int×Int×Unit)) (j14:(Int×Int×List Int)→Option (List Int×Int×Int×Int×Unit)) (v14:Int×Int×List Int):Option (List Int×Int×Int×Int×Unit) :=
 bif (decide (v14.2.1<v6.1.1)) then
  joinF (matrix_Decode_j4 fu j14) fun j15 =>
  let v16:Int:=v14.2.1
  bindO (matrix_dark_r fu ((v6.1.1,(v16,(v13,()))))) fun v17 =>
  let v18:Bool:=v17.1
  let v19:Bool:=v17.2.1
  bif v19 then
   j15 ((v14.2.1,(v14.1,v14.2.2)))
  else
  joinF (matrix_Decode_j5 fu v14 j15) fun j20 =>
  joinF (matrix_Decode_j6 fu v14 j20) fun j21 =>
  bif (decide (v14.1<(IntKind.i64.wrap ((8:Int)*v8)))) then
   bindO (bitmap_Is_r fu ((v6.1,(v16,(v13,()))))) fun v22 =>
   j21 (v22.1)
  else
  j21 (false)
 else
 j12 (((IntKind.i64.wrap (v12.1+(1:Int))),(v14.1,v14.2.2)))
def matrix_Decode_l7 (fu:Nat) (v8:Int) (v9:Int) (v14:List Int) (v18:Int) (j19:(Int×Int×Int)→Option (List Int×Int×Int×Int×Unit)) (v19:Int×Int×Int):Option (List Int×Int×Int×Int×Unit) :=
 bif (decide (v19.2.2<(List.length (List.drop (Int.toNat (IntKind.i64.wrap ((1:Int)+v18))) (List.take (Int.toNat (IntKind.i64.wrap (v8-v9))) v14)):Int))) then
  bif ((decide ((0:Int)≤v19.2.2))&&(decide (v19.2.2<(List.length (List.drop (Int.toNat (IntKind.i64.wrap ((1:Int)+v18))) (List.take (Int.toNat (IntKind.i64.wrap (v8-v9))) v14)):Int)))) then
  let v20:Int:=(List.getD (List.drop (Int.toNat (IntKind.i64.wrap ((1:Int)+v18))) (List.take (Int.toNat (IntKind.i64.wrap (v8-v9))) v14)) (Int.toNat v19.2.2) 0)
  bif (decide (v20≠(0:Int))) then
   some ((([]:List (Int)),((0:Int),((0:Int),((4:Int),())))))
  else
  j19 ((v19.1,(v19.2.1,(IntKind.i64.wrap (v19.2.2+(1:Int))))))
  else none
 else
 bif ((decide ((1:Int)≤(IntKind.i64.wrap ((1:Int)+v18))))&&(decide ((IntKind.i64.wrap ((1:Int)+v18))≤(List.length v14:Int)))) then
 bif (decide (((List.length (List.drop (Int.toNat (1:Int)) (List.take (Int.toNat (IntKind.i64.wrap ((1:Int)+v18))) v14)):Int)*(1:Int))≤(140737488355328:Int))) then
 let v20:Int:=v19.2.1
 let v21:Int:=v19.1
 some (((List.drop (Int.toNat (1:Int)) (List.take (Int.toNat (IntKind.i64.wrap ((1:Int)+v18))) v14)),(v20,(v21,((0:Int),())))))
 else none
 else none
def matrix_Decode_l2 (fu:Nat) (v4:Int) (v6:(Int×Int×List Int)×Unit) (v8:Int) (v9:Int) (v10:Int) (j12:(Int×Int×List Int)→Option (List Int×Int×Int×Int×Unit)) (v12:Int×Int×List Int):Option (List Int×Int×Int×Int×Unit) :=
 bif (decide (v12.1<v6.1.2.1)) then
  let v13:Int:=v12.1
  loopF (matrix_Decode_l3 fu v6 v8 v12 v13 j12) fu ((v12.2.1,((0:Int),v12.2.2)))
 else
 bindO (reedsolomon_Decode_r fu ((v12.2.2,(v9,(([]:List (Int)),()))))) fun v13 =>
 let v14:List Int:=v13.1
 let v15:Int:=v13.2.1
 let v16:Int:=v13.2.2.1
 bif (decide (v16≠(0:Int))) then
  some ((([]:List (Int)),((0:Int),((0:Int),(v16,())))))
 else
 bif (decide ((0:Int)<(List.length v14:Int))) then
 let v17:Int:=(List.getD v14 (Int.toNat (0:Int)) 0)
 let v18:Int:=(IntKind.i64.wrap v17)
 bif (decide (v10<v18)) then
  some ((([]:List (Int)),((0:Int),((0:Int),((4:Int),())))))
 else
 bif ((decide ((0:Int)≤(IntKind.i64.wrap ((1:Int)+v18))))&&((decide ((IntKind.i64.wrap ((1:Int)+v18))≤(IntKind.i64.wrap (v8-v9))))&&(decide ((IntKind.i64.wrap (v8-v9))≤(List.length v14:Int))))) then
 loopF (matrix_Decode_l7 fu v8 v9 v14 v18) fu ((v4,(v15,(0:Int))))
 else none
 else none
def matrix_Decode_j1 (fu:Nat) (a:(Int×Int×List Int)×Unit) (v2:Bool):Option (List Int×Int×Int×Int×Unit) :=
 bif v2 then
  some ((([]:List (Int)),((0:Int),((0:Int),((4:Int),())))))
 else
 bindO (matrix_Border_r fu ((a.1,()))) fun v3 =>
 let v4:Int:=v3.1
 let v5:Int:=v3.2.1
 bif (decide ((IntKind.i64.wrap (Int.tdiv a.1.1 (4:Int)))<v5)) then
  some ((([]:List (Int)),((0:Int),((0:Int),((21:Int),())))))
 else
 bindO (bitmap_Turned_r fu ((a.1,(v4,())))) fun v6 =>
 bindO (matrix_Size_r fu ((a.1.1,()))) fun v7 =>
 let v8:Int:=v7.1
 let v9:Int:=v7.2.1
 let v10:Int:=v7.2.2.1
 let v11:Int:=v7.2.2.2.1
 bif ((decide ((0:Int)≤v8))&&(decide (((1:Int)*v8)≤(281474976710656:Int)))) then
 loopF (matrix_Decode_l2 fu v4 v6 v8 v9 v10) fu (((0:Int),((0:Int),(List.replicate (Int.toNat v8) (0:Int)))))
 else none
def matrix_Decode_r (fu:Nat) (a:(Int×Int×List Int)×Unit):Option (List Int×Int×Int×Int×Unit) :=
 bindO (bitmap_Check_r fu ((a.1,()))) fun v0 =>
 let v1:Int:=v0.1
 bif (decide (v1≠(0:Int))) then
  some ((([]:List (Int)),((0:Int),((0:Int),(v1,())))))
 else
 joinF (matrix_Decode_j1 fu a) fun j2 =>
 bif (decide (a.1.1≠a.1.2.1)) then
  j2 (true)
 else
 bindO (matrix_isSide_r fu ((a.1.1,()))) fun v3 =>
 j2 ((!v3.1))
def matrix_Decode_an:An:=(.n none .z (.n none (.n none .z (.n none .z (.n none (.n none .z .z) .z))) (.n none (.n (some ⟨[1],[0],[],[.reg 37 .bool],0,[]⟩) .z (.n none (.n none .z .z) .z)) (.n none .z (.n none (.n none .z (.n none (.n none .z .z) .z)) (.n none .z (.n none .z (.n none .z (.n none .z (.n none (.n none .z (.n none (.n (some ⟨[4,10,9,11,13,8,60],[0,1],[],[.reg 61 (.int .i64),.reg 14 (.int .i64),.row 2 true (.int .u8) 5 0],0,[]⟩) (.n none .z (.n none .z (.n none (.n none (.n none .z (.n none .z (.n none (.n (some ⟨[61,15,65],[],[],[.reg 14 (.int .i64),.reg 66 (.int .i64),.row 2 true (.int .u8) 5 0],0,[]⟩) (.n none .z (.n none .z (.n (some ⟨[],[],[],[.reg 66 (.int .i64),.reg 14 (.int .i64),.row 2 true (.int .u8) 5 0],0,[]⟩) (.n none (.n none .z (.n none (.n none .z (.n none .z .z)) (.n (some ⟨[66],[],[],[.reg 14 (.int .i64),.row 2 true (.int .u8) 5 0],0,[]⟩) (.n (some ⟨[14],[2],[],[.reg 86 .bool],0,[]⟩) .z (.n none (.dr [] []) .z)) .z))) .z) .z))) .z) .z))) .z) .z))) .z) .z)) (.n none .z (.n none (.n none .z (.n none (.n none .z .z) .z)) (.n none .z (.n none (.n none .z (.n none (.n none .z .z) .z)) (.n none (.n none .z (.n none (.n (some ⟨[19,13,124,125],[1,2],[],[.reg 4 (.int .i64),.reg 3 (.int .i64),.reg 126 (.int .i64)],0,[]⟩) (.n none .z (.n none .z (.n none (.n none (.n none .z (.n none .z (.n none (.n none .z .z) .z))) .z) .z))) .z) .z)) (.n none .z .z))))))))))))))))
noncomputable def matrix_Decode_dc:List (Nat×Ctr):=[(6,matrix_Size_ctr),(18,matrix_dark_ctr),(20,matrix_isSide_ctr),(23,bitmap_Check_ctr),(24,matrix_Border_ctr),(25,bitmap_Turned_ctr),(26,bitmap_Is_ctr),(27,reedsolomon_Decode_ctr)]
def matrix_Decode_ctr:Ctr:=⟨(.pair (.agg (.pair (.int .i64) (.pair (.int .i64) (.list (.int .u8))))) .unit),(.pair (.list (.int .u8)) (.pair (.int .i64) (.pair (.int .i64) (.pair (.int .i64) .unit)))),matrix_Decode_r,14⟩
theorem matrix_Decode_ok:CtrOk Try.prog 14 matrix_Decode_ctr:=ctr_ok (l:=matrix_Decode_dc) (f:=12) (an:=matrix_Decode_an) ⟨matrix_Size_ok,⟨matrix_dark_ok,⟨matrix_isSide_ok,⟨bitmap_Check_ok,⟨matrix_Border_ok,⟨bitmap_Turned_ok,⟨bitmap_Is_ok,⟨reedsolomon_Decode_ok,trivial⟩⟩⟩⟩⟩⟩⟩⟩ fun fu x=>by kernel_rfl
end
end Go.Proofs.Ytppigjemglokgaa
/- Plain facts for residual programs. No program in sight. -/
namespace Go.Proofs.Ytppigjemglokgaa
open Go Go.RowKit
theorem loopF_spec {α β:Type} {f:(α→Option β)→α→Option β} (μ:α→Nat) (I:α→Prop) (S:α→Option β) (h:∀ j x,I x→(∀ x',I x'→μ x'<μ x→j x'=S x')→f j x=S x):∀ (fu:Nat) (x:α),I x→μ x<fu→loopF f fu x=S x
 | 0,_,_,h0=>absurd h0 (Nat.not_lt_zero _)
 | fu+1,x,hI,hm=>by
  rw [loopF];exact h _ x hI fun x' h1 h2=>loopF_spec μ I S h fu x' h1 (by omega)
theorem bif_pos {α:Type} {p:Prop} [Decidable p] {a b:α} (h:p):(bif decide p then a else b)=a:=by rw [decide_eq_true h];rfl
theorem bif_neg {α:Type} {p:Prop} [Decidable p] {a b:α} (h:¬ p):(bif decide p then a else b)=b:=by rw [decide_eq_false h];rfl
theorem bif_and {α:Type} {p q:Prop} [Decidable p] [Decidable q] {a b:α} (h:p) (k:q):(bif decide p&&decide q then a else b)=a:=by rw [decide_eq_true h,decide_eq_true k];rfl
theorem bif_nand {α:Type} {p q:Prop} [Decidable p] [Decidable q] {a b:α} (h:¬ (p∧q)):(bif decide p&&decide q then a else b)=b:=by
 by_cases hp:p
 ·rw [decide_eq_false (fun hq=>h ⟨hp,hq⟩:¬ q),Bool.and_false];rfl
 ·rw [decide_eq_false hp];rfl
theorem joinF_eq {α β:Type} (J:α→Option β) (b:(α→Option β)→Option β):joinF J b=b J:=rfl
theorem bindO_some {α β:Type} (x:α) (k:α→Option β):bindO (some x) k=k x:=rfl
def FU:Nat:=18446744073709551616
def allFrom (p:Nat→Bool) (n i:Nat):Bool:=(List.range' i (n-i)).all p
theorem allFrom_lt {p:Nat→Bool} {n i:Nat} (h:i<n):allFrom p n i=(p i&&allFrom p n (i+1)):=by
 unfold allFrom;rw [show n-i=(n-(i+1))+1 by omega,List.range'_succ,List.all_cons]
theorem allFrom_ge {p:Nat→Bool} {n i:Nat} (h:n≤i):allFrom p n i=true:=by
 unfold allFrom;rw [show n-i=0 by omega];rfl
theorem allFrom_zero (p:Nat→Bool) (n:Nat):allFrom p n 0=(List.range n).all p:=by
 unfold allFrom;rw [Nat.sub_zero,List.range_eq_range']
end Go.Proofs.Ytppigjemglokgaa
/- Plain facts on whole numbers: rounding,floor division. No program in sight. -/
namespace Go.Proofs.Ytppigjemglokgaa

theorem div_uniq {a b q r:Int} (hb:0<b) (h:r+b*q=a) (h0:0≤r) (h1:r<b):a / b=q :=
 ((Int.ediv_emod_unique hb).2 ⟨h,h0,h1⟩).1

theorem tdiv_neg {a b:Int} (hb:0<b) (h:a.tmod b<0):a.tdiv b-1=a / b:=by
 have h1:=Int.tmod_add_mul_tdiv a b
 have h2:-b<a.tmod b:=by
  have:=Int.lt_tmod_of_pos a hb;omega
 refine (div_uniq (r:=a.tmod b+b) hb ?_ (by omega) (by omega)).symm;rw [Int.mul_sub];omega

theorem tdiv_pos {a b:Int} (hb:0<b) (h:0≤a.tmod b):a.tdiv b=a / b:=by
 have h1:=Int.tmod_add_mul_tdiv a b;have h2:a.tmod b<b:=Int.tmod_lt_of_pos a hb;exact (div_uniq (r:=a.tmod b) hb (by omega) (by omega) (by omega)).symm

theorem tdiv_over {a b:Int} (hb:0<b) (h:a<a.tdiv b*b):a.tdiv b-1=a / b:=by
 have h1:=Int.tmod_add_mul_tdiv a b;refine tdiv_neg hb ?_;rw [Int.mul_comm] at h1;omega

theorem tdiv_under {a b:Int} (hb:0<b) (h:a.tdiv b*b≤a):a.tdiv b=a / b:=by
 have h1:=Int.tmod_add_mul_tdiv a b;refine tdiv_pos hb ?_;rw [Int.mul_comm] at h1;omega

theorem tdiv_abs {n m:Int} (d:Int) (h1:-m≤n) (h2:n≤m):-m≤n.tdiv d∧n.tdiv d≤m:=by
 have:=Int.natAbs_tdiv_le_natAbs n d;omega

end Go.Proofs.Ytppigjemglokgaa
/- Rewriting of residual programs by facts of arithmetic. No program in sight. -/
namespace Go.Proofs.Ytppigjemglokgaa
open Go Go.RowKit
theorem s_pos {p:Prop} [Decidable p] (h:p):decide p=true:=decide_eq_true h
theorem s_neg {p:Prop} [Decidable p] (h:¬ p):decide p=false:=decide_eq_false h
theorem s_wr {x:Int} (h0:-9223372036854775808≤x) (h1:x≤9223372036854775807):IntKind.i64.wrap x=x:=wr64 h0 h1
theorem s_td {a b:Int} (h:0≤a):Int.tdiv a b=a / b:=Int.tdiv_eq_ediv_of_nonneg h
theorem s_tm {a b:Int} (h:0≤a):Int.tmod a b=a % b:=Int.tmod_eq_emod_of_nonneg h
def firstE (E:Nat→Int):Nat→Nat→Int
 | 0,_=>0
 | n+1,i=>if E i=0 then firstE E n (i+1) else E i
theorem firstE_step {E:Nat→Int} {i m:Nat} (hi:i<m):firstE E (m-i) i=if E i=0 then firstE E (m-(i+1)) (i+1) else E i:=by
 rw [show m-i=(m-(i+1))+1 by omega,firstE]
section
variable {α:Type} {n:Nat} {G G':Int→α}
end
end Go.Proofs.Ytppigjemglokgaa
/- Loops by their first error,by what is found,by a postcondition. No program in sight. -/
namespace Go.Proofs.Ytppigjemglokgaa
open Go Go.RowKit
set_option linter.unusedSimpArgs false
set_option linter.unusedSectionVars false
set_option linter.unusedVariables false
theorem postLoop {X β:Type} {f:(X→Option β)→X→Option β} (μ:X→Nat) (I:X→Prop) (Q:Option β→Prop)
  (h:∀ j x,I x→(∃ x',I x'∧μ x'<μ x∧f j x=j x')∨Q (f j x)):∀ (fu:Nat) (x:X),I x→μ x<fu→Q (loopF f fu x)
 | 0,_,_,h0=>absurd h0 (Nat.not_lt_zero _)
 | fu+1,x,hI,hm=>by
  rw [loopF];rcases h (loopF f fu) x hI with ⟨x',h1,h2,h3⟩ | h3
  ·rw [h3];exact postLoop μ I Q h fu x' h1 (by omega)
  ·exact h3
section
variable {β:Type} {f:(Int→Option β)→Int→Option β} {n fu:Nat} (hn:n<fu)
include hn
end
theorem firstE_all {E:Nat→Int}:∀ (m i0:Nat),(∀ k,i0≤k→k<i0+m→E k=0)→firstE E m i0=0
 | 0,_,_=>rfl
 | m+1,i0,h=>by
  rw [firstE,if_pos (h i0 (Nat.le_refl _) (by omega))];exact firstE_all m (i0+1) fun k g1 g2=>h k (by omega) (by omega)
theorem errGen {X β:Type} {f:(X→Option β)→X→Option β} {n:Nat} {st:Nat→X} {E:Nat→Int} {out:Int→Option β} {fin:Option β}
  (step:∀ j (i:Nat),i<n→(∀ k,k<i→E k=0)→f j (st i)=if E i=0 then j (st (i+1)) else out (E i)) (last:(∀ k,k<n→E k=0)→∀ j,f j (st n)=fin) :
  ∀ (fu i:Nat),i≤n→n-i<fu→(∀ k,k<i→E k=0)→loopF f fu (st i)=if firstE E (n-i) i=0 then fin else out (firstE E (n-i) i)
 | 0,i,_,h,_=>by omega
 | fu+1,i,h0,h1,hE=>by
  rw [loopF];by_cases hi:i<n
  ·rw [step _ i hi hE,firstE_step hi];by_cases e:E i=0
   ·rw [if_pos e];simp only [if_pos e]
    exact errGen step last fu (i+1) (by omega) (by omega) fun k hk=>by
     by_cases q:k=i
     ·rw [q];exact e
     ·exact hE k (by omega)
   ·rw [if_neg e];simp only [if_neg e]
  ·have e:i=n:=by omega
   subst e;rw [last hE,Nat.sub_self];rfl
theorem foldLoop {σ β:Type} {f:(Int×σ→Option β)→Int×σ→Option β} {n fu:Nat} (hn:n<fu) (I:Nat→σ→Prop) {fin:σ→Option β} {s0:σ} (h0:I 0 s0)
  (step:∀ j (i:Nat) s,i<n→I i s→∃ s',I (i+1) s'∧f j (i,s)=j ((i:Int)+1,s')) (last:∀ j s,I n s→f j (n,s)=fin s):∃ s,I n s∧loopF f fu (0,s0)=fin s:=by
 refine postLoop (f:=f) (fun x:Int×σ=>((n:Int)-x.1).toNat) (fun x=>∃ k:Nat,x.1=k∧k≤n∧I k x.2) (fun r=>∃ s,I n s∧r=fin s) ?_ fu (0,s0) ⟨0,rfl,by omega,h0⟩ (by simp only;omega)
 rintro j ⟨_,s⟩ ⟨i,rfl,k1,k2⟩
 by_cases hi:i<n
 ·obtain ⟨s',g1,g2⟩:=step j i s hi k2;exact .inl ⟨((i:Int)+1,s'),⟨i+1,by simp,by omega,g1⟩,by simp only;omega,g2⟩
 ·have e:i=n:=by omega
  subst e;exact .inr ⟨s,k2,last j s k2⟩
end Go.Proofs.Ytppigjemglokgaa
/- The field of 256 elements: fast functions. No program in sight. -/
namespace Go.Proofs.Ytppigjemglokgaa
open Go Go.RowKit
set_option linter.unusedSimpArgs false
set_option linter.unusedSectionVars false
set_option linter.unusedVariables false
def xtN (a:Nat):Nat:=if a<128 then 2*a else (2*a-256) ^^^ 29
def mulS:Nat→Nat→Nat→Nat→Nat
 | 0,p,_,_=>p
 | f+1,p,a,b=>mulS f (if b % 2=1 then p ^^^ a else p) (xtN a) (b / 2)
def mulN (a b:Nat):Nat:=mulS 8 0 a b
def powS:Nat→Nat→Nat→Nat→Nat
 | 0,p,_,_=>p
 | f+1,p,a,n=>powS f (if n % 2=1 then mulN p a else p) (mulN a a) (n / 2)
def tAN (a b:Nat):Nat→Nat
 | 0=>0
 | i+1=>if b / 2 ^ i % 2=1 then tAN a b i ^^^ (a*2 ^ i) else tAN a b i
def tQN (p:Nat):Nat→Nat
 | 0=>p
 | j+1=>if tQN p j / 2 ^ (14-j) % 2=1 then tQN p j ^^^ (285*2 ^ (6-j)) else tQN p j
def timN (a b:Nat):Nat:=tQN (tAN a b 8) 7 % 256
theorem xt_lt {a:Nat} (h:a<256):xtN a<256:=by
 unfold xtN;split
 ·omega
 ·exact Nat.xor_lt_two_pow (n:=8) (by omega) (by decide)
theorem mulS_lt:∀ f {p a b:Nat},p<256→a<256→mulS f p a b<256
 | 0,_,_,_,h,_=>h
 | f+1,p,a,b,hp,ha=>by
  rw [mulS];refine mulS_lt f ?_ (xt_lt ha);split
  ·exact Nat.xor_lt_two_pow (n:=8) hp ha
  ·exact hp
theorem mulN_lt {a b:Nat} (ha:a<256):mulN a b<256:=mulS_lt 8 (by decide) ha
theorem mulS_zero:∀ f (p a:Nat),mulS f p a 0=p
 | 0,_,_=>rfl
 | f+1,p,a=>by rw [mulS,if_neg (by decide)];exact mulS_zero f _ _
theorem powS_zero:∀ f (p a:Nat),powS f p a 0=p
 | 0,_,_=>rfl
 | f+1,p,a=>by rw [powS,if_neg (by decide)];exact powS_zero f _ _
end Go.Proofs.Ytppigjemglokgaa
/- The field of 256 elements: its laws. -/
namespace Go.Proofs.Ytppigjemglokgaa
open Go Go.RowKit
set_option linter.unusedSimpArgs false
set_option linter.unusedSectionVars false
set_option linter.unusedVariables false
namespace Gf
theorem xlt {a b:Nat} (ha:a<256) (hb:b<256):a ^^^ b<256:=Nat.xor_lt_two_pow (n:=8) ha hb
theorem xor4 (a b c d:Nat):(a ^^^ b) ^^^ (c ^^^ d)=(a ^^^ c) ^^^ (b ^^^ d):=by
 rw [Nat.xor_assoc,Nat.xor_assoc,←Nat.xor_assoc b c d,Nat.xor_comm b c,Nat.xor_assoc c b d]
theorem xt_all:∀ a:Nat,a<256→∀ b:Nat,b<256→xtN (a ^^^ b)=xtN a ^^^ xtN b:=by decide +kernel
theorem mulS_p:∀ (f p a b:Nat),mulS f p a b=p ^^^ mulS f 0 a b
 | 0,p,a,b=>by rw [mulS,mulS,Nat.xor_zero]
 | f+1,p,a,b=>by
  rw [mulS,mulS,mulS_p f (if b % 2=1 then p ^^^ a else p),mulS_p f (if b % 2=1 then 0 ^^^ a else 0)];by_cases h:b % 2=1
  ·rw [if_pos h,if_pos h,Nat.zero_xor,Nat.xor_assoc]
  ·rw [if_neg h,if_neg h,Nat.zero_xor]
theorem mulS_a:∀ (f a a' b:Nat),a<256→a'<256→mulS f 0 (a ^^^ a') b=mulS f 0 a b ^^^ mulS f 0 a' b
 | 0,_,_,_,_,_=>by rw [mulS,mulS,mulS,Nat.xor_self]
 | f+1,a,a',b,h,h'=>by
  rw [mulS,mulS,mulS,mulS_p f (if b % 2=1 then 0 ^^^ (a ^^^ a') else 0),mulS_p f (if b % 2=1 then 0 ^^^ a else 0),mulS_p f (if b % 2=1 then 0 ^^^ a' else 0),xt_all a h a' h',mulS_a f _ _ _ (xt_lt h) (xt_lt h'),xor4];by_cases e:b % 2=1
  ·rw [if_pos e,if_pos e,if_pos e,Nat.zero_xor,Nat.zero_xor,Nat.zero_xor]
  ·rw [if_neg e,if_neg e,if_neg e,Nat.xor_self,Nat.zero_xor]
theorem xor_half (b c:Nat):(b ^^^ c) / 2=b / 2 ^^^ c / 2:=by
 have h:=Nat.shiftRight_xor_distrib (a:=b) (b:=c) (i:=1);simpa [Nat.shiftRight_eq_div_pow] using h
theorem xor_par (b c:Nat):(b ^^^ c) % 2=(b % 2+c % 2) % 2:=by
 have h:=Nat.xor_mod_two_pow (a:=b) (b:=c) (n:=1);rw [Nat.pow_one] at h;rw [h]
 rcases Nat.mod_two_eq_zero_or_one b with e | e <;> rcases Nat.mod_two_eq_zero_or_one c with g | g <;> rw [e,g] <;> rfl
theorem mulS_b:∀ (f a b c:Nat),mulS f 0 a (b ^^^ c)=mulS f 0 a b ^^^ mulS f 0 a c
 | 0,_,_,_=>by rw [mulS,mulS,mulS,Nat.xor_self]
 | f+1,a,b,c=>by
  rw [mulS,mulS,mulS,mulS_p f (if (b ^^^ c) % 2=1 then 0 ^^^ a else 0),mulS_p f (if b % 2=1 then 0 ^^^ a else 0),mulS_p f (if c % 2=1 then 0 ^^^ a else 0),xor_half,mulS_b f,xor4,xor_par]
  rcases Nat.mod_two_eq_zero_or_one b with e | e <;> rcases Nat.mod_two_eq_zero_or_one c with g | g <;> rw [e,g] <;> simp
section
variable {a b c:Nat}
theorem mul_lt (ha:a<256):mulN a b<256:=mulN_lt ha
theorem xor_mul (ha:a<256) (hb:b<256):mulN (a ^^^ b) c=mulN a c ^^^ mulN b c:=mulS_a 8 a b c ha hb
theorem mul_xor:mulN a (b ^^^ c)=mulN a b ^^^ mulN a c:=mulS_b 8 a b c
end
theorem hi_bit:∀ n:Nat,n<8→∀ x:Nat,x<2 ^ n→(x+2 ^ n)=x ^^^ 2 ^ n:=by decide +kernel
theorem lin_ext {f g:Nat→Nat} (hf:∀ x y,x<256→y<256→f (x ^^^ y)=f x ^^^ f y) (hg:∀ x y,x<256→y<256→g (x ^^^ y)=g x ^^^ g y) (h:∀ i,i<8→f (2 ^ i)=g (2 ^ i)):∀ x,x<256→f x=g x:=by
 have key:∀ n,n≤8→∀ x,x<2 ^ n→f x=g x:=by
  intro n
  induction n with
  | zero =>
   intro _ x hx;obtain rfl:x=0:=by rw [Nat.pow_zero] at hx;omega
   have h1:=hf 0 0 (by decide) (by decide);have h2:=hg 0 0 (by decide) (by decide);rw [Nat.xor_self] at h1 h2;rw [h1,h2,Nat.xor_self,Nat.xor_self]
  | succ n ih =>
   intro hn x hx;have hp:2 ^ n≤2 ^ 7:=Nat.pow_le_pow_right (by decide) (by omega);rw [Nat.pow_succ] at hx;by_cases c:x<2 ^ n
   ·exact ih (by omega) x c
   ·have e:=hi_bit n (by omega) (x-2 ^ n) (by omega);rw [Nat.sub_add_cancel (by omega)] at e;rw [e,hf _ _ (by omega) (by omega),hg _ _ (by omega) (by omega),ih (by omega) _ (by omega),h n (by omega)]
 exact fun x hx=>key 8 (Nat.le_refl _) x hx
theorem comm0:∀ i:Nat,i<8→∀ j:Nat,j<8→mulN (2 ^ i) (2 ^ j)=mulN (2 ^ j) (2 ^ i):=by decide +kernel
theorem assoc0:∀ i:Nat,i<8→∀ j:Nat,j<8→∀ k:Nat,k<8→mulN (mulN (2 ^ i) (2 ^ j)) (2 ^ k)=mulN (2 ^ i) (mulN (2 ^ j) (2 ^ k)):=by decide +kernel
theorem pow_lt8 {i:Nat} (h:i<8):2 ^ i<256:=Nat.lt_of_le_of_lt (Nat.pow_le_pow_right (by decide) (show i≤7 by omega)) (by decide)
theorem mul_comm {a b:Nat} (ha:a<256) (hb:b<256):mulN a b=mulN b a:=by
 refine lin_ext (f:=fun a=>mulN a b) (g:=fun a=>mulN b a) (fun x y hx hy=>xor_mul hx hy) (fun x y _ _=>mul_xor) (fun i hi=>?_) a ha;exact lin_ext (f:=fun b=>mulN (2 ^ i) b) (g:=fun b=>mulN b (2 ^ i)) (fun x y _ _=>mul_xor) (fun x y hx hy=>xor_mul hx hy) (fun j hj=>comm0 i hi j hj) b hb
theorem mul_assoc {a b c:Nat} (ha:a<256) (hb:b<256) (hc:c<256):mulN (mulN a b) c=mulN a (mulN b c):=by
 refine lin_ext (f:=fun a=>mulN (mulN a b) c) (g:=fun a=>mulN a (mulN b c)) (fun x y hx hy=>by rw [xor_mul hx hy,xor_mul (mul_lt hx) (mul_lt hy)]) (fun x y hx hy=>xor_mul hx hy) (fun i hi=>?_) a ha;have hi':=pow_lt8 hi;refine lin_ext (f:=fun b=>mulN (mulN (2 ^ i) b) c) (g:=fun b=>mulN (2 ^ i) (mulN b c)) (fun x y hx hy=>by rw [mul_xor,xor_mul (mul_lt hi') (mul_lt hi')]) (fun x y hx hy=>by rw [xor_mul hx hy,mul_xor]) (fun j hj=>?_) b hb;exact lin_ext (f:=fun c=>mulN (mulN (2 ^ i) (2 ^ j)) c) (g:=fun c=>mulN (2 ^ i) (mulN (2 ^ j) c)) (fun x y _ _=>mul_xor) (fun x y _ _=>by rw [mul_xor,mul_xor]) (fun k hk=>assoc0 i hi j hj k hk) c hc
theorem mul_one:∀ a:Nat,a<256→mulN a 1=a:=by decide +kernel
theorem one_mul {a:Nat} (ha:a<256):mulN 1 a=a:=by rw [mul_comm (by decide) ha,mul_one a ha]
theorem mul_zero (a:Nat):mulN a 0=0:=mulS_zero 8 0 a
theorem zero_mul {a:Nat} (ha:a<256):mulN 0 a=0:=by rw [mul_comm (by decide) ha,mul_zero]
def inv (a:Nat):Nat:=powS 8 1 a 254
theorem inv_all:∀ a:Nat,a<256→a≠0→mulN a (inv a)=1∧inv a<256:=by decide +kernel
theorem mul_eq_zero {a b:Nat} (ha:a<256) (hb:b<256) (h:mulN a b=0):a=0∨b=0:=by
 by_cases c:a=0
 ·exact .inl c
 ·right
  obtain ⟨h1,h2⟩:=inv_all a ha c;have h3:mulN (inv a) (mulN a b)=b:=by rw [←mul_assoc h2 ha hb,mul_comm h2 ha,h1,one_mul hb]
  rw [h,mul_zero] at h3;exact h3.symm
def sum (n:Nat) (f:Nat→Nat):Nat:=(List.range n).foldl (fun s i=>s ^^^ f i) 0
theorem sum_zero (f:Nat→Nat):sum 0 f=0:=rfl
theorem sum_succ (n:Nat) (f:Nat→Nat):sum (n+1) f=sum n f ^^^ f n:=by unfold sum;rw [List.range_succ,List.foldl_append];rfl
section
variable {n:Nat} {f g:Nat→Nat} {a:Nat}
theorem sum_lt (h:∀ i,i<n→f i<256):sum n f<256:=by
 induction n with
 | zero=>rw [sum_zero];decide
 | succ n ih=>rw [sum_succ];exact xlt (ih fun i hi=>h i (by omega)) (h n (by omega))
theorem sum_congr (h:∀ i,i<n→f i=g i):sum n f=sum n g:=by
 induction n with
 | zero=>rfl
 | succ n ih=>rw [sum_succ,sum_succ,ih fun i hi=>h i (by omega),h n (by omega)]
theorem sum_xor:sum n (fun i=>f i ^^^ g i)=sum n f ^^^ sum n g:=by
 induction n with
 | zero=>rw [sum_zero,sum_zero,sum_zero,Nat.xor_self]
 | succ n ih=>rw [sum_succ,sum_succ,sum_succ,ih,xor4]
theorem sum_mul:sum n (fun i=>mulN a (f i))=mulN a (sum n f):=by
 induction n with
 | zero=>rw [sum_zero,sum_zero,mul_zero]
 | succ n ih=>rw [sum_succ,sum_succ,ih,mul_xor]
theorem mul_sum (ha:a<256) (hf:∀ i,i<n→f i<256):sum n (fun i=>mulN (f i) a)=mulN (sum n f) a:=by
 rw [mul_comm (sum_lt hf) ha,←sum_mul];exact sum_congr fun i hi=>mul_comm (hf i hi) ha
theorem sum_0 (h:∀ i,i<n→f i=0):sum n f=0:=by
 induction n with
 | zero=>rfl
 | succ n ih=>rw [sum_succ,ih fun i hi=>h i (by omega),h n (by omega)];rfl
theorem sum_one {k:Nat} (hk:k<n) (h:∀ i,i<n→i≠k→f i=0):sum n f=f k:=by
 induction n with
 | zero=>omega
 | succ n ih =>
  rw [sum_succ];by_cases e:k=n
  ·subst e;rw [sum_0 fun i hi=>h i (by omega) (by omega),Nat.zero_xor]
  ·rw [ih (by omega) fun i hi=>h i (by omega),h n (by omega) (by omega),Nat.xor_zero]
end
def pw (x:Nat):Nat→Nat
 | 0=>1
 | n+1=>mulN (pw x n) x
theorem pw_lt {x:Nat} (hx:x<256):∀ n,pw x n<256
 | 0=>by show (1:Nat)<256;decide
 | n+1=>mul_lt (pw_lt hx n)
theorem pw_add {x:Nat} (hx:x<256) (m:Nat):∀ n,pw x (m+n)=mulN (pw x m) (pw x n)
 | 0=>(mul_one _ (pw_lt hx m)).symm
 | n+1=>by rw [←Nat.add_assoc,pw,pw,pw_add hx m n,mul_assoc (pw_lt hx m) (pw_lt hx n) hx]
end Gf
end Go.Proofs.Ytppigjemglokgaa
/- Linear equations over the field of 256 elements. No program in sight. -/
namespace Go.Proofs.Ytppigjemglokgaa
open Go Go.RowKit
set_option linter.unusedSimpArgs false
set_option linter.unusedSectionVars false
set_option linter.unusedVariables false
namespace Gf
theorem xor_eq {a b:Nat} (h:a ^^^ b=0):a=b:=by
 have h1:a ^^^ b ^^^ b=b:=by rw [h,Nat.zero_xor]
 rwa [Nat.xor_assoc,Nat.xor_self,Nat.xor_zero] at h1
def wprod (x z:Nat→Nat):List Nat→Nat→Nat
 | [],k=>z k
 | j::J,k=>mulN (x k ^^^ x j) (wprod x z J k)
section
variable {n:Nat} {x z:Nat→Nat}
theorem wprod_lt (hx:∀ k,k<n→x k<256) (hz:∀ k,k<n→z k<256):∀ (J:List Nat),(∀ j ∈ J,j<n)→∀ k,k<n→wprod x z J k<256
 | [],_,k,hk=>hz k hk
 | j::J,hJ,k,hk=>mul_lt (xlt (hx k hk) (hx j (hJ j (by simp))))
theorem pow_term {P a b w:Nat} (hP:P<256) (ha:a<256) (hb:b<256) (hw:w<256):mulN P (mulN (a ^^^ b) w)=mulN (mulN P a) w ^^^ mulN b (mulN P w):=by
 rw [xor_mul ha hb,mul_xor,←mul_assoc hP ha hw,←mul_assoc hP hb hw,mul_comm hP hb,mul_assoc hb hP hw]
theorem wprod_H (hx:∀ k,k<n→x k<256) (hz:∀ k,k<n→z k<256) (q:Nat):∀ (J:List Nat),(∀ j ∈ J,j<n)→(∀ i,i<q+J.length→sum n (fun k=>mulN (pw (x k) i) (z k))=0)→∀ i,i<q→sum n (fun k=>mulN (pw (x k) i) (wprod x z J k))=0:=by
 intro J
 induction J generalizing q with
 | nil=>intro _ h i hi;exact h i (by simpa using hi)
 | cons j J ih =>
  intro hJ h i hi;have hJ':∀ j ∈ J,j<n:=fun j hj=>hJ j (List.mem_cons_of_mem _ hj)
  have hj:j<n:=hJ j (by simp);have h1:=ih (q+1) hJ' (fun i hi=>h i (by rw [List.length_cons];omega))
  have e:sum n (fun k=>mulN (pw (x k) i) (wprod x z (j::J) k))=sum n (fun k=>mulN (pw (x k) (i+1)) (wprod x z J k) ^^^ mulN (x j) (mulN (pw (x k) i) (wprod x z J k))) :=
   sum_congr fun k hk=>pow_term (pw_lt (hx k hk) i) (hx k hk) (hx j hj) (wprod_lt hx hz J hJ' k hk)
  rw [e,sum_xor,sum_mul,h1 (i+1) (by omega),h1 i (by omega),mul_zero];rfl
theorem wprod_zero (hx:∀ k,k<n→x k<256) (hz:∀ k,k<n→z k<256):∀ (J:List Nat),(∀ j ∈ J,j<n)→∀ k,k<n→k ∈ J→wprod x z J k=0
 | [],_,k,_,h=>by cases h
 | j::J,hJ,k,hk,h=>by
  have hJ':∀ j ∈ J,j<n:=fun j hj=>hJ j (List.mem_cons_of_mem _ hj)
  rw [wprod];rcases List.mem_cons.1 h with rfl | h
  ·rw [Nat.xor_self,zero_mul (wprod_lt hx hz J hJ' k hk)]
  ·rw [wprod_zero hx hz J hJ' k hk h,mul_zero]
theorem wprod_ne (hx:∀ k,k<n→x k<256) (hz:∀ k,k<n→z k<256) {k:Nat} (hk:k<n):∀ (J:List Nat),(∀ j ∈ J,j<n)→(∀ j ∈ J,x j≠x k)→wprod x z J k=0→z k=0
 | [],_,_,h=>h
 | j::J,hJ,hd,h=>by
  have hJ':∀ j ∈ J,j<n:=fun j hj=>hJ j (List.mem_cons_of_mem _ hj)
  rw [wprod] at h;rcases mul_eq_zero (xlt (hx k hk) (hx j (hJ j (by simp)))) (wprod_lt hx hz J hJ' k hk) h with h | h
  ·exact absurd (xor_eq h).symm (hd j (by simp))
  ·exact wprod_ne hx hz hk J hJ' (fun j hj=>hd j (List.mem_cons_of_mem _ hj)) h
theorem vander (hx:∀ k,k<n→x k<256) (hz:∀ k,k<n→z k<256) (hd:∀ j k,j<n→k<n→x j=x k→j=k) (h:∀ i,i<n→sum n (fun k=>mulN (pw (x k) i) (z k))=0) {k:Nat} (hk:k<n):z k=0:=by
 let J:=(List.range n).filter fun j=>j != k
 have hJ:∀ j ∈ J,j<n:=fun j hj=>List.mem_range.1 (List.mem_filter.1 hj).1
 have hJk:∀ j ∈ J,j≠k:=fun j hj=>by have:=(List.mem_filter.1 hj).2;simpa using this
 have hlen:J.length<n:=by
  have h1:J.length<(List.range n).length:=by
   refine List.length_filter_lt_length_iff_exists.2 ⟨k,List.mem_range.2 hk,by simp⟩
  rwa [List.length_range] at h1
 have h1:=wprod_H hx hz 1 J hJ (fun i hi=>h i (by omega)) 0 (by omega);have e:sum n (fun k=>mulN (pw (x k) 0) (wprod x z J k))=sum n (fun k=>wprod x z J k):=sum_congr fun k hk=>one_mul (wprod_lt hx hz J hJ k hk)
 rw [e,sum_one hk (f:=fun k=>wprod x z J k) (fun i hi hne=>wprod_zero hx hz J hJ i hi (List.mem_filter.2 ⟨List.mem_range.2 hi,by simpa using hne⟩))] at h1;exact wprod_ne hx hz hk J hJ (fun j hj e=>hJk j hj (hd j k (hJ j hj) hk e)) h1
end
structure GI (p c:Nat) (M:Nat→Nat→Nat) (y:Nat→Nat):Prop where
 b:∀ i,i<p→∀ k,k≤p→M i k<256
 s:∀ i,i<p→sum p (fun k=>mulN (M i k) (y k))=M i p
 i:∀ i,i<p→∀ k,k<c→M i k=if i=k then 1 else 0
 k:∀ z:Nat→Nat,(∀ k,k<p→z k<256)→(∀ i,i<p→sum p (fun k=>mulN (M i k) (z k))=0)→∀ k,k<p→z k=0
section
variable {p c:Nat} {M:Nat→Nat→Nat} {y:Nat→Nat}
theorem GI.pivot (h:GI p c M y) (hc:c<p):∃ i,c≤i∧i<p∧M i c≠0:=by
 refine Classical.byContradiction fun hn=>?_
 have h0:∀ i,c≤i→i<p→M i c=0:=fun i h1 h2=>Classical.byContradiction fun h3=>hn ⟨i,h1,h2,h3⟩
 have hz:∀ k,k<p→(if k<c then M k c else if k=c then 1 else 0)<256:=by
  intro k hk;split
  ·exact h.b k hk c (by omega)
  ·split <;> decide
 have:=h.k (fun k=>if k<c then M k c else if k=c then 1 else 0) hz (fun i hi=>?_) c hc
 ·simp at this
 ·by_cases hic:i<c
  ·
   have e:sum p (fun k=>mulN (M i k) (if k<c then M k c else if k=c then 1 else 0))=sum p (fun k=>(if k=i then M i c else 0) ^^^ (if k=c then M i c else 0)):=by
    refine sum_congr fun k hk=>?_
    by_cases h1:k<c
    ·rw [if_pos h1,h.i i hi k h1,if_neg (show ¬ k=c by omega),Nat.xor_zero];by_cases h2:i=k
     ·subst h2;rw [if_pos rfl,if_pos rfl,one_mul (h.b _ hi _ (by omega))]
     ·rw [if_neg h2,if_neg (Ne.symm h2),zero_mul (h.b _ hk _ (by omega))]
    ·rw [if_neg h1,if_neg (show ¬ k=i by omega),Nat.zero_xor];by_cases h2:k=c
     ·subst h2;rw [if_pos rfl,if_pos rfl,mul_one _ (h.b _ hi _ (by omega))]
     ·rw [if_neg h2,if_neg h2,mul_zero]
   rw [e,sum_xor,sum_one hi (f:=fun k=>if k=i then M i c else 0) (fun k _ hne=>if_neg hne),sum_one hc (f:=fun k=>if k=c then M i c else 0) (fun k _ hne=>if_neg hne),if_pos rfl,if_pos rfl,Nat.xor_self]
  ·refine sum_0 fun k hk=>?_
   by_cases h1:k<c
   ·rw [h.i i hi k h1,if_neg (show ¬ i=k by omega),zero_mul (hz k hk)]
   ·rw [if_neg h1];by_cases h2:k=c
    ·subst h2;rw [if_pos rfl,h0 i (by omega) hi];exact zero_mul (by decide)
    ·rw [if_neg h2,mul_zero]
def sw (a b i:Nat):Nat:=if i=a then b else if i=b then a else i
theorem sw_sw (a b i:Nat):sw a b (sw a b i)=i:=by
 unfold sw;by_cases h1:i=a
 ·subst h1;rw [if_pos rfl];by_cases h2:b=i
  ·rw [if_pos h2];exact h2
  ·rw [if_neg h2,if_pos rfl]
 ·rw [if_neg h1];by_cases h2:i=b
  ·rw [if_pos h2,if_pos rfl];exact h2.symm
  ·rw [if_neg h2,if_neg h1,if_neg h2]
theorem sw_lt {a b i:Nat} (ha:a<p) (hb:b<p) (hi:i<p):sw a b i<p:=by
 unfold sw;split
 ·exact hb
 ·split
  ·exact ha
  ·exact hi
theorem GI.swap (h:GI p c M y) (hc:c<p) {q:Nat} (h1:c≤q) (h2:q<p):GI p c (fun i=>M (sw c q i)) y:=by
 refine ⟨fun i hi=>h.b _ (sw_lt hc h2 hi),fun i hi=>h.s _ (sw_lt hc h2 hi),fun i hi k hk=>?_,fun z hz hs=>h.k z hz fun i hi=>?_⟩
 ·show M (sw c q i) k=_;rw [h.i _ (sw_lt hc h2 hi) k hk]
  have e:(sw c q i=k)↔(i=k):=by
   unfold sw;by_cases g:i=c
   ·rw [if_pos g];omega
   ·rw [if_neg g];by_cases g2:i=q
    ·rw [if_pos g2];omega
    ·rw [if_neg g2]
  simp only [e]
 ·have:=hs (sw c q i) (sw_lt hc h2 hi);simp only [sw_sw] at this;exact this
theorem GI.scale (h:GI p c M y) (hy:∀ k,k<p→y k<256) (hc:c<p) {f:Nat} (hf:f<256) (hf1:mulN (M c c) f=1):GI p c (fun i k=>if i=c then mulN (M i k) f else M i k) y:=by
 have hM:=h.b c hc c (by omega)
 have key:∀ z:Nat→Nat,(∀ k,k<p→z k<256)→sum p (fun k=>mulN (mulN (M c k) f) (z k))=mulN f (sum p (fun k=>mulN (M c k) (z k))):=by
  intro z hz;rw [←sum_mul];exact sum_congr fun k hk=>by rw [mul_comm (h.b c hc k (by omega)) hf,mul_assoc hf (h.b c hc k (by omega)) (hz k hk)]
 refine ⟨fun i hi k hk=>?_,fun i hi=>?_,fun i hi k hk=>?_,fun z hz hs=>h.k z hz fun i hi=>?_⟩
 ·show (if i=c then mulN (M i k) f else M i k)<256;split
  ·exact mul_lt (h.b i hi k hk)
  ·exact h.b i hi k hk
 ·show sum p (fun k=>mulN (if i=c then mulN (M i k) f else M i k) (y k))=if i=c then mulN (M i p) f else M i p
  by_cases g:i=c
  ·subst g;simp only [if_pos];rw [key y hy,h.s i hi,mul_comm hf (h.b i hi p (by omega))]
  ·simp only [if_neg g];exact h.s i hi
 ·show (if i=c then mulN (M i k) f else M i k)=_;by_cases g:i=c
  ·subst g;rw [if_pos rfl,h.i i hi k hk,if_neg (by omega),zero_mul hf]
  ·rw [if_neg g,h.i i hi k hk]
 ·have:=hs i hi;by_cases g:i=c
  ·subst g;simp only [if_pos] at this;rw [key z hz] at this;rcases mul_eq_zero hf (sum_lt fun k hk=>mul_lt (h.b i hi k (by omega))) this with e | e
   ·rw [e,mul_zero] at hf1;cases hf1
   ·exact e
  ·simp only [if_neg g] at this;exact this
theorem GI.elim (h:GI p c M y) (hy:∀ k,k<p→y k<256) (hc:c<p) (h1:M c c=1):GI p (c+1) (fun i k=>if i=c then M i k else M i k ^^^ mulN (M i c) (M c k)) y:=by
 have key:∀ z:Nat→Nat,(∀ k,k<p→z k<256)→∀ i,i<p→sum p (fun k=>mulN (M i k ^^^ mulN (M i c) (M c k)) (z k))=sum p (fun k=>mulN (M i k) (z k)) ^^^ mulN (M i c) (sum p (fun k=>mulN (M c k) (z k))):=by
  intro z hz i hi;have b1:=h.b i hi c (by omega);rw [←sum_mul,←sum_xor]
  exact sum_congr fun k hk=>by
   have b2:=h.b c hc k (by omega);rw [xor_mul (h.b i hi k (by omega)) (mul_lt b1),mul_assoc b1 b2 (hz k hk)]
 refine ⟨fun i hi k hk=>?_,fun i hi=>?_,fun i hi k hk=>?_,fun z hz hs=>h.k z hz fun i hi=>?_⟩
 ·show (if i=c then M i k else M i k ^^^ mulN (M i c) (M c k))<256;split
  ·exact h.b i hi k hk
  ·exact xlt (h.b i hi k hk) (mul_lt (h.b i hi c (by omega)))
 ·show sum p (fun k=>mulN (if i=c then M i k else M i k ^^^ mulN (M i c) (M c k)) (y k))=if i=c then M i p else M i p ^^^ mulN (M i c) (M c p)
  by_cases g:i=c
  ·simp only [if_pos g];exact h.s i hi
  ·simp only [if_neg g];rw [key y hy i hi,h.s i hi,h.s c hc]
 ·show (if i=c then M i k else M i k ^^^ mulN (M i c) (M c k))=_;by_cases g:i=c
  ·rw [if_pos g];by_cases e:k=c
   ·rw [g,e,h1,if_pos rfl]
   ·exact h.i i hi k (by omega)
  ·rw [if_neg g];by_cases e:k=c
   ·rw [e,h1,mul_one _ (h.b i hi c (by omega)),Nat.xor_self,if_neg g]
   ·rw [h.i c hc k (by omega),if_neg (show ¬ c=k by omega),mul_zero,Nat.xor_zero,h.i i hi k (by omega)]
 ·have hcz:sum p (fun k=>mulN (M c k) (z k))=0:=by
   have:=hs c hc;simp only [if_pos] at this;exact this
  have:=hs i hi;by_cases g:i=c
  ·rw [g];exact hcz
  ·simp only [if_neg g] at this;rw [key z hz i hi,hcz,mul_zero,Nat.xor_zero] at this;exact this
theorem GI.last (h:GI p p M y) (hy:∀ k,k<p→y k<256) {i:Nat} (hi:i<p):M i p=y i:=by
 rw [←h.s i hi,sum_one hi (f:=fun k=>mulN (M i k) (y k)) (fun k hk hne=>by rw [h.i i hi k hk,if_neg (Ne.symm hne),zero_mul (hy k hk)]),h.i i hi i hi,if_pos rfl,one_mul (hy i hi)]
end
end Gf
end Go.Proofs.Ytppigjemglokgaa
/- The generator of a code and the register that divides by it. No program in sight. -/
namespace Go.Proofs.Ytppigjemglokgaa
open Go Go.RowKit
set_option linter.unusedSimpArgs false
set_option linter.unusedSectionVars false
set_option linter.unusedVariables false
namespace Gf
theorem lt_ite0 {c:Prop} [Decidable c] {a:Nat} (h:a<256):(if c then 0 else a)<256:=by
 split
 ·decide
 ·exact h
theorem lt_ite1 {c:Prop} [Decidable c] {a:Nat} (h:a<256):(if c then a else 0)<256:=by
 split
 ·exact h
 ·decide
theorem sum_shift {n:Nat} {f:Nat→Nat}:sum (n+1) f=f 0 ^^^ sum n (fun k=>f (k+1)):=by
 induction n with
 | zero=>rw [sum_succ,sum_zero,sum_zero,Nat.zero_xor,Nat.xor_zero]
 | succ n ih=>rw [sum_succ,ih,sum_succ,Nat.xor_assoc]
theorem sum_rev {n:Nat} {f:Nat→Nat}:sum n (fun k=>f (n-1-k))=sum n f:=by
 induction n generalizing f with
 | zero=>rfl
 | succ n ih =>
  rw [sum_succ,sum_shift (f:=f),Nat.xor_comm];have e1:n+1-1-n=0:=by omega
  rw [e1];congr 1;rw [←ih (f:=fun k=>f (k+1))];refine sum_congr fun k hk=>?_
  have e2:n+1-1-k=n-1-k+1:=by omega
  rw [e2]
theorem pw_mul {x:Nat} (hx:x<256) (m:Nat):∀ n,pw (pw x m) n=pw x (m*n)
 | 0=>rfl
 | n+1=>by rw [pw,pw_mul hx m n,Nat.mul_succ,pw_add hx]
def gen:Nat→Nat→Nat
 | 0,k=>if k=0 then 1 else 0
 | m+1,k=>mulN (gen m k) (pw 2 m) ^^^ (if k=0 then 0 else gen m (k-1))
theorem p2 (m:Nat):pw 2 m<256:=pw_lt (by decide) m
theorem gen_lt:∀ m k,gen m k<256
 | 0,k=>by rw [gen];split <;> decide
 | m+1,k=>by
  rw [gen];refine xlt (mul_lt (gen_lt m k)) ?_;split
  ·decide
  ·exact gen_lt m _
theorem gen_high:∀ m k,m<k→gen m k=0
 | 0,k,h=>by rw [gen,if_neg (by omega)]
 | m+1,k,h=>by rw [gen,gen_high m k (by omega),zero_mul (p2 m),Nat.zero_xor,if_neg (by omega),gen_high m (k-1) (by omega)]
theorem gen_top:∀ m,gen m m=1
 | 0=>rfl
 | m+1=>by rw [gen,gen_high m (m+1) (by omega),zero_mul (p2 m),Nat.zero_xor,if_neg (by omega),Nat.add_sub_cancel,gen_top m]
def ev (g:Nat→Nat) (n x:Nat):Nat:=sum n fun k=>mulN (g k) (pw x k)
theorem ev_lt {g:Nat→Nat} (hg:∀ k,g k<256) (n x:Nat):ev g n x<256:=sum_lt fun k _=>mul_lt (hg k)
theorem ev_gen {x:Nat} (hx:x<256) (m:Nat):ev (gen (m+1)) (m+2) x=mulN (x ^^^ pw 2 m) (ev (gen m) (m+1) x):=by
 have h1:ev (gen (m+1)) (m+2) x=sum (m+2) (fun k=>mulN (pw 2 m) (mulN (gen m k) (pw x k))) ^^^ sum (m+2) (fun k=>mulN (if k=0 then 0 else gen m (k-1)) (pw x k)):=by
  rw [←sum_xor];refine sum_congr fun k _=>?_
  rw [gen,xor_mul (mul_lt (gen_lt m k)) (lt_ite0 (gen_lt m _)),mul_comm (gen_lt m k) (p2 m),mul_assoc (p2 m) (gen_lt m k) (pw_lt hx k)]
 have h2:sum (m+2) (fun k=>mulN (gen m k) (pw x k))=ev (gen m) (m+1) x:=by
  rw [sum_succ,gen_high m (m+1) (by omega),zero_mul (pw_lt hx _),Nat.xor_zero];rfl
 have h3:sum (m+2) (fun k=>mulN (if k=0 then 0 else gen m (k-1)) (pw x k))=mulN x (ev (gen m) (m+1) x):=by
  rw [sum_shift,if_pos rfl,zero_mul (pw_lt hx 0),Nat.zero_xor];unfold ev;rw [←sum_mul];refine sum_congr fun k _=>?_
  rw [if_neg (by omega),Nat.add_sub_cancel,pw,←mul_assoc (gen_lt m k) (pw_lt hx k) hx,mul_comm (mul_lt (gen_lt m k)) hx]
 rw [h1,sum_mul,h2,h3,xor_mul hx (p2 m),Nat.xor_comm]
theorem gen_root:∀ m i,i<m→ev (gen m) (m+1) (pw 2 i)=0
 | 0,i,h=>by omega
 | m+1,i,h=>by
  rw [ev_gen (p2 i)];by_cases e:i=m
  ·subst e;rw [Nat.xor_self,zero_mul (ev_lt (gen_lt i) _ _)]
  ·rw [gen_root m i (by omega),mul_zero]
def step (p:Nat) (g:Nat→Nat) (c:Nat) (R:Nat→Nat) (k:Nat):Nat:=(if k+1<p then R (k+1) else 0) ^^^ mulN (c ^^^ R 0) (g (p-1-k))
def rv (p:Nat) (R:Nat→Nat) (x:Nat):Nat:=sum p fun k=>mulN (R k) (pw x (p-1-k))
section
variable {p:Nat} {g R:Nat→Nat} {c x:Nat}
theorem step_lt (hg:∀ k,g k<256) (hR:∀ k,R k<256) (hc:c<256) (k:Nat):step p g c R k<256:=by
 unfold step;refine xlt ?_ (mul_lt (xlt hc (hR 0)));split
 ·exact hR _
 ·decide
theorem rv_step (hp:0<p) (hg:∀ k,g k<256) (hg1:g p=1) (hR:∀ k,R k<256) (hc:c<256) (hx:x<256) (h0:ev g (p+1) x=0):rv p (step p g c R) x=mulN x (rv p R x) ^^^ mulN c (pw x p):=by
 have ht:=xlt hc (hR 0)
 have h1:rv p (step p g c R) x=sum p (fun k=>mulN (if k+1<p then R (k+1) else 0) (pw x (p-1-k))) ^^^ sum p (fun k=>mulN (c ^^^ R 0) (mulN (g (p-1-k)) (pw x (p-1-k)))):=by
  rw [←sum_xor];refine sum_congr fun k _=>?_
  unfold step;rw [xor_mul (lt_ite1 (hR _)) (mul_lt ht),mul_assoc ht (hg _) (pw_lt hx _)]
 have h2:sum p (fun k=>mulN (g (p-1-k)) (pw x (p-1-k)))=pw x p:=by
  rw [sum_rev (f:=fun k=>mulN (g k) (pw x k))];unfold ev at h0;rw [sum_succ,hg1,one_mul (pw_lt hx p)] at h0;exact xor_eq h0
 have h3:mulN x (rv p R x)=mulN (R 0) (pw x p) ^^^ sum p (fun k=>mulN (if k+1<p then R (k+1) else 0) (pw x (p-1-k))):=by
  obtain ⟨q,rfl⟩:∃ q,p=q+1:=⟨p-1,by omega⟩;unfold rv;rw [←sum_mul]
  have e:sum (q+1) (fun k=>mulN x (mulN (R k) (pw x (q+1-1-k))))=sum (q+1) (fun k=>mulN (R k) (pw x (q+1-k))):=by
   refine sum_congr fun k hk=>?_
   have e2:q+1-k=(q+1-1-k)+1:=by omega
   rw [e2,pw,mul_comm hx (mul_lt (hR k)),mul_assoc (hR k) (pw_lt hx _) hx]
  rw [e,sum_shift,sum_succ (f:=fun k=>mulN (if k+1<q+1 then R (k+1) else 0) (pw x (q+1-1-k))),if_neg (by omega),zero_mul (pw_lt hx _),Nat.xor_zero];congr 1;refine sum_congr fun k hk=>?_
  rw [if_pos (by omega)];congr 2;omega
 rw [h1,sum_mul,h2,h3,xor_mul hc (hR 0)];generalize sum p (fun k=>mulN (if k+1<p then R (k+1) else 0) (pw x (p-1-k)))=A;generalize mulN (R 0) (pw x p)=B;generalize mulN c (pw x p)=C;rw [Nat.xor_comm B A,Nat.xor_assoc,Nat.xor_comm C B]
def regs (p:Nat) (g:Nat→Nat) (d:Nat→Nat):Nat→Nat→Nat
 | 0,_=>0
 | t+1,k=>step p g (d t) (regs p g d t) k
def horner (d:Nat→Nat) (x:Nat):Nat→Nat
 | 0=>0
 | t+1=>mulN (horner d x t) x ^^^ d t
variable {d:Nat→Nat}
theorem regs_lt (hg:∀ k,g k<256) (hd:∀ k,d k<256):∀ t k,regs p g d t k<256
 | 0,_=>by show (0:Nat)<256;decide
 | t+1,k=>step_lt hg (regs_lt hg hd t) (hd t) k
theorem horner_lt (hd:∀ k,d k<256) (hx:x<256):∀ t,horner d x t<256
 | 0=>by show (0:Nat)<256;decide
 | t+1=>xlt (mul_lt (horner_lt hd hx t)) (hd t)
theorem regs_ev (hp:0<p) (hg:∀ k,g k<256) (hg1:g p=1) (hd:∀ k,d k<256) (hx:x<256) (h0:ev g (p+1) x=0):∀ t,rv p (regs p g d t) x=mulN (horner d x t) (pw x p)
 | 0=>by
  rw [show horner d x 0=0 from rfl,zero_mul (pw_lt hx p)];exact sum_0 fun k _=>zero_mul (pw_lt hx _)
 | t+1=>by
  have e:regs p g d (t+1)=step p g (d t) (regs p g d t):=rfl;have hh:=horner_lt hd hx t;rw [e,rv_step hp hg hg1 (regs_lt hg hd t) (hd t) hx h0,regs_ev hp hg hg1 hd hx h0 t,horner,xor_mul (mul_lt hh) (hd t),mul_comm hh hx,mul_assoc hx hh (pw_lt hx p)]
theorem horner_sum (hd:∀ k,d k<256) (hx:x<256):∀ t,horner d x t=sum t (fun j=>mulN (d j) (pw x (t-1-j)))
 | 0=>rfl
 | t+1=>by
  rw [horner,horner_sum hd hx t,sum_succ];have e1:t+1-1-t=0:=by omega
  rw [e1,show pw x 0=1 from rfl,mul_one _ (hd t),←mul_sum hx fun i _=>mul_lt (hd i)];congr 1;refine sum_congr fun j hj=>?_
  have e2:t+1-1-j=(t-1-j)+1:=by omega
  rw [e2,pw,mul_assoc (hd j) (pw_lt hx _) hx]
end
end Gf
end Go.Proofs.Ytppigjemglokgaa
/- The check bytes of a code solve its equations. No program in sight. -/
namespace Go.Proofs.Ytppigjemglokgaa
open Go Go.RowKit
set_option linter.unusedSimpArgs false
set_option linter.unusedSectionVars false
set_option linter.unusedVariables false
namespace Gf
theorem pw_sq {a:Nat} (ha:a<256) (m:Nat):pw (mulN a a) m=pw a (2*m):=by
 have e:pw a 2=mulN a a:=by
  show mulN (mulN 1 a) a=mulN a a;rw [one_mul ha]
 rw [←e,pw_mul ha]
theorem pow_gen:∀ (f:Nat) {p a n:Nat},p<256→a<256→n<2 ^ f→powS f p a n=mulN p (pw a n)
 | 0,p,a,n,hp,ha,hn=>by
  obtain rfl:n=0:=by rw [Nat.pow_zero] at hn;omega
  exact (mul_one p hp).symm
 | f+1,p,a,n,hp,ha,hn=>by
  rw [Nat.pow_succ] at hn
  have hq:(if n % 2=1 then mulN p a else p)<256:=by
   split
   ·exact mul_lt hp
   ·exact hp
  rw [powS,pow_gen f hq (mul_lt ha) (by omega),pw_sq ha];by_cases c:n % 2=1
  ·rw [if_pos c];have e:n=2*(n / 2)+1:=by omega
   have e2:pw a n=mulN (pw a (2*(n / 2))) a:=by
    have:pw a n=pw a (2*(n / 2)+1):=by rw [←e]
    rw [this,pw]
   rw [e2,mul_assoc hp ha (pw_lt ha _),mul_comm ha (pw_lt ha _)]
  ·rw [if_neg c];have e:2*(n / 2)=n:=by omega
   rw [e]
theorem pow_2 {n:Nat} (h:n<256):powS 8 1 2 n=pw 2 n:=by
 rw [pow_gen 8 (by decide) (by decide) h,one_mul (pw_lt (by decide) n)]
theorem pw_one:∀ n,pw 1 n=1
 | 0=>rfl
 | n+1=>by rw [pw,pw_one n];decide
theorem pw_255:pw 2 255=1:=by decide +kernel
theorem pw_mod (n:Nat):pw 2 (n % 255)=pw 2 n:=by
 have e:=Nat.div_add_mod n 255;have h2:(2:Nat)<256:=by decide
 have e2:pw 2 n=pw 2 (255*(n / 255)+n % 255):=by rw [e]
 rw [e2,pw_add h2,←pw_mul h2,pw_255,pw_one,one_mul (pw_lt h2 _)]
theorem pw_inj:∀ a:Nat,a<16→∀ b:Nat,b<16→pw 2 a=pw 2 b→a=b:=by decide +kernel
section
variable {p d:Nat} {dt:Nat→Nat}
def rest (p d:Nat) (dt:Nat→Nat):Nat→Nat:=regs p (gen p) dt d
theorem rest_lt (hd:∀ k,dt k<256) (k:Nat):rest p d dt k<256:=regs_lt (gen_lt p) hd d k
theorem code_eq (hp:0<p) (hd:∀ k,dt k<256) {i:Nat} (hi:i<p):sum d (fun j=>mulN (dt j) (pw 2 (i*(d+p-1-j))))=sum p (fun k=>mulN (pw 2 (i*(p-1-k))) (rest p d dt k)):=by
 have h2:(2:Nat)<256:=by decide
 have hx:=p2 i;have h1:=regs_ev (p:=p) (g:=gen p) (d:=dt) (x:=pw 2 i) hp (gen_lt p) (gen_top p) hd hx (gen_root p i hi) d
 have e1:sum d (fun j=>mulN (dt j) (pw 2 (i*(d+p-1-j))))=mulN (horner dt (pw 2 i) d) (pw (pw 2 i) p):=by
  rw [horner_sum hd hx,←mul_sum (pw_lt hx p) fun j _=>mul_lt (hd j)];refine sum_congr fun j hj=>?_
  rw [mul_assoc (hd j) (pw_lt hx _) (pw_lt hx _),←pw_add hx,pw_mul h2];congr 2;congr 1;omega
 rw [e1,←h1];refine sum_congr fun k hk=>?_
 rw [pw_mul h2,mul_comm (regs_lt (gen_lt p) hd d k) (pw_lt h2 _)];rfl
theorem start {M:Nat→Nat→Nat} (hp:0<p) (hp8:p≤16) (hd:∀ k,dt k<256) (h1:∀ i,i<p→∀ k,k<p→M i k=pw 2 (i*(p-1-k))) (h2:∀ i,i<p→M i p=sum d (fun j=>mulN (dt j) (pw 2 (i*(d+p-1-j))))):GI p 0 M (rest p d dt):=by
 have hh:(2:Nat)<256:=by decide
 refine ⟨fun i hi k hk=>?_,fun i hi=>?_,fun i hi k hk=>by omega,fun z hz hs k hk=>?_⟩
 ·by_cases c:k<p
  ·rw [h1 i hi k c];exact pw_lt hh _
  ·rw [show k=p by omega,h2 i hi];exact sum_lt fun j _=>mul_lt (hd j)
 ·rw [h2 i hi,code_eq hp hd hi];exact sum_congr fun k hk=>by rw [h1 i hi k hk]
 ·refine vander (n:=p) (x:=fun k=>pw 2 (p-1-k)) (fun k _=>pw_lt hh _) hz (fun j k hj hk e=>?_) (fun i hi=>?_) hk
  ·have:=pw_inj _ (by omega) _ (by omega) e;omega
  ·rw [←hs i hi];refine sum_congr fun k hk=>?_
   rw [h1 i hi k hk,pw_mul hh,Nat.mul_comm]
end
end Gf
end Go.Proofs.Ytppigjemglokgaa
/- Lists of small numbers,as residual programs hold them. -/
namespace Go.Proofs.Ytppigjemglokgaa
open Go Go.RowKit
set_option linter.unusedSimpArgs false
set_option linter.unusedSectionVars false
set_option linter.unusedVariables false
namespace Gf
def nb (n:Nat) (f:Nat→Nat):List Int:=(List.range n).map fun i=>((f i:Nat):Int)
section
variable {n:Nat} {f g:Nat→Nat}
theorem nb_len (n:Nat) (f:Nat→Nat):(nb n f).length=n:=by unfold nb;rw [List.length_map,List.length_range]
theorem nb_getElem {i:Nat} (h:i<(nb n f).length):(nb n f)[i]=(f i:Int):=by simp only [nb,List.getElem_map,List.getElem_range]
theorem nb_getD {i:Nat} (h:i<n) {d:Int}:(nb n f).getD i d=(f i:Int):=by
 rw [List.getD_eq_getElem?_getD,List.getElem?_eq_getElem (by rw [nb_len];exact h),Option.getD_some,nb_getElem]
theorem nb_congr (h:∀ i,i<n→f i=g i):nb n f=nb n g:=List.map_congr_left fun i hi=>by rw [h i (List.mem_range.1 hi)]
theorem nb_set {k v:Nat}:(nb n f).set k (v:Int)=nb n fun i=>if i=k then v else f i:=by
 refine List.ext_getElem (by rw [List.length_set,nb_len,nb_len]) fun i h1 h2=>?_
 rw [List.getElem_set];by_cases e:k=i
 ·rw [if_pos e,nb_getElem,if_pos e.symm]
 ·rw [if_neg e,nb_getElem,nb_getElem,if_neg (Ne.symm e)]
theorem nb_set' {k v:Nat} (hk:∀ i,i<n→i≠k→f i=g i) (hv:k<n→v=g k):(nb n f).set k (v:Int)=nb n g:=by
 rw [nb_set];refine nb_congr fun i hi=>?_
 by_cases e:i=k
 ·subst e;rw [if_pos rfl];exact hv hi
 ·rw [if_neg e];exact hk i hi e
theorem nb_rep:List.replicate n (0:Int)=nb n fun _=>0:=by
 refine List.ext_getElem (by rw [List.length_replicate,nb_len]) fun i h1 h2=>?_
 rw [List.getElem_replicate,nb_getElem];rfl
theorem nb_app {m:Nat}:nb n f++nb m g=nb (n+m) fun i=>if i<n then f i else g (i-n):=by
 refine List.ext_getElem (by rw [List.length_append,nb_len,nb_len,nb_len]) fun i h1 h2=>?_
 rw [List.getElem_append,nb_getElem];by_cases e:i<n
 ·rw [dif_pos (by rw [nb_len];exact e),if_pos e,nb_getElem]
 ·rw [dif_neg (by rw [nb_len];exact e),if_neg e,nb_getElem];congr 2;rw [nb_len]
theorem nb_one (v:Nat):([(v:Int)]:List Int)=nb 1 fun _=>v:=rfl
theorem nb_shift {p:Nat} (hp:0<p) (R:Nat→Nat) :
  (List.drop (Int.toNat (0:Int)) (List.take (Int.toNat (min ((List.drop (Int.toNat (1:Int)) (List.take (Int.toNat ((nb p R).length:Int)) (nb p R))).length:Int) ((nb p R).length:Int))) (List.drop (Int.toNat (1:Int)) (List.take (Int.toNat ((nb p R).length:Int)) (nb p R)))) ++
   List.drop (Int.toNat (min ((List.drop (Int.toNat (1:Int)) (List.take (Int.toNat ((nb p R).length:Int)) (nb p R))).length:Int) ((nb p R).length:Int))) (List.take (Int.toNat ((nb p R).length:Int)) (nb p R))).set (p-1) (0:Int)=nb p fun k=>if k+1<p then R (k+1) else 0:=by
 rw [Int.toNat_natCast,List.take_length,show Int.toNat (1:Int)=1 from rfl,show Int.toNat (0:Int)=0 from rfl,List.length_drop,nb_len,show Int.toNat (min ((p-1:Nat):Int) (p:Int))=p-1 by omega,List.drop_zero];refine List.ext_getElem (by rw [List.length_set,List.length_append,List.length_take,List.length_drop,List.length_drop,nb_len,nb_len];omega) fun i h1 h2=>?_
 have hi:i<p:=by rwa [nb_len] at h2
 rw [List.getElem_set,nb_getElem];by_cases e:p-1=i
 ·rw [if_pos e,if_neg (by omega)];rfl
 ·rw [if_neg e,if_pos (by omega),List.getElem_append_left (by simp [nb_len];omega),List.getElem_take,List.getElem_drop,nb_getElem];congr 2;omega
end
end Gf
end Go.Proofs.Ytppigjemglokgaa
/- The residual programs stand elsewhere. -/
/- The field of 256 elements: what Mul,Inverse and the document's Times compute. -/
namespace Go.Proofs.Ytppigjemglokgaa
open Go Go.RowKit
set_option linter.unusedSimpArgs false
set_option linter.unusedSectionVars false
set_option linter.unusedVariables false
theorem stLoop {X β:Type} {f:(X→Option β)→X→Option β} {n fu:Nat} (hn:n<fu) {st:Nat→X} {x0:X} {fin:Option β} (h0:st 0=x0)
  (step:∀ j (i:Nat),i<n→f j (st i)=j (st (i+1))) (last:∀ j,f j (st n)=fin):loopF f fu x0=fin:=by
 have key:=errGen (f:=f) (n:=n) (st:=st) (E:=fun _=>0) (out:=fun _=>none) (fin:=fin) (fun j i hi _=>by rw [if_pos rfl];exact step j i hi) (fun _=>last) fu 0 (by omega) (by omega) (by omega);rw [if_pos (firstE_all _ _ fun _ _ _=>rfl),h0] at key;exact key
theorem bits_xor_u8 (a b:Nat) (ha:a<256) (hb:b<256):bits .xor .u8 (a:Int) (b:Int)=((a ^^^ b:Nat):Int):=by
 have hx:a ^^^ b<2 ^ 8:=Nat.xor_lt_two_pow (by omega) (by omega)
 have h1:(BitVec.ofInt 8 (a:Int)).toNat=a:=by
  rw [BitVec.ofInt_natCast,BitVec.toNat_ofNat];exact Nat.mod_eq_of_lt (by omega)
 have h2:(BitVec.ofInt 8 (b:Int)).toNat=b:=by
  rw [BitVec.ofInt_natCast,BitVec.toNat_ofNat];exact Nat.mod_eq_of_lt (by omega)
 show IntKind.u8.wrap ((BitVec.ofInt 8 (a:Int) ^^^ BitVec.ofInt 8 (b:Int)).toNat:Int)=_;rw [BitVec.toNat_xor,h1,h2];simp [IntKind.wrap,IntKind.bits,IntKind.signed];omega
theorem bits_and_u8 (a b:Nat) (ha:a<256) (hb:b<256):bits .and .u8 (a:Int) (b:Int)=((a &&& b:Nat):Int):=by
 have hx:a &&& b<2 ^ 8:=Nat.and_lt_two_pow _ (by omega)
 have h1:(BitVec.ofInt 8 (a:Int)).toNat=a:=by
  rw [BitVec.ofInt_natCast,BitVec.toNat_ofNat];exact Nat.mod_eq_of_lt (by omega)
 have h2:(BitVec.ofInt 8 (b:Int)).toNat=b:=by
  rw [BitVec.ofInt_natCast,BitVec.toNat_ofNat];exact Nat.mod_eq_of_lt (by omega)
 show IntKind.u8.wrap ((BitVec.ofInt 8 (a:Int) &&& BitVec.ofInt 8 (b:Int)).toNat:Int)=_;rw [BitVec.toNat_and,h1,h2];simp [IntKind.wrap,IntKind.bits,IntKind.signed];omega
theorem bits_xor_i (a b:Nat) (ha:a<32768) (hb:b<32768):bits .xor .i64 (a:Int) (b:Int)=((a ^^^ b:Nat):Int):=by
 have hx:a ^^^ b<2 ^ 15:=Nat.xor_lt_two_pow (by omega) (by omega)
 have h1:(BitVec.ofInt 64 (a:Int)).toNat=a:=by
  rw [BitVec.ofInt_natCast,BitVec.toNat_ofNat];exact Nat.mod_eq_of_lt (by omega)
 have h2:(BitVec.ofInt 64 (b:Int)).toNat=b:=by
  rw [BitVec.ofInt_natCast,BitVec.toNat_ofNat];exact Nat.mod_eq_of_lt (by omega)
 show IntKind.i64.wrap ((BitVec.ofInt 64 (a:Int) ^^^ BitVec.ofInt 64 (b:Int)).toNat:Int)=_;rw [BitVec.toNat_xor,h1,h2];exact wr64 (by omega) (by omega)
theorem bits_and1_i (a:Nat) (ha:a<32768):bits .and .i64 (a:Int) 1=((a % 2:Nat):Int):=by
 have h1:(BitVec.ofInt 64 (a:Int)).toNat=a:=by
  rw [BitVec.ofInt_natCast,BitVec.toNat_ofNat];exact Nat.mod_eq_of_lt (by omega)
 show IntKind.i64.wrap ((BitVec.ofInt 64 (a:Int) &&& BitVec.ofInt 64 1).toNat:Int)=_;rw [BitVec.toNat_and,h1,show (BitVec.ofInt 64 1).toNat=1 from rfl,Nat.and_one_is_mod];exact wr64 (by omega) (by omega)
theorem bits_and1_u8 (a:Nat) (ha:a<256):bits .and .u8 (a:Int) 1=((a % 2:Nat):Int):=by
 have:=bits_and_u8 a 1 ha (by decide);rw [Nat.and_one_is_mod] at this;exact this
theorem xt_bits:∀ a:Nat,a<256→bits .xor .u8 (IntKind.u8.wrap ((a:Int)*2 ^ (Int.toNat (1:Int)))) (bits .and .u8 (29:Int) (IntKind.u8.wrap (-((a:Int) / 2 ^ (Int.toNat (7:Int))))))=(xtN a:Int):=by decide +kernel
theorem neg_bit:∀ b:Nat,b<256→IntKind.u8.wrap (-(bits .and .u8 (b:Int) (1:Int)))=((if b % 2=1 then 255 else 0:Nat):Int):=by decide +kernel
theorem and_255:∀ a:Nat,a<256→a &&& 255=a:=by decide +kernel
section
variable {fu:Nat} (hf:18446744073709551616≤fu)
include hf
theorem mul_r {a b:Nat} (ha:a<256) (hb:b<256):reedsolomon_Mul_r fu ((a:Int),((b:Int),()))=some ((mulN a b:Int),()):=by
 unfold reedsolomon_Mul_r;refine postLoop (f:=reedsolomon_Mul_l1 fu) (fun x=>x.2.2.toNat) (fun x=>∃ f p a' b':Nat,x=((p:Int),((a':Int),(b':Int)))∧b'<2 ^ f∧f≤8∧p<256∧a'<256∧mulS f p a' b'=mulN a b) (fun r=>r=some ((mulN a b:Int),())) ?_ fu _ ⟨8,0,a,b,rfl,hb,Nat.le_refl _,by decide,ha,rfl⟩ (by simp only;omega)
 rintro j _ ⟨f,p,a',b',rfl,h1,h2,h3,h4,h5⟩
 by_cases c:b'=0
 ·subst c;refine .inr ?_;rw [←h5,mulS_zero];unfold reedsolomon_Mul_l1;simp (disch:=omega) only [joinF_eq,bindO_some,s_wr,s_td,s_tm,s_pos,s_neg,cond_true,cond_false,Bool.not_true,Bool.not_false,Bool.true_and,Bool.and_true,Bool.false_and,Bool.and_false,bne_self_eq_false,decide_true,decide_false,Int.toNat_natCast]
 ·obtain ⟨f,rfl⟩:∃ f',f=f'+1:=⟨f-1,by
   rcases Nat.eq_zero_or_pos f with e | e
   ·subst e;omega
   ·omega⟩
  have hb256:b'<256:=Nat.lt_of_lt_of_le h1 (Nat.pow_le_pow_right (n:=2) (by decide) h2);refine .inl ⟨(((if b' % 2=1 then p ^^^ a' else p:Nat):Int),((xtN a':Int),((b' / 2:Nat):Int))),⟨f,_,_,_,rfl,by rw [Nat.pow_succ] at h1;omega,by omega,?_,xt_lt h4,by rw [←h5,mulS]⟩,by simp only;omega,?_⟩
  ·split
   ·exact Nat.xor_lt_two_pow (n:=8) h3 h4
   ·exact h3
  ·have e1:bits .xor .u8 (p:Int) (bits .and .u8 (a':Int) (IntKind.u8.wrap (-(bits .and .u8 (b':Int) (1:Int)))))=((if b' % 2=1 then p ^^^ a' else p:Nat):Int):=by
    rw [neg_bit b' hb256];by_cases e:b' % 2=1
    ·rw [if_pos e,if_pos e,bits_and_u8 a' 255 h4 (by decide),and_255 a' h4,bits_xor_u8 p a' h3 h4]
    ·rw [if_neg e,if_neg e,bits_and_u8 a' 0 h4 (by decide),Nat.and_zero,bits_xor_u8 p 0 h3 (by decide),Nat.xor_zero]
   have e2:((b':Int) / 2 ^ (Int.toNat (1:Int)))=((b' / 2:Nat):Int):=by
    show (b':Int) / 2=_;omega
   unfold reedsolomon_Mul_l1;simp (disch:=omega) only [joinF_eq,bindO_some,s_wr,s_td,s_tm,s_pos,s_neg,cond_true,cond_false,Bool.not_true,Bool.not_false,Bool.true_and,Bool.and_true,Bool.false_and,Bool.and_false,bne_self_eq_false,decide_true,decide_false,Int.toNat_natCast];rw [e1,xt_bits a' h4,e2]
theorem pow_r {a:Nat} {n:Nat} (ha:a<256) (hn:n<256):reedsolomon_power_r fu ((a:Int),((n:Int),()))=some ((powS 8 1 a n:Int),()):=by
 unfold reedsolomon_power_r;refine postLoop (f:=reedsolomon_power_l1 fu) (fun x=>x.2.2.toNat) (fun x=>∃ f p a' n':Nat,x=((p:Int),((a':Int),(n':Int)))∧n'<2 ^ f∧f≤8∧p<256∧a'<256∧powS f p a' n'=powS 8 1 a n) (fun r=>r=some ((powS 8 1 a n:Int),())) ?_ fu _ ⟨8,1,a,n,rfl,hn,Nat.le_refl _,by decide,ha,rfl⟩ (by simp only;omega)
 rintro j _ ⟨f,p,a',b',rfl,h1,h2,h3,h4,h5⟩
 by_cases c:b'=0
 ·subst c;refine .inr ?_;rw [←h5,powS_zero];unfold reedsolomon_power_l1;simp (disch:=omega) only [joinF_eq,bindO_some,s_wr,s_td,s_tm,s_pos,s_neg,cond_true,cond_false,Bool.not_true,Bool.not_false,Bool.true_and,Bool.and_true,Bool.false_and,Bool.and_false,bne_self_eq_false,decide_true,decide_false,Int.toNat_natCast]
 ·obtain ⟨f,rfl⟩:∃ f',f=f'+1:=⟨f-1,by
   rcases Nat.eq_zero_or_pos f with e | e
   ·subst e;omega
   ·omega⟩
  have hb256:b'<256:=Nat.lt_of_lt_of_le h1 (Nat.pow_le_pow_right (n:=2) (by decide) h2);refine .inl ⟨(((if b' % 2=1 then mulN p a' else p:Nat):Int),((mulN a' a':Int),((b' / 2:Nat):Int))),⟨f,_,_,_,rfl,by rw [Nat.pow_succ] at h1;omega,by omega,?_,mulN_lt h4,by rw [←h5,powS]⟩,by simp only;omega,?_⟩
  ·split
   ·exact mulN_lt h3
   ·exact h3
  ·have e2:((b':Int) / 2 ^ (Int.toNat (1:Int)))=((b' / 2:Nat):Int):=by
    show (b':Int) / 2=_;omega
   have e3:=bits_and1_i b' (by omega);unfold reedsolomon_power_l1;by_cases e:b' % 2=1
   ·rw [if_pos e];simp (disch:=omega) only [joinF_eq,bindO_some,s_wr,s_td,s_tm,s_pos,s_neg,cond_true,cond_false,Bool.not_true,Bool.not_false,Bool.true_and,Bool.and_true,Bool.false_and,Bool.and_false,bne_self_eq_false,decide_true,decide_false,Int.toNat_natCast,mul_r hf h3 h4];unfold reedsolomon_power_j2;simp (disch:=omega) only [joinF_eq,bindO_some,s_wr,s_td,s_tm,s_pos,s_neg,cond_true,cond_false,Bool.not_true,Bool.not_false,Bool.true_and,Bool.and_true,Bool.false_and,Bool.and_false,bne_self_eq_false,decide_true,decide_false,Int.toNat_natCast,mul_r hf h4 h4];rw [e2]
   ·rw [if_neg e];simp (disch:=omega) only [joinF_eq,bindO_some,s_wr,s_td,s_tm,s_pos,s_neg,cond_true,cond_false,Bool.not_true,Bool.not_false,Bool.true_and,Bool.and_true,Bool.false_and,Bool.and_false,bne_self_eq_false,decide_true,decide_false,Int.toNat_natCast];unfold reedsolomon_power_j2;simp (disch:=omega) only [joinF_eq,bindO_some,s_wr,s_td,s_tm,s_pos,s_neg,cond_true,cond_false,Bool.not_true,Bool.not_false,Bool.true_and,Bool.and_true,Bool.false_and,Bool.and_false,bne_self_eq_false,decide_true,decide_false,Int.toNat_natCast,mul_r hf h4 h4];rw [e2]
theorem tA_lt {a b:Nat} (ha:a<256):∀ i,i≤8→tAN a b i<32768
 | 0,_=>by show (0:Nat)<32768;decide
 | i+1,hi=>by
  have:=tA_lt (a:=a) (b:=b) ha i (by omega)
  have hp:a*2 ^ i<32768:=by
   have h1:=Nat.pow_le_pow_right (n:=2) (by decide) (show i≤7 by omega);have h2:=Nat.mul_le_mul (show a≤255 by omega) h1;omega
  rw [tAN];split
  ·exact Nat.xor_lt_two_pow (n:=15) this hp
  ·exact this
theorem tQ_lt {p:Nat} (hp:p<32768):∀ j,j≤7→tQN p j<32768
 | 0,_=>hp
 | j+1,hj=>by
  have:=tQ_lt hp j (by omega)
  have h2:285*2 ^ (6-j)<32768:=by
   have h1:=Nat.pow_le_pow_right (n:=2) (by decide) (show 6-j≤6 by omega);omega
  rw [tQN];split
  ·exact Nat.xor_lt_two_pow (n:=15) this h2
  ·exact this
theorem div_cast {a i:Nat}:(a:Int) / 2 ^ i=((a / 2 ^ i:Nat):Int):=by rw [Int.natCast_ediv,Int.natCast_pow];rfl
theorem mul_cast {a i:Nat}:(a:Int)*2 ^ i=((a*2 ^ i:Nat):Int):=by rw [Int.natCast_mul,Int.natCast_pow];rfl
theorem times_r {a b:Nat} (ha:a<256) (hb:b<256):R_Times_r fu ((a:Int),((b:Int),()))=some ((timN a b:Int),()):=by
 unfold R_Times_r;refine stLoop (n:=8) (st:=fun i=>((tAN a b i:Int),(i:Int))) (by omega) rfl (fun j i hi=>?_) (fun j=>?_)
 ·have t1:=tA_lt hf (a:=a) (b:=b) ha i (by omega)
  have hp:a*2 ^ i<32768:=by
   have h1:=Nat.pow_le_pow_right (n:=2) (by decide) (show i≤7 by omega);have h2:=Nat.mul_le_mul (show a≤255 by omega) h1;omega
  have e1:bits .and .u8 ((b:Int) / 2 ^ i) 1=((b / 2 ^ i % 2:Nat):Int):=by
   rw [div_cast hf,bits_and1_u8 _ (Nat.lt_of_le_of_lt (Nat.div_le_self _ _) hb)]
  have e2:bits .xor .i64 (tAN a b i:Int) (IntKind.i64.wrap ((a:Int)*2 ^ i))=((tAN a b i ^^^ (a*2 ^ i):Nat):Int):=by
   rw [mul_cast hf,wr64 (by omega) (by omega),bits_xor_i _ _ t1 hp]
  have e3:IntKind.i64.wrap (a:Int)=(a:Int):=wr64 (by omega) (by omega);unfold R_Times_l1;by_cases g:b / 2 ^ i % 2=1
  ·have e1:bits .and .u8 ((b:Int) / 2 ^ i) 1=1:=by rw [e1,g];rfl
   have e5:tAN a b (i+1)=tAN a b i ^^^ (a*2 ^ i):=by rw [tAN,if_pos g]
   rw [e5];simp (disch:=omega) only [joinF_eq,bindO_some,s_wr,s_td,s_tm,s_pos,s_neg,cond_true,cond_false,Bool.not_true,Bool.not_false,Bool.true_and,Bool.and_true,Bool.false_and,Bool.and_false,bne_self_eq_false,decide_true,decide_false,Int.toNat_natCast];unfold R_Times_j2;simp (disch:=omega) only [joinF_eq,bindO_some,s_wr,s_td,s_tm,s_pos,s_neg,cond_true,cond_false,Bool.not_true,Bool.not_false,Bool.true_and,Bool.and_true,Bool.false_and,Bool.and_false,bne_self_eq_false,decide_true,decide_false,Int.toNat_natCast];rw [e2];rfl
  ·have e1:bits .and .u8 ((b:Int) / 2 ^ i) 1=0:=by
    rw [e1,show b / 2 ^ i % 2=0 by have:=Nat.mod_lt (b / 2 ^ i) (show 0<2 by decide);omega];rfl
   have e5:tAN a b (i+1)=tAN a b i:=by rw [tAN,if_neg g]
   rw [e5];simp (disch:=omega) only [joinF_eq,bindO_some,s_wr,s_td,s_tm,s_pos,s_neg,cond_true,cond_false,Bool.not_true,Bool.not_false,Bool.true_and,Bool.and_true,Bool.false_and,Bool.and_false,bne_self_eq_false,decide_true,decide_false,Int.toNat_natCast];unfold R_Times_j2;simp (disch:=omega) only [joinF_eq,bindO_some,s_wr,s_td,s_tm,s_pos,s_neg,cond_true,cond_false,Bool.not_true,Bool.not_false,Bool.true_and,Bool.and_true,Bool.false_and,Bool.and_false,bne_self_eq_false,decide_true,decide_false,Int.toNat_natCast];rfl
 ·unfold R_Times_l1;simp (disch:=omega) only [joinF_eq,bindO_some,s_wr,s_td,s_tm,s_pos,s_neg,cond_true,cond_false,Bool.not_true,Bool.not_false,Bool.true_and,Bool.and_true,Bool.false_and,Bool.and_false,bne_self_eq_false,decide_true,decide_false,Int.toNat_natCast];have t8:=tA_lt hf (a:=a) (b:=b) ha 8 (Nat.le_refl _);unfold timN;generalize tAN a b 8=p at *
  refine stLoop (n:=7) (st:=fun k=>((tQN p k:Int),(14:Int)-(k:Int))) (by omega) rfl (fun j' k hk=>?_) (fun j'=>?_)
  ·have t1:=tQ_lt hf t8 k (by omega)
   have h2:285*2 ^ (6-k)<32768:=by
    have h1:=Nat.pow_le_pow_right (n:=2) (by decide) (show 6-k≤6 by omega);omega
   have ek:(14:Int)-(k:Int)=((14-k:Nat):Int):=by omega
   have ek2:(14:Int)-(k:Int)-8=((6-k:Nat):Int):=by omega
   have e1:bits .and .i64 ((tQN p k:Int) / 2 ^ (14-k)) 1=((tQN p k / 2 ^ (14-k) % 2:Nat):Int):=by
    rw [div_cast hf,bits_and1_i _ (Nat.lt_of_le_of_lt (Nat.div_le_self _ _) t1)]
   have e2:bits .xor .i64 (tQN p k:Int) (IntKind.i64.wrap ((285:Int)*2 ^ (6-k)))=((tQN p k ^^^ (285*2 ^ (6-k)):Nat):Int):=by
    rw [show ((285:Int)*2 ^ (6-k))=((285*2 ^ (6-k):Nat):Int) from mul_cast hf (a:=285),wr64 (by omega) (by omega),bits_xor_i _ _ t1 h2]
   have en:(14:Int)-((k+1:Nat):Int)=(14:Int)-(k:Int)-1:=by omega
   have ei:((14:Int)-(k:Int)).toNat=14-k:=by omega
   have ej:((14:Int)-(k:Int)-8).toNat=6-k:=by omega
   unfold R_Times_l3;by_cases g:tQN p k / 2 ^ (14-k) % 2=1
   ·have e1:bits .and .i64 ((tQN p k:Int) / 2 ^ (14-k)) 1=1:=by rw [e1,g];rfl
    have e5:tQN p (k+1)=tQN p k ^^^ (285*2 ^ (6-k)):=by rw [tQN,if_pos g]
    rw [e5,en];simp (disch:=omega) only [joinF_eq,bindO_some,s_wr,s_td,s_tm,s_pos,s_neg,cond_true,cond_false,Bool.not_true,Bool.not_false,Bool.true_and,Bool.and_true,Bool.false_and,Bool.and_false,bne_self_eq_false,decide_true,decide_false,Int.toNat_natCast];simp only [ei,ej];simp (disch:=omega) only [joinF_eq,bindO_some,s_wr,s_td,s_tm,s_pos,s_neg,cond_true,cond_false,Bool.not_true,Bool.not_false,Bool.true_and,Bool.and_true,Bool.false_and,Bool.and_false,bne_self_eq_false,decide_true,decide_false,Int.toNat_natCast];unfold R_Times_j4;simp (disch:=omega) only [joinF_eq,bindO_some,s_wr,s_td,s_tm,s_pos,s_neg,cond_true,cond_false,Bool.not_true,Bool.not_false,Bool.true_and,Bool.and_true,Bool.false_and,Bool.and_false,bne_self_eq_false,decide_true,decide_false,Int.toNat_natCast];rw [e2]
   ·have e1:bits .and .i64 ((tQN p k:Int) / 2 ^ (14-k)) 1=0:=by
     rw [e1,show tQN p k / 2 ^ (14-k) % 2=0 by have:=Nat.mod_lt (tQN p k / 2 ^ (14-k)) (show 0<2 by decide);omega];rfl
    have e5:tQN p (k+1)=tQN p k:=by rw [tQN,if_neg g]
    rw [e5,en];simp (disch:=omega) only [joinF_eq,bindO_some,s_wr,s_td,s_tm,s_pos,s_neg,cond_true,cond_false,Bool.not_true,Bool.not_false,Bool.true_and,Bool.and_true,Bool.false_and,Bool.and_false,bne_self_eq_false,decide_true,decide_false,Int.toNat_natCast];simp only [ei,ej];simp (disch:=omega) only [joinF_eq,bindO_some,s_wr,s_td,s_tm,s_pos,s_neg,cond_true,cond_false,Bool.not_true,Bool.not_false,Bool.true_and,Bool.and_true,Bool.false_and,Bool.and_false,bne_self_eq_false,decide_true,decide_false,Int.toNat_natCast];unfold R_Times_j4;simp (disch:=omega) only [joinF_eq,bindO_some,s_wr,s_td,s_tm,s_pos,s_neg,cond_true,cond_false,Bool.not_true,Bool.not_false,Bool.true_and,Bool.and_true,Bool.false_and,Bool.and_false,bne_self_eq_false,decide_true,decide_false,Int.toNat_natCast]
  ·have t7:=tQ_lt hf t8 7 (Nat.le_refl _);unfold R_Times_l3;simp (disch:=omega) only [joinF_eq,bindO_some,s_wr,s_td,s_tm,s_pos,s_neg,cond_true,cond_false,Bool.not_true,Bool.not_false,Bool.true_and,Bool.and_true,Bool.false_and,Bool.and_false,bne_self_eq_false,decide_true,decide_false,Int.toNat_natCast]
   have:IntKind.u8.wrap (tQN p 7:Int)=((tQN p 7 % 256:Nat):Int):=by
    simp [IntKind.wrap,IntKind.bits,IntKind.signed]
   rw [this]
end
def mulE:Nat→Nat→Nat→Nat→Nat
 | 0,p,_,_=>p
 | f+1,p,a,b=>fN (if b % 2=1 then p ^^^ a else p) fun p=>fN (xtN a) fun a=>fN (b / 2) fun b=>mulE f p a b
theorem mulE_eq:∀ f p a b:Nat,mulE f p a b=mulS f p a b
 | 0,_,_,_=>rfl
 | f+1,p,a,b=>by rw [mulE,mulS,fN_eq,fN_eq,fN_eq,mulE_eq f]
def tAE (a b:Nat):Nat→Nat→Nat→Nat
 | 0,_,p=>p
 | f+1,i,p=>fN (if b / 2 ^ i % 2=1 then p ^^^ (a*2 ^ i) else p) fun p=>tAE a b f (i+1) p
theorem tAE_eq (a b:Nat):∀ f i:Nat,tAE a b f i (tAN a b i)=tAN a b (i+f)
 | 0,_=>rfl
 | f+1,i=>by
  rw [tAE,fN_eq];have:(if b / 2 ^ i % 2=1 then tAN a b i ^^^ (a*2 ^ i) else tAN a b i)=tAN a b (i+1):=by rw [tAN]
  rw [this,tAE_eq a b f (i+1),show i+1+f=i+(f+1) by omega]
def tQE:Nat→Nat→Nat→Nat
 | 0,_,q=>q
 | f+1,j,q=>fN (if q / 2 ^ (14-j) % 2=1 then q ^^^ (285*2 ^ (6-j)) else q) fun q=>tQE f (j+1) q
theorem tQE_eq (p:Nat):∀ f j:Nat,tQE f j (tQN p j)=tQN p (j+f)
 | 0,_=>rfl
 | f+1,j=>by
  rw [tQE,fN_eq];have:(if tQN p j / 2 ^ (14-j) % 2=1 then tQN p j ^^^ (285*2 ^ (6-j)) else tQN p j)=tQN p (j+1):=by rw [tQN]
  rw [this,tQE_eq p f (j+1),show j+1+f=j+(f+1) by omega]
def timE (a b:Nat):Nat:=fN (tAE a b 8 0 0) fun p=>tQE 7 0 p % 256
theorem timE_eq (a b:Nat):timE a b=timN a b:=by
 unfold timE timN;rw [fN_eq];have h1:=tAE_eq a b 8 0;have h2:=tQE_eq (tAN a b (0+8)) 7 0;have h1:tAE a b 8 0 0=tAN a b (0+8):=h1;have h2:tQE 7 0 (tAN a b (0+8))=tQN (tAN a b (0+8)) (0+7):=h2;rw [h1,h2]
def rowM (a:Nat):Nat→Bool
 | 0=>true
 | b+1=>Nat.beq (mulE 8 0 a b) (timE a b)&&rowM a b
theorem rowM_at {a:Nat}:∀ {n b:Nat},rowM a n=true→b<n→mulN a b=timN a b
 | 0,_,_,h=>absurd h (Nat.not_lt_zero _)
 | n+1,b,h,hb=>by
  rw [rowM,Bool.and_eq_true] at h;by_cases e:b=n
  ·subst e;have:=Nat.eq_of_beq_eq_true h.1;rw [mulE_eq,timE_eq] at this;exact this
  ·exact rowM_at h.2 (by omega)
def chM (k:Nat):Nat→Bool
 | 0=>true
 | i+1=>rowM (16*k+i) 256&&chM k i
theorem chM_at {k:Nat}:∀ {n i:Nat},chM k n=true→i<n→rowM (16*k+i) 256=true
 | 0,_,_,h=>absurd h (Nat.not_lt_zero _)
 | n+1,i,h,hi=>by
  rw [chM,Bool.and_eq_true] at h;by_cases e:i=n
  ·subst e;exact h.1
  ·exact chM_at h.2 (by omega)
set_option maxRecDepth 100000
theorem mm0:chM 0 16=true:=by kernel_rfl
theorem mm1:chM 1 16=true:=by kernel_rfl
theorem mm2:chM 2 16=true:=by kernel_rfl
theorem mm3:chM 3 16=true:=by kernel_rfl
theorem mm4:chM 4 16=true:=by kernel_rfl
theorem mm5:chM 5 16=true:=by kernel_rfl
theorem mm6:chM 6 16=true:=by kernel_rfl
theorem mm7:chM 7 16=true:=by kernel_rfl
theorem mm8:chM 8 16=true:=by kernel_rfl
theorem mm9:chM 9 16=true:=by kernel_rfl
theorem mm10:chM 10 16=true:=by kernel_rfl
theorem mm11:chM 11 16=true:=by kernel_rfl
theorem mm12:chM 12 16=true:=by kernel_rfl
theorem mm13:chM 13 16=true:=by kernel_rfl
theorem mm14:chM 14 16=true:=by kernel_rfl
theorem mm15:chM 15 16=true:=by kernel_rfl
theorem mmA:∀ k,k<16→chM k 16=true
 | 0,_=>mm0
 | 1,_=>mm1
 | 2,_=>mm2
 | 3,_=>mm3
 | 4,_=>mm4
 | 5,_=>mm5
 | 6,_=>mm6
 | 7,_=>mm7
 | 8,_=>mm8
 | 9,_=>mm9
 | 10,_=>mm10
 | 11,_=>mm11
 | 12,_=>mm12
 | 13,_=>mm13
 | 14,_=>mm14
 | 15,_=>mm15
 | n+16,h=>absurd h (by omega)
theorem mul_tim {a b:Nat} (ha:a<256) (hb:b<256):mulN a b=timN a b:=by
 have h:=chM_at (mmA (a / 16) (by omega)) (show a % 16<16 by omega);rw [show 16*(a / 16)+a % 16=a by omega] at h;exact rowM_at h hb
end Go.Proofs.Ytppigjemglokgaa
/- What Encode returns. -/
set_option maxRecDepth 100000
namespace Go.Proofs.Ytppigjemglokgaa
open Go Go.RowKit
set_option linter.unusedSimpArgs false
set_option linter.unusedSectionVars false
set_option linter.unusedVariables false
namespace Gf
theorem bf2 {α:Type} {p q:Prop} [Decidable p] [Decidable q] {a b:α} (h:p) (k:q):(bif decide p&&decide q then a else b)=a:=by rw [decide_eq_true h,decide_eq_true k];rfl
def tO (m i k:Nat):Nat:=(if k<i then mulN (gen m k) (pw 2 m) else 0) ^^^ (if 0<k∧k≤i then gen m (k-1) else 0)
def tI (m i j k:Nat):Nat:=(tO m i k ^^^ (if k=i∧0<j then mulN (gen m i) (pw 2 m) else 0)) ^^^ (if k=i+1∧1<j then gen m i else 0)
theorem if0 {c:Prop} [Decidable c] {a:Nat} (h:a<256):(if c then a else 0)<256:=lt_ite1 h
theorem tO_lt (m i k:Nat):tO m i k<256:=xlt (if0 (mul_lt (gen_lt m k))) (if0 (gen_lt m _))
theorem tI_lt (m i j k:Nat):tI m i j k<256:=xlt (xlt (tO_lt m i k) (if0 (mul_lt (gen_lt m i)))) (if0 (gen_lt m i))
theorem tI_0 (m i k:Nat):tI m i 0 k=tO m i k:=by
 unfold tI;rw [if_neg (by omega),if_neg (by omega),Nat.xor_zero,Nat.xor_zero]
theorem tI_2 (m i k:Nat):tI m i 2 k=tO m (i+1) k:=by
 unfold tI tO;by_cases h1:k=i
 ·subst h1;rw [if_neg (show ¬ k<k by omega),Nat.zero_xor,if_pos (show k=k∧0<2 by omega),if_neg (show ¬ (k=k+1∧1<2) by omega),Nat.xor_zero,if_pos (show k<k+1 by omega),Nat.xor_comm];congr 1;by_cases h2:0<k
  ·rw [if_pos (by omega),if_pos (by omega)]
  ·rw [if_neg (by omega),if_neg (by omega)]
 ·by_cases h2:k=i+1
  ·subst h2;rw [if_neg (by omega),if_neg (by omega),if_neg (by omega),if_pos (by omega),if_neg (by omega),if_pos (by omega),Nat.add_sub_cancel];simp
  ·rw [if_neg (show ¬ (k=i∧0<2) by omega),if_neg (show ¬ (k=i+1∧1<2) by omega),Nat.xor_zero,Nat.xor_zero];congr 1
   ·by_cases h3:k<i
    ·rw [if_pos h3,if_pos (by omega)]
    ·rw [if_neg h3,if_neg (by omega)]
   ·by_cases h3:0<k∧k≤i
    ·rw [if_pos h3,if_pos (by omega)]
    ·rw [if_neg h3,if_neg (by omega)]
section
variable {fu:Nat} (hf:18446744073709551616≤fu)
include hf
theorem xor_c {a b:Nat} (ha:a<256) (hb:b<256):bits BinOp.xor IntKind.u8 (a:Int) (b:Int)=((a ^^^ b:Nat):Int):=bits_xor_u8 a b ha hb
theorem times_row {m i:Nat} (hm:m≤64) (hi:i<m+1) (L:Int) (v0:Int×List Int) (e0:v0.1=i) (j0:(Int×List Int)→Option (List Int×Unit)) :
  loopF (_reedsolomon_poly__times_l2 fu (nb (m+1) (gen m),([(pw 2 m:Int),1],(L,()))) v0 (gen m i:Int) (i:Int) j0) fu ((0:Int),nb (m+2) (tO m i))=j0 (((i+1:Nat):Int),nb (m+2) (tO m (i+1))):=by
 refine stLoop (n:=2) (st:=fun j=>((j:Int),nb (m+2) (tI m i j))) (by omega) (congrArg (Prod.mk (0:Int)) (nb_congr fun k _=>tI_0 m i k)) ?_ ?_
 ·intro j q hq;have e1:IntKind.i64.wrap ((i:Int)+(q:Int))=((i+q:Nat):Int):=by rw [s_wr (by omega) (by omega)];omega
  have e2:IntKind.i64.wrap ((q:Int)+1)=((q+1:Nat):Int):=by rw [s_wr (by omega) (by omega)];omega
  unfold _reedsolomon_poly__times_l2 _reedsolomon_poly__times_j3;simp only [joinF_eq,List.length_cons,List.length_nil];rw [nb_len,e1,e2,bif_pos (by omega),bf2 (by omega) (by omega),bif_pos (by omega),bf2 (by omega) (by omega),Int.toNat_natCast,Int.toNat_natCast,nb_getD (by omega)];rcases (show q=0∨q=1 by omega) with rfl | rfl
  ·rw [show ([(pw 2 m:Int),1]:List Int).getD 0 0=(pw 2 m:Int) from rfl,mul_r hf (gen_lt m i) (p2 m),bindO_some];simp only;rw [bf2 (by omega) (by omega),xor_c hf (tI_lt m i 0 _) (mul_lt (gen_lt m i)),Nat.add_zero];refine congrArg (fun l=>j (((0+1:Nat):Int),l)) (nb_set' (fun k hk hne=>?_) fun _=>?_)
   ·unfold tI;rw [if_neg (show ¬ (k=i∧0<0) by omega),if_neg (show ¬ (k=i∧0<0+1) by omega),if_neg (show ¬ (k=i+1∧1<0) by omega),if_neg (show ¬ (k=i+1∧1<0+1) by omega)]
   ·unfold tI;rw [Nat.add_zero,if_neg (show ¬ (i=i∧0<0) by omega),if_neg (show ¬ (i=i+1∧1<0) by omega),Nat.xor_zero,Nat.xor_zero,if_pos (show i=i∧0<1 by omega),if_neg (show ¬ (i=i+1∧1<1) by omega),Nat.xor_zero]
  ·have hm1:reedsolomon_Mul_r fu ((gen m i:Int),(((1:Nat):Int),()))=_:=mul_r hf (gen_lt m i) (by decide);rw [show ([(pw 2 m:Int),1]:List Int).getD 1 0=((1:Nat):Int) from rfl,hm1,bindO_some];simp only;rw [bf2 (by omega) (by omega),mul_one _ (gen_lt m i),xor_c hf (tI_lt m i 1 _) (gen_lt m i)];refine congrArg (fun l=>j (((1+1:Nat):Int),l)) (nb_set' (fun k hk hne=>?_) fun _=>?_)
   ·unfold tI;rw [if_neg (show ¬ (k=i+1∧1<1) by omega),if_neg (show ¬ (k=i+1∧1<1+1) by omega)];by_cases h:k=i
    ·rw [if_pos (by omega),if_pos (by omega)]
    ·rw [if_neg (by omega),if_neg (by omega)]
   ·unfold tI;rw [if_neg (show ¬ (i+1=i+1∧1<1) by omega),if_pos (show i+1=i+1∧1<1+1 by omega),if_neg (show ¬ (i+1=i∧0<1) by omega),if_neg (show ¬ (i+1=i∧0<1+1) by omega),Nat.xor_zero,Nat.xor_zero]
 ·intro j;unfold _reedsolomon_poly__times_l2;simp only [joinF_eq,List.length_cons,List.length_nil];rw [bif_neg (by omega),e0,s_wr (by omega) (by omega)];exact congrArg (fun l=>j0 (((i+1:Nat):Int),l)) (nb_congr fun k _=>tI_2 m i k)
theorem times_r' {m:Nat} (hm:m≤64) {L:Int} (hL:(m:Int)+2≤L) (hL1:L≤65):_reedsolomon_poly__times_r fu (nb (m+1) (gen m),([(pw 2 m:Int),1],(L,())))=some (nb (m+2) (gen (m+1)),()):=by
 unfold _reedsolomon_poly__times_r
 have e1:IntKind.i64.wrap (IntKind.i64.wrap ((List.length (nb (m+1) (gen m)):Int)+(List.length ([(pw 2 m:Int),1]:List Int):Int))-1)=((m+2:Nat):Int):=by
  rw [nb_len,show (([(pw 2 m:Int),1]:List Int).length)=2 from rfl,s_wr (x:=((m+1:Nat):Int)+((2:Nat):Int)) (by omega) (by omega),s_wr (x:=((m+1:Nat):Int)+((2:Nat):Int)-1) (by omega) (by omega)];omega
 simp only [e1];have e2:min L ((m+2:Nat):Int)=((m+2:Nat):Int):=by omega
 simp only [e2];rw [bf2 (by omega) (by omega),Int.toNat_natCast,nb_rep];refine stLoop (n:=m+1) (st:=fun i=>((i:Int),nb (m+2) (tO m i))) (by omega) (congrArg (Prod.mk (0:Int)) (nb_congr fun k _=>?_)) ?_ ?_
 ·unfold tO;rw [if_neg (by omega),if_neg (by omega)];rfl
 ·intro j i hi;unfold _reedsolomon_poly__times_l1;simp only;rw [nb_len,bif_pos (by omega),bf2 (by omega) (by omega),Int.toNat_natCast,nb_getD hi];exact times_row hf hm hi L _ rfl j
 ·intro j;unfold _reedsolomon_poly__times_l1;simp only;rw [nb_len,bif_neg (by omega)];refine congrArg (fun l=>some (l,())) (nb_congr fun k hk=>?_);unfold tO;rw [gen];by_cases h1:k<m+1
  ·rw [if_pos h1];congr 1;by_cases h2:k=0
   ·rw [if_pos h2,if_neg (by omega)]
   ·rw [if_neg h2,if_pos (by omega)]
  ·rw [if_neg h1,gen_high m k (by omega),zero_mul (p2 m)];congr 1;rw [if_pos (by omega),if_neg (by omega)]
end
end Gf
end Go.Proofs.Ytppigjemglokgaa
/- Encode: the register over the data. -/
set_option maxRecDepth 100000
namespace Go.Proofs.Ytppigjemglokgaa
open Go Go.RowKit
set_option linter.unusedSimpArgs false
set_option linter.unusedSectionVars false
set_option linter.unusedVariables false
namespace Gf
section
variable {fu:Nat} (hf:18446744073709551616≤fu) {p d:Nat} {dt:Nat→Nat}
include hf
theorem power2 {m:Nat} (hm:m<256):reedsolomon_power_r fu ((2:Int),((m:Int),()))=some ((pw 2 m:Int),()):=by
 have h:=pow_r hf (a:=2) (n:=m) (by decide) hm;rw [pow_2 hm] at h;exact h
theorem enc_row (hp:0<p) (hp1:p≤64) {t:Nat} (ht:t<255) {c:Nat} (hc:c<256) {R:Nat→Nat} (hR:∀ k,R k<256) (v2:Int×List Int) (e2:v2=((t:Int),nb p R)) (v1:List Int×Int) (e1:v1.1=nb (p+1) (gen p)) (ds:List Int) (j2:(Int×List Int)→Option (List Int×Int×Unit)) :
  loopF (reedsolomon_Encode_l4 fu (ds,((p:Int),())) v1 v2 ((c ^^^ R 0:Nat):Int) j2) fu ((0:Int),nb p fun k=>if k+1<p then R (k+1) else 0)=j2 (((t+1:Nat):Int),nb p (step p (gen p) c R)):=by
 subst e2;have hs:=nb_shift hp R
 have hl:∀ X:List Int,X.set (p-1) (0:Int)=nb p (fun k=>if k+1<p then R (k+1) else 0)→X.length=p:=fun X h=>by
  have:=congrArg List.length h;rwa [List.length_set,nb_len] at this
 have hlen:=hl _ hs;have ew:IntKind.i64.wrap ((p:Int)-1)=((p-1:Nat):Int):=by rw [s_wr (by omega) (by omega)];omega
 refine stLoop (n:=p) (st:=fun k=>((k:Int),nb p fun q=>if q<k then step p (gen p) c R q else if q+1<p then R (q+1) else 0)) (by omega) (congrArg (Prod.mk (0:Int)) (nb_congr fun q _=>if_neg (by omega))) ?_ ?_
 ·intro j k hk;have e3:IntKind.i64.wrap (((p-1:Nat):Int)-(k:Int))=((p-1-k:Nat):Int):=by rw [s_wr (by omega) (by omega)];omega
  have e4:IntKind.i64.wrap ((k:Int)+1)=((k+1:Nat):Int):=by rw [s_wr (by omega) (by omega)];omega
  unfold reedsolomon_Encode_l4;simp only;rw [List.length_set,hlen,nb_len,ew,e3,e1,nb_len,bif_pos (by omega),bf2 (by omega) (by omega),bf2 (by omega) (by omega),Int.toNat_natCast,Int.toNat_natCast,nb_getD (by omega),mul_r hf (xlt hc (hR 0)) (gen_lt p _),bindO_some];simp only;rw [bf2 (by omega) (by omega),e4,nb_getD hk,if_neg (by omega),xor_c hf (lt_ite1 (hR _)) (mul_lt (xlt hc (hR 0)))];refine congrArg (fun l=>j (((k+1:Nat):Int),l)) (nb_set' (fun q hq hne=>?_) fun _=>?_)
  ·by_cases h:q<k
   ·rw [if_pos h,if_pos (show q<k+1 by omega)]
   ·rw [if_neg h,if_neg (show ¬ q<k+1 by omega)]
  ·rw [if_pos (show k<k+1 by omega)];rfl
 ·intro j;unfold reedsolomon_Encode_l4;simp only;rw [List.length_set,hlen,bif_neg (by omega),s_wr (by omega) (by omega)];exact congrArg (fun l=>j2 (((t+1:Nat):Int),l)) (nb_congr fun q hq=>if_pos hq)
theorem enc_data (hp:0<p) (hp1:p≤64) (hd1:d+p≤255) (hdt:∀ k,dt k<256) (v1:List Int×Int) (e1:v1.1=nb (p+1) (gen p)) :
  loopF (reedsolomon_Encode_l3 fu (nb d dt,((p:Int),())) v1) fu ((0:Int),nb p fun _=>0)=some (nb d dt++nb p (rest p d dt),(0,())):=by
 have ew:IntKind.i64.wrap ((p:Int)-1)=((p-1:Nat):Int):=by rw [s_wr (by omega) (by omega)];omega
 refine stLoop (n:=d) (st:=fun t=>((t:Int),nb p (regs p (gen p) dt t))) (by omega) rfl ?_ ?_
 ·intro j t ht;have hR:=regs_lt (p:=p) (gen_lt p) hdt t;have hs:=nb_shift hp (regs p (gen p) dt t)
  have hl:∀ X:List Int,X.set (p-1) (0:Int)=nb p (fun k=>if k+1<p then regs p (gen p) dt t (k+1) else 0)→X.length=p:=fun X h=>by
   have:=congrArg List.length h;rwa [List.length_set,nb_len] at this
  have hlen:=hl _ hs;unfold reedsolomon_Encode_l3;simp only;rw [hlen,ew,Int.toNat_natCast (p-1),hs];rw [nb_len,nb_len,bif_pos (by omega),bf2 (by omega) (by omega),bif_pos (by omega),bif_pos (by omega),bf2 (by omega) (by omega),Int.toNat_natCast,nb_getD ht,show Int.toNat (0:Int)=0 from rfl,nb_getD hp,xor_c hf (hdt t) (hR 0)];exact enc_row hf hp hp1 (by omega) (hdt t) hR _ rfl v1 e1 _ j
 ·intro j;unfold reedsolomon_Encode_l3;simp only;rw [nb_len,nb_len,bif_neg (by omega),bif_pos (by omega),bif_pos (by omega)];rfl
theorem encode_r (hp:0<p) (hp1:p≤64) (hd0:0<d) (hd1:d+p≤255) (hdt:∀ k,dt k<256):reedsolomon_Encode_r fu (nb d dt,((p:Int),()))=some (nb d dt++nb p (rest p d dt),(0,())):=by
 unfold reedsolomon_Encode_r reedsolomon_Encode_j1;simp only [joinF_eq];rw [bif_neg (by omega),decide_eq_false (show ¬ (64:Int)<(p:Int) by omega)];simp only [cond_false];rw [nb_len,bif_neg (by omega),s_wr (x:=(d:Int)+(p:Int)) (by omega) (by omega),bif_neg (by omega)];refine stLoop (n:=p) (st:=fun m=>(nb (m+1) (gen m),(m:Int))) (by omega) rfl ?_ ?_
 ·intro j m hm;have e4:IntKind.i64.wrap ((m:Int)+1)=((m+1:Nat):Int):=by rw [s_wr (by omega) (by omega)];omega
  have e5:IntKind.i64.wrap ((p:Int)+1)=(p:Int)+1:=s_wr (by omega) (by omega);unfold reedsolomon_Encode_l2;simp only;rw [bif_pos (by omega),power2 hf (by omega),bindO_some];simp only;rw [e5,times_r' hf (by omega) (by omega) (by omega),bindO_some,e4]
 ·intro j;unfold reedsolomon_Encode_l2;simp only;rw [bif_neg (by omega),bf2 (by omega) (by omega),Int.toNat_natCast,nb_rep];exact enc_data hf hp hp1 hd1 hdt _ rfl
end
end Gf
end Go.Proofs.Ytppigjemglokgaa
/- The residual programs stand elsewhere. -/
/- What the document's functions over the field compute. -/
set_option maxRecDepth 100000
namespace Go.Proofs.Ytppigjemglokgaa
open Go Go.RowKit
set_option linter.unusedSimpArgs false
set_option linter.unusedSectionVars false
set_option linter.unusedVariables false
namespace Gf
theorem rfloor (fu:Nat) {n d:Int} (hd:0<d) (h1:d≤1000000000000000) (h2:-9223372036854775808≤n) (h3:n≤9223372036854775807):R_Floor_r fu (n,(d,()))=some (n / d,()):=by
 have a1:=Int.mul_tdiv_add_tmod n d;have a2:n.tdiv d*d=d*n.tdiv d:=Int.mul_comm _ _
 have a3:-d<n.tmod d∧n.tmod d<d:=by
  constructor
  ·have:=Int.lt_tmod_of_pos n hd;omega
  ·exact Int.tmod_lt_of_pos n hd
 have a4:-9223372036854775808≤n.tdiv d∧n.tdiv d≤9223372036854775808:=by
  have:=tdiv_abs (m:=9223372036854775808) d (by omega:-9223372036854775808≤n) (by omega);omega
 have a5:n.tdiv d≤9223372036854775807:=by
  by_cases c:0≤n
  ·rw [Int.tdiv_eq_ediv_of_nonneg c];exact Int.le_trans (Int.ediv_le_self _ c) h3
  ·by_cases c2:n.tdiv d≤0
   ·omega
   ·have:=Int.mul_le_mul_of_nonneg_right (show 1≤n.tdiv d by omega) (show 0≤d by omega);omega
 have a6:0≤n→0≤n.tmod d:=fun c=>Int.tmod_nonneg _ c
 have a7:n≤0→n.tmod d≤0:=fun c=>by
  have:=Int.tmod_nonneg (a:=-n) d (by omega);rw [Int.neg_tmod] at this;omega
 unfold R_Floor_r R_Floor_j1;simp (disch:=omega) only [joinF_eq,bindO_some,s_wr,s_td,s_tm,s_pos,s_neg,cond_true,cond_false,Bool.not_true,Bool.not_false,Bool.true_and,Bool.and_true,Bool.false_and,Bool.and_false,bne_self_eq_false,decide_true,decide_false,Int.toNat_natCast];by_cases c:n<n.tdiv d*d
 ·simp (disch:=omega) only [joinF_eq,bindO_some,s_wr,s_td,s_tm,s_pos,s_neg,cond_true,cond_false,Bool.not_true,Bool.not_false,Bool.true_and,Bool.and_true,Bool.false_and,Bool.and_false,bne_self_eq_false,decide_true,decide_false,Int.toNat_natCast];have e:=tdiv_over hd c;by_cases lo:-9223372036854775808≤n.tdiv d-1
  ·simp (disch:=omega) only [joinF_eq,bindO_some,s_wr,s_td,s_tm,s_pos,s_neg,cond_true,cond_false,Bool.not_true,Bool.not_false,Bool.true_and,Bool.and_true,Bool.false_and,Bool.and_false,bne_self_eq_false,decide_true,decide_false,Int.toNat_natCast];rw [e]
  ·have:n.tdiv d=-9223372036854775808:=by omega
   rw [this] at c;have:d*1≤d*9223372036854775808:=Int.mul_le_mul_of_nonneg_left (by decide) (by omega);omega
 ·simp (disch:=omega) only [joinF_eq,bindO_some,s_wr,s_td,s_tm,s_pos,s_neg,cond_true,cond_false,Bool.not_true,Bool.not_false,Bool.true_and,Bool.and_true,Bool.false_and,Bool.and_false,bne_self_eq_false,decide_true,decide_false,Int.toNat_natCast];rw [tdiv_under hd (by omega)]
theorem rmod (fu:Nat) {n d:Int} (hd:0<d) (h1:d≤1000000000000000) (h2:-9223372036854775808≤n) (h3:n≤9223372036854775807):R_Mod_r fu (n,(d,()))=some (n % d,()):=by
 unfold R_Mod_r;rw [rfloor fu hd h1 h2 h3];have e:=Int.mul_ediv_add_emod n d;have e0:=Int.emod_nonneg n (show d≠0 by omega);have e1:=Int.emod_lt_of_pos n hd;by_cases c:-9223372036854775808≤d*(n / d)
 ·simp (disch:=omega) only [joinF_eq,bindO_some,s_wr,s_td,s_tm,s_pos,s_neg,cond_true,cond_false,Bool.not_true,Bool.not_false,Bool.true_and,Bool.and_true,Bool.false_and,Bool.and_false,bne_self_eq_false,decide_true,decide_false,Int.toNat_natCast];congr 2;omega
 ·have:IntKind.i64.wrap (d*(n / d))=d*(n / d)+18446744073709551616:=by rw [IntKind.wrap_i64];omega
  simp (disch:=omega) only [joinF_eq,bindO_some,s_wr,s_td,s_tm,s_pos,s_neg,cond_true,cond_false,Bool.not_true,Bool.not_false,Bool.true_and,Bool.and_true,Bool.false_and,Bool.and_false,bne_self_eq_false,decide_true,decide_false,Int.toNat_natCast];rw [this];have:IntKind.i64.wrap (n-(d*(n / d)+18446744073709551616))=n-d*(n / d):=by rw [IntKind.wrap_i64];omega
  rw [this];congr 2;omega
section
variable {fu:Nat} (hf:18446744073709551616≤fu)
include hf
theorem times_m {a b:Nat} (ha:a<256) (hb:b<256):R_Times_r fu ((a:Int),((b:Int),()))=some ((mulN a b:Int),()):=by
 rw [times_r hf ha hb,mul_tim ha hb]
theorem exp_r {n:Nat} (hn:n≤1000000):R_Exp_r fu ((n:Int),())=some ((pw 2 n:Int),()):=by
 unfold R_Exp_r;rw [rmod fu (by omega) (by omega) (by omega) (by omega),bindO_some];simp only;rw [show (n:Int) % 255=((n % 255:Nat):Int) by omega,←pw_mod];have he:n % 255<255:=Nat.mod_lt _ (by decide);generalize n % 255=e at he;refine postLoop (f:=R_Exp_l1 fu) (fun x=>x.2.2.toNat) (fun x=>∃ p a' n':Nat,x=((p:Int),((a':Int),(n':Int)))∧n'<255∧p<256∧a'<256∧mulN p (pw a' n')=pw 2 e) (fun r=>r=some ((pw 2 e:Int),())) ?_ fu _ ⟨1,2,e,rfl,he,by decide,by decide,one_mul (pw_lt (by decide) e)⟩ (by simp only;omega)
 rintro j _ ⟨p,a',n',rfl,h1,h2,h3,h4⟩
 by_cases c:n'=0
 ·subst c;refine .inr ?_;rw [show pw a' 0=1 from rfl,mul_one p h2] at h4;unfold R_Exp_l1;simp only;rw [bif_neg (by omega),h4]
 ·have e1:IntKind.i64.wrap (Int.tdiv (n':Int) 2)=((n' / 2:Nat):Int):=by rw [s_td (by omega),s_wr (by omega) (by omega)];omega
  have hsq:=times_m hf h3 h3;refine .inl ⟨(((if n' % 2=1 then mulN p a' else p:Nat):Int),((mulN a' a':Int),((n' / 2:Nat):Int))),⟨_,_,_,rfl,by omega,?_,mul_lt h3,?_⟩,by simp only;omega,?_⟩
  ·split
   ·exact mul_lt h2
   ·exact h2
  ·rw [pw_sq h3,←h4];by_cases g:n' % 2=1
   ·rw [if_pos g,mul_assoc h2 h3 (pw_lt h3 _),mul_comm h3 (pw_lt h3 _)];congr 1;have:pw a' n'=pw a' (2*(n' / 2)+1):=by congr 1;omega
    rw [this,pw]
   ·rw [if_neg g];congr 2;omega
  ·unfold R_Exp_l1 R_Exp_j2;simp only [joinF_eq];rw [bif_pos (by omega),s_tm (by omega)];by_cases g:n' % 2=1
   ·rw [bif_pos (by omega),times_m hf h2 h3,bindO_some];simp only;rw [hsq,bindO_some,e1,if_pos g]
   ·rw [bif_neg (by omega),hsq,bindO_some,e1,if_neg g]
theorem inverse_r {a:Nat} (ha:a<256) (h0:a≠0):∃ b:Nat,b<256∧mulN a b=1∧R_Inverse_r fu ((a:Int),())=some ((b:Int),()):=by
 obtain ⟨g1,g2⟩:=inv_all a ha h0;have hi0:inv a≠0:=fun e=>by rw [e,mul_zero] at g1;cases g1
 unfold R_Inverse_r;refine postLoop (f:=R_Inverse_l1 fu ((a:Int),())) (fun x=>(256-x).toNat) (fun x=>∃ k:Nat,x=(k:Int)∧1≤k∧k≤inv a) (fun r=>∃ b:Nat,b<256∧mulN a b=1∧r=some ((b:Int),())) ?_ fu _ ⟨1,rfl,by omega,by omega⟩ (by omega)
 rintro j _ ⟨k,rfl,k1,k2⟩
 have hk:k<256:=by omega
 have e1:IntKind.u8.wrap (k:Int)=(k:Int):=by simp [IntKind.wrap,IntKind.bits,IntKind.signed];omega
 unfold R_Inverse_l1;simp only;rw [bif_pos (by omega),e1,times_m hf ha hk,bindO_some];simp only;by_cases c:mulN a k=1
 ·exact .inr ⟨k,hk,c,by rw [bif_pos (by omega)]⟩
 ·have hne:k≠inv a:=fun e=>c (by rw [e];exact g1)
  refine .inl ⟨((k+1:Nat):Int),⟨k+1,rfl,by omega,by omega⟩,by omega,?_⟩;rw [bif_neg (by omega),s_wr (by omega) (by omega)];rfl
theorem syn_row {len q:Nat} {w:Nat→Nat} (hw:∀ k,w k<256) (hl:len≤400) (hq:q≤400) {i:Nat} (hi:i<q) (n':Int) {S:Nat→Nat} (hS:∀ k,S k<256) (hS0:S i=0) (v0:Int×List Int) (e0:v0.1=i) (j0:(Int×List Int)→Option (List Int×Unit)) :
  loopF (R_Syndromes_l2 fu (nb len w,(n',())) v0 (i:Int) j0) fu ((0:Int),nb q S)=j0 (((i+1:Nat):Int),nb q fun k=>if k=i then sum len (fun j=>mulN (w j) (pw 2 (i*(len-1-j)))) else S k):=by
 have h2:(2:Nat)<256:=by decide
 have hlt:∀ t,sum t (fun j=>mulN (w j) (pw 2 (i*(len-1-j))))<256:=fun t=>sum_lt fun j _=>mul_lt (hw j)
 refine stLoop (n:=len) (st:=fun t=>((t:Int),nb q fun k=>if k=i then sum t (fun j=>mulN (w j) (pw 2 (i*(len-1-j)))) else S k)) (by omega) (congrArg (Prod.mk (0:Int)) (nb_congr fun k _=>?_)) ?_ ?_
 ·by_cases c:k=i
  ·rw [if_pos c,c,hS0];rfl
  ·rw [if_neg c]
 ·intro j t ht;have hb:i*(len-1-t)≤400*400:=Nat.mul_le_mul (by omega) (by omega)
  have e1:IntKind.i64.wrap ((i:Int)*IntKind.i64.wrap (IntKind.i64.wrap ((len:Int)-1)-(t:Int)))=((i*(len-1-t):Nat):Int):=by
   rw [s_wr (x:=(len:Int)-1) (by omega) (by omega),s_wr (x:=(len:Int)-1-(t:Int)) (by omega) (by omega),show (len:Int)-1-(t:Int)=((len-1-t:Nat):Int) by omega,←Int.natCast_mul];generalize i*(len-1-t)=z at hb;exact s_wr (by omega) (by omega)
  have e4:IntKind.i64.wrap ((t:Int)+1)=((t+1:Nat):Int):=by rw [s_wr (by omega) (by omega)];omega
  unfold R_Syndromes_l2;simp only;rw [nb_len,nb_len,bif_pos (by omega),bf2 (by omega) (by omega),bf2 (by omega) (by omega),e1,exp_r hf (by omega),bindO_some];simp only;rw [Int.toNat_natCast,Int.toNat_natCast,nb_getD ht,times_m hf (hw t) (pw_lt h2 _),bindO_some];simp only;rw [bf2 (by omega) (by omega),e4,nb_getD hi,if_pos rfl,xor_c hf (hlt t) (mul_lt (hw t))];refine congrArg (fun l=>j (((t+1:Nat):Int),l)) (nb_set' (fun k hk hne=>by rw [if_neg hne,if_neg hne]) fun _=>?_);rw [if_pos rfl,sum_succ]
 ·intro j;unfold R_Syndromes_l2;simp only;rw [nb_len,bif_neg (by omega),e0,s_wr (by omega) (by omega)];rfl
theorem syn_r {len q:Nat} {w:Nat→Nat} (hw:∀ k,w k<256) (hl:len≤400) (hq:q≤400):R_Syndromes_r fu (nb len w,((q:Int),()))=some (nb q (fun i=>sum len (fun j=>mulN (w j) (pw 2 (i*(len-1-j))))),()):=by
 unfold R_Syndromes_r;simp only;rw [bf2 (by omega) (by omega),Int.toNat_natCast,nb_rep];refine stLoop (n:=q) (st:=fun i=>((i:Int),nb q fun k=>if k<i then sum len (fun j=>mulN (w j) (pw 2 (k*(len-1-j)))) else 0)) (by omega) (congrArg (Prod.mk (0:Int)) (nb_congr fun k _=>if_neg (by omega))) ?_ ?_
 ·intro j i hi;unfold R_Syndromes_l1;simp only;rw [Int.toNat_natCast,List.length_replicate,bif_pos (by omega),syn_row hf hw hl hq hi _ (S:=fun k=>if k<i then sum len (fun j=>mulN (w j) (pw 2 (k*(len-1-j)))) else 0) (fun k=>lt_ite1 (sum_lt fun j _=>mul_lt (hw j))) (if_neg (by omega)) _ rfl];refine congrArg (fun l=>j (((i+1:Nat):Int),l)) (nb_congr fun k _=>?_);by_cases c:k=i
  ·rw [if_pos c,if_pos (show k<i+1 by omega),c]
  ·rw [if_neg c];by_cases g:k<i
   ·rw [if_pos g,if_pos (show k<i+1 by omega)]
   ·rw [if_neg g,if_neg (show ¬ k<i+1 by omega)]
 ·intro j;unfold R_Syndromes_l1;simp only;rw [Int.toNat_natCast,List.length_replicate,bif_neg (by omega)];exact congrArg (fun l=>some (l,())) (nb_congr fun k hk=>if_pos hk)
end
end Gf
end Go.Proofs.Ytppigjemglokgaa
/- The residual programs stand elsewhere. -/
/- What Valid returns. -/
set_option maxRecDepth 100000
namespace Go.Proofs.Ytppigjemglokgaa
open Go Go.RowKit
set_option linter.unusedSimpArgs false
set_option linter.unusedSectionVars false
set_option linter.unusedVariables false
namespace Gf
section
variable {fu:Nat} (hf:18446744073709551616≤fu)
include hf
end
end Gf
end Go.Proofs.Ytppigjemglokgaa
/- Lists of bytes as lists of small numbers;when the syndromes are zero. -/
set_option maxRecDepth 100000
namespace Go.Proofs.Ytppigjemglokgaa
open Go Go.RowKit
set_option linter.unusedSimpArgs false
set_option linter.unusedSectionVars false
set_option linter.unusedVariables false
namespace Gf
def byt (ds:List Int) (k:Nat):Nat:=(ds.getD k 0).toNat
theorem byt_lt {ds:List Int} (h:∀ d ∈ ds,0≤d∧d≤255) (k:Nat):byt ds k<256:=by
 unfold byt;rw [List.getD_eq_getElem?_getD];by_cases c:k<ds.length
 ·rw [List.getElem?_eq_getElem c,Option.getD_some];have:=h _ (List.getElem_mem c);omega
 ·rw [List.getElem?_eq_none (by omega)];decide
theorem nb_byt {ds:List Int} (h:∀ d ∈ ds,0≤d∧d≤255):nb ds.length (byt ds)=ds:=by
 refine List.ext_getElem (nb_len _ _) fun i h1 h2=>?_
 rw [nb_getElem];unfold byt;rw [List.getD_eq_getElem?_getD,List.getElem?_eq_getElem h2,Option.getD_some];have:=h _ (List.getElem_mem h2);omega
end Gf
end Go.Proofs.Ytppigjemglokgaa
/- Bits of bytes,bitmaps as lists of bytes. No program in sight. -/
namespace Go.Proofs.Ytppigjemglokgaa
open Go Go.RowKit

def bitAt (v:Int) (j:Nat):Bool:=v / 2 ^ (7-j) % 2==1
theorem fin_byte {p:Int→Prop} (h:∀ v:Fin 256,p (v.val:Int)) {v:Int} (h0:0≤v) (h1:v≤255):p v:=by
 have:=h ⟨v.toNat,by omega⟩;rwa [show ((⟨v.toNat,by omega⟩:Fin 256).val:Int)=v from Int.toNat_of_nonneg h0] at this
theorem shl_bit {v:Int} (h0:0≤v) (h1:v≤255) {k:Nat} (hk:k<8):bits .and .u8 (IntKind.wrap .u8 (v*2 ^ k)) 128=(if bitAt v k=true then 128 else 0) :=
 fin_byte (p:=fun v=>∀ k:Fin 8,bits .and .u8 (IntKind.wrap .u8 (v*2 ^ k.val)) 128=(if bitAt v k.val=true then 128 else 0)) (by decide +kernel) h0 h1 ⟨k,hk⟩
def lowOk (v:Int) (u:Nat):Bool:=v % 2 ^ u==0
theorem low_bits {v:Int} (h0:0≤v) (h1:v≤255) {u:Nat} (hu:u<8):lowOk v u=true↔∀ k,k<8→8-u≤k→bitAt v k=false:=by
 have h:=fin_byte (p:=fun v=>∀ u:Fin 8,lowOk v u.val=true↔∀ k:Fin 8,8-u.val≤k.val→bitAt v k.val=false) (by decide +kernel) h0 h1 ⟨u,hu⟩;exact h.trans ⟨fun g k hk hu=>g ⟨k,hk⟩ hu,fun g k hu=>g k.val k.isLt hu⟩
def Bytes (ds:List Int):Prop:=∀ d ∈ ds,0≤d∧d≤255
def strideN (w:Nat):Nat:=(w+7) / 8
def tailOk (w h:Nat) (ds:List Int):Bool:=(List.range h).all fun y=>lowOk (ds.getD (y*strideN w+strideN w-1) 0) (8*strideN w-w)
def bitsE (w h:Int) (ds:List Int):Int:=if 1≤w∧w≤1024∧1≤h∧h≤1024 then (if ds.length=strideN w.toNat*h.toNat then (if tailOk w.toNat h.toNat ds=true then 0 else 4) else 4) else 3
def pixOk (w n i:Nat) (d:Int) (k:Nat):Bool:=!(decide (w≤i % n*8+k)&&bitAt d k)
def byteOk (w n i:Nat) (d:Int):Bool:=(List.range 8).all (pixOk w n i d)
def rowsOk (w n:Nat) (ds:List Int) (m:Nat):Bool:=(List.range m).all fun i=>byteOk w n i (ds.getD i 0)
theorem rows_tail {w h:Nat} {ds:List Int} (hb:Bytes ds) (hw:1≤w) (hl:ds.length=strideN w*h):rowsOk w (strideN w) ds ds.length=tailOk w h ds:=by
 have hn:1≤strideN w∧w≤8*strideN w∧8*strideN w≤w+7:=by unfold strideN;omega
 unfold tailOk;generalize strideN w=n at *
 obtain ⟨n0,n2,n3⟩:=hn
 have hg:∀ i,i<ds.length→0≤ds.getD i 0∧ds.getD i 0≤255:=fun i hi=>by
  rw [List.getD_eq_getElem?_getD,List.getElem?_eq_getElem hi];exact hb _ (List.getElem_mem hi)
 rw [Bool.eq_iff_iff];constructor
 ·intro ha;refine List.all_eq_true.2 fun y hy=>?_
  have hy:=List.mem_range.1 hy;have h1:(y+1)*n≤h*n:=Nat.mul_le_mul_right n hy;rw [Nat.add_mul,Nat.one_mul,Nat.mul_comm h n] at h1;have hi:y*n+n-1<ds.length:=by omega
  have hmod:(y*n+n-1) % n=n-1:=by
   rw [show y*n+n-1=(n-1)+n*y by rw [Nat.mul_comm y n];omega,Nat.add_mul_mod_self_left,Nat.mod_eq_of_lt (by omega)]
  have hrow:=List.all_eq_true.1 ha (y*n+n-1) (List.mem_range.2 hi);obtain ⟨g0,g1⟩:=hg _ hi;refine (low_bits g0 g1 (u:=8*n-w) (by omega)).2 fun k hk hu=>?_
  have:=List.all_eq_true.1 hrow k (List.mem_range.2 hk);unfold pixOk at this;rw [hmod,show decide (w≤(n-1)*8+k)=true by simp;omega] at this;simpa using this
 ·intro ha;refine List.all_eq_true.2 fun i hi=>List.all_eq_true.2 fun k hk=>?_
  have hi:=List.mem_range.1 hi;have hk:=List.mem_range.1 hk;unfold pixOk;by_cases hw:w≤i % n*8+k
  ·have hm:i % n<n:=Nat.mod_lt _ (by omega);have hmod:i % n=n-1:=by omega
   have hdm:=Nat.div_add_mod i n
   have hy:i / n<h:=by
    apply Nat.div_lt_of_lt_mul;omega
   have hrow:=List.all_eq_true.1 ha (i / n) (List.mem_range.2 hy);have he:i / n*n+n-1=i:=by rw [Nat.mul_comm];omega
   rw [he] at hrow;obtain ⟨g0,g1⟩:=hg _ hi;have:=(low_bits g0 g1 (u:=8*n-w) (by omega)).1 hrow k hk (by omega);rw [this];simp
  ·rw [show decide (w≤i % n*8+k)=false by simp;omega];rfl
end Go.Proofs.Ytppigjemglokgaa
/- Strips: what the small functions compute. -/
namespace Go.Proofs.Ytppigjemglokgaa
open Go Go.RowKit

theorem within_r (fu:Nat) (x lo hi:Int):R_Within_r fu (x,(lo,(hi,())))=some (decide (lo≤x)&&decide (x≤hi),()):=by
 unfold R_Within_r;by_cases h:lo≤x
 ·rw [bif_pos h,decide_eq_true h];rfl
 ·rw [bif_neg h,decide_eq_false h];rfl
def strd (w:Int):Int:=(w+7) / 8
theorem stride_r (fu:Nat) {w:Int} (h0:0≤w) (h1:w≤1000000):bitmap_stride_r fu (w,())=some (strd w,()):=by
 unfold bitmap_stride_r strd;simp only;rw [wr64 (x:=w+7) (by omega) (by omega),Int.tdiv_eq_ediv_of_nonneg (by omega),wr64 (x:=(w+7) / 8) (by omega) (by omega)]
theorem strd_N {w:Int} (h0:0≤w):strd w=(strideN w.toNat:Int):=by
 unfold strd strideN;omega
def pixB (w h:Int) (ds:List Int) (x y:Int):Bool:=decide (0≤x∧x<w∧0≤y∧y<h)&&bitAt (ds.getD (y*strd w+x / 8).toNat 0) (x % 8).toNat
theorem at_ok {w h:Int} (hw:0≤w) {x y:Int} {l:Nat} (hx0:0≤x) (hx1:x<w) (hy0:0≤y) (hy1:y<h) (hl:(l:Int)=strd w*h):0≤y*strd w∧0≤y*strd w+x / 8∧y*strd w+x / 8<l:=by
 have h1:x / 8<strd w:=by unfold strd;omega
 have h2:y*strd w≤(h-1)*strd w:=Int.mul_le_mul_of_nonneg_right (by omega) (by unfold strd;omega);have h3:(h-1)*strd w=strd w*h-strd w:=by rw [Int.sub_mul,Int.one_mul,Int.mul_comm]
 have h4:0≤y*strd w:=Int.mul_nonneg hy0 (by unfold strd;omega);omega
theorem Bytes.at {ds:List Int} (h:Bytes ds) (i:Nat):0≤ds.getD i 0∧ds.getD i 0≤255:=by
 rw [List.getD_eq_getElem?_getD]
 cases e:ds[i]? with
 | none=>simp
 | some d=>exact h d (List.mem_of_getElem? e)
theorem bit_r (fu:Nat) {w h:Int} {ds:List Int} (hw0:1≤w) (hw1:w≤1024) (hh0:1≤h) (hh:h≤1024) (hl:(ds.length:Int)=strd w*h) (hb:Bytes ds) (x y:Int):R_Bit_r fu ((w,(h,ds)),(x,(y,())))=some (pixB w h ds x y,()):=by
 unfold R_Bit_r;simp only [joinF_eq,within_r,bindO_some];rw [wr64 (x:=w-1) (by omega) (by omega),wr64 (x:=h-1) (by omega) (by omega)];by_cases h1:0≤x∧x<w
 ·rw [decide_eq_true h1.1,decide_eq_true (show x≤w-1 by omega)];by_cases h2:0≤y∧y<h
  ·rw [decide_eq_true h2.1,decide_eq_true (show y≤h-1 by omega)];show R_Bit_j1 fu ((w,(h,ds)),(x,(y,()))) false=_;unfold R_Bit_j1 pixB;simp only [cond_false]
   have hs:strd w*h≤128*1024:=by
    have a1:strd w≤128:=by unfold strd;omega
    have a2:0≤strd w:=by unfold strd;omega
    have:=Int.mul_le_mul a1 hh (by omega:0≤h) (by omega:(0:Int)≤128);omega
   obtain ⟨g0,g1,g2⟩:=at_ok (w:=w) (by omega) h1.1 h1.2 h2.1 h2.2 hl
   have e1:IntKind.i64.wrap (Int.tdiv (IntKind.i64.wrap (w+7)) 8)=strd w:=by
    rw [wr64 (x:=w+7) (by omega) (by omega),Int.tdiv_eq_ediv_of_nonneg (by omega),wr64 (x:=(w+7) / 8) (by omega) (by omega)];rfl
   have h10:=h1.1;rw [e1,Int.tdiv_eq_ediv_of_nonneg h1.1,Int.tmod_eq_emod_of_nonneg h1.1,wr64 (x:=x / 8) (by omega) (by omega),wr64 (x:=y*strd w) (by omega) (by omega),wr64 (x:=y*strd w+x / 8) (by omega) (by omega)];rw [bif_and g1 g2,bif_and (by omega) (by omega),shl_bit (hb.at _).1 (hb.at _).2 (by omega)];rw [decide_eq_true (show 0≤x∧x<w∧0≤y∧y<h from ⟨h1.1,h1.2,h2.1,h2.2⟩),Bool.true_and]
   cases bitAt (ds.getD (y*strd w+x / 8).toNat 0) (x % 8).toNat <;> rfl
  ·have:(decide (0≤y)&&decide (y≤h-1))=false:=by
    rw [←Bool.not_eq_true,Bool.and_eq_true];simp;omega
   rw [this];show R_Bit_j1 fu ((w,(h,ds)),(x,(y,()))) true=_;unfold R_Bit_j1 pixB;rw [decide_eq_false (show ¬ (0≤x∧x<w∧0≤y∧y<h) by omega)];rfl
 ·have:(decide (0≤x)&&decide (x≤w-1))=false:=by
   rw [←Bool.not_eq_true,Bool.and_eq_true];simp;omega
  rw [this];show R_Bit_j1 fu ((w,(h,ds)),(x,(y,()))) true=_;unfold R_Bit_j1 pixB;rw [decide_eq_false (show ¬ (0≤x∧x<w∧0≤y∧y<h) by omega)];rfl
end Go.Proofs.Ytppigjemglokgaa
/- Pictures of pixels. No program in sight. -/
set_option maxRecDepth 100000
namespace Go.Proofs.Ytppigjemglokgaa
open Go Go.RowKit

def byteB (b0 b1 b2 b3 b4 b5 b6 b7:Bool):Int:=(bif b0 then 128 else 0)+(bif b1 then 64 else 0)+(bif b2 then 32 else 0)+(bif b3 then 16 else 0)+(bif b4 then 8 else 0)+(bif b5 then 4 else 0)+(bif b6 then 2 else 0)+(bif b7 then 1 else 0)
def byteOf (p:Nat→Bool):Int:=byteB (p 0) (p 1) (p 2) (p 3) (p 4) (p 5) (p 6) (p 7)
theorem byteOf_congr {p q:Nat→Bool} (h:∀ k,k<8→p k=q k):byteOf p=byteOf q:=by
 unfold byteOf;rw [h 0 (by omega),h 1 (by omega),h 2 (by omega),h 3 (by omega),h 4 (by omega),h 5 (by omega),h 6 (by omega),h 7 (by omega)]
theorem byteOf_bd (p:Nat→Bool):0≤byteOf p∧byteOf p≤255:=by
 unfold byteOf;generalize p 0=a0;generalize p 1=a1;generalize p 2=a2;generalize p 3=a3;generalize p 4=a4;generalize p 5=a5;generalize p 6=a6;generalize p 7=a7
 revert a0 a1 a2 a3 a4 a5 a6 a7
 decide +kernel
theorem bool_fun {p:Nat→Bool} {a0 a1 a2 a3 a4 a5 a6 a7:Bool} (h0:p 0=a0) (h1:p 1=a1) (h2:p 2=a2) (h3:p 3=a3) (h4:p 4=a4) (h5:p 5=a5) (h6:p 6=a6) (h7:p 7=a7):∀ k,k<8→p k=[a0,a1,a2,a3,a4,a5,a6,a7].getD k false
 | 0,_=>h0 | 1,_=>h1 | 2,_=>h2 | 3,_=>h3 | 4,_=>h4 | 5,_=>h5 | 6,_=>h6 | 7,_=>h7
 | k+8,h=>by omega
theorem byteOf_bit (p:Nat→Bool) {k:Nat} (hk:k<8):bitAt (byteOf p) k=p k:=by
 rw [bool_fun (p:=p) rfl rfl rfl rfl rfl rfl rfl rfl k hk];unfold byteOf;generalize p 0=a0;generalize p 1=a1;generalize p 2=a2;generalize p 3=a3;generalize p 4=a4;generalize p 5=a5;generalize p 6=a6;generalize p 7=a7
 exact (show ∀ (k:Fin 8) (a0 a1 a2 a3 a4 a5 a6 a7:Bool),bitAt (byteB a0 a1 a2 a3 a4 a5 a6 a7) k.val=[a0,a1,a2,a3,a4,a5,a6,a7].getD k.val false by decide +kernel) ⟨k,hk⟩ a0 a1 a2 a3 a4 a5 a6 a7
theorem or_byte {v:Int} (h0:0≤v) (h1:v≤255) {k:Nat} (hk:k<8):bits .or .u8 v (128 / 2 ^ k)=byteOf (fun j=>bitAt v j||j==k) :=
 fin_byte (p:=fun v=>bits .or .u8 v (128 / 2 ^ k)=byteOf (fun j=>bitAt v j||j==k)) (fun v=>(show ∀ (k:Fin 8) (v:Fin 256),bits .or .u8 (v.val:Int) (128 / 2 ^ k.val)=byteOf (fun j=>bitAt (v.val:Int) j||j==k.val) by decide +kernel) ⟨k,hk⟩ v) h0 h1
theorem byteOf_or (p:Nat→Bool) {k:Nat} (hk:k<8):bits .or .u8 (byteOf p) (128 / 2 ^ k)=byteOf (fun j=>p j||j==k):=by
 rw [or_byte (byteOf_bd p).1 (byteOf_bd p).2 hk];exact byteOf_congr fun j hj=>by rw [byteOf_bit p hj]
def cbyte (w:Int) (P:Int→Int→Bool) (i:Int):Int:=byteOf fun k=>decide (8*(i % strd w)+k<w)&&P (8*(i % strd w)+k) (i / strd w)
def canon (w h:Int) (P:Int→Int→Bool):List Int:=(List.range (strd w*h).toNat).map fun i:Nat=>cbyte w P (i:Int)
theorem canon_length (w h:Int) (P:Int→Int→Bool):(canon w h P).length=(strd w*h).toNat:=by rw [canon,List.length_map,List.length_range]
theorem canon_len {w h:Int} (hw:0≤w) (hh:0≤h) (P:Int→Int→Bool):((canon w h P).length:Int)=strd w*h:=by
 rw [canon_length,Int.toNat_of_nonneg (Int.mul_nonneg (by unfold strd;omega) hh)]
theorem canon_get {w h:Int} {P:Int→Int→Bool} {i:Nat} (hi:i<(canon w h P).length):(canon w h P)[i]=cbyte w P i:=by
 simp only [canon,List.getElem_map,List.getElem_range]
theorem canon_getD {w h:Int} {P:Int→Int→Bool} {i:Nat} (hi:i<(strd w*h).toNat):(canon w h P).getD i 0=cbyte w P i:=by
 rw [←canon_length w h P] at hi;rw [List.getD_eq_getElem?_getD,List.getElem?_eq_getElem hi,Option.getD_some,canon_get]
theorem canon_bytes (w h:Int) (P:Int→Int→Bool):Bytes (canon w h P):=by
 intro d hd;obtain ⟨i,_,rfl⟩:=List.mem_map.1 hd;exact byteOf_bd _
theorem canon_congr {w h:Int} {P Q:Int→Int→Bool} (hw:0<w) (hp:∀ x y,0≤x→x<w→0≤y→y<h→P x y=Q x y):canon w h P=canon w h Q:=by
 unfold canon;refine List.map_congr_left fun i hi=>byteOf_congr fun k _=>?_
 have hi:=List.mem_range.1 hi;have hs:0<strd w:=by unfold strd;omega
 have hi':(i:Int)<strd w*h:=by omega
 have e1:0≤(i:Int) % strd w:=Int.emod_nonneg _ (by omega);have e2:(i:Int) / strd w<h:=Int.ediv_lt_of_lt_mul hs (by rw [Int.mul_comm];exact hi');have e3:0≤(i:Int) / strd w:=Int.ediv_nonneg (by omega) (by omega);by_cases g:8*((i:Int) % strd w)+k<w
 ·rw [hp _ _ (by omega) g e3 e2]
 ·rw [decide_eq_false g];rfl
theorem div_of {s a b:Int} (h0:0≤b) (h1:b<s):(a*s+b) / s=a∧(a*s+b) % s=b:=by
 have hs:s≠0:=by omega
 constructor
 ·rw [Int.add_comm,Int.add_mul_ediv_right _ _ hs,Int.ediv_eq_zero_of_lt h0 h1,Int.zero_add]
 ·rw [Int.add_comm,Int.add_mul_emod_self_right,Int.emod_eq_of_lt h0 h1]
theorem mul_div_mod (i s:Int):i / s*s+i % s=i:=by rw [Int.mul_comm];exact Int.mul_ediv_add_emod i s
section
variable {w h x y:Int} {P:Int→Int→Bool}
theorem at_lt (hx0:0≤x) (hx1:x<w) (hy0:0≤y) (hy1:y<h):(y*strd w+x / 8).toNat<(strd w*h).toNat∧((y*strd w+x / 8).toNat:Int)=y*strd w+x / 8:=by
 have h1:0≤strd w*h:=Int.mul_nonneg (by unfold strd;omega) (by omega);obtain ⟨g0,g1,g2⟩:=at_ok (w:=w) (h:=h) (x:=x) (y:=y) (l:=(strd w*h).toNat) (by omega) hx0 hx1 hy0 hy1 (by omega);omega
theorem cbyte_at (hx0:0≤x) (hx1:x<w) (hy0:0≤y):cbyte w P (y*strd w+x / 8)=byteOf fun k=>decide (8*(x / 8)+k<w)&&P (8*(x / 8)+k) y:=by
 have h1:x / 8<strd w:=by unfold strd;omega
 have:=hy0;unfold cbyte;rw [(div_of (by omega) h1).1,(div_of (by omega) h1).2]
theorem canon_upd {Q:Int→Int→Bool} {v:Int} (hx0:0≤x) (hx1:x<w) (hy0:0≤y) (hy1:y<h) (hv:v=byteOf fun k=>decide (8*(x / 8)+k<w)&&Q (8*(x / 8)+k) y)
  (hq:∀ a b,0≤a→¬ (a / 8=x / 8∧b=y)→Q a b=P a b):(canon w h P).set (y*strd w+x / 8).toNat v=canon w h Q:=by
 obtain ⟨hlt,hcast⟩:=at_lt hx0 hx1 hy0 hy1;refine List.ext_getElem (by rw [List.length_set,canon_length,canon_length]) fun i h1 h2=>?_
 rw [List.getElem_set];split
 ·rename_i e;subst e;rw [canon_get,hcast,cbyte_at hx0 hx1 hy0];exact hv
 ·rename_i e;rw [canon_get,canon_get];refine byteOf_congr fun k hk=>?_
  have hs:0<strd w:=by unfold strd;omega
  have e1:0≤(i:Int) % strd w:=Int.emod_nonneg _ (by omega);congr 1;refine (hq _ _ (by omega) ?_).symm
  rintro ⟨g1,g2⟩
  have g3:(i:Int) % strd w=x / 8:=by omega
  have:=mul_div_mod (i:Int) (strd w);rw [g2,g3] at this;omega
theorem canon_set (hx0:0≤x) (hx1:x<w) (hy0:0≤y) (hy1:y<h) :
  (canon w h P).set (y*strd w+x / 8).toNat (bits .or .u8 ((canon w h P).getD (y*strd w+x / 8).toNat 0) (128 / 2 ^ (x % 8).toNat))=canon w h (fun a b=>P a b||(decide (a=x)&&decide (b=y))):=by
 obtain ⟨hlt,hcast⟩:=at_lt hx0 hx1 hy0 hy1;refine canon_upd hx0 hx1 hy0 hy1 ?_ (fun a b ha hn=>?_)
 ·rw [canon_getD hlt,hcast,cbyte_at hx0 hx1 hy0,byteOf_or _ (by omega)];refine byteOf_congr fun k hk=>?_
  rw [decide_eq_true (rfl:y=y),Bool.and_true];by_cases e:k=(x % 8).toNat
  ·subst e;have e1:8*(x / 8)+((x % 8).toNat:Int)=x:=by omega
   rw [e1,decide_eq_true hx1,decide_eq_true (rfl:x=x)];simp
  ·rw [decide_eq_false (show ¬ 8*(x / 8)+(k:Int)=x by omega)];simp [e]
 ·have:¬ (a=x∧b=y):=fun g=>hn (by rw [g.1];exact ⟨rfl,g.2⟩)
  by_cases e:a=x
  ·rw [decide_eq_false (show ¬ b=y from fun g=>this ⟨e,g⟩)];simp
  ·rw [decide_eq_false e];simp
theorem canon_pix (hw:0≤w):pixB w h (canon w h P) x y=(decide (0≤x∧x<w∧0≤y∧y<h)&&P x y):=by
 have:=hw;unfold pixB;by_cases g:0≤x∧x<w∧0≤y∧y<h
 ·obtain ⟨g1,g2,g3,g4⟩:=g;obtain ⟨hlt,hcast⟩:=at_lt g1 g2 g3 g4;rw [canon_getD hlt,hcast,cbyte_at g1 g2 g3,byteOf_bit _ (by omega)];have e1:8*(x / 8)+((x % 8).toNat:Int)=x:=by omega
  rw [e1,decide_eq_true g2,Bool.true_and]
 ·rw [decide_eq_false g];rfl
end
theorem strd_bd {w h:Int} (hw0:0≤w) (hw1:w≤1024) (hh0:0≤h) (hh1:h≤1024):0≤strd w∧strd w≤128∧0≤strd w*h∧strd w*h≤131072:=by
 have a1:strd w≤128:=by unfold strd;omega
 have a2:0≤strd w:=by unfold strd;omega
 have:=Int.mul_le_mul a1 hh1 hh0 (by omega:(0:Int)≤128);have:=Int.mul_nonneg a2 hh0;omega
theorem idx_bd {w h x y:Int} (hx0:0≤x) (hx1:x<w) (hw1:w≤1024) (hy0:0≤y) (hy1:y<h) (hh1:h≤1024):0≤y*strd w∧y*strd w+x / 8<strd w*h∧strd w*h≤131072:=by
 obtain ⟨b1,b2,b3,b4⟩:=strd_bd (w:=w) (h:=h) (by omega) hw1 (by omega) hh1;obtain ⟨g0,g1,g2⟩:=at_ok (w:=w) (h:=h) (x:=x) (y:=y) (l:=(strd w*h).toNat) (by omega) hx0 hx1 hy0 hy1 (by omega);omega
theorem canon_zero (w h:Int) {P:Int→Int→Bool} (hp:∀ x y,P x y=false):canon w h P=List.replicate (strd w*h).toNat 0:=by
 refine List.ext_getElem (by rw [canon_length,List.length_replicate]) fun i h1 h2=>?_
 rw [canon_get,List.getElem_replicate];show byteOf _=0;rw [byteOf_congr (q:=fun _=>false) (fun k _=>by rw [hp,Bool.and_false])];rfl
def onL (n:Nat) (G:Int→Bool):List Bool:=(List.range n).map fun i:Nat=>G (i:Int)
end Go.Proofs.Ytppigjemglokgaa
/- Strips: Check and BitsErr. -/
namespace Go.Proofs.Ytppigjemglokgaa
open Go Go.RowKit

theorem and_neg_lo {v:Int}:(decide (1≤v)&&decide (v≤1024))=decide (1≤v∧v≤1024):=by
 by_cases h:1≤v <;> by_cases h':v≤1024 <;> simp [h,h']
theorem bitsErr_r {fu:Nat} (hf:18446744073709551616≤fu) {w h:Int} {ds:List Int} (hb:Bytes ds):R_BitsErr_r fu ((w,(h,ds)),())=some (bitsE w h ds,()):=by
 unfold R_BitsErr_r bitsE;simp only [joinF_eq,within_r,bindO_some,and_neg_lo];by_cases h1:1≤w∧w≤1024
 ·rw [decide_eq_true h1];by_cases h2:1≤h∧h≤1024
  ·rw [decide_eq_true h2,if_pos (by omega)];show R_BitsErr_j1 fu ((w,(h,ds)),()) false=_;unfold R_BitsErr_j1;simp only [cond_false]
   have e1:IntKind.i64.wrap (Int.tdiv (IntKind.i64.wrap (w+7)) 8)=strd w:=by
    rw [wr64 (x:=w+7) (by omega) (by omega),Int.tdiv_eq_ediv_of_nonneg (by omega),wr64 (x:=(w+7) / 8) (by omega) (by omega)];rfl
   have hs0:1≤strd w∧strd w≤128∧w≤8*strd w∧8*strd w≤w+7:=by unfold strd;omega
   have hN:strd w=(strideN w.toNat:Int):=strd_N (by omega)
   have hs:0≤strd w*h∧strd w*h≤128*1024:=⟨Int.mul_nonneg (by omega) (by omega),by
    have:=Int.mul_le_mul hs0.2.1 (show h≤1024 by omega) (by omega:0≤h) (by omega:(0:Int)≤128)
    omega⟩
   have hmul:strd w*h=((strideN w.toNat*h.toNat:Nat):Int):=by rw [hN,Int.natCast_mul];congr 1;omega
   rw [e1,wr64 (x:=strd w*h) (by omega) (by omega)];by_cases hl:ds.length=strideN w.toNat*h.toNat
   ·rw [bif_neg (by rw [hmul,hl];simp),if_pos hl,←rows_tail hb (by omega) hl];unfold rowsOk;rw [←allFrom_zero]
    let p:Nat→Bool:=fun i=>byteOk w.toNat (strideN w.toNat) i (ds.getD i 0)
    refine loopF_spec (f:=R_BitsErr_l2 fu ((w,(h,ds)),()) (strd w)) (fun i:Int=>((ds.length:Int)-i).toNat) (fun i=>0≤i∧i≤ds.length) (fun i=>some (if allFrom p ds.length i.toNat=true then 0 else 4,())) (fun j i ⟨i0,i1⟩ hj=>?_) fu 0 ⟨by omega,by omega⟩ (by omega);unfold R_BitsErr_l2;simp only;by_cases hi:i<ds.length
    ·rw [bif_pos hi,bif_and i0 hi,allFrom_lt (by omega)]
     let q:Nat→Bool:=pixOk w.toNat (strideN w.toNat) i.toNat (ds.getD i.toNat 0)
     have hp:p i.toNat=allFrom q 8 0:=by rw [allFrom_zero];rfl
     rw [hp];refine (loopF_spec (f:=R_BitsErr_l3 fu ((w,(h,ds)),()) (strd w) i (ds.getD i.toNat 0) j) (fun k:Int=>(8-k).toNat) (fun k=>0≤k∧k≤8) (fun k=>some (if (allFrom q 8 k.toNat&&allFrom p ds.length (i.toNat+1))=true then 0 else 4,())) (fun j' k ⟨k0,k1⟩ hj'=>?_) fu 0 ⟨by omega,by omega⟩ (by omega));unfold R_BitsErr_l3;simp only;by_cases hk:k<8
     ·rw [bif_pos hk,allFrom_lt (by omega)];simp only [joinF_eq];rw [bif_pos (by omega),Int.tmod_eq_emod_of_nonneg i0];have em:i % strd w=((i.toNat % strideN w.toNat:Nat):Int):=by rw [hN,Int.natCast_emod,Int.toNat_of_nonneg i0]
      have hlt:i.toNat % strideN w.toNat<strideN w.toNat:=Nat.mod_lt _ (by omega);rw [em,wr64 (x:=((i.toNat % strideN w.toNat:Nat):Int)*8) (by omega) (by omega),wr64 (x:=((i.toNat % strideN w.toNat:Nat):Int)*8+k) (by omega) (by omega)]
      have good:q k.toNat=true→R_BitsErr_j4 fu k j' false=some (if (q k.toNat&&allFrom q 8 (k.toNat+1)&&allFrom p ds.length (i.toNat+1))=true then 0 else 4,()):=by
       intro hq;unfold R_BitsErr_j4;simp only [cond_false];rw [wr64 (x:=k+1) (by omega) (by omega),hj' (k+1) ⟨by omega,by omega⟩ (by omega),hq,Bool.true_and];rw [show (k+1).toNat=k.toNat+1 by omega]
      by_cases hle:w≤((i.toNat % strideN w.toNat:Nat):Int)*8+k
      ·rw [bif_pos hle,bif_and k0 (by omega),shl_bit (hb.at _).1 (hb.at _).2 (by omega)]
       have hq:q k.toNat=!bitAt (ds.getD i.toNat 0) k.toNat:=by
        show pixOk _ _ _ _ _=_;unfold pixOk;rw [decide_eq_true (by omega),Bool.true_and]
       cases hbt:bitAt (ds.getD i.toNat 0) k.toNat with
       | true =>
        rw [hbt] at hq;rw [if_pos rfl,hq];rfl
       | false =>
        rw [hbt] at hq;rw [if_neg (by simp)];exact good hq
      ·rw [bif_neg hle];refine good ?_;show pixOk _ _ _ _ _=_;unfold pixOk;rw [decide_eq_false (by omega)];rfl
     ·rw [bif_neg hk,allFrom_ge (i:=k.toNat) (by omega),Bool.true_and,wr64 (x:=i+1) (by omega) (by omega),hj (i+1) ⟨by omega,by omega⟩ (by omega)];rw [show (i+1).toNat=i.toNat+1 by omega]
    ·rw [bif_neg hi,allFrom_ge (by omega)];rfl
   ·rw [bif_pos (by rw [hmul];omega),if_neg hl]
  ·rw [decide_eq_false h2,if_neg (by omega)];rfl
 ·rw [decide_eq_false h1,if_neg (by omega)];rfl
end Go.Proofs.Ytppigjemglokgaa
