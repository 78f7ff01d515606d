/- Residual programs of functions (printed by a program out of the code), checked by the kernel, and the contracts that follow. -/
import Derived.Test.YtedmffbhklgloaaZNR5
import Derived.Laws.Bits64b
/- Residual programs of functions (printed by a program out of the code),checked by the kernel,and the contracts that follow. -/
namespace Go.Proofs.Ytedmffbhklgloaa
open Go Go.RowKit
set_option linter.unusedVariables false
noncomputable section
def R_SameBytes_r (fu:Nat) (a:List Int×List Int×Unit):Option (Bool×Unit) :=
 let v0:Bool:=(decide ((bytesOf a.1)=(bytesOf a.2.1)))
 some ((v0,()))
def R_SameBytes_an:An:=(.n none .z (.n none .z .z))
noncomputable def R_SameBytes_dc:List (Nat×Ctr):=[]
def R_SameBytes_ctr:Ctr:=⟨(.pair (.list (.int .u8)) (.pair (.list (.int .u8)) .unit)),(.pair .bool .unit),R_SameBytes_r,10⟩
theorem R_SameBytes_ok:CtrOk Try.prog 10 R_SameBytes_ctr:=ctr_ok (l:=R_SameBytes_dc) (f:=12) (an:=R_SameBytes_an) trivial fun fu x=>by kernel_rfl
def law_none_r (fu:Nat) (a:Bool×Int×Int×Unit):Option (Bool×Unit) :=
 bif a.1 then
  let v0:Bool:=(decide (a.2.1=a.2.2.1))
  some ((v0,()))
 else
 some ((false,()))
def law_none_an:An:=(.n none .z (.n none .z .z))
noncomputable def law_none_dc:List (Nat×Ctr):=[]
def law_none_ctr:Ctr:=⟨(.pair .bool (.pair (.int .i64) (.pair (.int .i64) .unit))),(.pair .bool .unit),law_none_r,8⟩
theorem law_none_ok:CtrOk Try.prog 8 law_none_ctr:=ctr_ok (l:=law_none_dc) (f:=12) (an:=law_none_an) trivial fun fu x=>by kernel_rfl
def R_Times_j2 (fu:Nat) (j0:(Int×Int)→Option (Int×Unit)) (v1:Int×Int):Option (Int×Unit) :=
 j0 ((v1.2,(IntKind.i64.wrap (v1.1+(1:Int)))))
def R_Times_j4 (fu:Nat) (j1:(Int×Int)→Option (Int×Unit)) (v2:Int×Int):Option (Int×Unit) :=
 let v3:Int:=(IntKind.i64.wrap (v2.1-(1:Int)))
 j1 ((v2.2,v3))
def R_Times_l3 (fu:Nat) (j1:(Int×Int)→Option (Int×Unit)) (v1:Int×Int):Option (Int×Unit) :=
 bif (decide ((8:Int)≤v1.2)) then
  joinF (R_Times_j4 fu j1) fun j2 =>
  bif ((decide ((0:Int)≤v1.2))&&(decide (v1.2≤(64:Int)))) then
  bif (decide ((bits BinOp.and IntKind.i64 (v1.1 / 2 ^ (Int.toNat v1.2)) (1:Int))=(1:Int))) then
   bif ((decide ((0:Int)≤(IntKind.i64.wrap (v1.2-(8:Int)))))&&(decide ((IntKind.i64.wrap (v1.2-(8:Int)))≤(64:Int)))) then
   let v3:Int:=(bits BinOp.xor IntKind.i64 v1.1 (IntKind.i64.wrap ((285:Int)*2 ^ (Int.toNat (IntKind.i64.wrap (v1.2-(8:Int)))))))
   j2 ((v1.2,v3))
   else none
  else
  j2 ((v1.2,v1.1))
  else none
 else
 let v2:Int:=(IntKind.u8.wrap v1.1)
 some ((v2,()))
def R_Times_l1 (fu:Nat) (a:Int×Int×Unit) (j0:(Int×Int)→Option (Int×Unit)) (v0:Int×Int):Option (Int×Unit) :=
 bif (decide (v0.2<(8:Int))) then
  joinF (R_Times_j2 fu j0) fun j1 =>
  let v2:Int:=v0.2
  bif ((decide ((0:Int)≤v2))&&(decide (v2≤(8:Int)))) then
  bif (decide ((bits BinOp.and IntKind.u8 (a.2.1 / 2 ^ (Int.toNat v2)) (1:Int))=(1:Int))) then
   bif ((decide ((0:Int)≤v2))&&(decide (v2≤(64:Int)))) then
   let v3:Int:=(bits BinOp.xor IntKind.i64 v0.1 (IntKind.i64.wrap ((IntKind.i64.wrap a.1)*2 ^ (Int.toNat v2))))
   j1 ((v0.2,v3))
   else none
  else
  j1 ((v0.2,v0.1))
  else none
 else
 loopF (R_Times_l3 fu) fu ((v0.1,(14:Int)))
def R_Times_r (fu:Nat) (a:Int×Int×Unit):Option (Int×Unit) :=
 loopF (R_Times_l1 fu a) fu (((0:Int),(0:Int)))
def R_Times_an:An:=(.n none .z (.n none .z (.n none (.n none .z (.n none (.n (some ⟨[1,0,4],[],[],[.reg 5 (.int .i64),.reg 8 (.int .i64)],0,[]⟩) (.n none .z (.n none .z (.n (some ⟨[],[],[],[.reg 8 (.int .i64),.reg 5 (.int .i64)],0,[]⟩) (.n none (.n none .z (.n none .z (.n none .z .z))) .z) .z))) .z) .z)) (.n none (.n none .z (.n none (.n (some ⟨[4],[],[],[.reg 5 (.int .i64),.reg 7 (.int .i64)],0,[]⟩) (.n none (.n none .z .z) (.n (some ⟨[],[],[],[.reg 7 (.int .i64),.reg 5 (.int .i64)],0,[]⟩) (.n none (.n none .z (.n none .z .z)) .z) .z)) .z) .z)) (.n none .z .z)))))
noncomputable def R_Times_dc:List (Nat×Ctr):=[]
def R_Times_ctr:Ctr:=⟨(.pair (.int .u8) (.pair (.int .u8) .unit)),(.pair (.int .u8) .unit),R_Times_r,26⟩
theorem R_Times_ok:CtrOk Try.prog 26 R_Times_ctr:=ctr_ok (l:=R_Times_dc) (f:=12) (an:=R_Times_an) trivial fun fu x=>by kernel_rfl
def R_Inverse_l1 (fu:Nat) (a:Int×Unit) (j0:(Int)→Option (Int×Unit)) (v0:Int):Option (Int×Unit) :=
 bif (decide (v0<(256:Int))) then
  bindO (R_Times_r fu ((a.1,((IntKind.u8.wrap v0),())))) fun v1 =>
  bif (decide (v1.1=(1:Int))) then
   let v2:Int:=(IntKind.u8.wrap v0)
   some ((v2,()))
  else
  let v2:Int:=(IntKind.i64.wrap (v0+(1:Int)))
  j0 (v2)
 else
 some (((0:Int),()))
def R_Inverse_r (fu:Nat) (a:Int×Unit):Option (Int×Unit) :=
 loopF (R_Inverse_l1 fu a) fu ((1:Int))
def R_Inverse_an:An:=(.n none .z (.n none (.n none .z (.n none (.n (some ⟨[0],[],[],[.reg 3 (.int .i64)],0,[]⟩) (.n none (.n none .z .z) (.n none (.n none (.n none .z (.n none (.n none .z .z) .z)) .z) .z)) .z) .z)) (.n none .z .z)))
noncomputable def R_Inverse_dc:List (Nat×Ctr):=[(26,R_Times_ctr)]
def R_Inverse_ctr:Ctr:=⟨(.pair (.int .u8) .unit),(.pair (.int .u8) .unit),R_Inverse_r,27⟩
theorem R_Inverse_ok:CtrOk Try.prog 27 R_Inverse_ctr:=ctr_ok (l:=R_Inverse_dc) (f:=12) (an:=R_Inverse_an) ⟨R_Times_ok,trivial⟩ fun fu x=>by kernel_rfl
def R_Floor_j1 (fu:Nat) (v1:Int):Option (Int×Unit) :=
 some ((v1,()))
def R_Floor_r (fu:Nat) (a:Int×Int×Unit):Option (Int×Unit) :=
 bif (decide (a.2.1≠(0:Int))) then
 let v0:Int:=(IntKind.i64.wrap (Int.tdiv a.1 a.2.1))
 joinF (R_Floor_j1 fu) fun j1 =>
 bif (decide (a.1<(IntKind.i64.wrap (v0*a.2.1)))) then
  let v2:Int:=(IntKind.i64.wrap (v0-(1:Int)))
  j1 (v2)
 else
 j1 (v0)
 else none
def R_Floor_an:An:=(.n none .z (.n none .z (.n (some ⟨[],[],[],[.reg 5 (.int .i64)],0,[]⟩) (.n none .z (.n none .z .z)) (.n none .z .z))))
noncomputable def R_Floor_dc:List (Nat×Ctr):=[]
def R_Floor_ctr:Ctr:=⟨(.pair (.int .i64) (.pair (.int .i64) .unit)),(.pair (.int .i64) .unit),R_Floor_r,14⟩
theorem R_Floor_ok:CtrOk Try.prog 14 R_Floor_ctr:=ctr_ok (l:=R_Floor_dc) (f:=12) (an:=R_Floor_an) trivial fun fu x=>by kernel_rfl
def R_Mod_r (fu:Nat) (a:Int×Int×Unit):Option (Int×Unit) :=
 bindO (R_Floor_r fu ((a.1,(a.2.1,())))) fun v0 =>
 let v1:Int:=(IntKind.i64.wrap (a.1-(IntKind.i64.wrap (a.2.1*v0.1))))
 some ((v1,()))
def R_Mod_an:An:=(.n none .z (.n none .z .z))
noncomputable def R_Mod_dc:List (Nat×Ctr):=[(14,R_Floor_ctr)]
def R_Mod_ctr:Ctr:=⟨(.pair (.int .i64) (.pair (.int .i64) .unit)),(.pair (.int .i64) .unit),R_Mod_r,5⟩
theorem R_Mod_ok:CtrOk Try.prog 5 R_Mod_ctr:=ctr_ok (l:=R_Mod_dc) (f:=12) (an:=R_Mod_an) ⟨R_Floor_ok,trivial⟩ fun fu x=>by kernel_rfl
def R_Exp_j2 (fu:Nat) (v2:Int×Int×Int) (j2:(Int×Int×Int)→Option (Int×Unit)) (v3:Int×Int):Option (Int×Unit) :=
 bindO (R_Times_r fu ((v3.1,(v3.1,())))) fun v4 =>
 let v5:Int:=v4.1
 let v6:Int:=(IntKind.i64.wrap (Int.tdiv v2.2.2 (2:Int)))
 j2 ((v3.2,(v5,v6)))
def R_Exp_l1 (fu:Nat) (j2:(Int×Int×Int)→Option (Int×Unit)) (v2:Int×Int×Int):Option (Int×Unit) :=
 bif (decide ((0:Int)<v2.2.2)) then
  joinF (R_Exp_j2 fu v2 j2) fun j3 =>
  bif (decide ((Int.tmod v2.2.2 (2:Int))=(1:Int))) then
   bindO (R_Times_r fu ((v2.1,(v2.2.1,())))) fun v4 =>
   let v5:Int:=v4.1
   j3 ((v2.2.1,v5))
  else
  j3 ((v2.2.1,v2.1))
 else
 let v3:Int:=v2.1
 some ((v3,()))
def R_Exp_r (fu:Nat) (a:Int×Unit):Option (Int×Unit) :=
 bindO (R_Mod_r fu ((a.1,((255:Int),())))) fun v0 =>
 let v1:Int:=v0.1
 loopF (R_Exp_l1 fu) fu (((1:Int),((2:Int),v1)))
def R_Exp_an:An:=(.n none .z (.n none .z (.n none (.n none .z (.n none (.n (some ⟨[2],[],[],[.reg 3 (.int .u8),.reg 4 (.int .u8),.reg 0 (.int .i64)],0,[]⟩) (.n none (.n none .z .z) (.n none (.n none (.n (some ⟨[0],[],[],[.reg 4 (.int .u8),.reg 3 (.int .u8)],0,[]⟩) (.n none .z (.n none .z .z)) .z) .z) .z)) .z) .z)) (.n none .z .z))))
noncomputable def R_Exp_dc:List (Nat×Ctr):=[(5,R_Mod_ctr),(26,R_Times_ctr)]
def R_Exp_ctr:Ctr:=⟨(.pair (.int .i64) .unit),(.pair (.int .u8) .unit),R_Exp_r,24⟩
theorem R_Exp_ok:CtrOk Try.prog 24 R_Exp_ctr:=ctr_ok (l:=R_Exp_dc) (f:=12) (an:=R_Exp_an) ⟨R_Mod_ok,⟨R_Times_ok,trivial⟩⟩ fun fu x=>by kernel_rfl
def R_Syndromes_l2 (fu:Nat) (a:List Int×Int×Unit) (v0:Int×List Int) (v1:Int) (j0:(Int×List Int)→Option (List Int×Unit)) (j2:(Int×List Int)→Option (List Int×Unit)) (v2:Int×List Int):Option (List Int×Unit) :=
 bif (decide (v2.1<(List.length a.1:Int))) then
  bif ((decide ((0:Int)≤v2.1))&&(decide (v2.1<(List.length a.1:Int)))) then
  let v3:Int:=(List.getD a.1 (Int.toNat v2.1) 0)
  let v4:Int:=v2.1
  bif ((decide ((0:Int)≤v1))&&(decide (v1<(List.length v2.2:Int)))) then
  bindO (R_Exp_r fu (((IntKind.i64.wrap (v1*(IntKind.i64.wrap ((IntKind.i64.wrap ((List.length a.1:Int)-(1:Int)))-v4)))),()))) fun v5 =>
  bindO (R_Times_r fu ((v3,(v5.1,())))) fun v6 =>
  bif ((decide ((0:Int)≤v1))&&(decide (v1<(List.length v2.2:Int)))) then
  j2 (((IntKind.i64.wrap (v2.1+(1:Int))),(List.set v2.2 (Int.toNat v1) (bits BinOp.xor IntKind.u8 (List.getD v2.2 (Int.toNat v1) 0) v6.1))))
  else none
  else none
  else none
 else
 j0 (((IntKind.i64.wrap (v0.1+(1:Int))),v2.2))
def R_Syndromes_l1 (fu:Nat) (a:List Int×Int×Unit) (j0:(Int×List Int)→Option (List Int×Unit)) (v0:Int×List Int):Option (List Int×Unit) :=
 bif (decide (v0.1<(List.length (List.replicate (Int.toNat a.2.1) (0:Int)):Int))) then
  let v1:Int:=v0.1
  loopF (R_Syndromes_l2 fu a v0 v1 j0) fu (((0:Int),v0.2))
 else
 some ((v0.2,()))
def R_Syndromes_r (fu:Nat) (a:List Int×Int×Unit):Option (List Int×Unit) :=
 bif ((decide ((0:Int)≤a.2.1))&&(decide (((1:Int)*a.2.1)≤(281474976710656:Int)))) then
 loopF (R_Syndromes_l1 fu a) fu (((0:Int),(List.replicate (Int.toNat a.2.1) (0:Int))))
 else none
def R_Syndromes_an:An:=(.n none .z (.n none .z (.n none (.n none .z (.n none (.n (some ⟨[5,0,12,4],[],[],[.reg 13 (.int .i64),.row 0 true (.int .u8) 5 0],0,[]⟩) (.n none .z (.n none .z (.n none (.n none (.n none .z (.n none .z (.n none (.n (some ⟨[13,16,6,17],[],[],[.reg 18 (.int .i64),.row 0 true (.int .u8) 5 0],0,[]⟩) (.n none .z (.n none .z (.n none (.n none (.n none .z (.dr [] [])) .z) .z))) .z) .z))) .z) .z))) .z) .z)) (.n none .z .z))))
noncomputable def R_Syndromes_dc:List (Nat×Ctr):=[(24,R_Exp_ctr),(26,R_Times_ctr)]
def R_Syndromes_ctr:Ctr:=⟨(.pair (.list (.int .u8)) (.pair (.int .i64) .unit)),(.pair (.list (.int .u8)) .unit),R_Syndromes_r,23⟩
theorem R_Syndromes_ok:CtrOk Try.prog 23 R_Syndromes_ctr:=ctr_ok (l:=R_Syndromes_dc) (f:=12) (an:=R_Syndromes_an) ⟨R_Exp_ok,⟨R_Times_ok,trivial⟩⟩ fun fu x=>by kernel_rfl
def R_Corrected_j3 (fu:Nat) (j4:(Int×List (List Int)×List (Int×Int))→Option (List Int×Bool×Unit)) (v5:Int×List (List Int)×List (Int×Int)):Option (List Int×Bool×Unit) :=
 j4 (((IntKind.i64.wrap (v5.1+(1:Int))),v5.2))
def R_Corrected_l2 (fu:Nat) (a:List Int×Int×List Int×Unit) (v2:Int×List (List Int)×List (Int×Int)) (v3:Int) (j2:(Int×List (List Int)×List (Int×Int))→Option (List Int×Bool×Unit)) (j4:(Int×List (List Int)×List (Int×Int))→Option (List Int×Bool×Unit)) (v4:Int×List (List Int)×List (Int×Int)):Option (List Int×Bool×Unit) :=
 bif (decide (v4.1<(List.length a.2.2.1:Int))) then
  joinF (R_Corrected_j3 fu j4) fun j5 =>
  bif ((decide ((0:Int)≤v4.1))&&(decide (v4.1<(List.length a.2.2.1:Int)))) then
  let v6:Int:=(List.getD a.2.2.1 (Int.toNat v4.1) 0)
  bif ((decide ((0:Int)≤v3))&&(decide (v3<(List.length v4.2.2:Int)))) then
  bindO (R_Exp_r fu (((IntKind.i64.wrap (v3*(IntKind.i64.wrap ((IntKind.i64.wrap ((List.length a.1:Int)-(1:Int)))-v6)))),()))) fun v7 =>
  bif ((decide ((0:Int)≤(List.getD v4.2.2 (Int.toNat v3) (-1,0)).1))&&(decide ((List.getD v4.2.2 (Int.toNat v3) (-1,0)).1<(4294967296:Int)))) then
   bif ((((decide ((0:Int)≤(List.getD v4.2.2 (Int.toNat v3) (-1,0)).1))&&((decide ((List.getD v4.2.2 (Int.toNat v3) (-1,0)).1<(4294967296:Int)))&&(decide ((List.getD v4.2.2 (Int.toNat v3) (-1,0)).2=(List.length (List.getD v4.2.1 (Int.toNat (List.getD v4.2.2 (Int.toNat v3) (-1,0)).1) []):Int)))))&&(decide ((List.getD v4.2.2 (Int.toNat v3) (-1,0)).1<(List.length v4.2.1:Int))))&&(decide ((((List.length (List.getD v4.2.1 (Int.toNat (List.getD v4.2.2 (Int.toNat v3) (-1,0)).1) []):Int)+(List.length ([v7.1]:List Int):Int))*(1:Int))≤(140737488355328:Int)))) then
   let v8:List (List Int):=(List.set v4.2.1 (Int.toNat (List.getD v4.2.2 (Int.toNat v3) (-1,0)).1) ((List.getD v4.2.1 (Int.toNat (List.getD v4.2.2 (Int.toNat v3) (-1,0)).1) [])++([v7.1]:List Int)))
   bif ((decide ((0:Int)≤v3))&&(decide (v3<(List.length v4.2.2:Int)))) then
   j5 ((v4.1,(v8,(List.set v4.2.2 (Int.toNat v3) ((List.getD v4.2.2 (Int.toNat v3) (-1,0)).1,((List.getD v4.2.2 (Int.toNat v3) (-1,0)).2+(List.length ([v7.1]:List Int):Int)))))))
   else none
   else none
  else
  bif (decide (((List.length ([v7.1]:List Int):Int)*(1:Int))≤(140737488355328:Int))) then
  let v8:List (List Int):=v4.2.1
  bif ((decide ((0:Int)≤v3))&&(decide (v3<(List.length v4.2.2:Int)))) then
  bif ((decide ((0:Int)<(List.length ([v7.1]:List Int):Int)))&&(decide ((List.length v8:Int)<(4294967296:Int)))) then
  let v9:List (List Int):=(v8++([([v7.1]:List Int)]:List (List Int)))
  j5 ((v4.1,(v9,(List.set v4.2.2 (Int.toNat v3) ((List.length v8:Int),(List.length ([v7.1]:List Int):Int))))))
  else none
  else none
  else none
  else none
  else none
 else
 j2 (((IntKind.i64.wrap (v2.1+(1:Int))),v4.2))
def R_Corrected_l5 (fu:Nat) (a:List Int×Int×List Int×Unit) (v3:Bool×List (List Int)×List Int) (j5:(Int×List Int)→Option (List Int×Bool×Unit)) (v5:Int×List Int):Option (List Int×Bool×Unit) :=
 bif (decide (v5.1<(List.length a.2.2.1:Int))) then
  bif ((decide ((0:Int)≤v5.1))&&(decide (v5.1<(List.length a.2.2.1:Int)))) then
  let v6:Int:=(List.getD a.2.2.1 (Int.toNat v5.1) 0)
  let v7:Int:=v5.1
  bif ((decide ((0:Int)≤v6))&&(decide (v6<(List.length v5.2:Int)))) then
  bif ((decide ((0:Int)≤v7))&&(decide (v7<(List.length v3.2.2:Int)))) then
  bif ((decide ((0:Int)≤v6))&&(decide (v6<(List.length v5.2:Int)))) then
  j5 (((IntKind.i64.wrap (v5.1+(1:Int))),(List.set v5.2 (Int.toNat v6) (bits BinOp.xor IntKind.u8 (List.getD v5.2 (Int.toNat v6) 0) (List.getD v3.2.2 (Int.toNat v7) 0)))))
  else none
  else none
  else none
  else none
 else
 some ((v5.2,(true,())))
def R_Corrected_j4 (fu:Nat) (a:List Int×Int×List Int×Unit) (v3:Bool×List (List Int)×List Int):Option (List Int×Bool×Unit) :=
 bif (!v3.1) then
  some ((([]:List (Int)),(false,())))
 else
 let v4:List (List Int):=v3.2.1
 bif (decide ((((List.length ([]:List (Int)):Int)+(List.length a.1:Int))*(1:Int))≤(140737488355328:Int))) then
 loopF (R_Corrected_l5 fu a v3) fu (((0:Int),(([]:List (Int))++a.1)))
 else none
def R_Corrected_j12 (fu:Nat) (j13:(Int×List (List Int))→Option (List Int×Bool×Unit)) (v14:Int×List (List Int)):Option (List Int×Bool×Unit) :=
 j13 (((IntKind.i64.wrap (v14.1+(1:Int))),v14.2))
def R_Corrected_l14 (fu:Nat) (v5:Int×List (List Int)×List (Int×Int)) (v6:Int) (v7:Int) (v13:Int×List (List Int)) (v15:Int) (v16:Int) (v17:Bool×List (List Int)) (j14:(Int×List (List Int))→Option (List Int×Bool×Unit)) (j18:(Int×List (List Int))→Option (List Int×Bool×Unit)) (v18:Int×List (List Int)):Option (List Int×Bool×Unit) :=
 bif (decide (v18.1<(List.length (List.getD v17.2 (Int.toNat (List.getD (List.set (List.set v5.2.2 (Int.toNat v6) (List.getD v5.2.2 (Int.toNat v7) (-1,0))) (Int.toNat v7) (List.getD v5.2.2 (Int.toNat v6) (-1,0))) (Int.toNat v15) (-1,0)).1) []):Int))) then
  let v19:Int:=v18.1
  bif ((decide ((0:Int)≤v15))&&(decide (v15<(List.length (List.set (List.set v5.2.2 (Int.toNat v6) (List.getD v5.2.2 (Int.toNat v7) (-1,0))) (Int.toNat v7) (List.getD v5.2.2 (Int.toNat v6) (-1,0))):Int)))) then
  bif (((decide ((0:Int)≤(List.getD (List.set (List.set v5.2.2 (Int.toNat v6) (List.getD v5.2.2 (Int.toNat v7) (-1,0))) (Int.toNat v7) (List.getD v5.2.2 (Int.toNat v6) (-1,0))) (Int.toNat v15) (-1,0)).1))&&((decide ((List.getD (List.set (List.set v5.2.2 (Int.toNat v6) (List.getD v5.2.2 (Int.toNat v7) (-1,0))) (Int.toNat v7) (List.getD v5.2.2 (Int.toNat v6) (-1,0))) (Int.toNat v15) (-1,0)).1<(4294967296:Int)))&&(decide ((List.getD (List.set (List.set v5.2.2 (Int.toNat v6) (List.getD v5.2.2 (Int.toNat v7) (-1,0))) (Int.toNat v7) (List.getD v5.2.2 (Int.toNat v6) (-1,0))) (Int.toNat v15) (-1,0)).2=(List.length (List.getD v18.2 (Int.toNat (List.getD (List.set (List.set v5.2.2 (Int.toNat v6) (List.getD v5.2.2 (Int.toNat v7) (-1,0))) (Int.toNat v7) (List.getD v5.2.2 (Int.toNat v6) (-1,0))) (Int.toNat v15) (-1,0)).1) []):Int)))))&&((decide ((0:Int)≤v19))&&(decide (v19<(List.length (List.getD v18.2 (Int.toNat (List.getD (List.set (List.set v5.2.2 (Int.toNat v6) (List.getD v5.2.2 (Int.toNat v7) (-1,0))) (Int.toNat v7) (List.getD v5.2.2 (Int.toNat v6) (-1,0))) (Int.toNat v15) (-1,0)).1) []):Int))))) then
  bif ((decide ((0:Int)≤(List.getD (List.set (List.set v5.2.2 (Int.toNat v6) (List.getD v5.2.2 (Int.toNat v7) (-1,0))) (Int.toNat v7) (List.getD v5.2.2 (Int.toNat v6) (-1,0))) (Int.toNat v15) (-1,0)).1))&&((decide ((List.getD (List.set (List.set v5.2.2 (Int.toNat v6) (List.getD v5.2.2 (Int.toNat v7) (-1,0))) (Int.toNat v7) (List.getD v5.2.2 (Int.toNat v6) (-1,0))) (Int.toNat v15) (-1,0)).1<(4294967296:Int)))&&(decide ((List.getD (List.set (List.set v5.2.2 (Int.toNat v6) (List.getD v5.2.2 (Int.toNat v7) (-1,0))) (Int.toNat v7) (List.getD v5.2.2 (Int.toNat v6) (-1,0))) (Int.toNat v15) (-1,0)).2=(List.length (List.getD v18.2 (Int.toNat (List.getD (List.set (List.set v5.2.2 (Int.toNat v6) (List.getD v5.2.2 (Int.toNat v7) (-1,0))) (Int.toNat v7) (List.getD v5.2.2 (Int.toNat v6) (-1,0))) (Int.toNat v15) (-1,0)).1) []):Int))))) then
  bif ((decide ((0:Int)≤v6))&&(decide (v6<(List.length (List.set (List.set v5.2.2 (Int.toNat v6) (List.getD v5.2.2 (Int.toNat v7) (-1,0))) (Int.toNat v7) (List.getD v5.2.2 (Int.toNat v6) (-1,0))):Int)))) then
  bif (((decide ((0:Int)≤(List.getD (List.set (List.set v5.2.2 (Int.toNat v6) (List.getD v5.2.2 (Int.toNat v7) (-1,0))) (Int.toNat v7) (List.getD v5.2.2 (Int.toNat v6) (-1,0))) (Int.toNat v6) (-1,0)).1))&&((decide ((List.getD (List.set (List.set v5.2.2 (Int.toNat v6) (List.getD v5.2.2 (Int.toNat v7) (-1,0))) (Int.toNat v7) (List.getD v5.2.2 (Int.toNat v6) (-1,0))) (Int.toNat v6) (-1,0)).1<(4294967296:Int)))&&(decide ((List.getD (List.set (List.set v5.2.2 (Int.toNat v6) (List.getD v5.2.2 (Int.toNat v7) (-1,0))) (Int.toNat v7) (List.getD v5.2.2 (Int.toNat v6) (-1,0))) (Int.toNat v6) (-1,0)).2=(List.length (List.getD v18.2 (Int.toNat (List.getD (List.set (List.set v5.2.2 (Int.toNat v6) (List.getD v5.2.2 (Int.toNat v7) (-1,0))) (Int.toNat v7) (List.getD v5.2.2 (Int.toNat v6) (-1,0))) (Int.toNat v6) (-1,0)).1) []):Int)))))&&((decide ((0:Int)≤v19))&&(decide (v19<(List.length (List.getD v18.2 (Int.toNat (List.getD (List.set (List.set v5.2.2 (Int.toNat v6) (List.getD v5.2.2 (Int.toNat v7) (-1,0))) (Int.toNat v7) (List.getD v5.2.2 (Int.toNat v6) (-1,0))) (Int.toNat v6) (-1,0)).1) []):Int))))) then
  bif ((decide ((0:Int)≤(List.getD (List.set (List.set v5.2.2 (Int.toNat v6) (List.getD v5.2.2 (Int.toNat v7) (-1,0))) (Int.toNat v7) (List.getD v5.2.2 (Int.toNat v6) (-1,0))) (Int.toNat v6) (-1,0)).1))&&((decide ((List.getD (List.set (List.set v5.2.2 (Int.toNat v6) (List.getD v5.2.2 (Int.toNat v7) (-1,0))) (Int.toNat v7) (List.getD v5.2.2 (Int.toNat v6) (-1,0))) (Int.toNat v6) (-1,0)).1<(4294967296:Int)))&&(decide ((List.getD (List.set (List.set v5.2.2 (Int.toNat v6) (List.getD v5.2.2 (Int.toNat v7) (-1,0))) (Int.toNat v7) (List.getD v5.2.2 (Int.toNat v6) (-1,0))) (Int.toNat v6) (-1,0)).2=(List.length (List.getD v18.2 (Int.toNat (List.getD (List.set (List.set v5.2.2 (Int.toNat v6) (List.getD v5.2.2 (Int.toNat v7) (-1,0))) (Int.toNat v7) (List.getD v5.2.2 (Int.toNat v6) (-1,0))) (Int.toNat v6) (-1,0)).1) []):Int))))) then
  bindO (R_Times_r fu ((v16,((List.getD (List.getD v18.2 (Int.toNat (List.getD (List.set (List.set v5.2.2 (Int.toNat v6) (List.getD v5.2.2 (Int.toNat v7) (-1,0))) (Int.toNat v7) (List.getD v5.2.2 (Int.toNat v6) (-1,0))) (Int.toNat v6) (-1,0)).1) []) (Int.toNat v19) 0),())))) fun v20 =>
  bif (((decide ((0:Int)≤(List.getD (List.set (List.set v5.2.2 (Int.toNat v6) (List.getD v5.2.2 (Int.toNat v7) (-1,0))) (Int.toNat v7) (List.getD v5.2.2 (Int.toNat v6) (-1,0))) (Int.toNat v15) (-1,0)).1))&&((decide ((List.getD (List.set (List.set v5.2.2 (Int.toNat v6) (List.getD v5.2.2 (Int.toNat v7) (-1,0))) (Int.toNat v7) (List.getD v5.2.2 (Int.toNat v6) (-1,0))) (Int.toNat v15) (-1,0)).1<(4294967296:Int)))&&(decide ((List.getD (List.set (List.set v5.2.2 (Int.toNat v6) (List.getD v5.2.2 (Int.toNat v7) (-1,0))) (Int.toNat v7) (List.getD v5.2.2 (Int.toNat v6) (-1,0))) (Int.toNat v15) (-1,0)).2=(List.length (List.getD v18.2 (Int.toNat (List.getD (List.set (List.set v5.2.2 (Int.toNat v6) (List.getD v5.2.2 (Int.toNat v7) (-1,0))) (Int.toNat v7) (List.getD v5.2.2 (Int.toNat v6) (-1,0))) (Int.toNat v15) (-1,0)).1) []):Int)))))&&((decide ((0:Int)≤v19))&&(decide (v19<(List.length (List.getD v18.2 (Int.toNat (List.getD (List.set (List.set v5.2.2 (Int.toNat v6) (List.getD v5.2.2 (Int.toNat v7) (-1,0))) (Int.toNat v7) (List.getD v5.2.2 (Int.toNat v6) (-1,0))) (Int.toNat v15) (-1,0)).1) []):Int))))) then
  bif ((decide ((0:Int)≤(List.getD (List.set (List.set v5.2.2 (Int.toNat v6) (List.getD v5.2.2 (Int.toNat v7) (-1,0))) (Int.toNat v7) (List.getD v5.2.2 (Int.toNat v6) (-1,0))) (Int.toNat v15) (-1,0)).1))&&((decide ((List.getD (List.set (List.set v5.2.2 (Int.toNat v6) (List.getD v5.2.2 (Int.toNat v7) (-1,0))) (Int.toNat v7) (List.getD v5.2.2 (Int.toNat v6) (-1,0))) (Int.toNat v15) (-1,0)).1<(4294967296:Int)))&&(decide ((List.getD (List.set (List.set v5.2.2 (Int.toNat v6) (List.getD v5.2.2 (Int.toNat v7) (-1,0))) (Int.toNat v7) (List.getD v5.2.2 (Int.toNat v6) (-1,0))) (Int.toNat v15) (-1,0)).2=(List.length (List.getD v18.2 (Int.toNat (List.getD (List.set (List.set v5.2.2 (Int.toNat v6) (List.getD v5.2.2 (Int.toNat v7) (-1,0))) (Int.toNat v7) (List.getD v5.2.2 (Int.toNat v6) (-1,0))) (Int.toNat v15) (-1,0)).1) []):Int))))) then
  let v21:List (List Int):=(List.set v18.2 (Int.toNat (List.getD (List.set (List.set v5.2.2 (Int.toNat v6) (List.getD v5.2.2 (Int.toNat v7) (-1,0))) (Int.toNat v7) (List.getD v5.2.2 (Int.toNat v6) (-1,0))) (Int.toNat v15) (-1,0)).1) (List.set (List.getD v18.2 (Int.toNat (List.getD (List.set (List.set v5.2.2 (Int.toNat v6) (List.getD v5.2.2 (Int.toNat v7) (-1,0))) (Int.toNat v7) (List.getD v5.2.2 (Int.toNat v6) (-1,0))) (Int.toNat v15) (-1,0)).1) []) (Int.toNat v19) (bits BinOp.xor IntKind.u8 (List.getD (List.getD v18.2 (Int.toNat (List.getD (List.set (List.set v5.2.2 (Int.toNat v6) (List.getD v5.2.2 (Int.toNat v7) (-1,0))) (Int.toNat v7) (List.getD v5.2.2 (Int.toNat v6) (-1,0))) (Int.toNat v15) (-1,0)).1) []) (Int.toNat v19) 0) v20.1)))
  j18 (((IntKind.i64.wrap (v18.1+(1:Int))),v21))
  else none
  else none
  else none
  else none
  else none
  else none
  else none
  else none
 else
 j14 ((v13.1,v18.2))
def R_Corrected_j13 (fu:Nat) (v5:Int×List (List Int)×List (Int×Int)) (v6:Int) (v7:Int) (v13:Int×List (List Int)) (v15:Int) (v16:Int) (j14:(Int×List (List Int))→Option (List Int×Bool×Unit)) (v17:Bool×List (List Int)):Option (List Int×Bool×Unit) :=
 bif v17.1 then
  bif ((decide ((0:Int)≤v15))&&(decide (v15<(List.length (List.set (List.set v5.2.2 (Int.toNat v6) (List.getD v5.2.2 (Int.toNat v7) (-1,0))) (Int.toNat v7) (List.getD v5.2.2 (Int.toNat v6) (-1,0))):Int)))) then
  bif ((decide ((0:Int)≤(List.getD (List.set (List.set v5.2.2 (Int.toNat v6) (List.getD v5.2.2 (Int.toNat v7) (-1,0))) (Int.toNat v7) (List.getD v5.2.2 (Int.toNat v6) (-1,0))) (Int.toNat v15) (-1,0)).1))&&((decide ((List.getD (List.set (List.set v5.2.2 (Int.toNat v6) (List.getD v5.2.2 (Int.toNat v7) (-1,0))) (Int.toNat v7) (List.getD v5.2.2 (Int.toNat v6) (-1,0))) (Int.toNat v15) (-1,0)).1<(4294967296:Int)))&&(decide ((List.getD (List.set (List.set v5.2.2 (Int.toNat v6) (List.getD v5.2.2 (Int.toNat v7) (-1,0))) (Int.toNat v7) (List.getD v5.2.2 (Int.toNat v6) (-1,0))) (Int.toNat v15) (-1,0)).2=(List.length (List.getD v17.2 (Int.toNat (List.getD (List.set (List.set v5.2.2 (Int.toNat v6) (List.getD v5.2.2 (Int.toNat v7) (-1,0))) (Int.toNat v7) (List.getD v5.2.2 (Int.toNat v6) (-1,0))) (Int.toNat v15) (-1,0)).1) []):Int))))) then
  loopF (R_Corrected_l14 fu v5 v6 v7 v13 v15 v16 v17 j14) fu (((0:Int),v17.2))
  else none
  else none
 else
 j14 ((v13.1,v17.2))
def R_Corrected_l11 (fu:Nat) (v5:Int×List (List Int)×List (Int×Int)) (v6:Int) (v7:Int) (j5:(Int×List (List Int)×List (Int×Int))→Option (List Int×Bool×Unit)) (j13:(Int×List (List Int))→Option (List Int×Bool×Unit)) (v13:Int×List (List Int)):Option (List Int×Bool×Unit) :=
 bif (decide (v13.1<(List.length (List.set (List.set v5.2.2 (Int.toNat v6) (List.getD v5.2.2 (Int.toNat v7) (-1,0))) (Int.toNat v7) (List.getD v5.2.2 (Int.toNat v6) (-1,0))):Int))) then
  joinF (R_Corrected_j12 fu j13) fun j14 =>
  let v15:Int:=v13.1
  bif ((decide ((0:Int)≤v15))&&(decide (v15<(List.length (List.set (List.set v5.2.2 (Int.toNat v6) (List.getD v5.2.2 (Int.toNat v7) (-1,0))) (Int.toNat v7) (List.getD v5.2.2 (Int.toNat v6) (-1,0))):Int)))) then
  bif (((decide ((0:Int)≤(List.getD (List.set (List.set v5.2.2 (Int.toNat v6) (List.getD v5.2.2 (Int.toNat v7) (-1,0))) (Int.toNat v7) (List.getD v5.2.2 (Int.toNat v6) (-1,0))) (Int.toNat v15) (-1,0)).1))&&((decide ((List.getD (List.set (List.set v5.2.2 (Int.toNat v6) (List.getD v5.2.2 (Int.toNat v7) (-1,0))) (Int.toNat v7) (List.getD v5.2.2 (Int.toNat v6) (-1,0))) (Int.toNat v15) (-1,0)).1<(4294967296:Int)))&&(decide ((List.getD (List.set (List.set v5.2.2 (Int.toNat v6) (List.getD v5.2.2 (Int.toNat v7) (-1,0))) (Int.toNat v7) (List.getD v5.2.2 (Int.toNat v6) (-1,0))) (Int.toNat v15) (-1,0)).2=(List.length (List.getD v13.2 (Int.toNat (List.getD (List.set (List.set v5.2.2 (Int.toNat v6) (List.getD v5.2.2 (Int.toNat v7) (-1,0))) (Int.toNat v7) (List.getD v5.2.2 (Int.toNat v6) (-1,0))) (Int.toNat v15) (-1,0)).1) []):Int)))))&&((decide ((0:Int)≤v6))&&(decide (v6<(List.length (List.getD v13.2 (Int.toNat (List.getD (List.set (List.set v5.2.2 (Int.toNat v6) (List.getD v5.2.2 (Int.toNat v7) (-1,0))) (Int.toNat v7) (List.getD v5.2.2 (Int.toNat v6) (-1,0))) (Int.toNat v15) (-1,0)).1) []):Int))))) then
  bif ((decide ((0:Int)≤(List.getD (List.set (List.set v5.2.2 (Int.toNat v6) (List.getD v5.2.2 (Int.toNat v7) (-1,0))) (Int.toNat v7) (List.getD v5.2.2 (Int.toNat v6) (-1,0))) (Int.toNat v15) (-1,0)).1))&&((decide ((List.getD (List.set (List.set v5.2.2 (Int.toNat v6) (List.getD v5.2.2 (Int.toNat v7) (-1,0))) (Int.toNat v7) (List.getD v5.2.2 (Int.toNat v6) (-1,0))) (Int.toNat v15) (-1,0)).1<(4294967296:Int)))&&(decide ((List.getD (List.set (List.set v5.2.2 (Int.toNat v6) (List.getD v5.2.2 (Int.toNat v7) (-1,0))) (Int.toNat v7) (List.getD v5.2.2 (Int.toNat v6) (-1,0))) (Int.toNat v15) (-1,0)).2=(List.length (List.getD v13.2 (Int.toNat (List.getD (List.set (List.set v5.2.2 (Int.toNat v6) (List.getD v5.2.2 (Int.toNat v7) (-1,0))) (Int.toNat v7) (List.getD v5.2.2 (Int.toNat v6) (-1,0))) (Int.toNat v15) (-1,0)).1) []):Int))))) then
  let v16:Int:=(List.getD (List.getD v13.2 (Int.toNat (List.getD (List.set (List.set v5.2.2 (Int.toNat v6) (List.getD v5.2.2 (Int.toNat v7) (-1,0))) (Int.toNat v7) (List.getD v5.2.2 (Int.toNat v6) (-1,0))) (Int.toNat v15) (-1,0)).1) []) (Int.toNat v6) 0)
  joinF (R_Corrected_j13 fu v5 v6 v7 v13 v15 v16 j14) fun j17 =>
  bif (decide (v15≠v6)) then
   j17 (((decide (v16≠(0:Int))),v13.2))
  else
  j17 ((false,v13.2))
  else none
  else none
  else none
 else
 j5 (((IntKind.i64.wrap (v5.1+(1:Int))),(v13.2,(List.set (List.set v5.2.2 (Int.toNat v6) (List.getD v5.2.2 (Int.toNat v7) (-1,0))) (Int.toNat v7) (List.getD v5.2.2 (Int.toNat v6) (-1,0))))))
def R_Corrected_l10 (fu:Nat) (v5:Int×List (List Int)×List (Int×Int)) (v6:Int) (v7:Int) (v9:List (List Int)) (v11:Int) (j5:(Int×List (List Int)×List (Int×Int))→Option (List Int×Bool×Unit)) (j12:(Int×List (List Int))→Option (List Int×Bool×Unit)) (v12:Int×List (List Int)):Option (List Int×Bool×Unit) :=
 bif (decide (v12.1<(List.length (List.getD v9 (Int.toNat (List.getD (List.set (List.set v5.2.2 (Int.toNat v6) (List.getD v5.2.2 (Int.toNat v7) (-1,0))) (Int.toNat v7) (List.getD v5.2.2 (Int.toNat v6) (-1,0))) (Int.toNat v6) (-1,0)).1) []):Int))) then
  let v13:Int:=v12.1
  bif ((decide ((0:Int)≤v6))&&(decide (v6<(List.length (List.set (List.set v5.2.2 (Int.toNat v6) (List.getD v5.2.2 (Int.toNat v7) (-1,0))) (Int.toNat v7) (List.getD v5.2.2 (Int.toNat v6) (-1,0))):Int)))) then
  bif ((decide ((0:Int)≤v6))&&(decide (v6<(List.length (List.set (List.set v5.2.2 (Int.toNat v6) (List.getD v5.2.2 (Int.toNat v7) (-1,0))) (Int.toNat v7) (List.getD v5.2.2 (Int.toNat v6) (-1,0))):Int)))) then
  bif (((decide ((0:Int)≤(List.getD (List.set (List.set v5.2.2 (Int.toNat v6) (List.getD v5.2.2 (Int.toNat v7) (-1,0))) (Int.toNat v7) (List.getD v5.2.2 (Int.toNat v6) (-1,0))) (Int.toNat v6) (-1,0)).1))&&((decide ((List.getD (List.set (List.set v5.2.2 (Int.toNat v6) (List.getD v5.2.2 (Int.toNat v7) (-1,0))) (Int.toNat v7) (List.getD v5.2.2 (Int.toNat v6) (-1,0))) (Int.toNat v6) (-1,0)).1<(4294967296:Int)))&&(decide ((List.getD (List.set (List.set v5.2.2 (Int.toNat v6) (List.getD v5.2.2 (Int.toNat v7) (-1,0))) (Int.toNat v7) (List.getD v5.2.2 (Int.toNat v6) (-1,0))) (Int.toNat v6) (-1,0)).2=(List.length (List.getD v12.2 (Int.toNat (List.getD (List.set (List.set v5.2.2 (Int.toNat v6) (List.getD v5.2.2 (Int.toNat v7) (-1,0))) (Int.toNat v7) (List.getD v5.2.2 (Int.toNat v6) (-1,0))) (Int.toNat v6) (-1,0)).1) []):Int)))))&&((decide ((0:Int)≤v13))&&(decide (v13<(List.length (List.getD v12.2 (Int.toNat (List.getD (List.set (List.set v5.2.2 (Int.toNat v6) (List.getD v5.2.2 (Int.toNat v7) (-1,0))) (Int.toNat v7) (List.getD v5.2.2 (Int.toNat v6) (-1,0))) (Int.toNat v6) (-1,0)).1) []):Int))))) then
  bif ((decide ((0:Int)≤(List.getD (List.set (List.set v5.2.2 (Int.toNat v6) (List.getD v5.2.2 (Int.toNat v7) (-1,0))) (Int.toNat v7) (List.getD v5.2.2 (Int.toNat v6) (-1,0))) (Int.toNat v6) (-1,0)).1))&&((decide ((List.getD (List.set (List.set v5.2.2 (Int.toNat v6) (List.getD v5.2.2 (Int.toNat v7) (-1,0))) (Int.toNat v7) (List.getD v5.2.2 (Int.toNat v6) (-1,0))) (Int.toNat v6) (-1,0)).1<(4294967296:Int)))&&(decide ((List.getD (List.set (List.set v5.2.2 (Int.toNat v6) (List.getD v5.2.2 (Int.toNat v7) (-1,0))) (Int.toNat v7) (List.getD v5.2.2 (Int.toNat v6) (-1,0))) (Int.toNat v6) (-1,0)).2=(List.length (List.getD v12.2 (Int.toNat (List.getD (List.set (List.set v5.2.2 (Int.toNat v6) (List.getD v5.2.2 (Int.toNat v7) (-1,0))) (Int.toNat v7) (List.getD v5.2.2 (Int.toNat v6) (-1,0))) (Int.toNat v6) (-1,0)).1) []):Int))))) then
  bindO (R_Times_r fu (((List.getD (List.getD v12.2 (Int.toNat (List.getD (List.set (List.set v5.2.2 (Int.toNat v6) (List.getD v5.2.2 (Int.toNat v7) (-1,0))) (Int.toNat v7) (List.getD v5.2.2 (Int.toNat v6) (-1,0))) (Int.toNat v6) (-1,0)).1) []) (Int.toNat v13) 0),(v11,())))) fun v14 =>
  bif (((decide ((0:Int)≤(List.getD (List.set (List.set v5.2.2 (Int.toNat v6) (List.getD v5.2.2 (Int.toNat v7) (-1,0))) (Int.toNat v7) (List.getD v5.2.2 (Int.toNat v6) (-1,0))) (Int.toNat v6) (-1,0)).1))&&((decide ((List.getD (List.set (List.set v5.2.2 (Int.toNat v6) (List.getD v5.2.2 (Int.toNat v7) (-1,0))) (Int.toNat v7) (List.getD v5.2.2 (Int.toNat v6) (-1,0))) (Int.toNat v6) (-1,0)).1<(4294967296:Int)))&&(decide ((List.getD (List.set (List.set v5.2.2 (Int.toNat v6) (List.getD v5.2.2 (Int.toNat v7) (-1,0))) (Int.toNat v7) (List.getD v5.2.2 (Int.toNat v6) (-1,0))) (Int.toNat v6) (-1,0)).2=(List.length (List.getD v12.2 (Int.toNat (List.getD (List.set (List.set v5.2.2 (Int.toNat v6) (List.getD v5.2.2 (Int.toNat v7) (-1,0))) (Int.toNat v7) (List.getD v5.2.2 (Int.toNat v6) (-1,0))) (Int.toNat v6) (-1,0)).1) []):Int)))))&&((decide ((0:Int)≤v13))&&(decide (v13<(List.length (List.getD v12.2 (Int.toNat (List.getD (List.set (List.set v5.2.2 (Int.toNat v6) (List.getD v5.2.2 (Int.toNat v7) (-1,0))) (Int.toNat v7) (List.getD v5.2.2 (Int.toNat v6) (-1,0))) (Int.toNat v6) (-1,0)).1) []):Int))))) then
  bif ((decide ((0:Int)≤(List.getD (List.set (List.set v5.2.2 (Int.toNat v6) (List.getD v5.2.2 (Int.toNat v7) (-1,0))) (Int.toNat v7) (List.getD v5.2.2 (Int.toNat v6) (-1,0))) (Int.toNat v6) (-1,0)).1))&&((decide ((List.getD (List.set (List.set v5.2.2 (Int.toNat v6) (List.getD v5.2.2 (Int.toNat v7) (-1,0))) (Int.toNat v7) (List.getD v5.2.2 (Int.toNat v6) (-1,0))) (Int.toNat v6) (-1,0)).1<(4294967296:Int)))&&(decide ((List.getD (List.set (List.set v5.2.2 (Int.toNat v6) (List.getD v5.2.2 (Int.toNat v7) (-1,0))) (Int.toNat v7) (List.getD v5.2.2 (Int.toNat v6) (-1,0))) (Int.toNat v6) (-1,0)).2=(List.length (List.getD v12.2 (Int.toNat (List.getD (List.set (List.set v5.2.2 (Int.toNat v6) (List.getD v5.2.2 (Int.toNat v7) (-1,0))) (Int.toNat v7) (List.getD v5.2.2 (Int.toNat v6) (-1,0))) (Int.toNat v6) (-1,0)).1) []):Int))))) then
  let v15:List (List Int):=(List.set v12.2 (Int.toNat (List.getD (List.set (List.set v5.2.2 (Int.toNat v6) (List.getD v5.2.2 (Int.toNat v7) (-1,0))) (Int.toNat v7) (List.getD v5.2.2 (Int.toNat v6) (-1,0))) (Int.toNat v6) (-1,0)).1) (List.set (List.getD v12.2 (Int.toNat (List.getD (List.set (List.set v5.2.2 (Int.toNat v6) (List.getD v5.2.2 (Int.toNat v7) (-1,0))) (Int.toNat v7) (List.getD v5.2.2 (Int.toNat v6) (-1,0))) (Int.toNat v6) (-1,0)).1) []) (Int.toNat v13) v14.1))
  j12 (((IntKind.i64.wrap (v12.1+(1:Int))),v15))
  else none
  else none
  else none
  else none
  else none
  else none
 else
 loopF (R_Corrected_l11 fu v5 v6 v7 j5) fu (((0:Int),v12.2))
def R_Corrected_j9 (fu:Nat) (v5:Int×List (List Int)×List (Int×Int)) (v6:Int) (v7:Int) (j3:(Bool×List (List Int)×List Int)→Option (List Int×Bool×Unit)) (j5:(Int×List (List Int)×List (Int×Int))→Option (List Int×Bool×Unit)) (j7:(Int)→Option (List Int×Bool×Unit)) (v8:Bool):Option (List Int×Bool×Unit) :=
 bif v8 then
  let v9:Int:=(IntKind.i64.wrap (v7+(1:Int)))
  j7 (v9)
 else
 bif (decide (v7=(List.length v5.2.2:Int))) then
  j3 ((false,(v5.2.1,([]:List (Int)))))
 else
 bif ((decide ((0:Int)≤v7))&&(decide (v7<(List.length v5.2.2:Int)))) then
 bif ((decide ((0:Int)≤v6))&&(decide (v6<(List.length v5.2.2:Int)))) then
 bif ((decide ((0:Int)≤v6))&&(decide (v6<(List.length v5.2.2:Int)))) then
 bif ((decide ((0:Int)≤v7))&&(decide (v7<(List.length (List.set v5.2.2 (Int.toNat v6) (List.getD v5.2.2 (Int.toNat v7) (-1,0))):Int)))) then
 let v9:List (List Int):=v5.2.1
 bif ((decide ((0:Int)≤v6))&&(decide (v6<(List.length (List.set (List.set v5.2.2 (Int.toNat v6) (List.getD v5.2.2 (Int.toNat v7) (-1,0))) (Int.toNat v7) (List.getD v5.2.2 (Int.toNat v6) (-1,0))):Int)))) then
 bif (((decide ((0:Int)≤(List.getD (List.set (List.set v5.2.2 (Int.toNat v6) (List.getD v5.2.2 (Int.toNat v7) (-1,0))) (Int.toNat v7) (List.getD v5.2.2 (Int.toNat v6) (-1,0))) (Int.toNat v6) (-1,0)).1))&&((decide ((List.getD (List.set (List.set v5.2.2 (Int.toNat v6) (List.getD v5.2.2 (Int.toNat v7) (-1,0))) (Int.toNat v7) (List.getD v5.2.2 (Int.toNat v6) (-1,0))) (Int.toNat v6) (-1,0)).1<(4294967296:Int)))&&(decide ((List.getD (List.set (List.set v5.2.2 (Int.toNat v6) (List.getD v5.2.2 (Int.toNat v7) (-1,0))) (Int.toNat v7) (List.getD v5.2.2 (Int.toNat v6) (-1,0))) (Int.toNat v6) (-1,0)).2=(List.length (List.getD v9 (Int.toNat (List.getD (List.set (List.set v5.2.2 (Int.toNat v6) (List.getD v5.2.2 (Int.toNat v7) (-1,0))) (Int.toNat v7) (List.getD v5.2.2 (Int.toNat v6) (-1,0))) (Int.toNat v6) (-1,0)).1) []):Int)))))&&((decide ((0:Int)≤v6))&&(decide (v6<(List.length (List.getD v9 (Int.toNat (List.getD (List.set (List.set v5.2.2 (Int.toNat v6) (List.getD v5.2.2 (Int.toNat v7) (-1,0))) (Int.toNat v7) (List.getD v5.2.2 (Int.toNat v6) (-1,0))) (Int.toNat v6) (-1,0)).1) []):Int))))) then
 bif ((decide ((0:Int)≤(List.getD (List.set (List.set v5.2.2 (Int.toNat v6) (List.getD v5.2.2 (Int.toNat v7) (-1,0))) (Int.toNat v7) (List.getD v5.2.2 (Int.toNat v6) (-1,0))) (Int.toNat v6) (-1,0)).1))&&((decide ((List.getD (List.set (List.set v5.2.2 (Int.toNat v6) (List.getD v5.2.2 (Int.toNat v7) (-1,0))) (Int.toNat v7) (List.getD v5.2.2 (Int.toNat v6) (-1,0))) (Int.toNat v6) (-1,0)).1<(4294967296:Int)))&&(decide ((List.getD (List.set (List.set v5.2.2 (Int.toNat v6) (List.getD v5.2.2 (Int.toNat v7) (-1,0))) (Int.toNat v7) (List.getD v5.2.2 (Int.toNat v6) (-1,0))) (Int.toNat v6) (-1,0)).2=(List.length (List.getD v9 (Int.toNat (List.getD (List.set (List.set v5.2.2 (Int.toNat v6) (List.getD v5.2.2 (Int.toNat v7) (-1,0))) (Int.toNat v7) (List.getD v5.2.2 (Int.toNat v6) (-1,0))) (Int.toNat v6) (-1,0)).1) []):Int))))) then
 bindO (R_Inverse_r fu (((List.getD (List.getD v9 (Int.toNat (List.getD (List.set (List.set v5.2.2 (Int.toNat v6) (List.getD v5.2.2 (Int.toNat v7) (-1,0))) (Int.toNat v7) (List.getD v5.2.2 (Int.toNat v6) (-1,0))) (Int.toNat v6) (-1,0)).1) []) (Int.toNat v6) 0),()))) fun v10 =>
 let v11:Int:=v10.1
 bif ((decide ((0:Int)≤v6))&&(decide (v6<(List.length (List.set (List.set v5.2.2 (Int.toNat v6) (List.getD v5.2.2 (Int.toNat v7) (-1,0))) (Int.toNat v7) (List.getD v5.2.2 (Int.toNat v6) (-1,0))):Int)))) then
 bif ((decide ((0:Int)≤(List.getD (List.set (List.set v5.2.2 (Int.toNat v6) (List.getD v5.2.2 (Int.toNat v7) (-1,0))) (Int.toNat v7) (List.getD v5.2.2 (Int.toNat v6) (-1,0))) (Int.toNat v6) (-1,0)).1))&&((decide ((List.getD (List.set (List.set v5.2.2 (Int.toNat v6) (List.getD v5.2.2 (Int.toNat v7) (-1,0))) (Int.toNat v7) (List.getD v5.2.2 (Int.toNat v6) (-1,0))) (Int.toNat v6) (-1,0)).1<(4294967296:Int)))&&(decide ((List.getD (List.set (List.set v5.2.2 (Int.toNat v6) (List.getD v5.2.2 (Int.toNat v7) (-1,0))) (Int.toNat v7) (List.getD v5.2.2 (Int.toNat v6) (-1,0))) (Int.toNat v6) (-1,0)).2=(List.length (List.getD v9 (Int.toNat (List.getD (List.set (List.set v5.2.2 (Int.toNat v6) (List.getD v5.2.2 (Int.toNat v7) (-1,0))) (Int.toNat v7) (List.getD v5.2.2 (Int.toNat v6) (-1,0))) (Int.toNat v6) (-1,0)).1) []):Int))))) then
 loopF (R_Corrected_l10 fu v5 v6 v7 v9 v11 j5) fu (((0:Int),v9))
 else none
 else none
 else none
 else none
 else none
 else none
 else none
 else none
 else none
def R_Corrected_l8 (fu:Nat) (v5:Int×List (List Int)×List (Int×Int)) (v6:Int) (j3:(Bool×List (List Int)×List Int)→Option (List Int×Bool×Unit)) (j5:(Int×List (List Int)×List (Int×Int))→Option (List Int×Bool×Unit)) (j7:(Int)→Option (List Int×Bool×Unit)) (v7:Int):Option (List Int×Bool×Unit) :=
 joinF (R_Corrected_j9 fu v5 v6 v7 j3 j5 j7) fun j8 =>
 bif (decide (v7<(List.length v5.2.2:Int))) then
  bif ((decide ((0:Int)≤v7))&&(decide (v7<(List.length v5.2.2:Int)))) then
  bif (((decide ((0:Int)≤(List.getD v5.2.2 (Int.toNat v7) (-1,0)).1))&&((decide ((List.getD v5.2.2 (Int.toNat v7) (-1,0)).1<(4294967296:Int)))&&(decide ((List.getD v5.2.2 (Int.toNat v7) (-1,0)).2=(List.length (List.getD v5.2.1 (Int.toNat (List.getD v5.2.2 (Int.toNat v7) (-1,0)).1) []):Int)))))&&((decide ((0:Int)≤v6))&&(decide (v6<(List.length (List.getD v5.2.1 (Int.toNat (List.getD v5.2.2 (Int.toNat v7) (-1,0)).1) []):Int))))) then
  bif ((decide ((0:Int)≤(List.getD v5.2.2 (Int.toNat v7) (-1,0)).1))&&((decide ((List.getD v5.2.2 (Int.toNat v7) (-1,0)).1<(4294967296:Int)))&&(decide ((List.getD v5.2.2 (Int.toNat v7) (-1,0)).2=(List.length (List.getD v5.2.1 (Int.toNat (List.getD v5.2.2 (Int.toNat v7) (-1,0)).1) []):Int))))) then
  j8 ((decide ((List.getD (List.getD v5.2.1 (Int.toNat (List.getD v5.2.2 (Int.toNat v7) (-1,0)).1) []) (Int.toNat v6) 0)=(0:Int))))
  else none
  else none
  else none
 else
 j8 (false)
def R_Corrected_j16 (fu:Nat) (j7:(Int×List Int)→Option (List Int×Bool×Unit)) (v8:Int×List Int):Option (List Int×Bool×Unit) :=
 j7 (((IntKind.i64.wrap (v8.1+(1:Int))),v8.2))
def R_Corrected_l15 (fu:Nat) (a:List Int×Int×List Int×Unit) (v5:Int×List (List Int)×List (Int×Int)) (v6:List (List Int)) (j3:(Bool×List (List Int)×List Int)→Option (List Int×Bool×Unit)) (j7:(Int×List Int)→Option (List Int×Bool×Unit)) (v7:Int×List Int):Option (List Int×Bool×Unit) :=
 bif (decide (v7.1<(List.length v5.2.2:Int))) then
  joinF (R_Corrected_j16 fu j7) fun j8 =>
  let v9:Int:=v7.1
  bif (decide (v9<(List.length a.2.2.1:Int))) then
   bif ((decide ((0:Int)≤v9))&&(decide (v9<(List.length v5.2.2:Int)))) then
   bif (((decide ((0:Int)≤(List.getD v5.2.2 (Int.toNat v9) (-1,0)).1))&&((decide ((List.getD v5.2.2 (Int.toNat v9) (-1,0)).1<(4294967296:Int)))&&(decide ((List.getD v5.2.2 (Int.toNat v9) (-1,0)).2=(List.length (List.getD v6 (Int.toNat (List.getD v5.2.2 (Int.toNat v9) (-1,0)).1) []):Int)))))&&((decide ((0:Int)≤(List.length a.2.2.1:Int)))&&(decide ((List.length a.2.2.1:Int)<(List.length (List.getD v6 (Int.toNat (List.getD v5.2.2 (Int.toNat v9) (-1,0)).1) []):Int))))) then
   bif ((decide ((0:Int)≤(List.getD v5.2.2 (Int.toNat v9) (-1,0)).1))&&((decide ((List.getD v5.2.2 (Int.toNat v9) (-1,0)).1<(4294967296:Int)))&&(decide ((List.getD v5.2.2 (Int.toNat v9) (-1,0)).2=(List.length (List.getD v6 (Int.toNat (List.getD v5.2.2 (Int.toNat v9) (-1,0)).1) []):Int))))) then
   bif ((decide ((0:Int)≤v9))&&(decide (v9<(List.length v7.2:Int)))) then
   j8 ((v7.1,(List.set v7.2 (Int.toNat v9) (List.getD (List.getD v6 (Int.toNat (List.getD v5.2.2 (Int.toNat v9) (-1,0)).1) []) (Int.toNat (List.length a.2.2.1:Int)) 0))))
   else none
   else none
   else none
   else none
  else
  bif ((decide ((0:Int)≤v9))&&(decide (v9<(List.length v5.2.2:Int)))) then
  bif (((decide ((0:Int)≤(List.getD v5.2.2 (Int.toNat v9) (-1,0)).1))&&((decide ((List.getD v5.2.2 (Int.toNat v9) (-1,0)).1<(4294967296:Int)))&&(decide ((List.getD v5.2.2 (Int.toNat v9) (-1,0)).2=(List.length (List.getD v6 (Int.toNat (List.getD v5.2.2 (Int.toNat v9) (-1,0)).1) []):Int)))))&&((decide ((0:Int)≤(List.length a.2.2.1:Int)))&&(decide ((List.length a.2.2.1:Int)<(List.length (List.getD v6 (Int.toNat (List.getD v5.2.2 (Int.toNat v9) (-1,0)).1) []):Int))))) then
  bif ((decide ((0:Int)≤(List.getD v5.2.2 (Int.toNat v9) (-1,0)).1))&&((decide ((List.getD v5.2.2 (Int.toNat v9) (-1,0)).1<(4294967296:Int)))&&(decide ((List.getD v5.2.2 (Int.toNat v9) (-1,0)).2=(List.length (List.getD v6 (Int.toNat (List.getD v5.2.2 (Int.toNat v9) (-1,0)).1) []):Int))))) then
  bif (decide ((List.getD (List.getD v6 (Int.toNat (List.getD v5.2.2 (Int.toNat v9) (-1,0)).1) []) (Int.toNat (List.length a.2.2.1:Int)) 0)≠(0:Int))) then
   j3 ((false,(v6,([]:List (Int)))))
  else
  j8 (v7)
  else none
  else none
  else none
 else
 j3 ((true,(v6,v7.2)))
def R_Corrected_l7 (fu:Nat) (a:List Int×Int×List Int×Unit) (j3:(Bool×List (List Int)×List Int)→Option (List Int×Bool×Unit)) (j5:(Int×List (List Int)×List (Int×Int))→Option (List Int×Bool×Unit)) (v5:Int×List (List Int)×List (Int×Int)):Option (List Int×Bool×Unit) :=
 bif (decide (v5.1<(List.length a.2.2.1:Int))) then
  let v6:Int:=v5.1
  loopF (R_Corrected_l8 fu v5 v6 j3 j5) fu (v6)
 else
 bif ((decide ((0:Int)≤(List.length a.2.2.1:Int)))&&(decide (((1:Int)*(List.length a.2.2.1:Int))≤(281474976710656:Int)))) then
 let v6:List (List Int):=v5.2.1
 loopF (R_Corrected_l15 fu a v5 v6 j3) fu (((0:Int),(List.replicate (Int.toNat (List.length a.2.2.1:Int)) (0:Int))))
 else none
def R_Corrected_l6 (fu:Nat) (a:List Int×Int×List Int×Unit) (v1:List Int) (v2:Int×List (List Int)×List (Int×Int)) (j3:(Bool×List (List Int)×List Int)→Option (List Int×Bool×Unit)) (j4:(Int×List (List Int)×List (Int×Int))→Option (List Int×Bool×Unit)) (v4:Int×List (List Int)×List (Int×Int)):Option (List Int×Bool×Unit) :=
 bif (decide (v4.1<(List.length v2.2.2:Int))) then
  let v5:Int:=v4.1
  bif ((decide ((0:Int)≤v5))&&(decide (v5<(List.length v2.2.2:Int)))) then
  bif ((bif (decide ((0:Int)≤(List.getD v2.2.2 (Int.toNat v5) (-1,0)).1)) then ((decide ((List.getD v2.2.2 (Int.toNat v5) (-1,0)).1<(4294967296:Int)))&&(decide ((List.getD v2.2.2 (Int.toNat v5) (-1,0)).2=(List.length (List.getD v4.2.1 (Int.toNat (List.getD v2.2.2 (Int.toNat v5) (-1,0)).1) []):Int)))) else true)&&(decide ((((List.length ([]:List (Int)):Int)+(List.length (bif (decide ((0:Int)≤(List.getD v2.2.2 (Int.toNat v5) (-1,0)).1)) then (List.getD v4.2.1 (Int.toNat (List.getD v2.2.2 (Int.toNat v5) (-1,0)).1) []) else ([]:List (Int))):Int))*(1:Int))≤(140737488355328:Int)))) then
  bif ((decide ((0:Int)≤v5))&&(decide (v5<(List.length v1:Int)))) then
  let v6:Int:=(List.getD v1 (Int.toNat v5) 0)
  bif (decide ((((List.length (([]:List (Int))++(bif (decide ((0:Int)≤(List.getD v2.2.2 (Int.toNat v5) (-1,0)).1)) then (List.getD v4.2.1 (Int.toNat (List.getD v2.2.2 (Int.toNat v5) (-1,0)).1) []) else ([]:List (Int)))):Int)+(List.length ([v6]:List Int):Int))*(1:Int))≤(140737488355328:Int))) then
  bif ((decide ((0:Int)≤v5))&&(decide (v5<(List.length v4.2.2:Int)))) then
  bif ((decide ((0:Int)<(List.length ((([]:List (Int))++(bif (decide ((0:Int)≤(List.getD v2.2.2 (Int.toNat v5) (-1,0)).1)) then (List.getD v4.2.1 (Int.toNat (List.getD v2.2.2 (Int.toNat v5) (-1,0)).1) []) else ([]:List (Int))))++([v6]:List Int)):Int)))&&(decide ((List.length v4.2.1:Int)<(4294967296:Int)))) then
  let v7:List (List Int):=(v4.2.1++([((([]:List (Int))++(bif (decide ((0:Int)≤(List.getD v2.2.2 (Int.toNat v5) (-1,0)).1)) then (List.getD v4.2.1 (Int.toNat (List.getD v2.2.2 (Int.toNat v5) (-1,0)).1) []) else ([]:List (Int))))++([v6]:List Int))]:List (List Int)))
  j4 (((IntKind.i64.wrap (v4.1+(1:Int))),(v7,(List.set v4.2.2 (Int.toNat v5) ((List.length v4.2.1:Int),(List.length ((([]:List (Int))++(bif (decide ((0:Int)≤(List.getD v2.2.2 (Int.toNat v5) (-1,0)).1)) then (List.getD v4.2.1 (Int.toNat (List.getD v2.2.2 (Int.toNat v5) (-1,0)).1) []) else ([]:List (Int))))++([v6]:List Int)):Int))))))
  else none
  else none
  else none
  else none
  else none
  else none
 else
 loopF (R_Corrected_l7 fu a j3) fu (((0:Int),v4.2))
def R_Corrected_l1 (fu:Nat) (a:List Int×Int×List Int×Unit) (v1:List Int) (j2:(Int×List (List Int)×List (Int×Int))→Option (List Int×Bool×Unit)) (v2:Int×List (List Int)×List (Int×Int)):Option (List Int×Bool×Unit) :=
 bif (decide (v2.1<(List.length (List.replicate (Int.toNat a.2.1) ((-1:Int),(0:Int))):Int))) then
  let v3:Int:=v2.1
  loopF (R_Corrected_l2 fu a v2 v3 j2) fu (((0:Int),v2.2))
 else
 bif (decide (a.2.1<(List.length a.2.2.1:Int))) then
  some ((([]:List (Int)),(false,())))
 else
 joinF (R_Corrected_j4 fu a) fun j3 =>
 bif ((decide ((0:Int)≤(List.length v2.2.2:Int)))&&(decide (((24:Int)*(List.length v2.2.2:Int))≤(281474976710656:Int)))) then
 loopF (R_Corrected_l6 fu a v1 v2 j3) fu (((0:Int),(v2.2.1,(List.replicate (Int.toNat (List.length v2.2.2:Int)) ((-1:Int),(0:Int))))))
 else none
def R_Corrected_r (fu:Nat) (a:List Int×Int×List Int×Unit):Option (List Int×Bool×Unit) :=
 bindO (R_Syndromes_r fu ((a.1,(a.2.1,())))) fun v0 =>
 let v1:List Int:=v0.1
 bif ((decide ((0:Int)≤a.2.1))&&(decide (((24:Int)*a.2.1)≤(281474976710656:Int)))) then
 loopF (R_Corrected_l1 fu a v1) fu (((0:Int),(([]:List (List (Int))),(List.replicate (Int.toNat a.2.1) ((-1:Int),(0:Int))))))
 else none
def R_Corrected_an:An:=(.n (some ⟨[999999],[],[],[.arn (.int .u8) 5],0,[]⟩) (.n none .z (.n none .z (.n none (.ops [(1,(.dr [] []))]) (.n none (.n none .z (.n none (.n (some ⟨[2,0,8,9,1,24,6,7],[],[],[.reg 25 (.int .i64),.arn (.int .u8) 5,.row 1 true .aix 22 0],0,[]⟩) (.n none .z (.n none .z (.n none (.n none (.n none .z (.n none .z (.n none (.n (some ⟨[25,28,10,29],[],[],[.reg 30 (.int .i64),.arn (.int .u8) 5,.row 1 true .aix 22 0],0,[]⟩) (.n none .z (.n none .z (.n (some ⟨[],[],[],[.reg 30 (.int .i64),.arn (.int .u8) 5,.row 1 true .aix 22 0],0,[]⟩) (.n none (.n none .z (.dr [(888888,15),(16,0),(0,0),(1,0)] [(15,(.ops [(999998,.z)]))])) .z) .z))) .z) .z))) .z) .z))) .z) .z)) (.n none (.n none .z (.n none (.n none .z .z) .z)) (.n (some ⟨[0,2],[1],[(13,(.osl 2 0))],[.reg 14 .bool,.arn (.int .u8) 5,.row 2 true (.int .u8) 5 0],1,[(13,(.int .u8),5)]⟩) (.ops [(4,(.n none (.n none .z (.n none (.ops [(2,(.dr [] []))]) (.n none (.n none .z (.n none (.n (some ⟨[8,2,0,1,23,6,7],[],[],[.reg 24 (.int .i64),.arn (.int .u8) 5,.row 2 true .aix 22 0],0,[]⟩) (.n none .z (.n none .z (.n none (.n none (.n none .z (.dr [] [])) .z) .z))) .z) .z)) (.n none (.n none .z (.n none (.n (some ⟨[2,8,43],[],[],[.reg 44 (.int .i64),.arn (.int .u8) 5,.row 2 true .aix 22 0],0,[]⟩) (.n none .z (.n none .z (.n none (.n none (.n none .z (.n none .z (.n none (.n none (.n (some ⟨[44,10],[0,2],[],[.reg 11 (.int .i64)],0,[]⟩) (.n none (.n (some ⟨[11],[],[],[.reg 61 .bool],0,[]⟩) .z .z) (.n none .z .z)) .z) .z) (.n none (.n none .z (.n none (.n none .z .z) .z)) (.n none (.dr [] []) (.n none .z (.n none (.n none .z (.n none (.n (some ⟨[10,44,12,94],[2],[],[.reg 95 (.int .i64),.arn (.int .u8) 5],0,[]⟩) (.n none .z (.n none .z (.n none (.n none (.n none .z (.dr [] [])) .z) .z))) .z) .z)) (.n none .z (.n none (.n (some ⟨[44,10,115],[2],[],[.reg 116 (.int .i64),.arn (.int .u8) 5],0,[]⟩) (.n none .z (.n none .z (.n (some ⟨[],[],[],[.reg 116 (.int .i64),.arn (.int .u8) 5],0,[]⟩) (.n none (.n none .z (.n none .z (.n (some ⟨[15,14,116],[],[],[.reg 132 .bool,.arn (.int .u8) 5],0,[]⟩) .z (.n none (.n none .z (.n none (.n (some ⟨[137],[],[],[.reg 138 (.int .i64),.arn (.int .u8) 5],0,[]⟩) (.n none .z (.n none .z (.n none (.n none (.n none .z (.dr [] [])) .z) .z))) .z) .z)) .z)))) .z) .z))) .z) .z))))))))) .z) .z))) .z) .z)) (.n none .z (.n none (.n none .z (.n none (.n (some ⟨[17,8,2,165],[0,2],[],[.reg 166 (.int .i64),.row 3 true (.int .u8) 5 0],0,[]⟩) (.n none .z (.n none .z (.n (some ⟨[],[],[],[.reg 166 (.int .i64),.row 3 true (.int .u8) 5 0],0,[]⟩) (.n none (.n none .z (.n none .z (.n none .z (.n none .z (.n none (.n none .z .z) .z))))) .z) .z))) .z) .z)) (.n none .z .z))))))) .z))]) (.n none (.n none .z (.n none (.n none .z .z) .z)) (.n none .z (.n none (.n none .z (.n none (.n (some ⟨[15,70,13,71],[0,2],[],[.reg 72 (.int .i64),.row 3 false (.int .u8) 5 1],0,[]⟩) (.n none .z (.n none .z (.n none (.n none (.n none .z (.dr [] [])) .z) .z))) .z) .z)) (.n none .z .z)))))))))) .z)
noncomputable def R_Corrected_dc:List (Nat×Ctr):=[(23,R_Syndromes_ctr),(24,R_Exp_ctr),(26,R_Times_ctr),(27,R_Inverse_ctr)]
def R_Corrected_ctr:Ctr:=⟨(.pair (.list (.int .u8)) (.pair (.int .i64) (.pair (.list (.int .i64)) .unit))),(.pair (.list (.int .u8)) (.pair .bool .unit)),R_Corrected_r,21⟩
theorem R_Corrected_ok:CtrOk Try.prog 21 R_Corrected_ctr:=ctr_ok (l:=R_Corrected_dc) (f:=12) (an:=R_Corrected_an) ⟨R_Syndromes_ok,⟨R_Exp_ok,⟨R_Times_ok,⟨R_Inverse_ok,trivial⟩⟩⟩⟩ fun fu x=>by kernel_rfl
def R_Decoded_j2 (fu:Nat) (j0:(Int×List Int)→Option (List Int×Bool×Unit)) (v1:Int×List Int):Option (List Int×Bool×Unit) :=
 j0 (((IntKind.i64.wrap (v1.1+(1:Int))),v1.2))
def R_Decoded_j4 (fu:Nat) (j3:(Bool×Int)→Option (List Int×Bool×Unit)) (v4:Int×Bool):Option (List Int×Bool×Unit) :=
 j3 ((v4.2,(IntKind.i64.wrap (v4.1+(1:Int)))))
def R_Decoded_l3 (fu:Nat) (a:List Int×Int×List Int×Int×Unit) (v0:Int×List Int) (v2:Int) (j1:(Int×List Int)→Option (List Int×Bool×Unit)) (j3:(Bool×Int)→Option (List Int×Bool×Unit)) (v3:Bool×Int):Option (List Int×Bool×Unit) :=
 bif (decide (v3.2<(List.length a.2.2.1:Int))) then
  joinF (R_Decoded_j4 fu j3) fun j4 =>
  bif ((decide ((0:Int)≤v3.2))&&(decide (v3.2<(List.length a.2.2.1:Int)))) then
  let v5:Int:=(List.getD a.2.2.1 (Int.toNat v3.2) 0)
  bif v3.1 then
   let v6:Bool:=(decide (v5≠v2))
   j4 ((v3.2,v6))
  else
  j4 ((v3.2,false))
  else none
 else
 bif v3.1 then
  bif (decide ((((List.length v0.2:Int)+(List.length ([v2]:List Int):Int))*(8:Int))≤(140737488355328:Int))) then
  j1 ((v0.1,(v0.2++([v2]:List Int))))
  else none
 else
 j1 (v0)
def R_Decoded_j6 (fu:Nat) (j1:(Int)→Option (List Int×Bool×Unit)) (v2:Int):Option (List Int×Bool×Unit) :=
 let v3:Int:=(IntKind.i64.wrap (v2+(1:Int)))
 j1 (v3)
def R_Decoded_l12 (fu:Nat) (v1:Int) (j4:(List Int)→Option (List Int×Bool×Unit)) (j13:(Int×List Int)→Option (List Int×Bool×Unit)) (v13:Int×List Int):Option (List Int×Bool×Unit) :=
 bif (decide (v13.1<v1)) then
  bif ((decide ((0:Int)≤(IntKind.i64.wrap (v13.1-(1:Int)))))&&(decide ((IntKind.i64.wrap (v13.1-(1:Int)))<(List.length v13.2:Int)))) then
  bif ((decide ((0:Int)≤v13.1))&&(decide (v13.1<(List.length v13.2:Int)))) then
  let v14:Int:=(IntKind.i64.wrap (v13.1+(1:Int)))
  j13 ((v14,(List.set v13.2 (Int.toNat v13.1) (IntKind.i64.wrap ((List.getD v13.2 (Int.toNat (IntKind.i64.wrap (v13.1-(1:Int)))) 0)+(1:Int))))))
  else none
  else none
 else
 j4 (v13.2)
def R_Decoded_j11 (fu:Nat) (v1:Int) (v4:List Int) (v10:Int) (j2:(Int)→Option (List Int×Bool×Unit)) (j4:(List Int)→Option (List Int×Bool×Unit)) (j10:(Int)→Option (List Int×Bool×Unit)) (v11:Bool):Option (List Int×Bool×Unit) :=
 bif v11 then
  let v12:Int:=(IntKind.i64.wrap (v10-(1:Int)))
  j10 (v12)
 else
 bif (decide (v10<(0:Int))) then
  j2 (v1)
 else
 bif ((decide ((0:Int)≤v10))&&(decide (v10<(List.length v4:Int)))) then
 bif ((decide ((0:Int)≤v10))&&(decide (v10<(List.length v4:Int)))) then
 let v12:Int:=(IntKind.i64.wrap (v10+(1:Int)))
 loopF (R_Decoded_l12 fu v1 j4) fu ((v12,(List.set v4 (Int.toNat v10) (IntKind.i64.wrap ((List.getD v4 (Int.toNat v10) 0)+(1:Int))))))
 else none
 else none
def R_Decoded_l10 (fu:Nat) (v0:Int×List Int) (v1:Int) (v4:List Int) (j2:(Int)→Option (List Int×Bool×Unit)) (j4:(List Int)→Option (List Int×Bool×Unit)) (j10:(Int)→Option (List Int×Bool×Unit)) (v10:Int):Option (List Int×Bool×Unit) :=
 joinF (R_Decoded_j11 fu v1 v4 v10 j2 j4 j10) fun j11 =>
 bif (decide ((0:Int)≤v10)) then
  bif ((decide ((0:Int)≤v10))&&(decide (v10<(List.length v4:Int)))) then
  j11 ((decide ((List.getD v4 (Int.toNat v10) 0)=(IntKind.i64.wrap ((IntKind.i64.wrap ((List.length v0.2:Int)-v1))+v10)))))
  else none
 else
 j11 (false)
def R_Decoded_l9 (fu:Nat) (a:List Int×Int×List Int×Int×Unit) (v0:Int×List Int) (v1:Int) (v4:List Int) (j2:(Int)→Option (List Int×Bool×Unit)) (j4:(List Int)→Option (List Int×Bool×Unit)) (j5:(Int×List Int)→Option (List Int×Bool×Unit)) (v5:Int×List Int):Option (List Int×Bool×Unit) :=
 bif (decide (v5.1<(List.length v4:Int))) then
  bif ((decide ((0:Int)≤v5.1))&&(decide (v5.1<(List.length v4:Int)))) then
  let v6:Int:=(List.getD v4 (Int.toNat v5.1) 0)
  bif ((decide ((0:Int)≤v6))&&(decide (v6<(List.length v0.2:Int)))) then
  bif (decide ((((List.length v5.2:Int)+(List.length ([(List.getD v0.2 (Int.toNat v6) 0)]:List Int):Int))*(8:Int))≤(140737488355328:Int))) then
  j5 (((IntKind.i64.wrap (v5.1+(1:Int))),(v5.2++([(List.getD v0.2 (Int.toNat v6) 0)]:List Int))))
  else none
  else none
  else none
 else
 bindO (R_Corrected_r fu ((a.1,(a.2.1,(v5.2,()))))) fun v6 =>
 let v7:List Int:=v6.1
 let v8:Bool:=v6.2.1
 bif v8 then
  some ((v7,(true,())))
 else
 let v9:Int:=(IntKind.i64.wrap (v1-(1:Int)))
 loopF (R_Decoded_l10 fu v0 v1 v4 j2 j4) fu (v9)
def R_Decoded_l8 (fu:Nat) (a:List Int×Int×List Int×Int×Unit) (v0:Int×List Int) (v1:Int) (j2:(Int)→Option (List Int×Bool×Unit)) (j4:(List Int)→Option (List Int×Bool×Unit)) (v4:List Int):Option (List Int×Bool×Unit) :=
 bif (decide (v1≤(List.length v0.2:Int))) then
  bif (decide ((((List.length ([]:List (Int)):Int)+(List.length a.2.2.1:Int))*(8:Int))≤(140737488355328:Int))) then
  loopF (R_Decoded_l9 fu a v0 v1 v4 j2 j4) fu (((0:Int),(([]:List (Int))++a.2.2.1)))
  else none
 else
 j2 (v1)
def R_Decoded_l7 (fu:Nat) (a:List Int×Int×List Int×Int×Unit) (v0:Int×List Int) (v1:Int) (j2:(Int)→Option (List Int×Bool×Unit)) (j3:(Int×List Int)→Option (List Int×Bool×Unit)) (v3:Int×List Int):Option (List Int×Bool×Unit) :=
 bif (decide (v3.1<(List.length (List.replicate (Int.toNat v1) (0:Int)):Int))) then
  let v4:Int:=v3.1
  bif ((decide ((0:Int)≤v4))&&(decide (v4<(List.length v3.2:Int)))) then
  j3 (((IntKind.i64.wrap (v3.1+(1:Int))),(List.set v3.2 (Int.toNat v4) v4)))
  else none
 else
 loopF (R_Decoded_l8 fu a v0 v1 j2) fu (v3.2)
def R_Decoded_l5 (fu:Nat) (a:List Int×Int×List Int×Int×Unit) (v0:Int×List Int) (j1:(Int)→Option (List Int×Bool×Unit)) (v1:Int):Option (List Int×Bool×Unit) :=
 bif (decide (v1≤a.2.2.2.1)) then
  joinF (R_Decoded_j6 fu j1) fun j2 =>
  bif ((decide ((0:Int)≤v1))&&(decide (((8:Int)*v1)≤(281474976710656:Int)))) then
  loopF (R_Decoded_l7 fu a v0 v1 j2) fu (((0:Int),(List.replicate (Int.toNat v1) (0:Int))))
  else none
 else
 some ((([]:List (Int)),(false,())))
def R_Decoded_l1 (fu:Nat) (a:List Int×Int×List Int×Int×Unit) (j0:(Int×List Int)→Option (List Int×Bool×Unit)) (v0:Int×List Int):Option (List Int×Bool×Unit) :=
 bif (decide (v0.1<(List.length a.1:Int))) then
  joinF (R_Decoded_j2 fu j0) fun j1 =>
  let v2:Int:=v0.1
  loopF (R_Decoded_l3 fu a v0 v2 j1) fu ((true,(0:Int)))
 else
 loopF (R_Decoded_l5 fu a v0) fu ((0:Int))
def R_Decoded_r (fu:Nat) (a:List Int×Int×List Int×Int×Unit):Option (List Int×Bool×Unit) :=
 loopF (R_Decoded_l1 fu a) fu (((0:Int),([]:List (Int))))
def R_Decoded_an:An:=(.n none .z (.n none .z (.n none (.n none .z (.n none (.n (some ⟨[3,2,1,0,26,8,9],[],[(10,(.osl 0 0))],[.reg 27 (.int .i64),.row 0 true (.int .i64) 3 0],1,[(10,(.int .i64),3)]⟩) (.n none .z (.n none .z (.n (some ⟨[],[],[(10,(.osl 0 1))],[.reg 27 (.int .i64),.row 0 true (.int .i64) 3 1],0,[]⟩) (.n none (.n none .z (.n none .z (.n none (.n none .z (.n none (.n (some ⟨[10,27,11,30,31],[0],[],[.reg 12 .bool,.reg 32 (.int .i64)],0,[]⟩) (.n none .z (.n none .z (.n (some ⟨[],[],[],[.reg 32 (.int .i64),.reg 12 .bool],0,[]⟩) (.n none (.n none .z .z) .z) .z))) .z) .z)) (.n none .z (.n none .z .z))))) .z) .z))) .z) .z)) (.n none (.n none .z (.n none (.n (some ⟨[0,1,10,2,3],[0],[],[.reg 15 (.int .i64)],0,[]⟩) (.n none (.n none .z .z) (.n (some ⟨[],[],[],[.reg 15 (.int .i64)],0,[]⟩) (.n none (.n none .z (.n none (.n none .z (.n none (.n (some ⟨[16,15,57],[],[],[.reg 58 (.int .i64),.row 1 true (.int .i64) 3 0],0,[]⟩) (.n none .z (.n none .z (.n none (.n none (.n none .z .z) .z) .z))) .z) .z)) (.n none (.n (some ⟨[15,16],[],[],[.row 1 true (.int .i64) 3 0],0,[]⟩) (.n none (.n none .z .z) (.n none (.n none .z (.n none (.n none .z (.n none (.n (some ⟨[73,74],[1],[(18,(.osl 2 1))],[.reg 75 (.int .i64),.row 2 false (.int .i64) 3 1],0,[]⟩) (.n none .z (.n none .z (.n none (.n none (.n none .z .z) .z) .z))) .z) .z)) (.n none (.n none .z (.n none .z (.n none (.n none .z .z) .z))) (.n none .z (.n none (.n none (.n (some ⟨[],[1,2],[],[.reg 23 (.int .i64)],0,[]⟩) (.n none (.n (some ⟨[23],[],[],[.reg 112 .bool],0,[]⟩) .z .z) (.n none .z .z)) .z) .z) (.n none (.n none .z .z) (.n none .z (.n none .z (.n none (.n (some ⟨[],[],[],[.reg 24 (.int .i64),.row 1 true (.int .i64) 3 0],0,[]⟩) (.n none (.n none .z .z) (.n none (.n none .z .z) .z)) .z) .z))))))))) .z)) .z) .z))) .z) .z)) .z) .z)) (.n none .z .z)))))
noncomputable def R_Decoded_dc:List (Nat×Ctr):=[(21,R_Corrected_ctr)]
def R_Decoded_ctr:Ctr:=⟨(.pair (.list (.int .u8)) (.pair (.int .i64) (.pair (.list (.int .i64)) (.pair (.int .i64) .unit)))),(.pair (.list (.int .u8)) (.pair .bool .unit)),R_Decoded_r,9⟩
theorem R_Decoded_ok:CtrOk Try.prog 9 R_Decoded_ctr:=ctr_ok (l:=R_Decoded_dc) (f:=12) (an:=R_Decoded_an) ⟨R_Corrected_ok,trivial⟩ fun fu x=>by kernel_rfl
def R_Within_r (fu:Nat) (a:Int×Int×Int×Unit):Option (Bool×Unit) :=
 bif (decide (a.2.1≤a.1)) then
  let v0:Bool:=(decide (a.1≤a.2.2.1))
  some ((v0,()))
 else
 some ((false,()))
def R_Within_an:An:=(.n none .z (.n none .z .z))
noncomputable def R_Within_dc:List (Nat×Ctr):=[]
def R_Within_ctr:Ctr:=⟨(.pair (.int .i64) (.pair (.int .i64) (.pair (.int .i64) .unit))),(.pair .bool .unit),R_Within_r,7⟩
theorem R_Within_ok:CtrOk Try.prog 7 R_Within_ctr:=ctr_ok (l:=R_Within_dc) (f:=12) (an:=R_Within_an) trivial fun fu x=>by kernel_rfl
def reedsolomon_Mul_l1 (fu:Nat) (j0:(Int×Int×Int)→Option (Int×Unit)) (v0:Int×Int×Int):Option (Int×Unit) :=
 bif (decide ((0:Int)<v0.2.2)) then
  let v1:Int:=(bits BinOp.xor IntKind.u8 v0.1 (bits BinOp.and IntKind.u8 v0.2.1 (IntKind.u8.wrap (-(bits BinOp.and IntKind.u8 v0.2.2 (1:Int))))))
  let v2:Int:=(bits BinOp.xor IntKind.u8 (IntKind.u8.wrap (v0.2.1*2 ^ (Int.toNat (1:Int)))) (bits BinOp.and IntKind.u8 (29:Int) (IntKind.u8.wrap (-(v0.2.1 / 2 ^ (Int.toNat (7:Int)))))))
  let v3:Int:=(v0.2.2 / 2 ^ (Int.toNat (1:Int)))
  j0 ((v1,(v2,v3)))
 else
 let v1:Int:=v0.1
 some ((v1,()))
def reedsolomon_Mul_r (fu:Nat) (a:Int×Int×Unit):Option (Int×Unit) :=
 loopF (reedsolomon_Mul_l1 fu) fu (((0:Int),(a.1,a.2.1)))
def reedsolomon_Mul_an:An:=(.n none .z (.n none .z (.n none (.n none (.n (some ⟨[4],[],[],[.reg 5 (.int .u8),.reg 0 (.int .u8),.reg 1 (.int .u8)],0,[]⟩) (.n none (.n none .z .z) (.n none (.n none .z (.n none .z .z)) .z)) .z) .z) (.n none .z .z))))
noncomputable def reedsolomon_Mul_dc:List (Nat×Ctr):=[]
def reedsolomon_Mul_ctr:Ctr:=⟨(.pair (.int .u8) (.pair (.int .u8) .unit)),(.pair (.int .u8) .unit),reedsolomon_Mul_r,13⟩
theorem reedsolomon_Mul_ok:CtrOk Try.prog 13 reedsolomon_Mul_ctr:=ctr_ok (l:=reedsolomon_Mul_dc) (f:=12) (an:=reedsolomon_Mul_an) trivial fun fu x=>by kernel_rfl
def reedsolomon_power_j2 (fu:Nat) (v0:Int×Int×Int) (j0:(Int×Int×Int)→Option (Int×Unit)) (v1:Int×Int):Option (Int×Unit) :=
 bindO (reedsolomon_Mul_r fu ((v1.1,(v1.1,())))) fun v2 =>
 let v3:Int:=v2.1
 let v4:Int:=(v0.2.2 / 2 ^ (Int.toNat (1:Int)))
 j0 ((v1.2,(v3,v4)))
def reedsolomon_power_l1 (fu:Nat) (j0:(Int×Int×Int)→Option (Int×Unit)) (v0:Int×Int×Int):Option (Int×Unit) :=
 bif (decide ((0:Int)<v0.2.2)) then
  joinF (reedsolomon_power_j2 fu v0 j0) fun j1 =>
  bif (decide ((bits BinOp.and IntKind.i64 v0.2.2 (1:Int))=(1:Int))) then
   bindO (reedsolomon_Mul_r fu ((v0.1,(v0.2.1,())))) fun v2 =>
   let v3:Int:=v2.1
   j1 ((v0.2.1,v3))
  else
  j1 ((v0.2.1,v0.1))
 else
 let v1:Int:=v0.1
 some ((v1,()))
def reedsolomon_power_r (fu:Nat) (a:Int×Int×Unit):Option (Int×Unit) :=
 loopF (reedsolomon_power_l1 fu) fu (((1:Int),(a.1,a.2.1)))
def reedsolomon_power_an:An:=(.n none .z (.n none .z (.n none (.n none (.n (some ⟨[4],[],[],[.reg 5 (.int .u8),.reg 0 (.int .u8),.reg 1 (.int .i64)],0,[]⟩) (.n none (.n none .z .z) (.n none (.n none (.n (some ⟨[1],[],[],[.reg 0 (.int .u8),.reg 5 (.int .u8)],0,[]⟩) (.n none .z (.n none .z .z)) .z) .z) .z)) .z) .z) (.n none .z .z))))
noncomputable def reedsolomon_power_dc:List (Nat×Ctr):=[(13,reedsolomon_Mul_ctr)]
def reedsolomon_power_ctr:Ctr:=⟨(.pair (.int .u8) (.pair (.int .i64) .unit)),(.pair (.int .u8) .unit),reedsolomon_power_r,17⟩
theorem reedsolomon_power_ok:CtrOk Try.prog 17 reedsolomon_power_ctr:=ctr_ok (l:=reedsolomon_power_dc) (f:=12) (an:=reedsolomon_power_an) ⟨reedsolomon_Mul_ok,trivial⟩ fun fu x=>by kernel_rfl
def reedsolomon_syndromes_j2 (fu:Nat) (j0:(Bool×Int×List Int)→Option (List Int×Bool×Unit)) (v1:Int×Bool×List Int):Option (List Int×Bool×Unit) :=
 j0 ((v1.2.1,((IntKind.i64.wrap (v1.1+(1:Int))),v1.2.2)))
def reedsolomon_syndromes_l3 (fu:Nat) (a:List Int×Int×Unit) (v0:Bool×Int×List Int) (v2:Int) (v4:Int) (j1:(Int×Bool×List Int)→Option (List Int×Bool×Unit)) (j5:(Int×Int)→Option (List Int×Bool×Unit)) (v5:Int×Int):Option (List Int×Bool×Unit) :=
 bif (decide (v5.2<(List.length a.1:Int))) then
  bif ((decide ((0:Int)≤v5.2))&&(decide (v5.2<(List.length a.1:Int)))) then
  let v6:Int:=(List.getD a.1 (Int.toNat v5.2) 0)
  bindO (reedsolomon_Mul_r fu ((v5.1,(v4,())))) fun v7 =>
  let v8:Int:=(bits BinOp.xor IntKind.u8 v7.1 v6)
  j5 ((v8,(IntKind.i64.wrap (v5.2+(1:Int)))))
  else none
 else
 bif ((decide ((0:Int)≤v2))&&(decide (v2<(List.length v0.2.2:Int)))) then
 bif v0.1 then
  let v6:Bool:=(decide (v5.1=(0:Int)))
  j1 ((v0.2.1,(v6,(List.set v0.2.2 (Int.toNat v2) v5.1))))
 else
 j1 ((v0.2.1,(false,(List.set v0.2.2 (Int.toNat v2) v5.1))))
 else none
def reedsolomon_syndromes_l1 (fu:Nat) (a:List Int×Int×Unit) (j0:(Bool×Int×List Int)→Option (List Int×Bool×Unit)) (v0:Bool×Int×List Int):Option (List Int×Bool×Unit) :=
 bif (decide (v0.2.1<(List.length (List.replicate (Int.toNat a.2.1) (0:Int)):Int))) then
  joinF (reedsolomon_syndromes_j2 fu j0) fun j1 =>
  let v2:Int:=v0.2.1
  bindO (reedsolomon_power_r fu (((2:Int),(v2,())))) fun v3 =>
  let v4:Int:=v3.1
  loopF (reedsolomon_syndromes_l3 fu a v0 v2 v4 j1) fu (((0:Int),(0:Int)))
 else
 let v1:Bool:=v0.1
 some ((v0.2.2,(v1,())))
def reedsolomon_syndromes_r (fu:Nat) (a:List Int×Int×Unit):Option (List Int×Bool×Unit) :=
 bif ((decide ((0:Int)≤a.2.1))&&(decide (((1:Int)*a.2.1)≤(281474976710656:Int)))) then
 loopF (reedsolomon_syndromes_l1 fu a) fu ((true,((0:Int),(List.replicate (Int.toNat a.2.1) (0:Int)))))
 else none
def reedsolomon_syndromes_an:An:=(.n none .z (.n none .z (.n none (.n none .z (.n none (.n (some ⟨[6,0,16,4,5],[],[],[.reg 7 .bool,.reg 17 (.int .i64),.row 0 true (.int .u8) 5 0],0,[]⟩) (.n none .z (.n none .z (.n (some ⟨[],[],[],[.reg 17 (.int .i64),.reg 7 .bool,.row 0 true (.int .u8) 5 0],0,[]⟩) (.n none (.n none .z (.n none .z (.n none .z (.n none (.n none .z (.n none (.n (some ⟨[17,7,8,22,9,23],[0],[],[.reg 10 (.int .u8),.reg 24 (.int .i64)],0,[]⟩) (.n none .z (.n none .z (.n none (.n none (.n none .z .z) .z) .z))) .z) .z)) (.n none .z .z))))) .z) .z))) .z) .z)) (.n none .z .z))))
noncomputable def reedsolomon_syndromes_dc:List (Nat×Ctr):=[(13,reedsolomon_Mul_ctr),(17,reedsolomon_power_ctr)]
def reedsolomon_syndromes_ctr:Ctr:=⟨(.pair (.list (.int .u8)) (.pair (.int .i64) .unit)),(.pair (.list (.int .u8)) (.pair .bool .unit)),reedsolomon_syndromes_r,18⟩
theorem reedsolomon_syndromes_ok:CtrOk Try.prog 18 reedsolomon_syndromes_ctr:=ctr_ok (l:=reedsolomon_syndromes_dc) (f:=12) (an:=reedsolomon_syndromes_an) ⟨reedsolomon_Mul_ok,⟨reedsolomon_power_ok,trivial⟩⟩ fun fu x=>by kernel_rfl
def _reedsolomon_poly__at_l1 (fu:Nat) (a:List Int×Int×Unit) (j1:(Int×Int)→Option (Int×Unit)) (v1:Int×Int):Option (Int×Unit) :=
 bif (decide ((0:Int)≤v1.2)) then
  bindO (reedsolomon_Mul_r fu ((v1.1,(a.2.1,())))) fun v2 =>
  bif ((decide ((0:Int)≤v1.2))&&(decide (v1.2<(List.length a.1:Int)))) then
  let v3:Int:=(List.getD a.1 (Int.toNat v1.2) 0)
  let v4:Int:=(bits BinOp.xor IntKind.u8 v2.1 v3)
  let v5:Int:=(IntKind.i64.wrap (v1.2-(1:Int)))
  j1 ((v4,v5))
  else none
 else
 let v2:Int:=v1.1
 some ((v2,()))
def _reedsolomon_poly__at_r (fu:Nat) (a:List Int×Int×Unit):Option (Int×Unit) :=
 let v0:Int:=(IntKind.i64.wrap ((List.length a.1:Int)-(1:Int)))
 loopF (_reedsolomon_poly__at_l1 fu a) fu (((0:Int),v0))
def _reedsolomon_poly__at_an:An:=(.n none .z (.n none .z (.n none (.n none .z (.n none (.n (some ⟨[1,0,4],[],[],[.reg 5 (.int .u8),.reg 6 (.int .i64)],0,[]⟩) (.n none (.n none .z .z) (.n none (.n none (.dr [] []) .z) .z)) .z) .z)) (.n none .z .z))))
noncomputable def _reedsolomon_poly__at_dc:List (Nat×Ctr):=[(13,reedsolomon_Mul_ctr)]
def _reedsolomon_poly__at_ctr:Ctr:=⟨(.pair (.list (.int .u8)) (.pair (.int .u8) .unit)),(.pair (.int .u8) .unit),_reedsolomon_poly__at_r,22⟩
theorem _reedsolomon_poly__at_ok:CtrOk Try.prog 22 _reedsolomon_poly__at_ctr:=ctr_ok (l:=_reedsolomon_poly__at_dc) (f:=12) (an:=_reedsolomon_poly__at_an) ⟨reedsolomon_Mul_ok,trivial⟩ fun fu x=>by kernel_rfl
def _reedsolomon_poly__times_j3 (fu:Nat) (j3:(Int×List Int)→Option (List Int×Unit)) (v4:Int×List Int):Option (List Int×Unit) :=
 j3 (((IntKind.i64.wrap (v4.1+(1:Int))),v4.2))
def _reedsolomon_poly__times_l2 (fu:Nat) (a:List Int×List Int×Int×Unit) (v0:Int×List Int) (v1:Int) (v2:Int) (j0:(Int×List Int)→Option (List Int×Unit)) (j3:(Int×List Int)→Option (List Int×Unit)) (v3:Int×List Int):Option (List Int×Unit) :=
 bif (decide (v3.1<(List.length a.2.1:Int))) then
  joinF (_reedsolomon_poly__times_j3 fu j3) fun j4 =>
  bif ((decide ((0:Int)≤v3.1))&&(decide (v3.1<(List.length a.2.1:Int)))) then
  let v5:Int:=(List.getD a.2.1 (Int.toNat v3.1) 0)
  let v6:Int:=v3.1
  bif (decide ((IntKind.i64.wrap (v2+v6))<(List.length v3.2:Int))) then
   bif ((decide ((0:Int)≤(IntKind.i64.wrap (v2+v6))))&&(decide ((IntKind.i64.wrap (v2+v6))<(List.length v3.2:Int)))) then
   bindO (reedsolomon_Mul_r fu ((v1,(v5,())))) fun v7 =>
   bif ((decide ((0:Int)≤(IntKind.i64.wrap (v2+v6))))&&(decide ((IntKind.i64.wrap (v2+v6))<(List.length v3.2:Int)))) then
   j4 ((v3.1,(List.set v3.2 (Int.toNat (IntKind.i64.wrap (v2+v6))) (bits BinOp.xor IntKind.u8 (List.getD v3.2 (Int.toNat (IntKind.i64.wrap (v2+v6))) 0) v7.1))))
   else none
   else none
  else
  j4 (v3)
  else none
 else
 j0 (((IntKind.i64.wrap (v0.1+(1:Int))),v3.2))
def _reedsolomon_poly__times_l1 (fu:Nat) (a:List Int×List Int×Int×Unit) (j0:(Int×List Int)→Option (List Int×Unit)) (v0:Int×List Int):Option (List Int×Unit) :=
 bif (decide (v0.1<(List.length a.1:Int))) then
  bif ((decide ((0:Int)≤v0.1))&&(decide (v0.1<(List.length a.1:Int)))) then
  let v1:Int:=(List.getD a.1 (Int.toNat v0.1) 0)
  let v2:Int:=v0.1
  loopF (_reedsolomon_poly__times_l2 fu a v0 v1 v2 j0) fu (((0:Int),v0.2))
  else none
 else
 some ((v0.2,()))
def _reedsolomon_poly__times_r (fu:Nat) (a:List Int×List Int×Int×Unit):Option (List Int×Unit) :=
 bif ((decide ((0:Int)≤(min a.2.2.1 (IntKind.i64.wrap ((IntKind.i64.wrap ((List.length a.1:Int)+(List.length a.2.1:Int)))-(1:Int))))))&&(decide (((1:Int)*(min a.2.2.1 (IntKind.i64.wrap ((IntKind.i64.wrap ((List.length a.1:Int)+(List.length a.2.1:Int)))-(1:Int)))))≤(281474976710656:Int)))) then
 loopF (_reedsolomon_poly__times_l1 fu a) fu (((0:Int),(List.replicate (Int.toNat (min a.2.2.1 (IntKind.i64.wrap ((IntKind.i64.wrap ((List.length a.1:Int)+(List.length a.2.1:Int)))-(1:Int))))) (0:Int))))
 else none
def _reedsolomon_poly__times_an:An:=(.n none .z (.n none .z (.n none (.n none .z (.n none (.n (some ⟨[7,21,1,22,6],[],[],[.reg 23 (.int .i64),.row 0 true (.int .u8) 5 0],0,[]⟩) (.n none .z (.n none .z (.n none (.n none (.n none .z (.n none .z (.n none (.n (some ⟨[23,28,9,8,29],[],[],[.reg 30 (.int .i64),.row 0 true (.int .u8) 5 0],0,[]⟩) (.n none .z (.n none .z (.n (some ⟨[],[],[],[.reg 30 (.int .i64),.row 0 true (.int .u8) 5 0],0,[]⟩) (.n none (.n none .z (.n none .z (.n none (.dr [] []) .z))) .z) .z))) .z) .z))) .z) .z))) .z) .z)) (.n none .z .z))))
noncomputable def _reedsolomon_poly__times_dc:List (Nat×Ctr):=[(13,reedsolomon_Mul_ctr)]
def _reedsolomon_poly__times_ctr:Ctr:=⟨(.pair (.list (.int .u8)) (.pair (.list (.int .u8)) (.pair (.int .i64) .unit))),(.pair (.list (.int .u8)) .unit),_reedsolomon_poly__times_r,16⟩
theorem _reedsolomon_poly__times_ok:CtrOk Try.prog 16 _reedsolomon_poly__times_ctr:=ctr_ok (l:=_reedsolomon_poly__times_dc) (f:=12) (an:=_reedsolomon_poly__times_an) ⟨reedsolomon_Mul_ok,trivial⟩ fun fu x=>by kernel_rfl
def reedsolomon_locate_j2 (fu:Nat) (j2:(Int×Int×Int×Int×List Int×List Int)→Option (List Int×Unit)) (v3:Int×Int×Int×Int×List Int×List Int):Option (List Int×Unit) :=
 let v4:Int:=(IntKind.i64.wrap (v3.1+(1:Int)))
 j2 ((v4,v3.2))
def reedsolomon_locate_l6 (fu:Nat) (a:List Int×List Int×Int×Unit) (v2:Int×Int×Int×Int×List Int×List Int) (v5:Int×Int×List Int) (v9:Int) (v10:List Int×List Int) (j3:(Int×Int×Int×Int×List Int×List Int)→Option (List Int×Unit)) (j11:(Int×List Int×List Int)→Option (List Int×Unit)) (v11:Int×List Int×List Int):Option (List Int×Unit) :=
 bif (decide (v11.1<(List.length v10.2:Int))) then
  bif ((decide ((0:Int)≤v11.1))&&(decide (v11.1<(List.length v11.2.2:Int)))) then
  let v12:Int:=v11.1
  let v13:Int:=(List.getD v11.2.2 (Int.toNat v11.1) 0)
  bif ((decide ((0:Int)≤(IntKind.i64.wrap (v12+v2.2.1))))&&(decide ((IntKind.i64.wrap (v12+v2.2.1))<(List.length v11.2.1:Int)))) then
  bindO (reedsolomon_Mul_r fu ((v9,(v13,())))) fun v14 =>
  bif ((decide ((0:Int)≤(IntKind.i64.wrap (v12+v2.2.1))))&&(decide ((IntKind.i64.wrap (v12+v2.2.1))<(List.length v11.2.1:Int)))) then
  j11 (((IntKind.i64.wrap (v11.1+(1:Int))),((List.set v11.2.1 (Int.toNat (IntKind.i64.wrap (v12+v2.2.1))) (bits BinOp.xor IntKind.u8 (List.getD v11.2.1 (Int.toNat (IntKind.i64.wrap (v12+v2.2.1))) 0) v14.1)),v11.2.2)))
  else none
  else none
  else none
 else
 bif (decide ((IntKind.i64.wrap ((2:Int)*v2.2.2.1))≤(IntKind.i64.wrap (v2.1+a.2.2.1)))) then
  let v12:Int:=(IntKind.i64.wrap ((IntKind.i64.wrap ((IntKind.i64.wrap (v2.1+(1:Int)))+a.2.2.1))-v2.2.2.1))
  let v13:Int:=v5.1
  j3 ((v2.1,((1:Int),(v12,(v13,(v11.2.1,v2.2.2.2.2.1))))))
 else
 let v12:Int:=(IntKind.i64.wrap (v2.2.1+(1:Int)))
 j3 ((v2.1,(v12,(v2.2.2.1,(v2.2.2.2.1,v11.2)))))
def reedsolomon_locate_l5 (fu:Nat) (a:List Int×List Int×Int×Unit) (v2:Int×Int×Int×Int×List Int×List Int) (v5:Int×Int×List Int) (v9:Int) (j3:(Int×Int×Int×Int×List Int×List Int)→Option (List Int×Unit)) (j10:(List Int×List Int)→Option (List Int×Unit)) (v10:List Int×List Int):Option (List Int×Unit) :=
 bif (decide ((List.length v10.1:Int)<(IntKind.i64.wrap ((List.length v10.2:Int)+v2.2.1)))) then
  bif (decide ((((List.length v10.1:Int)+(List.length ([(0:Int)]:List Int):Int))*(1:Int))≤(140737488355328:Int))) then
  j10 (((v10.1++([(0:Int)]:List Int)),v10.2))
  else none
 else
 loopF (reedsolomon_locate_l6 fu a v2 v5 v9 v10 j3) fu (((0:Int),v10))
def reedsolomon_locate_j4 (fu:Nat) (a:List Int×List Int×Int×Unit) (v2:Int×Int×Int×Int×List Int×List Int) (v5:Int×Int×List Int) (j3:(Int×Int×Int×Int×List Int×List Int)→Option (List Int×Unit)) (j5:(Int×Int×List Int)→Option (List Int×Unit)) (v6:Bool×List Int):Option (List Int×Unit) :=
 bif v6.1 then
  bif ((decide ((0:Int)≤v5.2.1))&&(decide (v5.2.1<(List.length v2.2.2.2.2.1:Int)))) then
  bif ((decide ((0:Int)≤(IntKind.i64.wrap (v2.1-v5.2.1))))&&(decide ((IntKind.i64.wrap (v2.1-v5.2.1))<(List.length a.1:Int)))) then
  let v7:Int:=(List.getD a.1 (Int.toNat (IntKind.i64.wrap (v2.1-v5.2.1))) 0)
  bindO (reedsolomon_Mul_r fu (((List.getD v2.2.2.2.2.1 (Int.toNat v5.2.1) 0),(v7,())))) fun v8 =>
  let v9:Int:=(bits BinOp.xor IntKind.u8 v5.1 v8.1)
  let v10:Int:=(IntKind.i64.wrap (v5.2.1+(1:Int)))
  j5 ((v9,(v10,v6.2)))
  else none
  else none
 else
 bif (decide (v5.1=(0:Int))) then
  let v7:Int:=(IntKind.i64.wrap (v2.2.1+(1:Int)))
  j3 ((v2.1,(v7,(v2.2.2.1,(v2.2.2.2.1,(v2.2.2.2.2.1,v6.2))))))
 else
 bif (decide (((List.length v2.2.2.2.2.1:Int)*(1:Int))≤(140737488355328:Int))) then
 bindO (reedsolomon_power_r fu ((v2.2.2.2.1,((254:Int),())))) fun v7 =>
 bindO (reedsolomon_Mul_r fu ((v5.1,(v7.1,())))) fun v8 =>
 let v9:Int:=v8.1
 loopF (reedsolomon_locate_l5 fu a v2 v5 v9 j3) fu ((v2.2.2.2.2.1,v6.2))
 else none
def reedsolomon_locate_l3 (fu:Nat) (a:List Int×List Int×Int×Unit) (v2:Int×Int×Int×Int×List Int×List Int) (j3:(Int×Int×Int×Int×List Int×List Int)→Option (List Int×Unit)) (j5:(Int×Int×List Int)→Option (List Int×Unit)) (v5:Int×Int×List Int):Option (List Int×Unit) :=
 joinF (reedsolomon_locate_j4 fu a v2 v5 j3 j5) fun j6 =>
 bif (decide (v5.2.1<(List.length v2.2.2.2.2.1:Int))) then
  j6 (((decide (v5.2.1≤v2.1)),v5.2.2))
 else
 j6 ((false,v5.2.2))
def reedsolomon_locate_l1 (fu:Nat) (a:List Int×List Int×Int×Unit) (j2:(Int×Int×Int×Int×List Int×List Int)→Option (List Int×Unit)) (v2:Int×Int×Int×Int×List Int×List Int):Option (List Int×Unit) :=
 bif (decide (v2.1<(List.length a.1:Int))) then
  joinF (reedsolomon_locate_j2 fu j2) fun j3 =>
  bif ((decide ((0:Int)≤v2.1))&&(decide (v2.1<(List.length a.1:Int)))) then
  let v4:Int:=(List.getD a.1 (Int.toNat v2.1) 0)
  loopF (reedsolomon_locate_l3 fu a v2 j3) fu ((v4,((1:Int),v2.2.2.2.2.2)))
  else none
 else
 some ((v2.2.2.2.2.1,()))
def reedsolomon_locate_r (fu:Nat) (a:List Int×List Int×Int×Unit):Option (List Int×Unit) :=
 bif (decide (((List.length a.2.1:Int)*(1:Int))≤(140737488355328:Int))) then
 bif (decide (((List.length a.2.1:Int)*(1:Int))≤(140737488355328:Int))) then
 let v0:Int:=a.2.2.1
 let v1:Int:=a.2.2.1
 loopF (reedsolomon_locate_l1 fu a) fu ((v1,((1:Int),(v0,((1:Int),(a.2.1,a.2.1))))))
 else none
 else none
def reedsolomon_locate_an:An:=(.n none .z (.n none .z (.n none .z (.n none (.n none .z (.n none (.n (some ⟨[2,0,6],[],[(7,(.osl 0 0)),(8,(.osl 1 0))],[.reg 12 (.int .i64),.reg 10 (.int .i64),.reg 9 (.int .i64),.reg 11 (.int .u8),.row 0 false (.int .u8) 5 0,.row 1 false (.int .u8) 5 0],0,[]⟩) (.n none (.n none .z .z) (.n (some ⟨[],[],[(7,(.osl 0 0)),(8,(.osl 1 0))],[.reg 12 (.int .i64),.reg 10 (.int .i64),.reg 9 (.int .i64),.reg 11 (.int .u8),.row 0 false (.int .u8) 5 0,.row 1 false (.int .u8) 5 0],0,[]⟩) (.n none (.n none .z (.n none (.n none .z (.n none (.n (some ⟨[11,9,8,7,12,10],[0],[],[.reg 13 (.int .u8),.reg 14 (.int .i64),.row 1 false (.int .u8) 5 0],0,[]⟩) (.n none (.n (some ⟨[14,13],[],[],[.reg 43 .bool,.row 1 false (.int .u8) 5 0],0,[]⟩) .z .z) (.n none (.n none (.dr [] []) .z) .z)) .z) .z)) (.n none (.n none .z (.n none (.n none .z .z) .z)) (.n none .z (.n none .z (.n none (.n none (.n (some ⟨[16,13,15,10,12,8,9,11],[2],[(7,(.osl 0 0))],[.row 0 false (.int .u8) 5 0,.row 1 false (.int .u8) 5 0],0,[]⟩) (.n none (.n none .z .z) (.n none .z .z)) .z) .z) (.n none (.n none .z (.n none (.n (some ⟨[11,9,8,7,12,10,15,13,79,16,80],[2],[],[.reg 81 (.int .i64),.row 0 false (.int .u8) 5 0,.row 1 false (.int .u8) 5 0],0,[]⟩) (.n none .z (.n none .z (.n none (.n none (.n none .z (.dr [] [])) .z) .z))) .z) .z)) (.n none .z (.n none .z .z))))))))) .z) .z)) .z) .z)) (.n none .z .z)))))
noncomputable def reedsolomon_locate_dc:List (Nat×Ctr):=[(13,reedsolomon_Mul_ctr),(17,reedsolomon_power_ctr)]
def reedsolomon_locate_ctr:Ctr:=⟨(.pair (.list (.int .u8)) (.pair (.list (.int .u8)) (.pair (.int .i64) .unit))),(.pair (.list (.int .u8)) .unit),reedsolomon_locate_r,20⟩
theorem reedsolomon_locate_ok:CtrOk Try.prog 20 reedsolomon_locate_ctr:=ctr_ok (l:=reedsolomon_locate_dc) (f:=12) (an:=reedsolomon_locate_an) ⟨reedsolomon_Mul_ok,⟨reedsolomon_power_ok,trivial⟩⟩ fun fu x=>by kernel_rfl
def reedsolomon_check_j1 (fu:Nat) (a:List Int×Int×Unit) (v0:Bool):Option (Int×Unit) :=
 bif v0 then
  some (((3:Int),()))
 else
 let v1:Bool:=(decide ((255:Int)<(List.length a.1:Int)))
 bif v1 then
  some (((2:Int),()))
 else
 let v2:Bool:=(decide ((List.length a.1:Int)≤a.2.1))
 bif v2 then
  some (((12:Int),()))
 else
 some (((0:Int),()))
def reedsolomon_check_r (fu:Nat) (a:List Int×Int×Unit):Option (Int×Unit) :=
 joinF (reedsolomon_check_j1 fu a) fun j0 =>
 bif (decide (a.2.1<(1:Int))) then
  j0 (true)
 else
 let v1:Bool:=(decide ((64:Int)<a.2.1))
 j0 (v1)
def reedsolomon_check_an:An:=(.n none .z (.n none (.n none (.n (some ⟨[0,1],[],[],[.reg 5 .bool],0,[]⟩) .z (.n none (.n none .z .z) (.n none .z (.n none (.n none .z .z) (.n none .z (.n none (.n none .z .z) .z)))))) .z) (.n none .z .z)))
noncomputable def reedsolomon_check_dc:List (Nat×Ctr):=[]
def reedsolomon_check_ctr:Ctr:=⟨(.pair (.list (.int .u8)) (.pair (.int .i64) .unit)),(.pair (.int .i64) .unit),reedsolomon_check_r,15⟩
theorem reedsolomon_check_ok:CtrOk Try.prog 15 reedsolomon_check_ctr:=ctr_ok (l:=reedsolomon_check_dc) (f:=12) (an:=reedsolomon_check_an) trivial fun fu x=>by kernel_rfl
def reedsolomon_Decode_j2 (fu:Nat) (a:List Int×Int×List Int×Unit) (v2:List Int×Int×List Bool) (v3:Int) (j2:(List Int×Int×List Bool)→Option (List Int×Int×Int×Unit)) (v4:Bool):Option (List Int×Int×Int×Unit) :=
 bif v4 then
  some ((([]:List (Int)),((0:Int),((3:Int),()))))
 else
 bif ((decide ((0:Int)≤v3))&&(decide (v3<(List.length v2.2.2:Int)))) then
 bif (List.getD v2.2.2 (Int.toNat v3) false) then
  some ((([]:List (Int)),((0:Int),((7:Int),()))))
 else
 bif ((decide ((0:Int)≤v3))&&(decide (v3<(List.length v2.2.2:Int)))) then
 bindO (reedsolomon_power_r fu (((2:Int),((IntKind.i64.wrap ((IntKind.i64.wrap ((List.length a.1:Int)-(1:Int)))-v3)),())))) fun v5 =>
 bindO (_reedsolomon_poly__times_r fu ((v2.1,(([(1:Int),v5.1]:List Int),((256:Int),()))))) fun v6 =>
 let v7:List Int:=v6.1
 j2 ((v7,((IntKind.i64.wrap (v2.2.1+(1:Int))),(List.set v2.2.2 (Int.toNat v3) true))))
 else none
 else none
def reedsolomon_Decode_j4 (fu:Nat) (j9:(Int×List Int)→Option (List Int×Int×Int×Unit)) (v10:Int×List Int):Option (List Int×Int×Int×Unit) :=
 j9 (((IntKind.i64.wrap (v10.1+(1:Int))),v10.2))
def reedsolomon_Decode_l5 (fu:Nat) (v6:List Int×Unit) (v8:List Int) (v9:Int×List Int) (v11:Int) (v13:Int) (v15:Int) (j10:(Int×List Int)→Option (List Int×Int×Int×Unit)) (j17:(Int×Int)→Option (List Int×Int×Int×Unit)) (v17:Int×Int):Option (List Int×Int×Int×Unit) :=
 bif (decide (v17.2<(List.length v6.1:Int))) then
  bif ((decide ((0:Int)≤v17.2))&&(decide (v17.2<(List.length v6.1:Int)))) then
  let v18:Int:=(List.getD v6.1 (Int.toNat v17.2) 0)
  bindO (reedsolomon_power_r fu ((v15,((IntKind.i64.wrap (v17.2-(1:Int))),())))) fun v19 =>
  bindO (reedsolomon_Mul_r fu ((v18,(v19.1,())))) fun v20 =>
  let v21:Int:=(bits BinOp.xor IntKind.u8 v17.1 v20.1)
  let v22:Int:=(IntKind.i64.wrap (v17.2+(2:Int)))
  j17 ((v21,v22))
  else none
 else
 bif (decide (v17.1≠(0:Int))) then
  bif ((decide ((0:Int)≤v11))&&(decide (v11<(List.length v9.2:Int)))) then
  bindO (_reedsolomon_poly__at_r fu ((v8,(v15,())))) fun v18 =>
  bindO (reedsolomon_Mul_r fu ((v13,(v18.1,())))) fun v19 =>
  bindO (reedsolomon_power_r fu ((v17.1,((254:Int),())))) fun v20 =>
  bindO (reedsolomon_Mul_r fu ((v19.1,(v20.1,())))) fun v21 =>
  bif ((decide ((0:Int)≤v11))&&(decide (v11<(List.length v9.2:Int)))) then
  j10 ((v9.1,(List.set v9.2 (Int.toNat v11) (bits BinOp.xor IntKind.u8 (List.getD v9.2 (Int.toNat v11) 0) v21.1))))
  else none
  else none
 else
 j10 (v9)
def reedsolomon_Decode_j7 (fu:Nat) (j10:(Int×Int×Int)→Option (List Int×Int×Int×Unit)) (v11:Int×Int×Int):Option (List Int×Int×Int×Unit) :=
 j10 ((v11.2.1,(v11.2.2,(IntKind.i64.wrap (v11.1+(1:Int))))))
def reedsolomon_Decode_j8 (fu:Nat) (v9:Int×List Int) (v10:Int×Int×Int) (v13:Bool):Option (List Int×Int×Int×Unit) :=
 bif v13 then
  some ((([]:List (Int)),((0:Int),((21:Int),()))))
 else
 let v14:Int:=v10.1
 some ((v9.2,(v14,((0:Int),()))))
def reedsolomon_Decode_l6 (fu:Nat) (a:List Int×Int×List Int×Unit) (v2:List Int×Int×List Bool) (v9:Int×List Int) (j10:(Int×Int×Int)→Option (List Int×Int×Int×Unit)) (v10:Int×Int×Int):Option (List Int×Int×Int×Unit) :=
 bif (decide (v10.2.2<(List.length v9.2:Int))) then
  joinF (reedsolomon_Decode_j7 fu j10) fun j11 =>
  bif ((decide ((0:Int)≤v10.2.2))&&(decide (v10.2.2<(List.length v9.2:Int)))) then
  let v12:Int:=v10.2.2
  let v13:Int:=(List.getD v9.2 (Int.toNat v10.2.2) 0)
  bif ((decide ((0:Int)≤v12))&&(decide (v12<(List.length a.1:Int)))) then
  let v14:Int:=(List.getD a.1 (Int.toNat v12) 0)
  bif (decide (v13≠v14)) then
   let v15:Int:=(IntKind.i64.wrap (v10.1+(1:Int)))
   bif ((decide ((0:Int)≤v12))&&(decide (v12<(List.length v2.2.2:Int)))) then
   bif (!(List.getD v2.2.2 (Int.toNat v12) false)) then
    let v16:Int:=(IntKind.i64.wrap (v10.2.1+(1:Int)))
    j11 ((v10.2.2,(v15,v16)))
   else
   j11 ((v10.2.2,(v15,v10.2.1)))
   else none
  else
  j11 ((v10.2.2,(v10.1,v10.2.1)))
  else none
  else none
 else
 bindO (reedsolomon_syndromes_r fu ((v9.2,(a.2.1,())))) fun v11 =>
 let v12:Bool:=v11.2.1
 joinF (reedsolomon_Decode_j8 fu v9 v10) fun j13 =>
 bif (!v12) then
  j13 (true)
 else
 j13 ((decide ((IntKind.i64.wrap (a.2.1-(List.length a.2.2.1:Int)))<(IntKind.i64.wrap ((2:Int)*v10.2.1)))))
def reedsolomon_Decode_l3 (fu:Nat) (a:List Int×Int×List Int×Unit) (v2:List Int×Int×List Bool) (v6:List Int×Unit) (v8:List Int) (j9:(Int×List Int)→Option (List Int×Int×Int×Unit)) (v9:Int×List Int):Option (List Int×Int×Int×Unit) :=
 bif (decide (v9.1<(List.length a.1:Int))) then
  joinF (reedsolomon_Decode_j4 fu j9) fun j10 =>
  let v11:Int:=v9.1
  bindO (reedsolomon_power_r fu (((2:Int),((IntKind.i64.wrap ((IntKind.i64.wrap ((List.length v9.2:Int)-(1:Int)))-v11)),())))) fun v12 =>
  let v13:Int:=v12.1
  bindO (reedsolomon_power_r fu ((v13,((254:Int),())))) fun v14 =>
  let v15:Int:=v14.1
  bindO (_reedsolomon_poly__at_r fu ((v6.1,(v15,())))) fun v16 =>
  bif (decide (v16.1≠(0:Int))) then
   j10 (v9)
  else
  loopF (reedsolomon_Decode_l5 fu v6 v8 v9 v11 v13 v15 j10) fu (((0:Int),(1:Int)))
 else
 loopF (reedsolomon_Decode_l6 fu a v2 v9) fu (((0:Int),((0:Int),(0:Int))))
def reedsolomon_Decode_l1 (fu:Nat) (a:List Int×Int×List Int×Unit) (j2:(List Int×Int×List Bool)→Option (List Int×Int×Int×Unit)) (v2:List Int×Int×List Bool):Option (List Int×Int×Int×Unit) :=
 bif (decide (v2.2.1<(List.length a.2.2.1:Int))) then
  bif ((decide ((0:Int)≤v2.2.1))&&(decide (v2.2.1<(List.length a.2.2.1:Int)))) then
  let v3:Int:=(List.getD a.2.2.1 (Int.toNat v2.2.1) 0)
  joinF (reedsolomon_Decode_j2 fu a v2 v3 j2) fun j4 =>
  bif (decide (v3<(0:Int))) then
   j4 (true)
  else
  j4 ((decide ((List.length a.1:Int)≤v3)))
  else none
 else
 bif (decide (a.2.1<(List.length a.2.2.1:Int))) then
  some ((([]:List (Int)),((0:Int),((21:Int),()))))
 else
 bif (decide (((List.length a.1:Int)*(1:Int))≤(140737488355328:Int))) then
 bindO (reedsolomon_syndromes_r fu ((a.1,(a.2.1,())))) fun v3 =>
 let v4:List Int:=v3.1
 let v5:Bool:=v3.2.1
 bif v5 then
  some ((a.1,((0:Int),((0:Int),()))))
 else
 bindO (reedsolomon_locate_r fu ((v4,(v2.1,((List.length a.2.2.1:Int),()))))) fun v6 =>
 bindO (_reedsolomon_poly__times_r fu ((v4,(v6.1,((List.length v4:Int),()))))) fun v7 =>
 let v8:List Int:=v7.1
 loopF (reedsolomon_Decode_l3 fu a v2 v6 v8) fu (((0:Int),a.1))
 else none
def reedsolomon_Decode_r (fu:Nat) (a:List Int×Int×List Int×Unit):Option (List Int×Int×Int×Unit) :=
 bindO (reedsolomon_check_r fu ((a.1,(a.2.1,())))) fun v0 =>
 let v1:Int:=v0.1
 bif (decide (v1≠(0:Int))) then
  some ((([]:List (Int)),((0:Int),(v1,()))))
 else
 bif ((decide ((0:Int)≤(List.length a.1:Int)))&&(decide (((1:Int)*(List.length a.1:Int))≤(281474976710656:Int)))) then
 loopF (reedsolomon_Decode_l1 fu a) fu ((([(1:Int)]:List Int),((0:Int),(List.replicate (Int.toNat (List.length a.1:Int)) false))))
 else none
def reedsolomon_Decode_an:An:=(.n none .z (.n none (.n none .z (.n none .z (.n none (.n none .z .z) .z))) (.n none .z (.n none .z (.n none (.n none .z (.n none (.n (some ⟨[10,0,1,2,31,32],[],[],[.reg 11 (.ro true (.int .u8)),.reg 33 (.int .i64),.row 0 true .bool 4 0],0,[]⟩) (.n none .z (.n none .z (.n none (.n none (.n none .z (.n none (.n (some ⟨[11,13,33],[0],[],[.reg 44 .bool],0,[]⟩) .z (.n none (.n none .z .z) .z)) (.n none (.n none .z (.n none (.n none .z .z) .z)) (.n none .z .z)))) .z) .z))) .z) .z)) (.n none (.n none .z (.n none (.n none .z .z) .z)) (.n none .z (.n none .z (.n none (.n none .z (.n none (.n none .z .z) .z)) (.n none (.ops [(7,(.n none (.n none .z (.n none .z (.n none (.n (some ⟨[0,6,2,18],[0],[],[.reg 19 (.int .i64),.row 2 false (.int .u8) 5 0],0,[]⟩) (.n none .z (.n none .z (.n (some ⟨[],[],[],[.reg 19 (.int .i64),.row 2 false (.int .u8) 5 0],0,[]⟩) (.n none (.n none .z (.n none .z (.n none .z (.n none (.n none .z .z) (.n none .z (.n none (.n none .z (.n none (.n (some ⟨[19,7,8,9],[2],[],[.reg 10 (.int .u8),.reg 11 (.int .i64)],0,[]⟩) (.n none (.n none .z .z) (.n none (.n none (.dr [] []) .z) .z)) .z) .z)) (.n none .z (.n none (.dr [] []) .z)))))))) .z) .z))) .z) .z))) .z))]) (.n none .z (.n none (.n none .z (.n none (.n (some ⟨[14,2,1,84,0,10,85],[0,2],[],[.reg 17 (.int .i64),.reg 18 (.int .i64),.reg 86 (.int .i64)],0,[]⟩) (.n none .z (.n none .z (.n (some ⟨[],[],[],[.reg 86 (.int .i64),.reg 17 (.int .i64),.reg 18 (.int .i64)],0,[]⟩) (.n none (.n none .z (.n none .z (.n none (.n none .z (.n none .z (.n none .z .z))) .z))) .z) .z))) .z) .z)) (.n none (.n none .z (.n (some ⟨[14,17],[0,2],[],[.reg 123 .bool],0,[]⟩) .z (.n none (.n none .z .z) .z))) (.n none .z .z))))))))))))))
noncomputable def reedsolomon_Decode_dc:List (Nat×Ctr):=[(13,reedsolomon_Mul_ctr),(15,reedsolomon_check_ctr),(16,_reedsolomon_poly__times_ctr),(17,reedsolomon_power_ctr),(18,reedsolomon_syndromes_ctr),(20,reedsolomon_locate_ctr),(22,_reedsolomon_poly__at_ctr)]
def reedsolomon_Decode_ctr:Ctr:=⟨(.pair (.list (.int .u8)) (.pair (.int .i64) (.pair (.list (.int .i64)) .unit))),(.pair (.list (.int .u8)) (.pair (.int .i64) (.pair (.int .i64) .unit))),reedsolomon_Decode_r,6⟩
theorem reedsolomon_Decode_ok:CtrOk Try.prog 6 reedsolomon_Decode_ctr:=ctr_ok (l:=reedsolomon_Decode_dc) (f:=12) (an:=reedsolomon_Decode_an) ⟨reedsolomon_Mul_ok,⟨reedsolomon_check_ok,⟨_reedsolomon_poly__times_ok,⟨reedsolomon_power_ok,⟨reedsolomon_syndromes_ok,⟨reedsolomon_locate_ok,⟨_reedsolomon_poly__at_ok,trivial⟩⟩⟩⟩⟩⟩⟩ fun fu x=>by kernel_rfl
end
end Go.Proofs.Ytedmffbhklgloaa
/- Residual programs of functions (printed by a program out of the code),checked by the kernel,and the contracts that follow. -/
namespace Go.Proofs.Ytedmffbhklgloaa
open Go Go.RowKit
set_option linter.unusedVariables false
noncomputable section
def reedsolomon_Inverse_r (fu:Nat) (a:Int×Unit):Option (Int×Int×Unit) :=
 bif (decide (a.1=(0:Int))) then
  some (((0:Int),((1:Int),())))
 else
 bindO (reedsolomon_power_r fu ((a.1,((254:Int),())))) fun v0 =>
 let v1:Int:=v0.1
 some ((v1,((0:Int),())))
def reedsolomon_Inverse_an:An:=(.n none .z (.n none (.n none .z (.n none (.n none .z .z) .z)) (.n none .z .z)))
noncomputable def reedsolomon_Inverse_dc:List (Nat×Ctr):=[(17,reedsolomon_power_ctr)]
def reedsolomon_Inverse_ctr:Ctr:=⟨(.pair (.int .u8) .unit),(.pair (.int .u8) (.pair (.int .i64) .unit)),reedsolomon_Inverse_r,12⟩
theorem reedsolomon_Inverse_ok:CtrOk Try.prog 12 reedsolomon_Inverse_ctr:=ctr_ok (l:=reedsolomon_Inverse_dc) (f:=12) (an:=reedsolomon_Inverse_an) ⟨reedsolomon_power_ok,trivial⟩ fun fu x=>by kernel_rfl
def reedsolomon_Encode_l4 (fu:Nat) (a:List Int×Int×Unit) (v1:List Int×Int) (v2:Int×List Int) (v4:Int) (j2:(Int×List Int)→Option (List Int×Int×Unit)) (j5:(Int×List Int)→Option (List Int×Int×Unit)) (v5:Int×List Int):Option (List Int×Int×Unit) :=
 bif (decide (v5.1<(List.length (List.set ((List.drop (Int.toNat (0:Int)) (List.take (Int.toNat (min (List.length (List.drop (Int.toNat (1:Int)) (List.take (Int.toNat (List.length v2.2:Int)) v2.2)):Int) (List.length v2.2:Int))) (List.drop (Int.toNat (1:Int)) (List.take (Int.toNat (List.length v2.2:Int)) v2.2))))++(List.drop (Int.toNat (min (List.length (List.drop (Int.toNat (1:Int)) (List.take (Int.toNat (List.length v2.2:Int)) v2.2)):Int) (List.length v2.2:Int))) (List.take (Int.toNat (List.length v2.2:Int)) v2.2))) (Int.toNat (IntKind.i64.wrap (a.2.1-(1:Int)))) (0:Int)):Int))) then
  let v6:Int:=v5.1
  bif ((decide ((0:Int)≤v6))&&(decide (v6<(List.length v5.2:Int)))) then
  bif ((decide ((0:Int)≤(IntKind.i64.wrap ((IntKind.i64.wrap (a.2.1-(1:Int)))-v6))))&&(decide ((IntKind.i64.wrap ((IntKind.i64.wrap (a.2.1-(1:Int)))-v6))<(List.length v1.1:Int)))) then
  let v7:Int:=(List.getD v1.1 (Int.toNat (IntKind.i64.wrap ((IntKind.i64.wrap (a.2.1-(1:Int)))-v6))) 0)
  bindO (reedsolomon_Mul_r fu ((v4,(v7,())))) fun v8 =>
  bif ((decide ((0:Int)≤v6))&&(decide (v6<(List.length v5.2:Int)))) then
  j5 (((IntKind.i64.wrap (v5.1+(1:Int))),(List.set v5.2 (Int.toNat v6) (bits BinOp.xor IntKind.u8 (List.getD v5.2 (Int.toNat v6) 0) v8.1))))
  else none
  else none
  else none
 else
 j2 (((IntKind.i64.wrap (v2.1+(1:Int))),v5.2))
def reedsolomon_Encode_l3 (fu:Nat) (a:List Int×Int×Unit) (v1:List Int×Int) (j2:(Int×List Int)→Option (List Int×Int×Unit)) (v2:Int×List Int):Option (List Int×Int×Unit) :=
 bif (decide (v2.1<(List.length a.1:Int))) then
  bif ((decide ((0:Int)≤v2.1))&&(decide (v2.1<(List.length a.1:Int)))) then
  let v3:Int:=(List.getD a.1 (Int.toNat v2.1) 0)
  bif (decide ((0:Int)<(List.length v2.2:Int))) then
  let v4:Int:=(bits BinOp.xor IntKind.u8 v3 (List.getD v2.2 (Int.toNat (0:Int)) 0))
  bif (decide ((1:Int)≤(List.length v2.2:Int))) then
  bif ((decide ((0:Int)≤(IntKind.i64.wrap (a.2.1-(1:Int)))))&&(decide ((IntKind.i64.wrap (a.2.1-(1:Int)))<(List.length ((List.drop (Int.toNat (0:Int)) (List.take (Int.toNat (min (List.length (List.drop (Int.toNat (1:Int)) (List.take (Int.toNat (List.length v2.2:Int)) v2.2)):Int) (List.length v2.2:Int))) (List.drop (Int.toNat (1:Int)) (List.take (Int.toNat (List.length v2.2:Int)) v2.2))))++(List.drop (Int.toNat (min (List.length (List.drop (Int.toNat (1:Int)) (List.take (Int.toNat (List.length v2.2:Int)) v2.2)):Int) (List.length v2.2:Int))) (List.take (Int.toNat (List.length v2.2:Int)) v2.2))):Int)))) then
  loopF (reedsolomon_Encode_l4 fu a v1 v2 v4 j2) fu (((0:Int),(List.set ((List.drop (Int.toNat (0:Int)) (List.take (Int.toNat (min (List.length (List.drop (Int.toNat (1:Int)) (List.take (Int.toNat (List.length v2.2:Int)) v2.2)):Int) (List.length v2.2:Int))) (List.drop (Int.toNat (1:Int)) (List.take (Int.toNat (List.length v2.2:Int)) v2.2))))++(List.drop (Int.toNat (min (List.length (List.drop (Int.toNat (1:Int)) (List.take (Int.toNat (List.length v2.2:Int)) v2.2)):Int) (List.length v2.2:Int))) (List.take (Int.toNat (List.length v2.2:Int)) v2.2))) (Int.toNat (IntKind.i64.wrap (a.2.1-(1:Int)))) (0:Int))))
  else none
  else none
  else none
  else none
 else
 bif (decide (((List.length a.1:Int)*(1:Int))≤(140737488355328:Int))) then
 bif (decide ((((List.length a.1:Int)+(List.length v2.2:Int))*(1:Int))≤(140737488355328:Int))) then
 some (((a.1++v2.2),((0:Int),())))
 else none
 else none
def reedsolomon_Encode_l2 (fu:Nat) (a:List Int×Int×Unit) (j1:(List Int×Int)→Option (List Int×Int×Unit)) (v1:List Int×Int):Option (List Int×Int×Unit) :=
 bif (decide (v1.2<a.2.1)) then
  let v2:Int:=v1.2
  bindO (reedsolomon_power_r fu (((2:Int),(v2,())))) fun v3 =>
  bindO (_reedsolomon_poly__times_r fu ((v1.1,(([v3.1,(1:Int)]:List Int),((IntKind.i64.wrap (a.2.1+(1:Int))),()))))) fun v4 =>
  let v5:List Int:=v4.1
  j1 ((v5,(IntKind.i64.wrap (v1.2+(1:Int)))))
 else
 bif ((decide ((0:Int)≤a.2.1))&&(decide (((1:Int)*a.2.1)≤(281474976710656:Int)))) then
 loopF (reedsolomon_Encode_l3 fu a v1) fu (((0:Int),(List.replicate (Int.toNat a.2.1) (0:Int))))
 else none
def reedsolomon_Encode_j1 (fu:Nat) (a:List Int×Int×Unit) (v0:Bool):Option (List Int×Int×Unit) :=
 bif v0 then
  some ((([]:List (Int)),((3:Int),())))
 else
 bif (decide ((List.length a.1:Int)=(0:Int))) then
  some ((([]:List (Int)),((1:Int),())))
 else
 bif (decide ((255:Int)<(IntKind.i64.wrap ((List.length a.1:Int)+a.2.1)))) then
  some ((([]:List (Int)),((2:Int),())))
 else
 loopF (reedsolomon_Encode_l2 fu a) fu ((([(1:Int)]:List Int),(0:Int)))
def reedsolomon_Encode_r (fu:Nat) (a:List Int×Int×Unit):Option (List Int×Int×Unit) :=
 joinF (reedsolomon_Encode_j1 fu a) fun j0 =>
 bif (decide (a.2.1<(1:Int))) then
  j0 (true)
 else
 j0 ((decide ((64:Int)<a.2.1)))
def reedsolomon_Encode_an:An:=(.n none .z (.n none (.n (some ⟨[1,0],[],[],[.reg 18 .bool],0,[]⟩) .z (.n none (.n none .z .z) .z)) (.n none (.n none .z (.n none (.n none .z .z) .z)) (.n none (.n none .z (.n none (.n none .z .z) .z)) (.n none .z (.n none (.n none .z (.n none (.n (some ⟨[1,0,28],[],[],[.reg 6 (.ro true (.int .u8)),.reg 29 (.int .i64)],0,[]⟩) (.n none .z (.n none .z (.n none (.n none (.n none .z .z) .z) .z))) .z) .z)) (.n none .z (.n none (.n none .z (.n none (.n (some ⟨[8,0,42,6,1,43],[],[],[.reg 44 (.int .i64),.row 1 true (.int .u8) 5 0],0,[]⟩) (.n none .z (.n none .z (.n none (.n none (.n none .z (.n none .z (.n none .z (.n none .z (.n none .z (.n none (.n (some ⟨[44,11,62],[],[],[.reg 63 (.int .i64),.row 1 true (.int .u8) 5 0],0,[]⟩) (.n none .z (.n none .z (.n none (.n none (.n none .z (.dr [] [])) .z) .z))) .z) .z)))))) .z) .z))) .z) .z)) (.n none .z .z)))))))))
noncomputable def reedsolomon_Encode_dc:List (Nat×Ctr):=[(13,reedsolomon_Mul_ctr),(16,_reedsolomon_poly__times_ctr),(17,reedsolomon_power_ctr)]
def reedsolomon_Encode_ctr:Ctr:=⟨(.pair (.list (.int .u8)) (.pair (.int .i64) .unit)),(.pair (.list (.int .u8)) (.pair (.int .i64) .unit)),reedsolomon_Encode_r,11⟩
theorem reedsolomon_Encode_ok:CtrOk Try.prog 11 reedsolomon_Encode_ctr:=ctr_ok (l:=reedsolomon_Encode_dc) (f:=12) (an:=reedsolomon_Encode_an) ⟨reedsolomon_Mul_ok,⟨_reedsolomon_poly__times_ok,⟨reedsolomon_power_ok,trivial⟩⟩⟩ fun fu x=>by kernel_rfl
def law_reedsolomonWorks_r (fu:Nat) (a:Unit):Option (Bool×Unit) :=
 bindO (reedsolomon_Encode_r fu ((([(1:Int)]:List Int),((2:Int),())))) fun v0 =>
 let v1:List Int:=v0.1
 let v2:Int:=v0.2.1
 bindO (reedsolomon_Decode_r fu ((([(0:Int),(3:Int),(2:Int)]:List Int),((2:Int),(([]:List (Int)),()))))) fun v3 =>
 let v4:List Int:=v3.1
 let v5:Int:=v3.2.1
 let v6:Int:=v3.2.2.1
 bindO (reedsolomon_Inverse_r fu (((2:Int),()))) fun v7 =>
 let v8:Int:=v7.1
 let v9:Int:=v7.2.1
 bif (decide (v2=(0:Int))) then
  bindO (R_SameBytes_r fu ((v1,(([(1:Int),(3:Int),(2:Int)]:List Int),())))) fun v10 =>
  bif v10.1 then
   bif (decide (v6=(0:Int))) then
    bif (decide (v5=(1:Int))) then
     bindO (R_SameBytes_r fu ((v4,(v1,())))) fun v11 =>
     bif v11.1 then
      bif (decide (v9=(0:Int))) then
       bif (decide (v8=(142:Int))) then
        bindO (reedsolomon_Mul_r fu (((2:Int),((128:Int),())))) fun v12 =>
        let v13:Bool:=(decide (v12.1=(29:Int)))
        some ((v13,()))
       else
       some ((false,()))
      else
      some ((false,()))
     else
     some ((false,()))
    else
    some ((false,()))
   else
   some ((false,()))
  else
  some ((false,()))
 else
 some ((false,()))
def law_reedsolomonWorks_an:An:=(.n none .z (.n none .z (.n none .z (.n none .z (.n none .z .z)))))
noncomputable def law_reedsolomonWorks_dc:List (Nat×Ctr):=[(6,reedsolomon_Decode_ctr),(10,R_SameBytes_ctr),(11,reedsolomon_Encode_ctr),(12,reedsolomon_Inverse_ctr),(13,reedsolomon_Mul_ctr)]
def law_reedsolomonWorks_ctr:Ctr:=⟨.unit,(.pair .bool .unit),law_reedsolomonWorks_r,4⟩
theorem law_reedsolomonWorks_ok:CtrOk Try.prog 4 law_reedsolomonWorks_ctr:=ctr_ok (l:=law_reedsolomonWorks_dc) (f:=12) (an:=law_reedsolomonWorks_an) ⟨reedsolomon_Decode_ok,⟨R_SameBytes_ok,⟨reedsolomon_Encode_ok,⟨reedsolomon_Inverse_ok,⟨reedsolomon_Mul_ok,trivial⟩⟩⟩⟩⟩ fun fu x=>by kernel_rfl
end
end Go.Proofs.Ytedmffbhklgloaa
/- The residual programs. -/
/- The field of 256 elements: what Mul,Inverse and the document's Times compute. -/
namespace Go.Proofs.Ytedmffbhklgloaa
open Go Go.RowKit
set_option linter.unusedSimpArgs false
set_option linter.unusedSectionVars false
set_option linter.unusedVariables false
theorem stLoop {X β:Type} {f:(X→Option β)→X→Option β} {n fu:Nat} (hn:n<fu) {st:Nat→X} {x0:X} {fin:Option β} (h0:st 0=x0)
  (step:∀ j (i:Nat),i<n→f j (st i)=j (st (i+1))) (last:∀ j,f j (st n)=fin):loopF f fu x0=fin:=by
 have key:=errGen (f:=f) (n:=n) (st:=st) (E:=fun _=>0) (out:=fun _=>none) (fin:=fin) (fun j i hi _=>by rw [if_pos rfl];exact step j i hi) (fun _=>last) fu 0 (by omega) (by omega) (by omega);rw [if_pos (firstE_all _ _ fun _ _ _=>rfl),h0] at key;exact key
theorem bits_xor_u8 (a b:Nat) (ha:a<256) (hb:b<256):bits .xor .u8 (a:Int) (b:Int)=((a ^^^ b:Nat):Int):=by
 have hx:a ^^^ b<2 ^ 8:=Nat.xor_lt_two_pow (by omega) (by omega)
 have h1:(BitVec.ofInt 8 (a:Int)).toNat=a:=by
  rw [BitVec.ofInt_natCast,BitVec.toNat_ofNat];exact Nat.mod_eq_of_lt (by omega)
 have h2:(BitVec.ofInt 8 (b:Int)).toNat=b:=by
  rw [BitVec.ofInt_natCast,BitVec.toNat_ofNat];exact Nat.mod_eq_of_lt (by omega)
 show IntKind.u8.wrap ((BitVec.ofInt 8 (a:Int) ^^^ BitVec.ofInt 8 (b:Int)).toNat:Int)=_;rw [BitVec.toNat_xor,h1,h2];simp [IntKind.wrap,IntKind.bits,IntKind.signed];omega
theorem bits_and_u8 (a b:Nat) (ha:a<256) (hb:b<256):bits .and .u8 (a:Int) (b:Int)=((a &&& b:Nat):Int):=by
 have hx:a &&& b<2 ^ 8:=Nat.and_lt_two_pow _ (by omega)
 have h1:(BitVec.ofInt 8 (a:Int)).toNat=a:=by
  rw [BitVec.ofInt_natCast,BitVec.toNat_ofNat];exact Nat.mod_eq_of_lt (by omega)
 have h2:(BitVec.ofInt 8 (b:Int)).toNat=b:=by
  rw [BitVec.ofInt_natCast,BitVec.toNat_ofNat];exact Nat.mod_eq_of_lt (by omega)
 show IntKind.u8.wrap ((BitVec.ofInt 8 (a:Int) &&& BitVec.ofInt 8 (b:Int)).toNat:Int)=_;rw [BitVec.toNat_and,h1,h2];simp [IntKind.wrap,IntKind.bits,IntKind.signed];omega
theorem bits_xor_i (a b:Nat) (ha:a<32768) (hb:b<32768):bits .xor .i64 (a:Int) (b:Int)=((a ^^^ b:Nat):Int):=by
 have hx:a ^^^ b<2 ^ 15:=Nat.xor_lt_two_pow (by omega) (by omega)
 have h1:(BitVec.ofInt 64 (a:Int)).toNat=a:=by
  rw [BitVec.ofInt_natCast,BitVec.toNat_ofNat];exact Nat.mod_eq_of_lt (by omega)
 have h2:(BitVec.ofInt 64 (b:Int)).toNat=b:=by
  rw [BitVec.ofInt_natCast,BitVec.toNat_ofNat];exact Nat.mod_eq_of_lt (by omega)
 show IntKind.i64.wrap ((BitVec.ofInt 64 (a:Int) ^^^ BitVec.ofInt 64 (b:Int)).toNat:Int)=_;rw [BitVec.toNat_xor,h1,h2];exact wr64 (by omega) (by omega)
theorem bits_and1_i (a:Nat) (ha:a<32768):bits .and .i64 (a:Int) 1=((a % 2:Nat):Int):=by
 have h1:(BitVec.ofInt 64 (a:Int)).toNat=a:=by
  rw [BitVec.ofInt_natCast,BitVec.toNat_ofNat];exact Nat.mod_eq_of_lt (by omega)
 show IntKind.i64.wrap ((BitVec.ofInt 64 (a:Int) &&& BitVec.ofInt 64 1).toNat:Int)=_;rw [BitVec.toNat_and,h1,show (BitVec.ofInt 64 1).toNat=1 from rfl,Nat.and_one_is_mod];exact wr64 (by omega) (by omega)
theorem bits_and1_u8 (a:Nat) (ha:a<256):bits .and .u8 (a:Int) 1=((a % 2:Nat):Int):=by
 have:=bits_and_u8 a 1 ha (by decide);rw [Nat.and_one_is_mod] at this;exact this
theorem xt_bits:∀ a:Nat,a<256→bits .xor .u8 (IntKind.u8.wrap ((a:Int)*2 ^ (Int.toNat (1:Int)))) (bits .and .u8 (29:Int) (IntKind.u8.wrap (-((a:Int) / 2 ^ (Int.toNat (7:Int))))))=(xtN a:Int):=by decide +kernel
theorem neg_bit:∀ b:Nat,b<256→IntKind.u8.wrap (-(bits .and .u8 (b:Int) (1:Int)))=((if b % 2=1 then 255 else 0:Nat):Int):=by decide +kernel
theorem and_255:∀ a:Nat,a<256→a &&& 255=a:=by decide +kernel
section
variable {fu:Nat} (hf:18446744073709551616≤fu)
include hf
theorem mul_r {a b:Nat} (ha:a<256) (hb:b<256):reedsolomon_Mul_r fu ((a:Int),((b:Int),()))=some ((mulN a b:Int),()):=by
 unfold reedsolomon_Mul_r;refine postLoop (f:=reedsolomon_Mul_l1 fu) (fun x=>x.2.2.toNat) (fun x=>∃ f p a' b':Nat,x=((p:Int),((a':Int),(b':Int)))∧b'<2 ^ f∧f≤8∧p<256∧a'<256∧mulS f p a' b'=mulN a b) (fun r=>r=some ((mulN a b:Int),())) ?_ fu _ ⟨8,0,a,b,rfl,hb,Nat.le_refl _,by decide,ha,rfl⟩ (by simp only;omega)
 rintro j _ ⟨f,p,a',b',rfl,h1,h2,h3,h4,h5⟩
 by_cases c:b'=0
 ·subst c;refine .inr ?_;rw [←h5,mulS_zero];unfold reedsolomon_Mul_l1;simp (disch:=omega) only [joinF_eq,bindO_some,s_wr,s_td,s_tm,s_pos,s_neg,cond_true,cond_false,Bool.not_true,Bool.not_false,Bool.true_and,Bool.and_true,Bool.false_and,Bool.and_false,bne_self_eq_false,decide_true,decide_false,Int.toNat_natCast]
 ·obtain ⟨f,rfl⟩:∃ f',f=f'+1:=⟨f-1,by
   rcases Nat.eq_zero_or_pos f with e | e
   ·subst e;omega
   ·omega⟩
  have hb256:b'<256:=Nat.lt_of_lt_of_le h1 (Nat.pow_le_pow_right (n:=2) (by decide) h2);refine .inl ⟨(((if b' % 2=1 then p ^^^ a' else p:Nat):Int),((xtN a':Int),((b' / 2:Nat):Int))),⟨f,_,_,_,rfl,by rw [Nat.pow_succ] at h1;omega,by omega,?_,xt_lt h4,by rw [←h5,mulS]⟩,by simp only;omega,?_⟩
  ·split
   ·exact Nat.xor_lt_two_pow (n:=8) h3 h4
   ·exact h3
  ·have e1:bits .xor .u8 (p:Int) (bits .and .u8 (a':Int) (IntKind.u8.wrap (-(bits .and .u8 (b':Int) (1:Int)))))=((if b' % 2=1 then p ^^^ a' else p:Nat):Int):=by
    rw [neg_bit b' hb256];by_cases e:b' % 2=1
    ·rw [if_pos e,if_pos e,bits_and_u8 a' 255 h4 (by decide),and_255 a' h4,bits_xor_u8 p a' h3 h4]
    ·rw [if_neg e,if_neg e,bits_and_u8 a' 0 h4 (by decide),Nat.and_zero,bits_xor_u8 p 0 h3 (by decide),Nat.xor_zero]
   have e2:((b':Int) / 2 ^ (Int.toNat (1:Int)))=((b' / 2:Nat):Int):=by
    show (b':Int) / 2=_;omega
   unfold reedsolomon_Mul_l1;simp (disch:=omega) only [joinF_eq,bindO_some,s_wr,s_td,s_tm,s_pos,s_neg,cond_true,cond_false,Bool.not_true,Bool.not_false,Bool.true_and,Bool.and_true,Bool.false_and,Bool.and_false,bne_self_eq_false,decide_true,decide_false,Int.toNat_natCast];rw [e1,xt_bits a' h4,e2]
theorem pow_r {a:Nat} {n:Nat} (ha:a<256) (hn:n<256):reedsolomon_power_r fu ((a:Int),((n:Int),()))=some ((powS 8 1 a n:Int),()):=by
 unfold reedsolomon_power_r;refine postLoop (f:=reedsolomon_power_l1 fu) (fun x=>x.2.2.toNat) (fun x=>∃ f p a' n':Nat,x=((p:Int),((a':Int),(n':Int)))∧n'<2 ^ f∧f≤8∧p<256∧a'<256∧powS f p a' n'=powS 8 1 a n) (fun r=>r=some ((powS 8 1 a n:Int),())) ?_ fu _ ⟨8,1,a,n,rfl,hn,Nat.le_refl _,by decide,ha,rfl⟩ (by simp only;omega)
 rintro j _ ⟨f,p,a',b',rfl,h1,h2,h3,h4,h5⟩
 by_cases c:b'=0
 ·subst c;refine .inr ?_;rw [←h5,powS_zero];unfold reedsolomon_power_l1;simp (disch:=omega) only [joinF_eq,bindO_some,s_wr,s_td,s_tm,s_pos,s_neg,cond_true,cond_false,Bool.not_true,Bool.not_false,Bool.true_and,Bool.and_true,Bool.false_and,Bool.and_false,bne_self_eq_false,decide_true,decide_false,Int.toNat_natCast]
 ·obtain ⟨f,rfl⟩:∃ f',f=f'+1:=⟨f-1,by
   rcases Nat.eq_zero_or_pos f with e | e
   ·subst e;omega
   ·omega⟩
  have hb256:b'<256:=Nat.lt_of_lt_of_le h1 (Nat.pow_le_pow_right (n:=2) (by decide) h2);refine .inl ⟨(((if b' % 2=1 then mulN p a' else p:Nat):Int),((mulN a' a':Int),((b' / 2:Nat):Int))),⟨f,_,_,_,rfl,by rw [Nat.pow_succ] at h1;omega,by omega,?_,mulN_lt h4,by rw [←h5,powS]⟩,by simp only;omega,?_⟩
  ·split
   ·exact mulN_lt h3
   ·exact h3
  ·have e2:((b':Int) / 2 ^ (Int.toNat (1:Int)))=((b' / 2:Nat):Int):=by
    show (b':Int) / 2=_;omega
   have e3:=bits_and1_i b' (by omega);unfold reedsolomon_power_l1;by_cases e:b' % 2=1
   ·rw [if_pos e];simp (disch:=omega) only [joinF_eq,bindO_some,s_wr,s_td,s_tm,s_pos,s_neg,cond_true,cond_false,Bool.not_true,Bool.not_false,Bool.true_and,Bool.and_true,Bool.false_and,Bool.and_false,bne_self_eq_false,decide_true,decide_false,Int.toNat_natCast,mul_r hf h3 h4];unfold reedsolomon_power_j2;simp (disch:=omega) only [joinF_eq,bindO_some,s_wr,s_td,s_tm,s_pos,s_neg,cond_true,cond_false,Bool.not_true,Bool.not_false,Bool.true_and,Bool.and_true,Bool.false_and,Bool.and_false,bne_self_eq_false,decide_true,decide_false,Int.toNat_natCast,mul_r hf h4 h4];rw [e2]
   ·rw [if_neg e];simp (disch:=omega) only [joinF_eq,bindO_some,s_wr,s_td,s_tm,s_pos,s_neg,cond_true,cond_false,Bool.not_true,Bool.not_false,Bool.true_and,Bool.and_true,Bool.false_and,Bool.and_false,bne_self_eq_false,decide_true,decide_false,Int.toNat_natCast];unfold reedsolomon_power_j2;simp (disch:=omega) only [joinF_eq,bindO_some,s_wr,s_td,s_tm,s_pos,s_neg,cond_true,cond_false,Bool.not_true,Bool.not_false,Bool.true_and,Bool.and_true,Bool.false_and,Bool.and_false,bne_self_eq_false,decide_true,decide_false,Int.toNat_natCast,mul_r hf h4 h4];rw [e2]
theorem tA_lt {a b:Nat} (ha:a<256):∀ i,i≤8→tAN a b i<32768
 | 0,_=>by show (0:Nat)<32768;decide
 | i+1,hi=>by
  have:=tA_lt (a:=a) (b:=b) ha i (by omega)
  have hp:a*2 ^ i<32768:=by
   have h1:=Nat.pow_le_pow_right (n:=2) (by decide) (show i≤7 by omega);have h2:=Nat.mul_le_mul (show a≤255 by omega) h1;omega
  rw [tAN];split
  ·exact Nat.xor_lt_two_pow (n:=15) this hp
  ·exact this
theorem tQ_lt {p:Nat} (hp:p<32768):∀ j,j≤7→tQN p j<32768
 | 0,_=>hp
 | j+1,hj=>by
  have:=tQ_lt hp j (by omega)
  have h2:285*2 ^ (6-j)<32768:=by
   have h1:=Nat.pow_le_pow_right (n:=2) (by decide) (show 6-j≤6 by omega);omega
  rw [tQN];split
  ·exact Nat.xor_lt_two_pow (n:=15) this h2
  ·exact this
theorem div_cast {a i:Nat}:(a:Int) / 2 ^ i=((a / 2 ^ i:Nat):Int):=by rw [Int.natCast_ediv,Int.natCast_pow];rfl
theorem mul_cast {a i:Nat}:(a:Int)*2 ^ i=((a*2 ^ i:Nat):Int):=by rw [Int.natCast_mul,Int.natCast_pow];rfl
theorem times_r {a b:Nat} (ha:a<256) (hb:b<256):R_Times_r fu ((a:Int),((b:Int),()))=some ((timN a b:Int),()):=by
 unfold R_Times_r;refine stLoop (n:=8) (st:=fun i=>((tAN a b i:Int),(i:Int))) (by omega) rfl (fun j i hi=>?_) (fun j=>?_)
 ·have t1:=tA_lt hf (a:=a) (b:=b) ha i (by omega)
  have hp:a*2 ^ i<32768:=by
   have h1:=Nat.pow_le_pow_right (n:=2) (by decide) (show i≤7 by omega);have h2:=Nat.mul_le_mul (show a≤255 by omega) h1;omega
  have e1:bits .and .u8 ((b:Int) / 2 ^ i) 1=((b / 2 ^ i % 2:Nat):Int):=by
   rw [div_cast hf,bits_and1_u8 _ (Nat.lt_of_le_of_lt (Nat.div_le_self _ _) hb)]
  have e2:bits .xor .i64 (tAN a b i:Int) (IntKind.i64.wrap ((a:Int)*2 ^ i))=((tAN a b i ^^^ (a*2 ^ i):Nat):Int):=by
   rw [mul_cast hf,wr64 (by omega) (by omega),bits_xor_i _ _ t1 hp]
  have e3:IntKind.i64.wrap (a:Int)=(a:Int):=wr64 (by omega) (by omega);unfold R_Times_l1;by_cases g:b / 2 ^ i % 2=1
  ·have e1:bits .and .u8 ((b:Int) / 2 ^ i) 1=1:=by rw [e1,g];rfl
   have e5:tAN a b (i+1)=tAN a b i ^^^ (a*2 ^ i):=by rw [tAN,if_pos g]
   rw [e5];simp (disch:=omega) only [joinF_eq,bindO_some,s_wr,s_td,s_tm,s_pos,s_neg,cond_true,cond_false,Bool.not_true,Bool.not_false,Bool.true_and,Bool.and_true,Bool.false_and,Bool.and_false,bne_self_eq_false,decide_true,decide_false,Int.toNat_natCast];unfold R_Times_j2;simp (disch:=omega) only [joinF_eq,bindO_some,s_wr,s_td,s_tm,s_pos,s_neg,cond_true,cond_false,Bool.not_true,Bool.not_false,Bool.true_and,Bool.and_true,Bool.false_and,Bool.and_false,bne_self_eq_false,decide_true,decide_false,Int.toNat_natCast];rw [e2];rfl
  ·have e1:bits .and .u8 ((b:Int) / 2 ^ i) 1=0:=by
    rw [e1,show b / 2 ^ i % 2=0 by have:=Nat.mod_lt (b / 2 ^ i) (show 0<2 by decide);omega];rfl
   have e5:tAN a b (i+1)=tAN a b i:=by rw [tAN,if_neg g]
   rw [e5];simp (disch:=omega) only [joinF_eq,bindO_some,s_wr,s_td,s_tm,s_pos,s_neg,cond_true,cond_false,Bool.not_true,Bool.not_false,Bool.true_and,Bool.and_true,Bool.false_and,Bool.and_false,bne_self_eq_false,decide_true,decide_false,Int.toNat_natCast];unfold R_Times_j2;simp (disch:=omega) only [joinF_eq,bindO_some,s_wr,s_td,s_tm,s_pos,s_neg,cond_true,cond_false,Bool.not_true,Bool.not_false,Bool.true_and,Bool.and_true,Bool.false_and,Bool.and_false,bne_self_eq_false,decide_true,decide_false,Int.toNat_natCast];rfl
 ·unfold R_Times_l1;simp (disch:=omega) only [joinF_eq,bindO_some,s_wr,s_td,s_tm,s_pos,s_neg,cond_true,cond_false,Bool.not_true,Bool.not_false,Bool.true_and,Bool.and_true,Bool.false_and,Bool.and_false,bne_self_eq_false,decide_true,decide_false,Int.toNat_natCast];have t8:=tA_lt hf (a:=a) (b:=b) ha 8 (Nat.le_refl _);unfold timN;generalize tAN a b 8=p at *
  refine stLoop (n:=7) (st:=fun k=>((tQN p k:Int),(14:Int)-(k:Int))) (by omega) rfl (fun j' k hk=>?_) (fun j'=>?_)
  ·have t1:=tQ_lt hf t8 k (by omega)
   have h2:285*2 ^ (6-k)<32768:=by
    have h1:=Nat.pow_le_pow_right (n:=2) (by decide) (show 6-k≤6 by omega);omega
   have ek:(14:Int)-(k:Int)=((14-k:Nat):Int):=by omega
   have ek2:(14:Int)-(k:Int)-8=((6-k:Nat):Int):=by omega
   have e1:bits .and .i64 ((tQN p k:Int) / 2 ^ (14-k)) 1=((tQN p k / 2 ^ (14-k) % 2:Nat):Int):=by
    rw [div_cast hf,bits_and1_i _ (Nat.lt_of_le_of_lt (Nat.div_le_self _ _) t1)]
   have e2:bits .xor .i64 (tQN p k:Int) (IntKind.i64.wrap ((285:Int)*2 ^ (6-k)))=((tQN p k ^^^ (285*2 ^ (6-k)):Nat):Int):=by
    rw [show ((285:Int)*2 ^ (6-k))=((285*2 ^ (6-k):Nat):Int) from mul_cast hf (a:=285),wr64 (by omega) (by omega),bits_xor_i _ _ t1 h2]
   have en:(14:Int)-((k+1:Nat):Int)=(14:Int)-(k:Int)-1:=by omega
   have ei:((14:Int)-(k:Int)).toNat=14-k:=by omega
   have ej:((14:Int)-(k:Int)-8).toNat=6-k:=by omega
   unfold R_Times_l3;by_cases g:tQN p k / 2 ^ (14-k) % 2=1
   ·have e1:bits .and .i64 ((tQN p k:Int) / 2 ^ (14-k)) 1=1:=by rw [e1,g];rfl
    have e5:tQN p (k+1)=tQN p k ^^^ (285*2 ^ (6-k)):=by rw [tQN,if_pos g]
    rw [e5,en];simp (disch:=omega) only [joinF_eq,bindO_some,s_wr,s_td,s_tm,s_pos,s_neg,cond_true,cond_false,Bool.not_true,Bool.not_false,Bool.true_and,Bool.and_true,Bool.false_and,Bool.and_false,bne_self_eq_false,decide_true,decide_false,Int.toNat_natCast];simp only [ei,ej];simp (disch:=omega) only [joinF_eq,bindO_some,s_wr,s_td,s_tm,s_pos,s_neg,cond_true,cond_false,Bool.not_true,Bool.not_false,Bool.true_and,Bool.and_true,Bool.false_and,Bool.and_false,bne_self_eq_false,decide_true,decide_false,Int.toNat_natCast];unfold R_Times_j4;simp (disch:=omega) only [joinF_eq,bindO_some,s_wr,s_td,s_tm,s_pos,s_neg,cond_true,cond_false,Bool.not_true,Bool.not_false,Bool.true_and,Bool.and_true,Bool.false_and,Bool.and_false,bne_self_eq_false,decide_true,decide_false,Int.toNat_natCast];rw [e2]
   ·have e1:bits .and .i64 ((tQN p k:Int) / 2 ^ (14-k)) 1=0:=by
     rw [e1,show tQN p k / 2 ^ (14-k) % 2=0 by have:=Nat.mod_lt (tQN p k / 2 ^ (14-k)) (show 0<2 by decide);omega];rfl
    have e5:tQN p (k+1)=tQN p k:=by rw [tQN,if_neg g]
    rw [e5,en];simp (disch:=omega) only [joinF_eq,bindO_some,s_wr,s_td,s_tm,s_pos,s_neg,cond_true,cond_false,Bool.not_true,Bool.not_false,Bool.true_and,Bool.and_true,Bool.false_and,Bool.and_false,bne_self_eq_false,decide_true,decide_false,Int.toNat_natCast];simp only [ei,ej];simp (disch:=omega) only [joinF_eq,bindO_some,s_wr,s_td,s_tm,s_pos,s_neg,cond_true,cond_false,Bool.not_true,Bool.not_false,Bool.true_and,Bool.and_true,Bool.false_and,Bool.and_false,bne_self_eq_false,decide_true,decide_false,Int.toNat_natCast];unfold R_Times_j4;simp (disch:=omega) only [joinF_eq,bindO_some,s_wr,s_td,s_tm,s_pos,s_neg,cond_true,cond_false,Bool.not_true,Bool.not_false,Bool.true_and,Bool.and_true,Bool.false_and,Bool.and_false,bne_self_eq_false,decide_true,decide_false,Int.toNat_natCast]
  ·have t7:=tQ_lt hf t8 7 (Nat.le_refl _);unfold R_Times_l3;simp (disch:=omega) only [joinF_eq,bindO_some,s_wr,s_td,s_tm,s_pos,s_neg,cond_true,cond_false,Bool.not_true,Bool.not_false,Bool.true_and,Bool.and_true,Bool.false_and,Bool.and_false,bne_self_eq_false,decide_true,decide_false,Int.toNat_natCast]
   have:IntKind.u8.wrap (tQN p 7:Int)=((tQN p 7 % 256:Nat):Int):=by
    simp [IntKind.wrap,IntKind.bits,IntKind.signed]
   rw [this]
end
def mulE:Nat→Nat→Nat→Nat→Nat
 | 0,p,_,_=>p
 | f+1,p,a,b=>fN (if b % 2=1 then p ^^^ a else p) fun p=>fN (xtN a) fun a=>fN (b / 2) fun b=>mulE f p a b
theorem mulE_eq:∀ f p a b:Nat,mulE f p a b=mulS f p a b
 | 0,_,_,_=>rfl
 | f+1,p,a,b=>by rw [mulE,mulS,fN_eq,fN_eq,fN_eq,mulE_eq f]
def tAE (a b:Nat):Nat→Nat→Nat→Nat
 | 0,_,p=>p
 | f+1,i,p=>fN (if b / 2 ^ i % 2=1 then p ^^^ (a*2 ^ i) else p) fun p=>tAE a b f (i+1) p
theorem tAE_eq (a b:Nat):∀ f i:Nat,tAE a b f i (tAN a b i)=tAN a b (i+f)
 | 0,_=>rfl
 | f+1,i=>by
  rw [tAE,fN_eq];have:(if b / 2 ^ i % 2=1 then tAN a b i ^^^ (a*2 ^ i) else tAN a b i)=tAN a b (i+1):=by rw [tAN]
  rw [this,tAE_eq a b f (i+1),show i+1+f=i+(f+1) by omega]
def tQE:Nat→Nat→Nat→Nat
 | 0,_,q=>q
 | f+1,j,q=>fN (if q / 2 ^ (14-j) % 2=1 then q ^^^ (285*2 ^ (6-j)) else q) fun q=>tQE f (j+1) q
theorem tQE_eq (p:Nat):∀ f j:Nat,tQE f j (tQN p j)=tQN p (j+f)
 | 0,_=>rfl
 | f+1,j=>by
  rw [tQE,fN_eq];have:(if tQN p j / 2 ^ (14-j) % 2=1 then tQN p j ^^^ (285*2 ^ (6-j)) else tQN p j)=tQN p (j+1):=by rw [tQN]
  rw [this,tQE_eq p f (j+1),show j+1+f=j+(f+1) by omega]
def timE (a b:Nat):Nat:=fN (tAE a b 8 0 0) fun p=>tQE 7 0 p % 256
theorem timE_eq (a b:Nat):timE a b=timN a b:=by
 unfold timE timN;rw [fN_eq];have h1:=tAE_eq a b 8 0;have h2:=tQE_eq (tAN a b (0+8)) 7 0;have h1:tAE a b 8 0 0=tAN a b (0+8):=h1;have h2:tQE 7 0 (tAN a b (0+8))=tQN (tAN a b (0+8)) (0+7):=h2;rw [h1,h2]
def rowM (a:Nat):Nat→Bool
 | 0=>true
 | b+1=>Nat.beq (mulE 8 0 a b) (timE a b)&&rowM a b
theorem rowM_at {a:Nat}:∀ {n b:Nat},rowM a n=true→b<n→mulN a b=timN a b
 | 0,_,_,h=>absurd h (Nat.not_lt_zero _)
 | n+1,b,h,hb=>by
  rw [rowM,Bool.and_eq_true] at h;by_cases e:b=n
  ·subst e;have:=Nat.eq_of_beq_eq_true h.1;rw [mulE_eq,timE_eq] at this;exact this
  ·exact rowM_at h.2 (by omega)
def chM (k:Nat):Nat→Bool
 | 0=>true
 | i+1=>rowM (16*k+i) 256&&chM k i
theorem chM_at {k:Nat}:∀ {n i:Nat},chM k n=true→i<n→rowM (16*k+i) 256=true
 | 0,_,_,h=>absurd h (Nat.not_lt_zero _)
 | n+1,i,h,hi=>by
  rw [chM,Bool.and_eq_true] at h;by_cases e:i=n
  ·subst e;exact h.1
  ·exact chM_at h.2 (by omega)
set_option maxRecDepth 100000
theorem mm0:chM 0 16=true:=by kernel_rfl
theorem mm1:chM 1 16=true:=by kernel_rfl
theorem mm2:chM 2 16=true:=by kernel_rfl
theorem mm3:chM 3 16=true:=by kernel_rfl
theorem mm4:chM 4 16=true:=by kernel_rfl
theorem mm5:chM 5 16=true:=by kernel_rfl
theorem mm6:chM 6 16=true:=by kernel_rfl
theorem mm7:chM 7 16=true:=by kernel_rfl
theorem mm8:chM 8 16=true:=by kernel_rfl
theorem mm9:chM 9 16=true:=by kernel_rfl
theorem mm10:chM 10 16=true:=by kernel_rfl
theorem mm11:chM 11 16=true:=by kernel_rfl
theorem mm12:chM 12 16=true:=by kernel_rfl
theorem mm13:chM 13 16=true:=by kernel_rfl
theorem mm14:chM 14 16=true:=by kernel_rfl
theorem mm15:chM 15 16=true:=by kernel_rfl
theorem mmA:∀ k,k<16→chM k 16=true
 | 0,_=>mm0
 | 1,_=>mm1
 | 2,_=>mm2
 | 3,_=>mm3
 | 4,_=>mm4
 | 5,_=>mm5
 | 6,_=>mm6
 | 7,_=>mm7
 | 8,_=>mm8
 | 9,_=>mm9
 | 10,_=>mm10
 | 11,_=>mm11
 | 12,_=>mm12
 | 13,_=>mm13
 | 14,_=>mm14
 | 15,_=>mm15
 | n+16,h=>absurd h (by omega)
theorem mul_tim {a b:Nat} (ha:a<256) (hb:b<256):mulN a b=timN a b:=by
 have h:=chM_at (mmA (a / 16) (by omega)) (show a % 16<16 by omega);rw [show 16*(a / 16)+a % 16=a by omega] at h;exact rowM_at h hb
end Go.Proofs.Ytedmffbhklgloaa
/- What Encode returns. -/
set_option maxRecDepth 100000
namespace Go.Proofs.Ytedmffbhklgloaa
open Go Go.RowKit
set_option linter.unusedSimpArgs false
set_option linter.unusedSectionVars false
set_option linter.unusedVariables false
namespace Gf
theorem bf2 {α:Type} {p q:Prop} [Decidable p] [Decidable q] {a b:α} (h:p) (k:q):(bif decide p&&decide q then a else b)=a:=by rw [decide_eq_true h,decide_eq_true k];rfl
section
variable {fu:Nat} (hf:18446744073709551616≤fu)
include hf
theorem xor_c {a b:Nat} (ha:a<256) (hb:b<256):bits BinOp.xor IntKind.u8 (a:Int) (b:Int)=((a ^^^ b:Nat):Int):=bits_xor_u8 a b ha hb
end
end Gf
end Go.Proofs.Ytedmffbhklgloaa
/- Encode: the register over the data. -/
set_option maxRecDepth 100000
namespace Go.Proofs.Ytedmffbhklgloaa
open Go Go.RowKit
set_option linter.unusedSimpArgs false
set_option linter.unusedSectionVars false
set_option linter.unusedVariables false
namespace Gf
section
variable {fu:Nat} (hf:18446744073709551616≤fu) {p d:Nat} {dt:Nat→Nat}
include hf
theorem power2 {m:Nat} (hm:m<256):reedsolomon_power_r fu ((2:Int),((m:Int),()))=some ((pw 2 m:Int),()):=by
 have h:=pow_r hf (a:=2) (n:=m) (by decide) hm;rw [pow_2 hm] at h;exact h
end
end Gf
end Go.Proofs.Ytedmffbhklgloaa
/- What the program's functions over the field return,by elements: mul,power,at,times. -/
set_option maxRecDepth 100000
namespace Go.Proofs.Ytedmffbhklgloaa
open Go Go.RowKit
set_option linter.unusedSimpArgs false
set_option linter.unusedSectionVars false
set_option linter.unusedVariables false
namespace Gf
def ic (a:GF):Int:=((a.1:Nat):Int)
def ng (n:Nat) (f:Nat→GF):List Int:=nb n fun i=>(f i).1
section
variable {n:Nat} {f g:Nat→GF}
theorem ic_eq {a b:GF}:ic a=ic b↔a=b:=⟨fun h=>GF.ext (by unfold ic at h;omega),fun h=>by rw [h]⟩
theorem ic_zero {a:GF}:ic a=0↔a=0:=ic_eq (b:=0)
theorem ng_len (n:Nat) (f:Nat→GF):(ng n f).length=n:=nb_len _ _
theorem ng_getD {i:Nat} (h:i<n) {d:Int}:(ng n f).getD i d=ic (f i):=nb_getD h
theorem ng_congr (h:∀ i,i<n→f i=g i):ng n f=ng n g:=nb_congr fun i hi=>by rw [h i hi]
theorem ng_set {k:Nat} {v:GF}:(ng n f).set k (ic v)=ng n fun i=>if i=k then v else f i:=by
 unfold ng ic;rw [nb_set];refine nb_congr fun i _=>?_
 by_cases e:i=k
 ·rw [if_pos e];show _=(if i=k then v else f i).1;rw [if_pos e]
 ·rw [if_neg e];show _=(if i=k then v else f i).1;rw [if_neg e]
theorem ng_rep:List.replicate n (0:Int)=ng n fun _=>0:=nb_rep
theorem ng_snoc (h:f n=0):ng n f++[(0:Int)]=ng (n+1) f:=by
 have e:(0:Int)=((((f n).1:Nat)):Int):=by rw [h];rfl
 unfold ng nb;rw [List.range_succ,List.map_append,e];rfl
theorem sm_shift:sm (n+1) f=f 0+sm n fun k=>f (k+1):=by
 induction n with
 | zero =>
  show 0+f 0=f 0+0;simp only [GF.mul_add,GF.add_mul,GF.mul_assoc,GF.mul_comm,GF.mul_left_comm,GF.add_assoc,GF.add_comm,GF.add_left_comm,GF.add_self,GF.add_self_left,GF.add_zero,GF.zero_add,GF.mul_zero,GF.zero_mul,GF.mul_one,GF.one_mul]
 | succ n ih=>rw [sm_succ,ih,sm_succ];simp only [GF.mul_add,GF.add_mul,GF.mul_assoc,GF.mul_comm,GF.mul_left_comm,GF.add_assoc,GF.add_comm,GF.add_left_comm,GF.add_self,GF.add_self_left,GF.add_zero,GF.zero_add,GF.mul_zero,GF.zero_mul,GF.mul_one,GF.one_mul]
end
section
variable {fu:Nat} (hf:18446744073709551616≤fu)
include hf
theorem mul_g (a b:GF):reedsolomon_Mul_r fu (ic a,(ic b,()))=some (ic (a*b),()):=mul_r hf a.2 b.2
theorem xor_g (a b:GF):bits BinOp.xor IntKind.u8 (ic a) (ic b)=ic (a+b):=xor_c hf a.2 b.2
theorem pow_g (a:GF) {n:Nat} (hn:n<256):reedsolomon_power_r fu (ic a,((n:Int),()))=some (ic (px a n),()):=by
 have h:=pow_r hf a.2 hn;rw [pow_gen 8 (by decide) a.2 hn,Gf.one_mul (pw_lt a.2 n),←px_val] at h;exact h
theorem iv_g (a:GF):reedsolomon_power_r fu (ic a,(254,()))=some (ic (GF.iv a),()):=pow_r hf (n:=254) a.2 (by decide)
def hn (c:Nat→GF) (y:GF) (l:Nat):Nat→GF
 | 0=>0
 | t+1=>hn c y l t*y+c (l-1-t)
omit hf in
theorem hn_sum {c:Nat→GF} {y:GF} {l:Nat}:∀ t,t≤l→hn c y l t=sm t fun j=>c (l-t+j)*px y j
 | 0,_=>rfl
 | t+1,h=>by
  rw [hn,hn_sum t (by omega),sm_shift,←sm_mulr,GF.add_comm];congr 1
  ·rw [show l-(t+1)+0=l-1-t by omega];exact (GF.mul_one _).symm
  ·refine sm_congr fun j _=>?_
   rw [show l-(t+1)+(j+1)=l-t+j by omega,px];simp only [GF.mul_add,GF.add_mul,GF.mul_assoc,GF.mul_comm,GF.mul_left_comm,GF.add_assoc,GF.add_comm,GF.add_left_comm,GF.add_self,GF.add_self_left,GF.add_zero,GF.zero_add,GF.mul_zero,GF.zero_mul,GF.mul_one,GF.one_mul]
theorem at_g {l:Nat} (hl:l≤1000) (c:Nat→GF) (y:GF):_reedsolomon_poly__at_r fu (ng l c,(ic y,()))=some (ic (sm l fun j=>c j*px y j),()):=by
 unfold _reedsolomon_poly__at_r;simp only;rw [ng_len,s_wr (by omega) (by omega)];refine stLoop (n:=l) (st:=fun t=>(ic (hn c y l t),(l:Int)-1-(t:Int))) (by omega) (congrArg (Prod.mk (0:Int)) (by omega)) ?_ ?_
 ·intro j t ht;unfold _reedsolomon_poly__at_l1;simp only;rw [bif_pos (by omega),mul_g hf,bindO_some,ng_len,bf2 (by omega) (by omega),show ((l:Int)-1-(t:Int))=((l-1-t:Nat):Int) by omega,Int.toNat_natCast,ng_getD (by omega),xor_g hf,s_wr (by omega) (by omega)];refine congrArg (fun x=>j (ic (hn c y l (t+1)),x)) ?_;omega
 ·intro j;unfold _reedsolomon_poly__at_l1;simp only;rw [bif_neg (by omega),hn_sum l (Nat.le_refl _),Nat.sub_self];simp only [Nat.zero_add]
def tI' (a b:Nat→GF) (i j m:Nat):GF:=sm i (fun k=>if k≤m then a k*b (m-k) else 0)+if i≤m∧m-i<j then a i*b (m-i) else 0
omit hf in
theorem tI'_0 {a b:Nat→GF} {i m:Nat}:tI' a b i 0 m=sm i (fun k=>if k≤m then a k*b (m-k) else 0):=by
 unfold tI';rw [if_neg (by omega),GF.add_zero]
omit hf in
theorem tI'_end {a b:Nat→GF} {i lb m:Nat} (hb:∀ j,lb≤j→b j=0):tI' a b i lb m=tI' a b (i+1) 0 m:=by
 rw [tI'_0,sm_succ];unfold tI';congr 1;by_cases h:i≤m
 ·rw [if_pos h];by_cases h2:m-i<lb
  ·rw [if_pos ⟨h,h2⟩]
  ·rw [if_neg (fun g=>h2 g.2),hb _ (by omega),GF.mul_zero]
 ·rw [if_neg (fun g=>h g.1),if_neg h]
theorem times_g {la lb M:Nat} {Lm:Int} (h0:1≤la+lb) (h1:la+lb≤1000) (hM:(M:Int)=min Lm ((la+lb-1:Nat):Int)) {a b:Nat→GF} (ha:∀ j,la≤j→a j=0) (hb:∀ j,lb≤j→b j=0) :
  _reedsolomon_poly__times_r fu (ng la a,(ng lb b,(Lm,())))=some (ng M (cv a b),()):=by
 unfold _reedsolomon_poly__times_r
 have e1:IntKind.i64.wrap (IntKind.i64.wrap ((List.length (ng la a):Int)+(List.length (ng lb b):Int))-1)=((la+lb-1:Nat):Int):=by
  rw [ng_len,ng_len,s_wr (x:=(la:Int)+(lb:Int)) (by omega) (by omega),s_wr (by omega) (by omega)];omega
 simp only [e1,←hM];rw [bf2 (by omega) (by omega),Int.toNat_natCast,ng_rep];refine stLoop (n:=la) (st:=fun i=>((i:Int),ng M (tI' a b i 0))) (by omega) (congrArg (Prod.mk (0:Int)) (ng_congr fun k _=>tI'_0)) ?_ ?_
 ·intro j i hi;unfold _reedsolomon_poly__times_l1;simp only;rw [ng_len,bif_pos (by omega),bf2 (by omega) (by omega),Int.toNat_natCast,ng_getD hi];refine stLoop (n:=lb) (st:=fun q=>((q:Int),ng M (tI' a b i q))) (by omega) rfl ?_ ?_
  ·intro j q hq;have e1:IntKind.i64.wrap ((i:Int)+(q:Int))=((i+q:Nat):Int):=by rw [s_wr (by omega) (by omega)];omega
   have e2:IntKind.i64.wrap ((q:Int)+1)=((q+1:Nat):Int):=by rw [s_wr (by omega) (by omega)];omega
   unfold _reedsolomon_poly__times_l2 _reedsolomon_poly__times_j3;simp only [joinF_eq];rw [ng_len,ng_len,e1,e2,bif_pos (by omega),bf2 (by omega) (by omega),Int.toNat_natCast,Int.toNat_natCast,ng_getD hq];by_cases c:i+q<M
   ·rw [bif_pos (by omega),bf2 (by omega) (by omega),mul_g hf,bindO_some];simp only;rw [bf2 (by omega) (by omega),ng_getD c,xor_g hf,ng_set];refine congrArg (fun l=>j (((q+1:Nat):Int),l)) (ng_congr fun k hk=>?_);by_cases e:k=i+q
    ·rw [if_pos e,e];unfold tI';rw [if_neg (show ¬ (i≤i+q∧i+q-i<q) by omega),if_pos (show i≤i+q∧i+q-i<q+1 by omega),GF.add_zero,Nat.add_sub_cancel_left]
    ·rw [if_neg e];unfold tI';congr 1;by_cases h:i≤k∧k-i<q
     ·rw [if_pos h,if_pos (by omega)]
     ·rw [if_neg h,if_neg (by omega)]
   ·rw [bif_neg (by omega)];refine congrArg (fun l=>j (((q+1:Nat):Int),l)) (ng_congr fun k hk=>?_);unfold tI';congr 1;by_cases h:i≤k∧k-i<q
    ·rw [if_pos h,if_pos (by omega)]
    ·rw [if_neg h,if_neg (by omega)]
  ·intro j';unfold _reedsolomon_poly__times_l2;simp only;rw [ng_len,bif_neg (by omega),s_wr (by omega) (by omega)];exact congrArg (fun l=>j (((i+1:Nat):Int),l)) (ng_congr fun k _=>tI'_end hb)
 ·intro j;unfold _reedsolomon_poly__times_l1;simp only;rw [ng_len,bif_neg (by omega)];refine congrArg (fun l=>some (l,())) (ng_congr fun m _=>?_);rw [tI'_0];unfold cv;by_cases c:la≤m+1
  ·rw [sm_cut (n:=la) (m:=m+1) (fun j h1 _=>by rw [ha j h1,GF.zero_mul]) c];exact sm_congr fun k hk=>if_pos (by omega)
  ·rw [sm_cut (n:=m+1) (m:=la) (fun j h1 _=>if_neg (by omega)) (by omega)];exact sm_congr fun k hk=>if_pos (by omega)
end
end Gf
end Go.Proofs.Ytedmffbhklgloaa
/- What locate returns. -/
set_option maxRecDepth 100000
namespace Go.Proofs.Ytedmffbhklgloaa
open Go Go.RowKit
set_option linter.unusedSimpArgs false
set_option linter.unusedSectionVars false
set_option linter.unusedVariables false
namespace Gf
def dsc (c s:Nat→GF) (n t:Nat):GF:=sm (t+1) fun i=>c i*s (n-i)
theorem dsc_cv {c s:Nat→GF} {n lc:Nat} (hc:∀ j,lc≤j→c j=0) (h1:1≤lc):dsc c s n (min (lc-1) n)=cv c s n:=by
 unfold dsc cv;exact (sm_cut (n:=min (lc-1) n+1) (m:=n+1) (fun j h2 h3=>by rw [hc j (by omega),GF.zero_mul]) (by omega)).symm
abbrev LR:=Option (List Int×Unit)
abbrev LV:=Int×Int×Int×Int×List Int×List Int
section
variable {fu:Nat} (hf:18446744073709551616≤fu)
variable {p k n g L lc lb:Nat} {S c b er:Nat→GF} {last:GF} {el:List Int}
include hf
theorem loc_l6 (hp:p≤64) (hk:k≤64) (hn:n<p) (hg:g≤100) (hlc:lc≤200) (hlb:lb≤100) (hL:L≤100) (hl:lb+g≤lc) (hb:∀ j,lb≤j→b j=0) {u d:GF} {B:List Int} {v2:LV} (e2:v2=((n:Int),((g:Int),((L:Int),(ic last,(B,ng lb b)))))) {v5:Int×Int×List Int} (e5:v5.1=ic d) (j3:LV→LR) :
  loopF (reedsolomon_locate_l6 fu (ng p S,(el,((k:Int),()))) v2 v5 (ic u) (ng lc c,ng lb b) j3) fu ((0:Int),(ng lc c,ng lb b)) =
   if 2*L≤n+k then j3 ((n:Int),((1:Int),((((n+1+k:Nat):Int)-(L:Int)),(ic d,(ng lc (nx c b g u),B))))) else j3 ((n:Int),(((g+1:Nat):Int),((L:Int),(ic last,(ng lc (nx c b g u),ng lb b))))):=by
 subst e2;refine stLoop (n:=lb) (st:=fun t=>((t:Int),(ng lc (fun j=>c j+u*(if g≤j∧j-g<t then b (j-g) else 0)),ng lb b))) (by omega) (congrArg (fun l=>((0:Int),(l,ng lb b))) (ng_congr fun j _=>?_)) ?_ ?_
 ·rw [if_neg (by omega)];simp only [GF.mul_add,GF.add_mul,GF.mul_assoc,GF.mul_comm,GF.mul_left_comm,GF.add_assoc,GF.add_comm,GF.add_left_comm,GF.add_self,GF.add_self_left,GF.add_zero,GF.zero_add,GF.mul_zero,GF.zero_mul,GF.mul_one,GF.one_mul]
 ·intro j t ht;have e1:IntKind.i64.wrap ((t:Int)+(g:Int))=((t+g:Nat):Int):=by rw [s_wr (by omega) (by omega)];omega
  have e2:IntKind.i64.wrap ((t:Int)+1)=((t+1:Nat):Int):=by rw [s_wr (by omega) (by omega)];omega
  unfold reedsolomon_locate_l6;simp only;rw [ng_len,ng_len,e1,e2,bif_pos (by omega),bf2 (by omega) (by omega),bf2 (by omega) (by omega),Int.toNat_natCast,Int.toNat_natCast,ng_getD ht,mul_g hf,bindO_some];simp only;rw [bf2 (by omega) (by omega),ng_getD (by omega),xor_g hf,ng_set];refine congrArg (fun l=>j (((t+1:Nat):Int),(l,ng lb b))) (ng_congr fun q hq=>?_);by_cases e:q=t+g
  ·rw [if_pos e,e,if_neg (by omega),if_pos (by omega),Nat.add_sub_cancel];simp only [GF.mul_add,GF.add_mul,GF.mul_assoc,GF.mul_comm,GF.mul_left_comm,GF.add_assoc,GF.add_comm,GF.add_left_comm,GF.add_self,GF.add_self_left,GF.add_zero,GF.zero_add,GF.mul_zero,GF.zero_mul,GF.mul_one,GF.one_mul]
  ·rw [if_neg e];by_cases h:g≤q∧q-g<t
   ·rw [if_pos h,if_pos (by omega)]
   ·rw [if_neg h,if_neg (by omega)]
 ·intro j
  have hn:ng lc (fun j=>c j+u*(if g≤j∧j-g<lb then b (j-g) else 0))=ng lc (nx c b g u):=ng_congr fun q _=>by
   unfold nx sh;by_cases h:q<g
   ·rw [if_pos h,if_neg (by omega)]
   ·rw [if_neg h];by_cases h2:q-g<lb
    ·rw [if_pos ⟨by omega,h2⟩]
    ·rw [if_neg (by omega),hb _ (by omega)]
  unfold reedsolomon_locate_l6;simp only;rw [ng_len,bif_neg (by omega),hn,e5,s_wr (x:=(2:Int)*(L:Int)) (by omega) (by omega),s_wr (x:=(n:Int)+(k:Int)) (by omega) (by omega),s_wr (x:=(n:Int)+1) (by omega) (by omega),s_wr (x:=(n:Int)+1+(k:Int)) (by omega) (by omega),s_wr (x:=(n:Int)+1+(k:Int)-(L:Int)) (by omega) (by omega),s_wr (x:=(g:Int)+1) (by omega) (by omega)];by_cases h:2*L≤n+k
  ·rw [bif_pos (by omega),if_pos h];rfl
  ·rw [bif_neg (by omega),if_neg h];rfl
theorem loc_l5 (hg:g≤100) (hlc:lc≤100) (hlb:lb≤100) (hc:∀ j,lc≤j→c j=0) {u:GF} {v2:LV} (e2:v2.2.1=(g:Int)) {a:List Int×List Int×Int×Unit} {v5:Int×Int×List Int} (j3:LV→LR) :
  loopF (reedsolomon_locate_l5 fu a v2 v5 (ic u) j3) fu (ng lc c,ng lb b)=loopF (reedsolomon_locate_l6 fu a v2 v5 (ic u) (ng (max lc (lb+g)) c,ng lb b) j3) fu ((0:Int),(ng (max lc (lb+g)) c,ng lb b)):=by
 refine stLoop (n:=lb+g-lc) (st:=fun t=>(ng (lc+t) c,ng lb b)) (by omega) rfl ?_ ?_
 ·intro j t ht;unfold reedsolomon_locate_l5;simp only;rw [ng_len,ng_len,e2,s_wr (by omega) (by omega),bif_pos (by omega),bif_pos (by simp only [List.length_cons,List.length_nil];omega),ng_snoc (hc _ (by omega))];rfl
 ·intro j;unfold reedsolomon_locate_l5;simp only;rw [ng_len,ng_len,e2,s_wr (by omega) (by omega),bif_neg (by omega),show lc+(lb+g-lc)=max lc (lb+g) by omega]
theorem loc_l3 (hp:p≤64) (hk:k≤64) (hn:n<p) (hg:g≤100) (hlc:lc≤100) (hlb:lb≤100) (hL:L≤100) (hlc1:1≤lc) (hc0:c 0=1) (hc:∀ j,lc≤j→c j=0) (hb:∀ j,lb≤j→b j=0) {v2:LV} (e2:v2=((n:Int),((g:Int),((L:Int),(ic last,(ng lc c,ng lb b)))))) (j3:LV→LR) :
  loopF (reedsolomon_locate_l3 fu (ng p S,(el,((k:Int),()))) v2 j3) fu (ic (S n),((1:Int),ng lb b)) =
   if cv c S n=0 then j3 ((n:Int),(((g+1:Nat):Int),((L:Int),(ic last,(ng lc c,ng lb b))))) else
   if 2*L≤n+k then j3 ((n:Int),((1:Int),((((n+1+k:Nat):Int)-(L:Int)),(ic (cv c S n),(ng (max lc (lb+g)) (nx c b g (cv c S n*GF.iv last)),ng lc c))))) else
   j3 ((n:Int),(((g+1:Nat):Int),((L:Int),(ic last,(ng (max lc (lb+g)) (nx c b g (cv c S n*GF.iv last)),ng lb b))))):=by
 have hd0:dsc c S n 0=S n:=by
  show 0+c 0*S (n-0)=S n;rw [hc0,Nat.sub_zero];simp only [GF.mul_add,GF.add_mul,GF.mul_assoc,GF.mul_comm,GF.mul_left_comm,GF.add_assoc,GF.add_comm,GF.add_left_comm,GF.add_self,GF.add_self_left,GF.add_zero,GF.zero_add,GF.mul_zero,GF.zero_mul,GF.mul_one,GF.one_mul]
 refine stLoop (n:=min (lc-1) n) (st:=fun t=>(ic (dsc c S n t),(((t+1:Nat):Int),ng lb b))) (by omega) (congrArg (fun x=>(ic x,((1:Int),ng lb b))) hd0) ?_ ?_
 ·intro j t ht;have e1:IntKind.i64.wrap ((n:Int)-((t+1:Nat):Int))=((n-(t+1):Nat):Int):=by rw [s_wr (by omega) (by omega)];omega
  have e3:IntKind.i64.wrap (((t+1:Nat):Int)+1)=((t+1+1:Nat):Int):=by rw [s_wr (by omega) (by omega)];omega
  unfold reedsolomon_locate_l3 reedsolomon_locate_j4;subst e2;simp only [joinF_eq];rw [ng_len,ng_len,e1,e3,bif_pos (by omega),s_pos (show ((t+1:Nat):Int)≤(n:Int) by omega),cond_true,bf2 (by omega) (by omega),bf2 (by omega) (by omega),Int.toNat_natCast,Int.toNat_natCast,ng_getD (by omega),ng_getD (by omega),mul_g hf,bindO_some];simp only;rw [xor_g hf];rfl
 ·intro j
  have hz:∀ x:GF,decide (ic x=0)=decide (x=0):=fun x=>by
   by_cases h:x=0
   ·rw [decide_eq_true h,decide_eq_true (ic_zero.2 h)]
   ·rw [decide_eq_false h,decide_eq_false fun g=>h (ic_zero.1 g)]
  have key:reedsolomon_locate_j4 fu (ng p S,(el,((k:Int),()))) v2 (ic (cv c S n),(((min (lc-1) n+1:Nat):Int),ng lb b)) j3 j (false,ng lb b) =
   if cv c S n=0 then j3 ((n:Int),(((g+1:Nat):Int),((L:Int),(ic last,(ng lc c,ng lb b))))) else
   if 2*L≤n+k then j3 ((n:Int),((1:Int),((((n+1+k:Nat):Int)-(L:Int)),(ic (cv c S n),(ng (max lc (lb+g)) (nx c b g (cv c S n*GF.iv last)),ng lc c))))) else
   j3 ((n:Int),(((g+1:Nat):Int),((L:Int),(ic last,(ng (max lc (lb+g)) (nx c b g (cv c S n*GF.iv last)),ng lb b))))):=by
   have h6:=loc_l6 hf (p:=p) (k:=k) (n:=n) (g:=g) (L:=L) (lc:=max lc (lb+g)) (lb:=lb) (S:=S) (c:=c) (b:=b) (last:=last) (el:=el) hp hk hn hg (by omega) hlb hL (by omega) hb (u:=cv c S n*GF.iv last) (d:=cv c S n) (B:=ng lc c) e2 (v5:=(ic (cv c S n),(((min (lc-1) n+1:Nat):Int),ng lb b))) rfl j3;have h5:=loc_l5 hf (g:=g) (lc:=lc) (lb:=lb) (c:=c) (b:=b) hg hlc hlb hc (u:=cv c S n*GF.iv last) (v2:=v2) (by rw [e2]) (a:=(ng p S,(el,((k:Int),())))) (v5:=(ic (cv c S n),(((min (lc-1) n+1:Nat):Int),ng lb b))) j3;unfold reedsolomon_locate_j4;subst e2;simp only [cond_false];rw [hz];by_cases h0:cv c S n=0
   ·rw [bif_pos h0,if_pos h0,s_wr (by omega) (by omega)];rfl
   ·rw [bif_neg h0,if_neg h0,ng_len,bif_pos (by omega),iv_g hf,bindO_some];simp only;rw [mul_g hf,bindO_some];simp only;rw [h5,h6]
  rw [dsc_cv hc hlc1];unfold reedsolomon_locate_l3;simp only [joinF_eq];rw [←key];have e1:v2.2.2.2.2.1=ng lc c:=by rw [e2]
  have e3:v2.1=(n:Int):=by rw [e2]
  rw [e1,e3,ng_len];by_cases h:n<lc-1
  ·rw [bif_pos (by omega),decide_eq_false (by omega)]
  ·rw [bif_neg (by omega)]
theorem locate_g (hp:p≤64) (hk:k≤p) {N:Nat} {X e:Nat→GF} {lost:List Nat} (hkl:k=lost.length) (xd:∀ i j,i<N→j<N→X i=X j→i=j) (hS:∀ j,j<p→S j=sy N X e j) (h0:er 0=1) (hd:∀ j,k<j→er j=0) (hr:∀ a ∈ lost,E (X a) er k=0) :
  ∃ c b L Lb g last lc,reedsolomon_locate_r fu (ng p S,(ng (k+1) er,((k:Int),())))=some (ng lc c,())∧BM N X e lost p c b L Lb g last∧1≤lc∧lc≤L+1∧∀ j,lc≤j→c j=0:=by
 have hcv:∀ (c:Nat→GF) n,n<p→cv c S n=D N X e c n:=fun c n hn=>by
  rw [←cv_D];unfold cv;exact sm_congr fun i hi=>by rw [hS _ (by omega)]
 unfold reedsolomon_locate_r;simp only;rw [ng_len,bif_pos (by omega),bif_pos (by omega)]
 refine postLoop (f:=reedsolomon_locate_l1 fu (ng p S,(ng (k+1) er,((k:Int),())))) (fun x=>((p:Int)-x.1).toNat) (fun x=>∃ n c b L Lb g last lc lb,x=(((n:Nat):Int),(((g:Nat):Int),(((L:Nat):Int),(ic last,(ng lc c,ng lb b)))))∧n≤p∧BM N X e lost n c b L Lb g last∧1≤lc∧lc≤L+1∧(1≤lb∧lb≤Lb+1)∧(∀ j,lc≤j→c j=0)∧(∀ j,lb≤j→b j=0))
  (fun r=>∃ c b L Lb g last lc,r=some (ng lc c,())∧BM N X e lost p c b L Lb g last∧1≤lc∧lc≤L+1∧∀ j,lc≤j→c j=0) ?_ fu _ ⟨k,er,er,k,k,1,1,k+1,k+1,rfl,hk,BM.start hkl h0 hd hr,by omega,Nat.le_refl _,⟨by omega,Nat.le_refl _⟩,fun j hj=>hd j (by omega),fun j hj=>hd j (by omega)⟩ (by simp only;omega)
 rintro j _ ⟨n,c,b,L,Lb,g,last,lc,lb,rfl,hn,hB,h1,h2,h3,h4,h5⟩
 have hs:=hB.sm;have hkL:=hB.kL;have hLn:=hB.Ln;have hg1:=hB.g1;by_cases c0:n=p
 ·right
  refine ⟨c,b,L,Lb,g,last,lc,?_,c0 ▸ hB,h1,h2,h4⟩;unfold reedsolomon_locate_l1;simp only [joinF_eq];rw [ng_len,bif_neg (by omega)]
 ·left
  have hn':n<p:=by omega
  have hl3:=loc_l3 hf (p:=p) (k:=k) (n:=n) (g:=g) (L:=L) (lc:=lc) (lb:=lb) (S:=S) (c:=c) (b:=b) (last:=last) (el:=ng (k+1) er) hp (by omega) hn' (by omega) (by omega) (by omega) (by omega) h1 hB.c0 h4 h5 rfl (reedsolomon_locate_j2 fu j);rw [hcv c n hn'] at hl3;have e1:IntKind.i64.wrap ((n:Int)+1)=((n+1:Nat):Int):=by rw [s_wr (by omega) (by omega)];omega
  have hstep:reedsolomon_locate_l1 fu (ng p S,(ng (k+1) er,((k:Int),()))) j ((n:Int),((g:Int),((L:Int),(ic last,(ng lc c,ng lb b)))))=loopF (reedsolomon_locate_l3 fu (ng p S,(ng (k+1) er,((k:Int),()))) ((n:Int),((g:Int),((L:Int),(ic last,(ng lc c,ng lb b))))) (reedsolomon_locate_j2 fu j)) fu (ic (S n),((1:Int),ng lb b)):=by
   unfold reedsolomon_locate_l1;simp only [joinF_eq];rw [ng_len,bif_pos (by omega),bf2 (by omega) (by omega),Int.toNat_natCast,ng_getD hn']
  rw [hl3] at hstep;by_cases hd0:D N X e c n=0
  ·rw [if_pos hd0] at hstep;refine ⟨_,⟨n+1,c,b,L,Lb,g+1,last,lc,lb,rfl,by omega,hB.skip hd0,h1,h2,h3,h4,h5⟩,by simp only;omega,?_⟩;rw [hstep];unfold reedsolomon_locate_j2;simp only [e1]
  ·rw [if_neg hd0] at hstep;by_cases h6:2*L≤n+k
   ·rw [if_pos h6] at hstep;refine ⟨_,⟨n+1,nx c b g (D N X e c n*GF.iv last),c,n+1+k-L,L,1,D N X e c n,max lc (lb+g),lc,rfl,by omega,hkl ▸ hB.grow xd hd0 (by omega),by omega,by omega,⟨h1,by omega⟩,fun j hj=>?_,h4⟩,by simp only;omega,?_⟩
    ·exact nx_high (L:=lc-1) (Lb:=lb-1) (M:=j-1) (fun q hq=>h4 q (by omega)) (fun q hq=>h5 q (by omega)) (by omega) (by omega) j (by omega)
    ·rw [hstep];unfold reedsolomon_locate_j2;simp only [e1];rw [show ((n+1+k-L:Nat):Int)=((n+1+k:Nat):Int)-(L:Int) by omega];rfl
   ·rw [if_neg h6] at hstep;refine ⟨_,⟨n+1,nx c b g (D N X e c n*GF.iv last),b,L,Lb,g+1,last,max lc (lb+g),lb,rfl,by omega,hB.stay (by omega),by omega,by omega,h3,fun j hj=>?_,h5⟩,by simp only;omega,?_⟩
    ·exact nx_high (L:=lc-1) (Lb:=lb-1) (M:=j-1) (fun q hq=>h4 q (by omega)) (fun q hq=>h5 q (by omega)) (by omega) (by omega) j (by omega)
    ·rw [hstep];unfold reedsolomon_locate_j2;simp only [e1]
end
end Gf
end Go.Proofs.Ytedmffbhklgloaa
/- Elimination over the field,more equations than unknowns. No program in sight. -/
namespace Go.Proofs.Ytedmffbhklgloaa
open Go Go.RowKit
set_option linter.unusedSimpArgs false
set_option linter.unusedSectionVars false
set_option linter.unusedVariables false
namespace Gf
structure GR (p m c:Nat) (M:Nat→Nat→GF) (Z:(Nat→GF)→Prop):Prop where
 s:∀ z,(∀ i,i<p→sm m (fun k=>M i k*z k)=M i m)↔Z z
 i:∀ i,i<p→∀ k,k<c→M i k=if i=k then 1 else 0
 k:∀ z:Nat→GF,(∀ i,i<p→sm m (fun k=>M i k*z k)=0)→∀ k,k<m→z k=0
section
variable {p m c:Nat} {M:Nat→Nat→GF} {Z:(Nat→GF)→Prop}
theorem GR.pivot (h:GR p m c M Z) (hc:c<m):∃ i,c≤i∧i<p∧M i c≠0:=by
 refine Classical.byContradiction fun hn=>?_
 have h0:∀ i,c≤i→i<p→M i c=0:=fun i h1 h2=>Classical.byContradiction fun h3=>hn ⟨i,h1,h2,h3⟩
 have:=h.k (fun k=>if k<c then M k c else if k=c then 1 else 0) (fun i hi=>?_) c hc
 ·simp only [Nat.lt_irrefl,if_false,if_true] at this;exact GF.one_ne this
 ·by_cases hic:i<c
  ·have e:sm m (fun k=>M i k*(if k<c then M k c else if k=c then 1 else 0))=sm m (fun k=>(if k=i then M i c else 0)+(if k=c then M i c else 0)):=by
    refine sm_congr fun k hk=>?_
    by_cases h1:k<c
    ·rw [if_pos h1,h.i i hi k h1,if_neg (show ¬ k=c by omega),GF.add_zero];by_cases h2:i=k
     ·subst h2;rw [if_pos rfl,if_pos rfl,GF.one_mul]
     ·rw [if_neg h2,if_neg (Ne.symm h2),GF.zero_mul]
    ·rw [if_neg h1,if_neg (show ¬ k=i by omega),GF.zero_add];by_cases h2:k=c
     ·subst h2;rw [if_pos rfl,if_pos rfl,GF.mul_one]
     ·rw [if_neg h2,if_neg h2,GF.mul_zero]
   rw [e,sm_add,sm_one (show i<m by omega) (f:=fun k=>if k=i then M i c else 0) (fun k _ hne=>if_neg hne),sm_one hc (f:=fun k=>if k=c then M i c else 0) (fun k _ hne=>if_neg hne),if_pos rfl,if_pos rfl,GF.add_self]
  ·refine sm_0 fun k hk=>?_
   by_cases h1:k<c
   ·rw [h.i i hi k h1,if_neg (show ¬ i=k by omega),GF.zero_mul]
   ·rw [if_neg h1];by_cases h2:k=c
    ·subst h2;rw [if_pos rfl,h0 i (by omega) hi];exact GF.zero_mul _
    ·rw [if_neg h2,GF.mul_zero]
def sw' (a b i:Nat):Nat:=if i=a then b else if i=b then a else i
theorem sw'_sw (a b i:Nat):sw' a b (sw' a b i)=i:=by
 unfold sw';by_cases h1:i=a
 ·subst h1;rw [if_pos rfl];by_cases h2:b=i
  ·rw [if_pos h2];exact h2
  ·rw [if_neg h2,if_pos rfl]
 ·rw [if_neg h1];by_cases h2:i=b
  ·rw [if_pos h2,if_pos rfl];exact h2.symm
  ·rw [if_neg h2,if_neg h1,if_neg h2]
theorem sw'_lt {a b i:Nat} (ha:a<p) (hb:b<p) (hi:i<p):sw' a b i<p:=by
 unfold sw';split
 ·exact hb
 ·split
  ·exact ha
  ·exact hi
theorem GR.swap (h:GR p m c M Z) (hc:c<p) {q:Nat} (h1:c≤q) (h2:q<p):GR p m c (fun i=>M (sw' c q i)) Z:=by
 have all:∀ {P:Nat→Prop},(∀ i,i<p→P (sw' c q i))↔∀ i,i<p→P i:=fun {P} =>
  ⟨fun g i hi=>by have:=g (sw' c q i) (sw'_lt hc h2 hi);rwa [sw'_sw] at this,fun g i hi=>g _ (sw'_lt hc h2 hi)⟩
 refine ⟨fun z=>Iff.trans (all (P:=fun i=>sm m (fun k=>M i k*z k)=M i m)) (h.s z),fun i hi k hk=>?_,fun z hz=>h.k z ((all (P:=fun i=>sm m (fun k=>M i k*z k)=0)).1 hz)⟩;show M (sw' c q i) k=_;rw [h.i _ (sw'_lt hc h2 hi) k hk]
 have e:(sw' c q i=k)↔(i=k):=by
  unfold sw';by_cases g:i=c
  ·rw [if_pos g];omega
  ·rw [if_neg g];by_cases g2:i=q
   ·rw [if_pos g2];omega
   ·rw [if_neg g2]
 simp only [e]
theorem GF.mul_cancel {a b c:GF} (h:c≠0) (e:a*c=b*c):a=b:=by
 refine GF.add_eq ((GF.mul_eq_zero (b:=c) ?_).resolve_right h);rw [GF.add_mul,e,GF.add_self]
theorem GR.scale (h:GR p m c M Z) (hc:c<p) {f:GF} (hf:M c c*f=1) (hcm:c<m):GR p m c (fun i k=>if i=c then M i k*f else M i k) Z:=by
 have f0:f≠0:=fun e=>by rw [e,GF.mul_zero] at hf;exact GF.one_ne hf.symm
 have key:∀ (z:Nat→GF) i,sm m (fun k=>(if i=c then M i k*f else M i k)*z k)=if i=c then sm m (fun k=>M i k*z k)*f else sm m (fun k=>M i k*z k):=fun z i=>by
  by_cases e:i=c
  ·simp only [if_pos e];rw [←sm_mulr];exact sm_congr fun k _=>by simp only [GF.mul_add,GF.add_mul,GF.mul_assoc,GF.mul_comm,GF.mul_left_comm,GF.add_assoc,GF.add_comm,GF.add_left_comm,GF.add_self,GF.add_self_left,GF.add_zero,GF.zero_add,GF.mul_zero,GF.zero_mul,GF.mul_one,GF.one_mul]
  ·simp only [if_neg e]
 refine ⟨fun z=>Iff.trans ⟨fun g i hi=>?_,fun g i hi=>?_⟩ (h.s z),fun i hi k hk=>?_,fun z hz=>h.k z fun i hi=>?_⟩
 ·have:=g i hi;rw [key] at this;by_cases e:i=c
  ·simp only [if_pos e] at this;exact GF.mul_cancel f0 this
  ·simp only [if_neg e] at this;exact this
 ·rw [key];by_cases e:i=c
  ·simp only [if_pos e];rw [g i hi]
  ·simp only [if_neg e];exact g i hi
 ·show (if i=c then M i k*f else M i k)=_;by_cases e:i=c
  ·rw [if_pos e,h.i i hi k hk,if_neg (by omega),GF.zero_mul]
  ·rw [if_neg e,h.i i hi k hk]
 ·have:=hz i hi;rw [key] at this;by_cases e:i=c
  ·simp only [if_pos e] at this;exact (GF.mul_eq_zero this).resolve_right f0
  ·simp only [if_neg e] at this;exact this
theorem GR.elim (h:GR p m c M Z) (hc:c<p) (h1:M c c=1):GR p m (c+1) (fun i k=>if i=c then M i k else M i k+M i c*M c k) Z:=by
 have key:∀ (z:Nat→GF) i,sm m (fun k=>(if i=c then M i k else M i k+M i c*M c k)*z k)=if i=c then sm m (fun k=>M i k*z k) else sm m (fun k=>M i k*z k)+M i c*sm m (fun k=>M c k*z k):=fun z i=>by
  by_cases e:i=c
  ·simp only [if_pos e]
  ·simp only [if_neg e];rw [←sm_mul,←sm_add];exact sm_congr fun k _=>by simp only [GF.mul_add,GF.add_mul,GF.mul_assoc,GF.mul_comm,GF.mul_left_comm,GF.add_assoc,GF.add_comm,GF.add_left_comm,GF.add_self,GF.add_self_left,GF.add_zero,GF.zero_add,GF.mul_zero,GF.zero_mul,GF.mul_one,GF.one_mul]
 refine ⟨fun z=>Iff.trans ⟨fun g i hi=>?_,fun g i hi=>?_⟩ (h.s z),fun i hi k hk=>?_,fun z hz=>h.k z fun i hi=>?_⟩
 ·have gc:=g c hc;rw [key] at gc;simp only [if_true] at gc;have:=g i hi;rw [key] at this;by_cases e:i=c
  ·rw [e];exact gc
  ·simp only [if_neg e] at this;rw [gc] at this;refine GF.add_eq ?_;have:=congrArg (fun x=>x+(M i m+M i c*M c m)) this;simp only [GF.add_self] at this;rw [←this];simp only [GF.mul_add,GF.add_mul,GF.mul_assoc,GF.mul_comm,GF.mul_left_comm,GF.add_assoc,GF.add_comm,GF.add_left_comm,GF.add_self,GF.add_self_left,GF.add_zero,GF.zero_add,GF.mul_zero,GF.zero_mul,GF.mul_one,GF.one_mul]
 ·rw [key];by_cases e:i=c
  ·simp only [if_pos e];exact g i hi
  ·simp only [if_neg e];rw [g i hi,g c hc]
 ·show (if i=c then M i k else M i k+M i c*M c k)=_;by_cases e:i=c
  ·rw [if_pos e];by_cases e2:k=c
   ·rw [e,e2,h1,if_pos rfl]
   ·exact h.i i hi k (by omega)
  ·rw [if_neg e];by_cases e2:k=c
   ·rw [e2,h1,GF.mul_one,GF.add_self,if_neg e]
   ·rw [h.i c hc k (by omega),if_neg (show ¬ c=k by omega),GF.mul_zero,GF.add_zero,h.i i hi k (by omega)]
 ·have gc:=hz c hc;rw [key] at gc;simp only [if_true] at gc;have:=hz i hi;rw [key] at this;by_cases e:i=c
  ·rw [e];exact gc
  ·simp only [if_neg e] at this;rw [gc,GF.mul_zero,GF.add_zero] at this;exact this
theorem GR.last (h:GR p m m M Z) (hm:m≤p) (z:Nat→GF):Z z↔(∀ i,i<m→z i=M i m)∧∀ i,m≤i→i<p→M i m=0:=by
 have row:∀ i,i<p→sm m (fun k=>M i k*z k)=if i<m then z i else 0:=fun i hi=>by
  by_cases c:i<m
  ·rw [if_pos c,sm_one c fun k hk hne=>by rw [h.i i hi k hk,if_neg (Ne.symm hne),GF.zero_mul],h.i i hi i c,if_pos rfl,GF.one_mul]
  ·rw [if_neg c];exact sm_0 fun k hk=>by rw [h.i i hi k hk,if_neg (by omega),GF.zero_mul]
 rw [←h.s z];constructor
 ·intro g;refine ⟨fun i hi=>?_,fun i h1 h2=>?_⟩
  ·have:=g i (by omega);rw [row i (by omega),if_pos hi] at this;exact this
  ·have:=g i h2;rw [row i h2,if_neg (by omega)] at this;exact this.symm
 ·rintro ⟨g1,g2⟩ i hi
  rw [row i hi];by_cases c:i<m
  ·rw [if_pos c];exact g1 i c
  ·rw [if_neg c];exact (g2 i (by omega) hi).symm
end
end Gf
end Go.Proofs.Ytedmffbhklgloaa
/- The residual programs. -/
/- What the document's functions over the field compute. -/
set_option maxRecDepth 100000
namespace Go.Proofs.Ytedmffbhklgloaa
open Go Go.RowKit
set_option linter.unusedSimpArgs false
set_option linter.unusedSectionVars false
set_option linter.unusedVariables false
namespace Gf
theorem rfloor (fu:Nat) {n d:Int} (hd:0<d) (h1:d≤1000000000000000) (h2:-9223372036854775808≤n) (h3:n≤9223372036854775807):R_Floor_r fu (n,(d,()))=some (n / d,()):=by
 have a1:=Int.mul_tdiv_add_tmod n d;have a2:n.tdiv d*d=d*n.tdiv d:=Int.mul_comm _ _
 have a3:-d<n.tmod d∧n.tmod d<d:=by
  constructor
  ·have:=Int.lt_tmod_of_pos n hd;omega
  ·exact Int.tmod_lt_of_pos n hd
 have a4:-9223372036854775808≤n.tdiv d∧n.tdiv d≤9223372036854775808:=by
  have:=tdiv_abs (m:=9223372036854775808) d (by omega:-9223372036854775808≤n) (by omega);omega
 have a5:n.tdiv d≤9223372036854775807:=by
  by_cases c:0≤n
  ·rw [Int.tdiv_eq_ediv_of_nonneg c];exact Int.le_trans (Int.ediv_le_self _ c) h3
  ·by_cases c2:n.tdiv d≤0
   ·omega
   ·have:=Int.mul_le_mul_of_nonneg_right (show 1≤n.tdiv d by omega) (show 0≤d by omega);omega
 have a6:0≤n→0≤n.tmod d:=fun c=>Int.tmod_nonneg _ c
 have a7:n≤0→n.tmod d≤0:=fun c=>by
  have:=Int.tmod_nonneg (a:=-n) d (by omega);rw [Int.neg_tmod] at this;omega
 unfold R_Floor_r R_Floor_j1;simp (disch:=omega) only [joinF_eq,bindO_some,s_wr,s_td,s_tm,s_pos,s_neg,cond_true,cond_false,Bool.not_true,Bool.not_false,Bool.true_and,Bool.and_true,Bool.false_and,Bool.and_false,bne_self_eq_false,decide_true,decide_false,Int.toNat_natCast];by_cases c:n<n.tdiv d*d
 ·simp (disch:=omega) only [joinF_eq,bindO_some,s_wr,s_td,s_tm,s_pos,s_neg,cond_true,cond_false,Bool.not_true,Bool.not_false,Bool.true_and,Bool.and_true,Bool.false_and,Bool.and_false,bne_self_eq_false,decide_true,decide_false,Int.toNat_natCast];have e:=tdiv_over hd c;by_cases lo:-9223372036854775808≤n.tdiv d-1
  ·simp (disch:=omega) only [joinF_eq,bindO_some,s_wr,s_td,s_tm,s_pos,s_neg,cond_true,cond_false,Bool.not_true,Bool.not_false,Bool.true_and,Bool.and_true,Bool.false_and,Bool.and_false,bne_self_eq_false,decide_true,decide_false,Int.toNat_natCast];rw [e]
  ·have:n.tdiv d=-9223372036854775808:=by omega
   rw [this] at c;have:d*1≤d*9223372036854775808:=Int.mul_le_mul_of_nonneg_left (by decide) (by omega);omega
 ·simp (disch:=omega) only [joinF_eq,bindO_some,s_wr,s_td,s_tm,s_pos,s_neg,cond_true,cond_false,Bool.not_true,Bool.not_false,Bool.true_and,Bool.and_true,Bool.false_and,Bool.and_false,bne_self_eq_false,decide_true,decide_false,Int.toNat_natCast];rw [tdiv_under hd (by omega)]
theorem rmod (fu:Nat) {n d:Int} (hd:0<d) (h1:d≤1000000000000000) (h2:-9223372036854775808≤n) (h3:n≤9223372036854775807):R_Mod_r fu (n,(d,()))=some (n % d,()):=by
 unfold R_Mod_r;rw [rfloor fu hd h1 h2 h3];have e:=Int.mul_ediv_add_emod n d;have e0:=Int.emod_nonneg n (show d≠0 by omega);have e1:=Int.emod_lt_of_pos n hd;by_cases c:-9223372036854775808≤d*(n / d)
 ·simp (disch:=omega) only [joinF_eq,bindO_some,s_wr,s_td,s_tm,s_pos,s_neg,cond_true,cond_false,Bool.not_true,Bool.not_false,Bool.true_and,Bool.and_true,Bool.false_and,Bool.and_false,bne_self_eq_false,decide_true,decide_false,Int.toNat_natCast];congr 2;omega
 ·have:IntKind.i64.wrap (d*(n / d))=d*(n / d)+18446744073709551616:=by rw [IntKind.wrap_i64];omega
  simp (disch:=omega) only [joinF_eq,bindO_some,s_wr,s_td,s_tm,s_pos,s_neg,cond_true,cond_false,Bool.not_true,Bool.not_false,Bool.true_and,Bool.and_true,Bool.false_and,Bool.and_false,bne_self_eq_false,decide_true,decide_false,Int.toNat_natCast];rw [this];have:IntKind.i64.wrap (n-(d*(n / d)+18446744073709551616))=n-d*(n / d):=by rw [IntKind.wrap_i64];omega
  rw [this];congr 2;omega
section
variable {fu:Nat} (hf:18446744073709551616≤fu)
include hf
theorem times_m {a b:Nat} (ha:a<256) (hb:b<256):R_Times_r fu ((a:Int),((b:Int),()))=some ((mulN a b:Int),()):=by
 rw [times_r hf ha hb,mul_tim ha hb]
theorem exp_r {n:Nat} (hn:n≤1000000):R_Exp_r fu ((n:Int),())=some ((pw 2 n:Int),()):=by
 unfold R_Exp_r;rw [rmod fu (by omega) (by omega) (by omega) (by omega),bindO_some];simp only;rw [show (n:Int) % 255=((n % 255:Nat):Int) by omega,←pw_mod];have he:n % 255<255:=Nat.mod_lt _ (by decide);generalize n % 255=e at he;refine postLoop (f:=R_Exp_l1 fu) (fun x=>x.2.2.toNat) (fun x=>∃ p a' n':Nat,x=((p:Int),((a':Int),(n':Int)))∧n'<255∧p<256∧a'<256∧mulN p (pw a' n')=pw 2 e) (fun r=>r=some ((pw 2 e:Int),())) ?_ fu _ ⟨1,2,e,rfl,he,by decide,by decide,one_mul (pw_lt (by decide) e)⟩ (by simp only;omega)
 rintro j _ ⟨p,a',n',rfl,h1,h2,h3,h4⟩
 by_cases c:n'=0
 ·subst c;refine .inr ?_;rw [show pw a' 0=1 from rfl,mul_one p h2] at h4;unfold R_Exp_l1;simp only;rw [bif_neg (by omega),h4]
 ·have e1:IntKind.i64.wrap (Int.tdiv (n':Int) 2)=((n' / 2:Nat):Int):=by rw [s_td (by omega),s_wr (by omega) (by omega)];omega
  have hsq:=times_m hf h3 h3;refine .inl ⟨(((if n' % 2=1 then mulN p a' else p:Nat):Int),((mulN a' a':Int),((n' / 2:Nat):Int))),⟨_,_,_,rfl,by omega,?_,mul_lt h3,?_⟩,by simp only;omega,?_⟩
  ·split
   ·exact mul_lt h2
   ·exact h2
  ·rw [pw_sq h3,←h4];by_cases g:n' % 2=1
   ·rw [if_pos g,mul_assoc h2 h3 (pw_lt h3 _),mul_comm h3 (pw_lt h3 _)];congr 1;have:pw a' n'=pw a' (2*(n' / 2)+1):=by congr 1;omega
    rw [this,pw]
   ·rw [if_neg g];congr 2;omega
  ·unfold R_Exp_l1 R_Exp_j2;simp only [joinF_eq];rw [bif_pos (by omega),s_tm (by omega)];by_cases g:n' % 2=1
   ·rw [bif_pos (by omega),times_m hf h2 h3,bindO_some];simp only;rw [hsq,bindO_some,e1,if_pos g]
   ·rw [bif_neg (by omega),hsq,bindO_some,e1,if_neg g]
theorem inverse_r {a:Nat} (ha:a<256) (h0:a≠0):∃ b:Nat,b<256∧mulN a b=1∧R_Inverse_r fu ((a:Int),())=some ((b:Int),()):=by
 obtain ⟨g1,g2⟩:=inv_all a ha h0;have hi0:inv a≠0:=fun e=>by rw [e,mul_zero] at g1;cases g1
 unfold R_Inverse_r;refine postLoop (f:=R_Inverse_l1 fu ((a:Int),())) (fun x=>(256-x).toNat) (fun x=>∃ k:Nat,x=(k:Int)∧1≤k∧k≤inv a) (fun r=>∃ b:Nat,b<256∧mulN a b=1∧r=some ((b:Int),())) ?_ fu _ ⟨1,rfl,by omega,by omega⟩ (by omega)
 rintro j _ ⟨k,rfl,k1,k2⟩
 have hk:k<256:=by omega
 have e1:IntKind.u8.wrap (k:Int)=(k:Int):=by simp [IntKind.wrap,IntKind.bits,IntKind.signed];omega
 unfold R_Inverse_l1;simp only;rw [bif_pos (by omega),e1,times_m hf ha hk,bindO_some];simp only;by_cases c:mulN a k=1
 ·exact .inr ⟨k,hk,c,by rw [bif_pos (by omega)]⟩
 ·have hne:k≠inv a:=fun e=>c (by rw [e];exact g1)
  refine .inl ⟨((k+1:Nat):Int),⟨k+1,rfl,by omega,by omega⟩,by omega,?_⟩;rw [bif_neg (by omega),s_wr (by omega) (by omega)];rfl
theorem syn_row {len q:Nat} {w:Nat→Nat} (hw:∀ k,w k<256) (hl:len≤400) (hq:q≤400) {i:Nat} (hi:i<q) (n':Int) {S:Nat→Nat} (hS:∀ k,S k<256) (hS0:S i=0) (v0:Int×List Int) (e0:v0.1=i) (j0:(Int×List Int)→Option (List Int×Unit)) :
  loopF (R_Syndromes_l2 fu (nb len w,(n',())) v0 (i:Int) j0) fu ((0:Int),nb q S)=j0 (((i+1:Nat):Int),nb q fun k=>if k=i then sum len (fun j=>mulN (w j) (pw 2 (i*(len-1-j)))) else S k):=by
 have h2:(2:Nat)<256:=by decide
 have hlt:∀ t,sum t (fun j=>mulN (w j) (pw 2 (i*(len-1-j))))<256:=fun t=>sum_lt fun j _=>mul_lt (hw j)
 refine stLoop (n:=len) (st:=fun t=>((t:Int),nb q fun k=>if k=i then sum t (fun j=>mulN (w j) (pw 2 (i*(len-1-j)))) else S k)) (by omega) (congrArg (Prod.mk (0:Int)) (nb_congr fun k _=>?_)) ?_ ?_
 ·by_cases c:k=i
  ·rw [if_pos c,c,hS0];rfl
  ·rw [if_neg c]
 ·intro j t ht;have hb:i*(len-1-t)≤400*400:=Nat.mul_le_mul (by omega) (by omega)
  have e1:IntKind.i64.wrap ((i:Int)*IntKind.i64.wrap (IntKind.i64.wrap ((len:Int)-1)-(t:Int)))=((i*(len-1-t):Nat):Int):=by
   rw [s_wr (x:=(len:Int)-1) (by omega) (by omega),s_wr (x:=(len:Int)-1-(t:Int)) (by omega) (by omega),show (len:Int)-1-(t:Int)=((len-1-t:Nat):Int) by omega,←Int.natCast_mul];generalize i*(len-1-t)=z at hb;exact s_wr (by omega) (by omega)
  have e4:IntKind.i64.wrap ((t:Int)+1)=((t+1:Nat):Int):=by rw [s_wr (by omega) (by omega)];omega
  unfold R_Syndromes_l2;simp only;rw [nb_len,nb_len,bif_pos (by omega),bf2 (by omega) (by omega),bf2 (by omega) (by omega),e1,exp_r hf (by omega),bindO_some];simp only;rw [Int.toNat_natCast,Int.toNat_natCast,nb_getD ht,times_m hf (hw t) (pw_lt h2 _),bindO_some];simp only;rw [bf2 (by omega) (by omega),e4,nb_getD hi,if_pos rfl,xor_c hf (hlt t) (mul_lt (hw t))];refine congrArg (fun l=>j (((t+1:Nat):Int),l)) (nb_set' (fun k hk hne=>by rw [if_neg hne,if_neg hne]) fun _=>?_);rw [if_pos rfl,sum_succ]
 ·intro j;unfold R_Syndromes_l2;simp only;rw [nb_len,bif_neg (by omega),e0,s_wr (by omega) (by omega)];rfl
theorem syn_r {len q:Nat} {w:Nat→Nat} (hw:∀ k,w k<256) (hl:len≤400) (hq:q≤400):R_Syndromes_r fu (nb len w,((q:Int),()))=some (nb q (fun i=>sum len (fun j=>mulN (w j) (pw 2 (i*(len-1-j))))),()):=by
 unfold R_Syndromes_r;simp only;rw [bf2 (by omega) (by omega),Int.toNat_natCast,nb_rep];refine stLoop (n:=q) (st:=fun i=>((i:Int),nb q fun k=>if k<i then sum len (fun j=>mulN (w j) (pw 2 (k*(len-1-j)))) else 0)) (by omega) (congrArg (Prod.mk (0:Int)) (nb_congr fun k _=>if_neg (by omega))) ?_ ?_
 ·intro j i hi;unfold R_Syndromes_l1;simp only;rw [Int.toNat_natCast,List.length_replicate,bif_pos (by omega),syn_row hf hw hl hq hi _ (S:=fun k=>if k<i then sum len (fun j=>mulN (w j) (pw 2 (k*(len-1-j)))) else 0) (fun k=>lt_ite1 (sum_lt fun j _=>mul_lt (hw j))) (if_neg (by omega)) _ rfl];refine congrArg (fun l=>j (((i+1:Nat):Int),l)) (nb_congr fun k _=>?_);by_cases c:k=i
  ·rw [if_pos c,if_pos (show k<i+1 by omega),c]
  ·rw [if_neg c];by_cases g:k<i
   ·rw [if_pos g,if_pos (show k<i+1 by omega)]
   ·rw [if_neg g,if_neg (show ¬ k<i+1 by omega)]
 ·intro j;unfold R_Syndromes_l1;simp only;rw [Int.toNat_natCast,List.length_replicate,bif_neg (by omega)];exact congrArg (fun l=>some (l,())) (nb_congr fun k hk=>if_pos hk)
end
end Gf
end Go.Proofs.Ytedmffbhklgloaa
/- The residual programs. -/
/- What Valid returns. -/
set_option maxRecDepth 100000
namespace Go.Proofs.Ytedmffbhklgloaa
open Go Go.RowKit
set_option linter.unusedSimpArgs false
set_option linter.unusedSectionVars false
set_option linter.unusedVariables false
namespace Gf
def clean (f:Nat→Nat):Nat→Bool
 | 0=>true
 | i+1=>clean f i&&decide (f i=0)
theorem horner_syn {w:Nat→Nat} (hw:∀ k,w k<256) (len i:Nat):horner w (pw 2 i) len=sum len (fun j=>mulN (w j) (pw 2 (i*(len-1-j)))):=by
 rw [horner_sum hw (p2 i)];exact sum_congr fun j _=>by rw [pw_mul (by decide)]
section
variable {fu:Nat} (hf:18446744073709551616≤fu)
include hf
theorem hn_row {len q:Nat} {w:Nat→Nat} (hw:∀ k,w k<256) (hl:len≤400) {i:Nat} (hi:i<q) (hq:q≤64) (n':Int) (c:Bool) {S:Nat→Nat} (j1:(Int×Bool×List Int)→Option (List Int×Bool×Unit)) :
  loopF (reedsolomon_syndromes_l3 fu (nb len w,(n',())) (c,((i:Int),nb q S)) (i:Int) (pw 2 i:Int) j1) fu ((0:Int),(0:Int))=j1 ((i:Int),(c&&decide (horner w (pw 2 i) len=0),nb q fun k=>if k=i then horner w (pw 2 i) len else S k)):=by
 have hx:=p2 i;refine stLoop (n:=len) (st:=fun t=>((horner w (pw 2 i) t:Int),(t:Int))) (by omega) rfl ?_ ?_
 ·intro j t ht;have hh:=horner_lt hw hx t;unfold reedsolomon_syndromes_l3;simp only;rw [nb_len,bif_pos (by omega),bf2 (by omega) (by omega),Int.toNat_natCast,nb_getD ht,mul_r hf hh hx,bindO_some];simp only;rw [xor_c hf (mul_lt hh) (hw t),s_wr (by omega) (by omega)];rfl
 ·intro j;unfold reedsolomon_syndromes_l3;simp only;rw [nb_len,nb_len,bif_neg (by omega),bf2 (by omega) (by omega),Int.toNat_natCast,nb_set]
  have e:decide ((horner w (pw 2 i) len:Int)=0)=decide (horner w (pw 2 i) len=0):=by
   by_cases h:horner w (pw 2 i) len=0
   ·rw [decide_eq_true h,decide_eq_true (by omega)]
   ·rw [decide_eq_false h,decide_eq_false (by omega)]
  cases c with
  | true=>rw [cond_true,e,Bool.true_and]
  | false=>rw [cond_false,Bool.false_and]
theorem syndromes_r {len q:Nat} {w:Nat→Nat} (hw:∀ k,w k<256) (hl:len≤400) (hq:q≤64):reedsolomon_syndromes_r fu (nb len w,((q:Int),()))=some (nb q (fun i=>horner w (pw 2 i) len),(clean (fun i=>horner w (pw 2 i) len) q,())):=by
 unfold reedsolomon_syndromes_r;simp only;rw [bf2 (by omega) (by omega),Int.toNat_natCast,nb_rep];refine stLoop (n:=q) (st:=fun i=>(clean (fun i=>horner w (pw 2 i) len) i,((i:Int),nb q fun k=>if k<i then horner w (pw 2 k) len else 0))) (by omega) (congrArg (fun l=>(true,((0:Int),l))) (nb_congr fun k _=>if_neg (by omega))) ?_ ?_
 ·intro j i hi;unfold reedsolomon_syndromes_l1 reedsolomon_syndromes_j2;simp only [joinF_eq];rw [Int.toNat_natCast,List.length_replicate,bif_pos (by omega),power2 hf (by omega),bindO_some];simp only;rw [hn_row hf hw hl hi hq];simp only;rw [s_wr (by omega) (by omega)];refine congrArg (fun l=>j (clean (fun i=>horner w (pw 2 i) len) (i+1),(((i+1:Nat):Int),l))) (nb_congr fun k _=>?_);by_cases c:k=i
  ·rw [if_pos c,if_pos (show k<i+1 by omega),c]
  ·rw [if_neg c];by_cases g:k<i
   ·rw [if_pos g,if_pos (show k<i+1 by omega)]
   ·rw [if_neg g,if_neg (show ¬ k<i+1 by omega)]
 ·intro j;unfold reedsolomon_syndromes_l1;simp only [joinF_eq];rw [Int.toNat_natCast,List.length_replicate,bif_neg (by omega)];exact congrArg (fun l=>some (l,(clean (fun i=>horner w (pw 2 i) len) q,()))) (nb_congr fun k hk=>if_pos hk)
def vE (len:Nat) (q:Int):Int:=if q<1∨64<q then 3 else if 255<len then 2 else if (len:Int)≤q then 12 else 0
theorem check_r (l:List Int) (q:Int):reedsolomon_check_r fu (l,(q,()))=some (vE l.length q,()):=by
 unfold reedsolomon_check_r reedsolomon_check_j1 vE;simp only [joinF_eq];by_cases c1:q<1
 ·rw [bif_pos c1,if_pos (.inl c1)];rfl
 rw [bif_neg c1];by_cases c2:64<q
 ·rw [decide_eq_true c2,if_pos (.inr c2)];rfl
 rw [decide_eq_false c2,cond_false,if_neg (by omega)];by_cases c3:255<l.length
 ·rw [bif_pos (by omega),if_pos c3]
 rw [bif_neg (by omega),if_neg c3];by_cases c4:(l.length:Int)≤q
 ·rw [bif_pos c4,if_pos c4]
 ·rw [bif_neg c4,if_neg c4]
end
end Gf
end Go.Proofs.Ytedmffbhklgloaa
/- Lists of bytes as lists of small numbers;when the syndromes are zero. -/
set_option maxRecDepth 100000
namespace Go.Proofs.Ytedmffbhklgloaa
open Go Go.RowKit
set_option linter.unusedSimpArgs false
set_option linter.unusedSectionVars false
set_option linter.unusedVariables false
namespace Gf
def byt (ds:List Int) (k:Nat):Nat:=(ds.getD k 0).toNat
theorem byt_lt {ds:List Int} (h:∀ d ∈ ds,0≤d∧d≤255) (k:Nat):byt ds k<256:=by
 unfold byt;rw [List.getD_eq_getElem?_getD];by_cases c:k<ds.length
 ·rw [List.getElem?_eq_getElem c,Option.getD_some];have:=h _ (List.getElem_mem c);omega
 ·rw [List.getElem?_eq_none (by omega)];decide
theorem nb_byt {ds:List Int} (h:∀ d ∈ ds,0≤d∧d≤255):nb ds.length (byt ds)=ds:=by
 refine List.ext_getElem (nb_len _ _) fun i h1 h2=>?_
 rw [nb_getElem];unfold byt;rw [List.getD_eq_getElem?_getD,List.getElem?_eq_getElem h2,Option.getD_some];have:=h _ (List.getElem_mem h2);omega
theorem clean_iff {f:Nat→Nat}:∀ n,clean f n=true↔∀ k,k<n→f k=0
 | 0=>⟨fun _ k hk=>by omega,fun _=>rfl⟩
 | n+1=>by
  rw [clean,Bool.and_eq_true,decide_eq_true_eq,clean_iff n];constructor
  ·rintro ⟨h1,h2⟩ k hk
   by_cases c:k=n
   ·rw [c];exact h2
   ·exact h1 k (by omega)
  ·exact fun h=>⟨fun k hk=>h k (by omega),h n (by omega)⟩
end Gf
end Go.Proofs.Ytedmffbhklgloaa
/- The residual programs. -/
/- R.Corrected: the rows of its matrix. -/
set_option maxRecDepth 100000
namespace Go.Proofs.Ytedmffbhklgloaa
open Go Go.RowKit
set_option linter.unusedSimpArgs false
set_option linter.unusedSectionVars false
set_option linter.unusedVariables false
namespace Gf
def tab {α:Type} (n:Nat) (f:Nat→α):List α:=(List.range n).map f
section
variable {α:Type} {n:Nat} {f g:Nat→α}
theorem tab_len:(tab n f).length=n:=by unfold tab;rw [List.length_map,List.length_range]
theorem tab_getElem {i:Nat} (h:i<(tab n f).length):(tab n f)[i]=f i:=by simp only [tab,List.getElem_map,List.getElem_range]
theorem tab_getD {i:Nat} {d:α} (h:i<n):(tab n f).getD i d=f i:=by
 rw [List.getD_eq_getElem?_getD,List.getElem?_eq_getElem (by rw [tab_len];exact h),Option.getD_some,tab_getElem]
theorem tab_congr (h:∀ i,i<n→f i=g i):tab n f=tab n g:=List.map_congr_left fun i hi=>by rw [h i (List.mem_range.1 hi)]
theorem tab_set {k:Nat} {v:α}:(tab n f).set k v=tab n fun i=>if i=k then v else f i:=by
 refine List.ext_getElem (by rw [List.length_set,tab_len,tab_len]) fun i h1 h2=>?_
 rw [List.getElem_set];by_cases e:k=i
 ·rw [if_pos e,tab_getElem,if_pos e.symm]
 ·rw [if_neg e,tab_getElem,tab_getElem,if_neg (Ne.symm e)]
theorem tab_app {v:α}:tab n f++[v]=tab (n+1) fun i=>if i=n then v else f i:=by
 unfold tab;rw [List.range_succ,List.map_append,List.map_singleton,if_pos rfl];congr 1;refine List.map_congr_left fun i hi=>?_
 have:=List.mem_range.1 hi;rw [if_neg (by omega)]
theorem tab_rep (v:α):List.replicate n v=tab n fun _=>v:=by
 refine List.ext_getElem (by rw [List.length_replicate,tab_len]) fun i h1 h2=>?_
 rw [List.getElem_replicate,tab_getElem]
end
section
variable {p:Nat} {xs:List (List Int)} {A:Nat→Nat→Nat} {π:Nat→Nat}
end
abbrev RR:=Option (List Int×Bool×Unit)
section
variable {fu:Nat} (hf:18446744073709551616≤fu)
variable {p:Nat} {xs:List (List Int)} {A:Nat→Nat→Nat} {π:Nat→Nat}
include hf
structure Prm (p:Nat) (π:Nat→Nat):Prop where
 lt:∀ i,i<p→π i<p
 inj:∀ i j,i<p→j<p→π i=π j→i=j
 sur:∀ j,j<p→∃ i,i<p∧π i=j
end
end Gf
end Go.Proofs.Ytedmffbhklgloaa
/- R.Corrected: columns of its matrix,more rows than columns. -/
set_option maxRecDepth 100000
namespace Go.Proofs.Ytedmffbhklgloaa
open Go Go.RowKit
set_option linter.unusedSimpArgs false
set_option linter.unusedSectionVars false
set_option linter.unusedVariables false
namespace Gf
def AG (xs:List (List Int)) (p w:Nat) (A:Nat→Nat→GF):List (List Int):=xs++tab p fun j=>ng w (A j)
def WG (o p w:Nat) (π:Nat→Nat):List (Int×Int):=tab p fun i=>(((o+π i:Nat):Int),(w:Int))
section
variable {p o w:Nat} {xs:List (List Int)} {A:Nat→Nat→GF} {π:Nat→Nat}
theorem AG_get (hx:xs.length=o) {j:Nat} (hj:j<p):(AG xs p w A).getD (o+j) []=ng w (A j):=by
 unfold AG;rw [List.getD_eq_getElem?_getD,List.getElem?_append_right (by omega),show o+j-xs.length=j by omega,←List.getD_eq_getElem?_getD,tab_getD hj]
theorem AG_set (hx:xs.length=o) {j:Nat} (hj:j<p) {g:Nat→GF}:(AG xs p w A).set (o+j) (ng w g)=AG xs p w fun i=>if i=j then g else A i:=by
 unfold AG;rw [List.set_append_right _ _ (by omega),show o+j-xs.length=j by omega,tab_set];congr 1
 exact tab_congr fun i _=>by
  dsimp only;by_cases e:i=j
  ·rw [if_pos e,if_pos e]
  ·rw [if_neg e,if_neg e]
theorem AG_congr {B:Nat→Nat→GF} (h:∀ j,j<p→∀ k,k<w→A j k=B j k):AG xs p w A=AG xs p w B:=by
 unfold AG;rw [tab_congr fun j hj=>ng_congr fun k hk=>h j hj k hk]
theorem WG_len:(WG o p w π).length=p:=tab_len
theorem WG_get {i:Nat} {d:Int×Int} (hi:i<p):(WG o p w π).getD i d=(((o+π i:Nat):Int),(w:Int)):=tab_getD hi
theorem WG_sw {c q:Nat} (hc:c<p) (hq:q<p):(((WG o p w π).set c ((WG o p w π).getD q (-1,0))).set q ((WG o p w π).getD c (-1,0)))=WG o p w fun i=>π (sw' c q i):=by
 rw [WG_get hc,WG_get hq];unfold WG;rw [tab_set,tab_set];refine tab_congr fun i hi=>?_
 unfold sw';dsimp only;by_cases e:i=q
 ·rw [if_pos e];by_cases e':i=c
  ·rw [if_pos e',←e,e']
  ·rw [if_neg e',if_pos e]
 ·rw [if_neg e];by_cases e':i=c
  ·rw [if_pos e',if_pos e']
  ·rw [if_neg e',if_neg e',if_neg e]
end
section
variable {fu:Nat} (hf:18446744073709551616≤fu)
include hf
theorem timR (a b:GF):R_Times_r fu (ic a,(ic b,()))=some (ic (a*b),()):=times_m hf a.2 b.2
theorem invR {a:GF} (h0:a≠0):∃ b:GF,a*b=1∧R_Inverse_r fu (ic a,())=some (ic b,()):=by
 obtain ⟨b,h1,h2,h3⟩:=inverse_r hf a.2 (fun e=>h0 (GF.ext e));exact ⟨⟨b,h1⟩,GF.ext h2,h3⟩
end
section
variable {fu:Nat} (hf:18446744073709551616≤fu)
variable {p o w:Nat} {xs:List (List Int)} {A:Nat→Nat→GF} {π:Nat→Nat}
include hf
theorem g14_r (hp:p≤64) (ho:o≤64) (hw:w≤64) (hx:xs.length=o) (hπ:∀ i,i<p→π i<p) {i c:Nat} {f:GF} (hi:i<p) (hc:c<p) (hne:π i≠π c)
  {v5:Int×List (List Int)×List (Int×Int)} {v6 v7 v15 v16:Int} {v13:Int×List (List Int)} {v17:Bool×List (List Int)} (hS:List.set (List.set v5.2.2 (Int.toNat v6) (List.getD v5.2.2 (Int.toNat v7) (-1,0))) (Int.toNat v7) (List.getD v5.2.2 (Int.toNat v6) (-1,0))=WG o p w π) (e6:v6=c) (e15:v15=i) (e16:v16=ic f) (e17:v17.2=AG xs p w A) (j14:(Int×List (List Int))→RR) :
  loopF (R_Corrected_l14 fu v5 v6 v7 v13 v15 v16 v17 j14) fu ((0:Int),v17.2)=j14 (v13.1,AG xs p w fun j k=>if j=π i then A j k+f*A (π c) k else A j k):=by
 have hpi:=hπ i hi;have hpc:=hπ c hc;refine stLoop (n:=w) (st:=fun t=>((t:Int),AG xs p w fun j k=>if j=π i∧k<t then A j k+f*A (π c) k else A j k)) (by omega) ?_ ?_ ?_
 ·rw [e17];exact congrArg (Prod.mk (0:Int)) (AG_congr fun j _ k _=>if_neg (by omega))
 ·intro j t ht;unfold R_Corrected_l14;simp only;rw [hS];subst e6 e15 e16;have hb1:(if True∧t<t then A (π i) t+f*A (π c) t else A (π i) t)=A (π i) t:=if_neg (by omega);have hb2:(if π c=π i∧t<t then A (π c) t+f*A (π c) t else A (π c) t)=A (π c) t:=if_neg (by omega);simp only [e17,Int.toNat_natCast,WG_len,WG_get hi,WG_get hc,AG_get hx hpi,AG_get hx hpc,ng_len,ng_getD ht,hb1,hb2,timR hf];simp (disch:=omega) only [joinF_eq,bindO_some,s_wr,s_td,s_tm,s_pos,s_neg,cond_true,cond_false,Bool.not_true,Bool.not_false,Bool.true_and,Bool.and_true,Bool.false_and,Bool.and_false,bne_self_eq_false,decide_true,decide_false,Int.toNat_natCast];rw [xor_g hf,ng_set,AG_set hx hpi,show ((t:Int)+1)=((t+1:Nat):Int) by omega];refine congrArg (fun l=>j (((t+1:Nat):Int),l)) (AG_congr fun j' _ k hk=>?_);by_cases e:j'=π i
  ·rw [if_pos e];by_cases e2:k=t
   ·rw [if_pos e2,if_pos ⟨e,by omega⟩,e,e2]
   ·rw [if_neg e2];by_cases e3:k<t
    ·rw [if_pos ⟨trivial,e3⟩,if_pos ⟨e,by omega⟩,e]
    ·rw [if_neg (fun h=>e3 h.2),if_neg (fun h=>e3 (by omega)),e]
  ·rw [if_neg e,if_neg (fun h=>e h.1),if_neg (fun h=>e h.1)]
 ·intro j;unfold R_Corrected_l14;simp only;rw [hS];subst e6 e15 e16;simp only [e17,Int.toNat_natCast,WG_len,WG_get hi,WG_get hc,AG_get hx hpi,AG_get hx hpc,ng_len];rw [bif_neg (by omega)]
  exact congrArg (fun l=>j14 (v13.1,l)) (AG_congr fun j _ k hk=>by
   by_cases e:j=π i
   ·rw [if_pos ⟨e,by omega⟩,if_pos e]
   ·rw [if_neg (fun h=>e h.1),if_neg e])
theorem g10_r (hp:p≤64) (ho:o≤64) (hw:w≤64) (hx:xs.length=o) (hπ:∀ i,i<p→π i<p) {c:Nat} {f:GF} (hc:c<p)
  {v5:Int×List (List Int)×List (Int×Int)} {v6 v7 v11:Int} {v9:List (List Int)} (hS:List.set (List.set v5.2.2 (Int.toNat v6) (List.getD v5.2.2 (Int.toNat v7) (-1,0))) (Int.toNat v7) (List.getD v5.2.2 (Int.toNat v6) (-1,0))=WG o p w π) (e6:v6=c) (e11:v11=ic f) (e9:v9=AG xs p w A) (j5:(Int×List (List Int)×List (Int×Int))→RR) :
  loopF (R_Corrected_l10 fu v5 v6 v7 v9 v11 j5) fu ((0:Int),v9)=loopF (R_Corrected_l11 fu v5 v6 v7 j5) fu ((0:Int),AG xs p w fun j k=>if j=π c then A j k*f else A j k):=by
 have hpc:=hπ c hc;refine stLoop (n:=w) (st:=fun t=>((t:Int),AG xs p w fun j k=>if j=π c∧k<t then A j k*f else A j k)) (by omega) ?_ ?_ ?_
 ·rw [e9];exact congrArg (Prod.mk (0:Int)) (AG_congr fun j _ k _=>if_neg (by omega))
 ·intro j t ht;unfold R_Corrected_l10;simp only;rw [hS];subst e6 e11;have hb1:(if True∧t<t then A (π c) t*f else A (π c) t)=A (π c) t:=if_neg (by omega);simp only [e9,Int.toNat_natCast,WG_len,WG_get hc,AG_get hx hpc,ng_len,ng_getD ht,hb1,timR hf];simp (disch:=omega) only [joinF_eq,bindO_some,s_wr,s_td,s_tm,s_pos,s_neg,cond_true,cond_false,Bool.not_true,Bool.not_false,Bool.true_and,Bool.and_true,Bool.false_and,Bool.and_false,bne_self_eq_false,decide_true,decide_false,Int.toNat_natCast];rw [ng_set,AG_set hx hpc,show ((t:Int)+1)=((t+1:Nat):Int) by omega];refine congrArg (fun l=>j (((t+1:Nat):Int),l)) (AG_congr fun j' _ k hk=>?_);by_cases e:j'=π c
  ·rw [if_pos e];by_cases e2:k=t
   ·rw [if_pos e2,if_pos ⟨e,by omega⟩,e,e2]
   ·rw [if_neg e2];by_cases e3:k<t
    ·rw [if_pos ⟨trivial,e3⟩,if_pos ⟨e,by omega⟩,e]
    ·rw [if_neg (fun h=>e3 h.2),if_neg (fun h=>e3 (by omega)),e]
  ·rw [if_neg e,if_neg (fun h=>e h.1),if_neg (fun h=>e h.1)]
 ·intro j;unfold R_Corrected_l10;simp only;rw [hS];subst e6 e11;simp only [e9,Int.toNat_natCast,WG_len,WG_get hc,AG_get hx hpc,ng_len];rw [bif_neg (by omega)]
  exact congrArg (fun l=>loopF (R_Corrected_l11 fu v5 (c:Int) v7 j5) fu ((0:Int),l)) (AG_congr fun j _ k hk=>by
   by_cases e:j=π c
   ·rw [if_pos ⟨e,by omega⟩,if_pos e]
   ·rw [if_neg (fun h=>e h.1),if_neg e])
def RG (p w:Nat) (A:Nat→Nat→GF) (π:Nat→Nat) (M:Nat→Nat→GF):Prop:=∀ i,i<p→∀ k,k<w→A (π i) k=M i k
theorem g11_r (hp:p≤64) (ho:o≤64) (hw:w≤64) (hx:xs.length=o) (hπ:Prm p π) {M:Nat→Nat→GF} (hR:RG p w A π M) {c:Nat} (hc:c<p) (hcw:c<w)
  {v5:Int×List (List Int)×List (Int×Int)} {v6 v7:Int} (hS:List.set (List.set v5.2.2 (Int.toNat v6) (List.getD v5.2.2 (Int.toNat v7) (-1,0))) (Int.toNat v7) (List.getD v5.2.2 (Int.toNat v6) (-1,0))=WG o p w π) (e6:v6=c) (e5:v5.1=c) (j5:(Int×List (List Int)×List (Int×Int))→RR) :
  ∃ B,RG p w B π (fun i k=>if i=c then M i k else M i k+M i c*M c k)∧loopF (R_Corrected_l11 fu v5 v6 v7 j5) fu ((0:Int),AG xs p w A)=j5 (((c+1:Nat):Int),(AG xs p w B,WG o p w π)):=by
 refine (foldLoop (f:=R_Corrected_l11 fu v5 v6 v7 j5) (n:=p) (fu:=fu) (by omega) (fun t s=>∃ B,RG p w B π (fun i k=>if i<t∧i≠c then M i k+M i c*M c k else M i k)∧s=AG xs p w B)
  (fin:=fun s=>j5 (((c+1:Nat):Int),(s,WG o p w π))) (s0:=AG xs p w A) ⟨A,fun i hi k hk=>(hR i hi k hk).trans (if_neg (by omega)).symm,rfl⟩ ?_ ?_).elim fun s ⟨⟨B,hB,hs⟩,hl⟩=>?_
 ·rintro j i s hi ⟨B,hB,rfl⟩
  have hpi:=hπ.lt i hi;have hpc:=hπ.lt c hc;have hval:B (π i) c=M i c:=(hB i hi c hcw).trans (if_neg (by omega));have e51:IntKind.i64.wrap (((i:Nat):Int)+1)=((i+1:Nat):Int):=by rw [s_wr (by omega) (by omega)];omega
  have hcc:∀ k,k<w→B (π c) k=M c k:=fun k hk=>(hB c hc k hk).trans (if_neg (fun h=>h.2 rfl))
  have keep:(i=c∨M i c=0)→RG p w B π (fun i' k=>if i'<i+1∧i'≠c then M i' k+M i' c*M c k else M i' k):=by
   intro h i' hi' k hk;refine (hB i' hi' k hk).trans ?_;dsimp only;by_cases e:i'=i
   ·subst e;rw [if_neg (by omega)];rcases h with h | h
    ·rw [if_neg (fun g=>g.2 h)]
    ·by_cases e2:i'=c
     ·rw [if_neg (fun g=>g.2 e2)]
     ·rw [if_pos ⟨by omega,e2⟩,h,GF.zero_mul,GF.add_zero]
   ·by_cases e2:i'<i∧i'≠c
    ·rw [if_pos e2,if_pos ⟨by omega,e2.2⟩]
    ·rw [if_neg e2,if_neg (fun g=>e2 ⟨by omega,g.2⟩)]
  unfold R_Corrected_l11;simp only;rw [hS];simp only [e6,Int.toNat_natCast,WG_len,WG_get hi,WG_get hc,AG_get hx hpi,AG_get hx hpc,ng_len];simp (disch:=omega) only [joinF_eq,bindO_some,s_wr,s_td,s_tm,s_pos,s_neg,cond_true,cond_false,Bool.not_true,Bool.not_false,Bool.true_and,Bool.and_true,Bool.false_and,Bool.and_false,bne_self_eq_false,decide_true,decide_false,Int.toNat_natCast];rw [ng_getD hcw,hval];have e50:IntKind.i64.wrap (((i:Nat):Int)+1)=(i:Int)+1:=s_wr (by omega) (by omega);by_cases e:i=c
  ·refine ⟨_,⟨B,keep (.inl e),rfl⟩,?_⟩;rw [bif_neg (by omega)];unfold R_Corrected_j13 R_Corrected_j12;simp only [cond_false,e50]
  rw [bif_pos (by omega)];by_cases e0:M i c=0
  ·refine ⟨_,⟨B,keep (.inr e0),rfl⟩,?_⟩;rw [show decide (ic (M i c)≠0)=false from decide_eq_false (fun h=>h (ic_zero.2 e0))];unfold R_Corrected_j13 R_Corrected_j12;simp only [cond_false,e50]
  have hne:π i≠π c:=fun h=>e (hπ.inj i c hi hc h)
  refine ⟨AG xs p w (fun j k=>if j=π i then B j k+M i c*B (π c) k else B j k),⟨_,?_,rfl⟩,?_⟩
  rotate_left
  ·have h14:=g14_r hf hp ho hw hx hπ.lt hi hc hne (A:=B) (f:=M i c) (v5:=v5) (v6:=(c:Int)) (v7:=v7) (v13:=((i:Int),AG xs p w B)) (v15:=(i:Int)) (v16:=ic (M i c)) (v17:=(decide (ic (M i c)≠0),AG xs p w B)) (by rw [e6] at hS;exact hS) rfl rfl rfl rfl (R_Corrected_j12 fu j);unfold R_Corrected_j13;simp only;rw [e6] at hS;rw [hS];simp only [Int.toNat_natCast,WG_len,WG_get hi,AG_get hx hpi,ng_len];have hz:ic (M i c)≠0:=fun h=>e0 (ic_zero.1 h)
   rw [decide_eq_true hz] at h14 ⊢;rw [cond_true];simp (disch:=omega) only [joinF_eq,bindO_some,s_wr,s_td,s_tm,s_pos,s_neg,cond_true,cond_false,Bool.not_true,Bool.not_false,Bool.true_and,Bool.and_true,Bool.false_and,Bool.and_false,bne_self_eq_false,decide_true,decide_false,Int.toNat_natCast];simp only [h14];unfold R_Corrected_j12;simp only [e50]
  ·intro i' hi' k hk;dsimp only;by_cases e2:i'=i
   ·subst e2;rw [if_pos rfl,if_pos ⟨by omega,e⟩,hcc k hk,(hB i' hi' k hk).trans (if_neg (by omega))]
   ·have:π i'≠π i:=fun h=>e2 (hπ.inj i' i hi' hi h)
    rw [if_neg this,hB i' hi' k hk];dsimp only;by_cases e3:i'<i∧i'≠c
    ·rw [if_pos e3,if_pos ⟨by omega,e3.2⟩]
    ·rw [if_neg e3,if_neg (fun g=>e3 ⟨by omega,g.2⟩)]
 ·rintro j s ⟨B,hB,rfl⟩
  unfold R_Corrected_l11;simp only;rw [hS,WG_len,bif_neg (by omega),e5,s_wr (by omega) (by omega),show ((c:Int)+1)=((c+1:Nat):Int) by omega]
 ·refine ⟨B,fun i hi k hk=>?_,hl.trans (by rw [hs])⟩;rw [hB i hi k hk];dsimp only;by_cases e:i=c
  ·rw [if_pos e,if_neg (fun h=>h.2 e)]
  ·rw [if_neg e,if_pos ⟨hi,e⟩]
omit hf in
theorem Prm.sw' (hπ:Prm p π) {c q:Nat} (hc:c<p) (hq:q<p):Prm p fun i=>π (sw' c q i):=by
 refine ⟨fun i hi=>hπ.lt _ (sw'_lt hc hq hi),fun i j hi hj h=>?_,fun j hj=>?_⟩
 ·have:=hπ.inj _ _ (sw'_lt hc hq hi) (sw'_lt hc hq hj) h;have h2:=congrArg (Gf.sw' c q) this;rwa [sw'_sw,sw'_sw] at h2
 ·obtain ⟨i,hi,e⟩:=hπ.sur j hj;exact ⟨Gf.sw' c q i,sw'_lt hc hq hi,by rw [sw'_sw];exact e⟩
theorem g8_r {m:Nat} (hp:p≤64) (ho:o≤64) (hw:w≤64) (hmw:w=m+1) (hmp:m≤p) (hx:xs.length=o) (hπ:Prm p π) {M:Nat→Nat→GF} {Z:(Nat→GF)→Prop} {c:Nat} (hG:GR p m c M Z) (hR:RG p w A π M) (hcm:c<m)
  {v5:Int×List (List Int)×List (Int×Int)} (e5:v5=((c:Int),(AG xs p w A,WG o p w π))) (j3:(Bool×List (List Int)×List Int)→RR) (j5:(Int×List (List Int)×List (Int×Int))→RR) :
  ∃ B ρ N,Prm p ρ∧GR p m (c+1) N Z∧RG p w B ρ N∧loopF (R_Corrected_l8 fu v5 (c:Int) j3 j5) fu (c:Int)=j5 (((c+1:Nat):Int),(AG xs p w B,WG o p w ρ)):=by
 have hc:c<p:=by omega
 have hcw:c<w:=by omega
 obtain ⟨q0,hq0,hq1,hq2⟩:=hG.pivot hcm;refine postLoop (f:=R_Corrected_l8 fu v5 (c:Int) j3 j5) (fun v:Int=>((p:Int)-v).toNat) (fun v=>∃ q:Nat,v=q∧c≤q∧q≤q0) (fun r=>∃ B ρ N,Prm p ρ∧GR p m (c+1) N Z∧RG p w B ρ N∧r=j5 (((c+1:Nat):Int),(AG xs p w B,WG o p w ρ))) ?_ fu (c:Int) ⟨c,rfl,Nat.le_refl _,hq0⟩ (by omega)
 rintro j _ ⟨q,rfl,h1,h2⟩
 have hqp:q<p:=by omega
 have hpq:=hπ.lt q hqp;have hpc:=hπ.lt c hc;have hval:A (π q) c=M q c:=hR q hqp c hcw;by_cases e0:M q c=0
 ·left
  have hne:q≠q0:=fun e=>hq2 (e ▸ e0)
  refine ⟨((q+1:Nat):Int),⟨q+1,rfl,by omega,by omega⟩,by omega,?_⟩;unfold R_Corrected_l8 R_Corrected_j9;subst e5;simp only [Int.toNat_natCast,WG_len,WG_get hqp,AG_get hx hpq,ng_len,ng_getD hcw,hval];rw [s_pos (p:=ic (M q c)=0) (ic_zero.2 e0)];simp (disch:=omega) only [joinF_eq,bindO_some,s_wr,s_td,s_tm,s_pos,s_neg,cond_true,cond_false,Bool.not_true,Bool.not_false,Bool.true_and,Bool.and_true,Bool.false_and,Bool.and_false,bne_self_eq_false,decide_true,decide_false,Int.toNat_natCast];rw [show ((q:Int)+1)=((q+1:Nat):Int) by omega]
 ·right
  obtain ⟨ρ,hρ⟩:∃ ρ:Nat→Nat,ρ=fun i=>π (sw' c q i):=⟨_,rfl⟩
  have hS:List.set (List.set v5.2.2 (Int.toNat (c:Int)) (List.getD v5.2.2 (Int.toNat (q:Int)) (-1,0))) (Int.toNat (q:Int)) (List.getD v5.2.2 (Int.toNat (c:Int)) (-1,0))=WG o p w ρ:=by
   rw [e5];simp only [Int.toNat_natCast];rw [hρ];exact WG_sw hc hqp
  have hPr:Prm p ρ:=by rw [hρ];exact Prm.sw' hπ hc hqp
  have hG1:=hG.swap hc h1 hqp;obtain ⟨M1,hM1⟩:∃ M1:Nat→Nat→GF,M1=fun i=>M (sw' c q i):=⟨_,rfl⟩
  have hG1:GR p m c M1 Z:=by rw [hM1];exact hG1
  have hR1:RG p w A ρ M1:=by rw [hρ,hM1];exact fun i hi k hk=>hR _ (sw'_lt hc hqp hi) k hk
  have hswc:sw' c q c=q:=if_pos rfl;have hMcc:M1 c c=M q c:=by rw [hM1];show M (sw' c q c) c=_;rw [hswc]
  obtain ⟨f,hf2,hinv⟩:=invR hf (a:=M1 c c) (by rw [hMcc];exact e0);have hG2:=hG1.scale hc hf2 hcm;have hρc:=hPr.lt c hc;have hv2:A (ρ c) c=M1 c c:=hR1 c hc c hcw;have h10:=g10_r hf hp ho hw hx hPr.lt hc (A:=A) (f:=f) (v5:=v5) (v6:=(c:Int)) (v7:=(q:Int)) (v11:=ic f) (v9:=AG xs p w A) hS rfl rfl rfl j5
  have hR2:RG p w (fun j k=>if j=ρ c then A j k*f else A j k) ρ (fun i k=>if i=c then M1 i k*f else M1 i k):=by
   intro i hi k hk;dsimp only;by_cases e:i=c
   ·rw [e,if_pos rfl,if_pos rfl,hR1 c hc k hk]
   ·rw [if_neg (fun h=>e (hPr.inj i c hi hc h)),if_neg e,hR1 i hi k hk]
  obtain ⟨B,hB,h11⟩:=g11_r hf hp ho hw hx hPr hR2 hc hcw (v5:=v5) (v6:=(c:Int)) (v7:=(q:Int)) hS rfl (by rw [e5]) j5;refine ⟨B,ρ,_,hPr,hG2.elim hc (by show (if c=c then M1 c c*f else M1 c c)=1;rw [if_pos rfl];exact hf2),hB,?_⟩;rw [←h11,←h10];unfold R_Corrected_l8 R_Corrected_j9;simp only;rw [hS];have hlen:(List.set v5.2.2 (Int.toNat (c:Int)) (List.getD v5.2.2 (Int.toNat (q:Int)) (-1,0))).length=p:=by rw [List.length_set,e5];exact WG_len
  have hl2:v5.2.2.length=p:=by rw [e5];exact WG_len
  have hg2:v5.2.2.getD q (-1,0)=(((o+π q:Nat):Int),(w:Int)):=by rw [e5];exact WG_get hqp
  have ha2:v5.2.1=AG xs p w A:=by rw [e5]
  rw [hlen];simp only [hl2,ha2,Int.toNat_natCast,hg2,WG_len,WG_get hc,AG_get hx hpq,AG_get hx hρc,ng_len,ng_getD hcw,hval,hv2,hinv];rw [s_neg (p:=ic (M q c)=0) (fun h=>e0 (ic_zero.1 h))];simp (disch:=omega) only [joinF_eq,bindO_some,s_wr,s_td,s_tm,s_pos,s_neg,cond_true,cond_false,Bool.not_true,Bool.not_false,Bool.true_and,Bool.and_true,Bool.false_and,Bool.and_false,bne_self_eq_false,decide_true,decide_false,Int.toNat_natCast]
end
end Gf
end Go.Proofs.Ytedmffbhklgloaa
/- R.Corrected at any distinct places. -/
set_option maxRecDepth 100000
namespace Go.Proofs.Ytedmffbhklgloaa
open Go Go.RowKit
set_option linter.unusedSimpArgs false
set_option linter.unusedSectionVars false
set_option linter.unusedVariables false
namespace Gf
theorem bif5' {α:Type} {a b c d e:Prop} [Decidable a] [Decidable b] [Decidable c] [Decidable d] [Decidable e] {x y:α} (ha:a) (hb:b) (hc:c) (hd:d) (he:e):(bif (((decide a&&(decide b&&decide c))&&decide d)&&decide e) then x else y)=x:=by
 rw [decide_eq_true ha,decide_eq_true hb,decide_eq_true hc,decide_eq_true hd,decide_eq_true he];rfl
theorem bif_g {α:Type} {a b c d:Prop} [Decidable a] [Decidable b] [Decidable c] [Decidable d] {x y:α} (ha:a) (hb:b) (hc:c) (hd:d):(bif ((bif decide a then (decide b&&decide c) else true)&&decide d) then x else y)=x:=by
 rw [decide_eq_true ha,decide_eq_true hb,decide_eq_true hc,decide_eq_true hd];rfl
theorem ng_snoc' {n:Nat} {f:Nat→GF}:ng n f++[ic (f n)]=ng (n+1) f:=by
 unfold ng nb;rw [List.range_succ,List.map_append];rfl
def two:GF:=⟨2,by decide⟩
def XX (N a:Nat):GF:=px two (N-1-a)
theorem px_mul {x:GF} (a b:Nat):px (px x a) b=px x (a*b):=GF.ext (by rw [px_val,px_val,px_val];exact pw_mul x.2 a b)
theorem XX_px (N a i:Nat):px (XX N a) i=px two (i*(N-1-a)):=by
 unfold XX;rw [px_mul,Nat.mul_comm]
theorem sy_sum (N:Nat) (wd:Nat→GF) (i:Nat):(sy N (XX N) wd i).1=sum N fun j=>mulN (wd j).1 (pw 2 (i*(N-1-j))):=by
 unfold sy;rw [sm_val];exact sum_congr fun j _=>by rw [XX_px];exact congrArg (mulN (wd j).1) (px_val _)
def Sol (N p m:Nat) (pl:Nat→Nat) (wd z:Nat→GF):Prop:=∀ i,i<p→sm m (fun k=>px (XX N (pl k)) i*z k)=sy N (XX N) wd i
def chg (m:Nat) (pl:Nat→Nat) (wd z:Nat→GF) (a:Nat):GF:=wd a+sm m fun k=>if pl k=a then z k else 0
section
variable {fu:Nat} (hf:18446744073709551616≤fu)
variable {p o m N:Nat} {xs:List (List Int)} {A:Nat→Nat→GF} {π pl:Nat→Nat} {wd z:Nat→GF}
include hf
theorem expR {n:Nat} (hn:n≤1000000):R_Exp_r fu ((n:Int),())=some (ic (px two n),()):=by
 rw [exp_r hf hn];exact congrArg (fun (x:Nat)=>some ((x:Int),())) (px_val (x:=two) n).symm
theorem synR {q:Nat} (hl:N≤400) (hq:q≤400):R_Syndromes_r fu (ng N wd,((q:Int),()))=some (ng q (sy N (XX N) wd),()):=by
 have h:=syn_r hf (len:=N) (q:=q) (w:=fun i=>(wd i).1) (fun k=>(wd k).2) hl hq;refine h.trans (congrArg (fun l=>some (l,())) (nb_congr fun i _=>?_));exact (sy_sum N wd i).symm
theorem g15_r (hp:p≤64) (ho:o≤64) (hm:m≤p) (hx:xs.length=o) (hπ:Prm p π) {M:Nat→Nat→GF} (hR:RG p (m+1) A π M)
  {word places:List Int} (hpl:places.length=m) {P:Int} {v5:Int×List (List Int)×List (Int×Int)} {v6:List (List Int)} (e5:v5.2.2=WG o p (m+1) π) (e6:v6=AG xs p (m+1) A) (j3:(Bool×List (List Int)×List Int)→RR) :
  ((∀ i,m≤i→i<p→M i m=0)→loopF (R_Corrected_l15 fu (word,(P,(places,()))) v5 v6 j3) fu ((0:Int),List.replicate m (0:Int))=j3 (true,(v6,ng m fun i=>M i m))) ∧
  (¬ (∀ i,m≤i→i<p→M i m=0)→loopF (R_Corrected_l15 fu (word,(P,(places,()))) v5 v6 j3) fu ((0:Int),List.replicate m (0:Int))=j3 (false,(v6,[]))):=by
 refine postLoop (f:=R_Corrected_l15 fu (word,(P,(places,()))) v5 v6 j3) (fun x=>((p:Int)-x.1).toNat) (fun x=>∃ i:Nat,i≤p∧x=((i:Int),ng m fun k=>if k<i then M k m else 0)∧∀ j,m≤j→j<i→M j m=0)
  (fun r=>((∀ i,m≤i→i<p→M i m=0)→r=j3 (true,(v6,ng m fun i=>M i m)))∧(¬ (∀ i,m≤i→i<p→M i m=0)→r=j3 (false,(v6,[])))) ?_ fu _ ⟨0,by omega,?_,fun j _ h=>by omega⟩ (by simp only;omega)
 rotate_left
 ·rw [ng_rep];exact congrArg (Prod.mk (0:Int)) (ng_congr fun k _=>(if_neg (by omega)).symm)
 rintro j _ ⟨i,hi,rfl,hz⟩
 by_cases c:i=p
 ·right
  have hall:∀ j,m≤j→j<p→M j m=0:=fun j h1 h2=>hz j h1 (by omega)
  refine ⟨fun _=>?_,fun h=>absurd hall h⟩;unfold R_Corrected_l15;simp only [e5,WG_len];rw [bif_neg (by omega)];exact congrArg (fun l=>j3 (true,(v6,l))) (ng_congr fun k hk=>if_pos (by omega))
 ·have hi':i<p:=by omega
  have hpi:=hπ.lt i hi';have hval:A (π i) m=M i m:=hR i hi' m (by omega);have e1:IntKind.i64.wrap ((i:Int)+1)=((i+1:Nat):Int):=by rw [s_wr (by omega) (by omega)];omega
  by_cases c2:i<m
  ·left
   refine ⟨(((i+1:Nat):Int),ng m fun k=>if k<i+1 then M k m else 0),⟨i+1,by omega,rfl,fun j h1 h2=>by omega⟩,by simp only;omega,?_⟩;unfold R_Corrected_l15;simp only [e5,e6,hpl,Int.toNat_natCast,WG_len,WG_get hi',AG_get hx hpi,ng_len,ng_getD (show m<m+1 by omega),hval];simp (disch:=omega) only [joinF_eq,bindO_some,s_wr,s_td,s_tm,s_pos,s_neg,cond_true,cond_false,Bool.not_true,Bool.not_false,Bool.true_and,Bool.and_true,Bool.false_and,Bool.and_false,bne_self_eq_false,decide_true,decide_false,Int.toNat_natCast];unfold R_Corrected_j16;rw [ng_set,e1];refine congrArg (fun l=>j (((i+1:Nat):Int),l)) (ng_congr fun k hk=>?_);by_cases e:k=i
   ·rw [if_pos e,if_pos (by omega),e]
   ·rw [if_neg e];by_cases e2:k<i
    ·rw [if_pos e2,if_pos (by omega)]
    ·rw [if_neg e2,if_neg (by omega)]
  ·by_cases e0:M i m=0
   ·left
    refine ⟨(((i+1:Nat):Int),ng m fun k=>if k<i+1 then M k m else 0),⟨i+1,by omega,rfl,fun j h1 h2=>?_⟩,by simp only;omega,?_⟩
    ·by_cases e:j=i
     ·rw [e];exact e0
     ·exact hz j h1 (by omega)
    ·unfold R_Corrected_l15;simp only [e5,e6,hpl,Int.toNat_natCast,WG_len,WG_get hi',AG_get hx hpi,ng_len,ng_getD (show m<m+1 by omega),hval];rw [s_neg (p:=ic (M i m)≠0) (fun h=>h (ic_zero.2 e0))];simp (disch:=omega) only [joinF_eq,bindO_some,s_wr,s_td,s_tm,s_pos,s_neg,cond_true,cond_false,Bool.not_true,Bool.not_false,Bool.true_and,Bool.and_true,Bool.false_and,Bool.and_false,bne_self_eq_false,decide_true,decide_false,Int.toNat_natCast];unfold R_Corrected_j16;rw [e1];refine congrArg (fun l=>j (((i+1:Nat):Int),l)) (ng_congr fun k hk=>?_);rw [if_pos (show k<i by omega),if_pos (by omega)]
   ·right
    refine ⟨fun h=>absurd (h i (by omega) hi') e0,fun _=>?_⟩;unfold R_Corrected_l15;simp only [e5,e6,hpl,Int.toNat_natCast,WG_len,WG_get hi',AG_get hx hpi,ng_len,ng_getD (show m<m+1 by omega),hval];rw [s_pos (p:=ic (M i m)≠0) (fun h=>e0 (ic_zero.1 h))];simp (disch:=omega) only [joinF_eq,bindO_some,s_wr,s_td,s_tm,s_pos,s_neg,cond_true,cond_false,Bool.not_true,Bool.not_false,Bool.true_and,Bool.and_true,Bool.false_and,Bool.and_false,bne_self_eq_false,decide_true,decide_false,Int.toNat_natCast]
theorem g7_r (hp:p≤60) (ho:o≤64) (hm:m≤p) (hx:xs.length=o) {M:Nat→Nat→GF} {Z:(Nat→GF)→Prop} (hG:GR p m 0 M Z) {word places:List Int} (hpl:places.length=m) {P:Int} (j3:(Bool×List (List Int)×List Int)→RR) :
  ∃ ar,((∃ z,Z z∧loopF (R_Corrected_l7 fu (word,(P,(places,()))) j3) fu ((0:Int),(AG xs p (m+1) M,WG o p (m+1) id))=j3 (true,(ar,ng m z))) ∨
   ((∀ z,¬ Z z)∧loopF (R_Corrected_l7 fu (word,(P,(places,()))) j3) fu ((0:Int),(AG xs p (m+1) M,WG o p (m+1) id))=j3 (false,(ar,[])))):=by
 refine (foldLoop (f:=R_Corrected_l7 fu (word,(P,(places,()))) j3) (n:=m) (fu:=fu) (by omega) (fun c (s:List (List Int)×List (Int×Int))=>∃ B ρ N,Prm p ρ∧GR p m c N Z∧RG p (m+1) B ρ N∧s=(AG xs p (m+1) B,WG o p (m+1) ρ))
  (fin:=fun s=>loopF (R_Corrected_l15 fu (word,(P,(places,()))) ((m:Int),s) s.1 j3) fu ((0:Int),List.replicate m (0:Int))) (s0:=(AG xs p (m+1) M,WG o p (m+1) id)) ⟨M,id,M,⟨fun _ h=>h,fun _ _ _ _ h=>h,fun j hj=>⟨j,hj,rfl⟩⟩,hG,fun _ _ _ _=>rfl,rfl⟩ ?_ ?_).elim fun s ⟨⟨B,ρ,N,h1,h2,h3,h4⟩,hl⟩=>?_
 ·rintro j c s hc ⟨B,ρ,N,h1,h2,h3,rfl⟩
  obtain ⟨B',ρ',N',g1,g2,g3,g4⟩:=g8_r hf (by omega) ho (by omega) rfl hm hx h1 h2 h3 hc (v5:=((c:Int),(AG xs p (m+1) B,WG o p (m+1) ρ))) rfl j3 j;refine ⟨(AG xs p (m+1) B',WG o p (m+1) ρ'),⟨B',ρ',N',g1,g2,g3,rfl⟩,?_⟩;unfold R_Corrected_l7;simp only [hpl];rw [bif_pos (by omega),g4];rfl
 ·rintro j s ⟨B,ρ,N,h1,h2,h3,rfl⟩
  unfold R_Corrected_l7;simp only [hpl];rw [bif_neg (by omega),bif_and (by omega) (by omega),Int.toNat_natCast]
 ·subst h4;have h15:=g15_r hf (by omega) ho hm hx h1 h3 (word:=word) (places:=places) hpl (P:=P) (v5:=((m:Int),(AG xs p (m+1) B,WG o p (m+1) ρ))) (v6:=AG xs p (m+1) B) rfl rfl j3;refine ⟨AG xs p (m+1) B,?_⟩;rw [hl];by_cases c:∀ i,m≤i→i<p→N i m=0
  ·exact .inl ⟨fun i=>N i m,(h2.last hm _).2 ⟨fun _ _=>rfl,c⟩,h15.1 c⟩
  ·exact .inr ⟨fun z hz=>c ((h2.last hm z).1 hz).2,h15.2 c⟩
theorem g6_r (hp:p≤60) (ho:o≤64) (hm:m≤p) (hx:xs.length=o) {M:Nat→Nat→GF} (hxs:m=0∨(o=p∧∀ i,i<p→xs.getD i []=ng m (M i))) {word places:List Int} {P:Int} {v1:List Int} (e1:v1=ng p fun i=>M i m) {v2:Int×List (List Int)×List (Int×Int)}
  (e2:v2.2=(xs,tab p fun i=>if m=0 then ((-1:Int),(0:Int)) else (((i:Nat):Int),(m:Int)))) (j3:(Bool×List (List Int)×List Int)→RR) :
  loopF (R_Corrected_l6 fu (word,(P,(places,()))) v1 v2 j3) fu ((0:Int),(v2.2.1,List.replicate p ((-1:Int),(0:Int))))=loopF (R_Corrected_l7 fu (word,(P,(places,()))) j3) fu ((0:Int),(AG xs p (m+1) M,WG o p (m+1) id)):=by
 refine stLoop (n:=p) (st:=fun t=>((t:Int),(xs++tab t (fun j=>ng (m+1) (M j)),tab p fun i=>if i<t then (((o+i:Nat):Int),((m+1:Nat):Int)) else ((-1:Int),(0:Int))))) (by omega) ?_ ?_ ?_
 ·rw [e2,tab_rep];show ((0:Int),(_++[],_))=_;rw [List.append_nil];exact congrArg (fun l=>((0:Int),(xs,l))) (tab_congr fun i _=>if_neg (by omega))
 ·intro j i hi;have hl2:(xs++tab i (fun j=>ng (m+1) (M j))).length=o+i:=by rw [List.length_append,hx,tab_len]
  have e11:IntKind.i64.wrap ((i:Int)+1)=((i+1:Nat):Int):=by rw [s_wr (by omega) (by omega)];omega
  have hA:(tab (i+1) fun k=>if k=i then ng (m+1) (M i) else ng (m+1) (M k))=tab (i+1) fun k=>ng (m+1) (M k):=tab_congr fun k _=>by
   by_cases e:k=i
   ·rw [if_pos e,e]
   ·rw [if_neg e]
  have fin:∀ (j:(Int×List (List Int)×List (Int×Int))→RR) (src:List Int),src=ng m (M i) →
    j (((i+1:Nat):Int),((xs++tab i (fun j=>ng (m+1) (M j)))++[src++[ic (M i m)]],(tab p fun q=>if q<i then (((o+q:Nat):Int),((m+1:Nat):Int)) else ((-1:Int),(0:Int))).set i (((o+i:Nat):Int),((m+1:Nat):Int)))) =
    j (((i+1:Nat):Int),(xs++tab (i+1) (fun j=>ng (m+1) (M j)),tab p fun q=>if q<i+1 then (((o+q:Nat):Int),((m+1:Nat):Int)) else ((-1:Int),(0:Int)))):=by
   intro j src hsrc;rw [hsrc,ng_snoc',tab_set,List.append_assoc,tab_app,hA];refine congrArg (fun (r:List (Int×Int))=>j (((i+1:Nat):Int),(xs++tab (i+1) (fun k=>ng (m+1) (M k)),r))) (tab_congr fun k _=>?_);by_cases e:k=i
   ·rw [if_pos e,if_pos (by omega),e]
   ·rw [if_neg e];by_cases e2:k<i
    ·rw [if_pos e2,if_pos (by omega)]
    ·rw [if_neg e2,if_neg (by omega)]
  unfold R_Corrected_l6;generalize hX:(140737488355328:Int)=X;generalize hY:(4294967296:Int)=Y;by_cases c:m=0
  ·have hsl:(tab p fun i=>if m=0 then ((-1:Int),(0:Int)) else (((i:Nat):Int),(m:Int))).getD i (-1,0)=((-1:Int),(0:Int)):=by rw [tab_getD hi,if_pos c]
   simp only [e2,e1,Int.toNat_natCast,tab_len,hsl,ng_len,ng_getD hi,List.nil_append,hl2];simp only [show decide ((0:Int)≤-1)=false from rfl,cond_false,List.length_nil,List.length_cons,List.nil_append,List.length_append,e11];rw [bif_pos (by omega),bif_and (by omega) (by omega),Bool.true_and,bif_pos (by omega),bif_and (by omega) (by omega),bif_pos (by omega),bif_and (by omega) (by omega),bif_and (by omega) (by omega)];have:=fin j [] (by rw [c];rfl);rw [List.nil_append] at this;rw [←this,c]
  ·obtain ⟨rfl,hxs⟩:=hxs.resolve_left c;have hsl:(tab o fun i=>if m=0 then ((-1:Int),(0:Int)) else (((i:Nat):Int),(m:Int))).getD i (-1,0)=(((i:Nat):Int),(m:Int)):=by rw [tab_getD hi,if_neg c]
   have hg:(xs++tab i (fun j=>ng (m+1) (M j))).getD i []=ng m (M i):=by
    rw [List.getD_eq_getElem?_getD,List.getElem?_append_left (by rw [hx];exact hi),←List.getD_eq_getElem?_getD,hxs i hi]
   simp only [e2,e1,Int.toNat_natCast,tab_len,hsl,ng_len,ng_getD hi,List.nil_append,hl2];generalize hsrc:(bif decide ((0:Int)≤(i:Int)) then (xs++tab i fun j=>ng (m+1) (M j)).getD i [] else [])=src;have hs2:src=ng m (M i):=by rw [←hsrc,decide_eq_true (show (0:Int)≤(i:Int) by omega)];exact hg
   have hsl:src.length=m:=by rw [hs2,ng_len]
   have hgl:((xs++tab i fun j=>ng (m+1) (M j)).getD i []).length=m:=by rw [hg,ng_len]
   have hal:(src++[ic (M i m)]).length=m+1:=by rw [List.length_append,hsl];rfl
   have h1l:([ic (M i m)]:List Int).length=1:=rfl;have h0l:([]:List Int).length=0:=rfl;rw [hal,hsl,hgl,h1l,h0l,bif_pos (by omega),bif_and (by omega) (by omega),bif_g (by omega) (by omega) rfl (by omega),bif_and (by omega) (by omega),bif_pos (by omega),bif_and (by omega) (by omega),bif_and (by omega) (by omega),e11];rw [←fin j src hs2]
 ·intro j;unfold R_Corrected_l6;simp only [e2,tab_len];rw [bif_neg (by omega)];exact congrArg (fun (r:List (Int×Int))=>loopF (R_Corrected_l7 fu (word,(P,(places,()))) j3) fu ((0:Int),(AG xs p (m+1) M,r))) (tab_congr fun k hk=>if_pos hk)
end
end Gf
end Go.Proofs.Ytedmffbhklgloaa
/- What R.Corrected returns at any distinct places. -/
set_option maxRecDepth 100000
namespace Go.Proofs.Ytedmffbhklgloaa
open Go Go.RowKit
set_option linter.unusedSimpArgs false
set_option linter.unusedSectionVars false
set_option linter.unusedVariables false
namespace Gf
section
variable {fu:Nat} (hf:18446744073709551616≤fu)
variable {p m N:Nat} {pl:Nat→Nat} {wd:Nat→GF}
include hf
theorem g2_r (hm0:0<m) (hp:p≤60) (hmp:m≤p) (hN:N≤255) (hpl:∀ k,k<m→pl k<N) {M:Nat→Nat→GF} (hM:∀ i,i<p→∀ k,k<m→M i k=px (XX N (pl k)) i) {word places:List Int} (hw:word.length=N) (hpc:places=tab m fun k=>((pl k:Nat):Int)) {P:Int} {i:Nat} (hi:i<p) {v2:Int×List (List Int)×List (Int×Int)}
  (e1:v2.1=i) (e2:v2.2=(tab i (fun i=>ng m (M i)),tab p fun j=>if j<i then (((j:Nat):Int),(m:Int)) else ((-1:Int),(0:Int)))) (j2:(Int×List (List Int)×List (Int×Int))→RR) :
  loopF (R_Corrected_l2 fu (word,(P,(places,()))) v2 (i:Int) j2) fu ((0:Int),v2.2)=j2 (((i+1:Nat):Int),(tab (i+1) (fun i=>ng m (M i)),tab p fun j=>if j<i+1 then (((j:Nat):Int),(m:Int)) else ((-1:Int),(0:Int)))):=by
 have hlp:places.length=m:=by rw [hpc];exact tab_len
 refine stLoop (n:=m) (st:=fun u=>((u:Int),(tab i (fun i=>ng m (M i))++(if u=0 then [] else [ng u (M i)]),tab p fun j=>if j<i then (((j:Nat):Int),(m:Int)) else if j=i∧0<u then (((i:Nat):Int),(u:Int)) else ((-1:Int),(0:Int))))) (by omega) ?_ ?_ ?_
 ·rw [e2];show ((0:Int),(_++[],_))=_;rw [List.append_nil];refine congrArg (fun l=>((0:Int),(tab i (fun i=>ng m (M i)),l))) (tab_congr fun k _=>?_);by_cases e:k<i
  ·rw [if_pos e,if_pos e]
  ·rw [if_neg e,if_neg e,if_neg (by omega)]
 ·intro j u hu;have hplu:=hpl u hu;have hgp:places.getD u 0=((pl u:Nat):Int):=by rw [hpc];exact tab_getD hu
  have hb:i*(N-1-pl u)≤60*255:=Nat.mul_le_mul (by omega) (by omega)
  have ex:IntKind.i64.wrap ((i:Int)*IntKind.i64.wrap (IntKind.i64.wrap (((N:Nat):Int)-1)-((pl u:Nat):Int)))=((i*(N-1-pl u):Nat):Int):=by
   rw [s_wr (x:=((N:Nat):Int)-1) (by omega) (by omega),s_wr (x:=((N:Nat):Int)-1-((pl u:Nat):Int)) (by omega) (by omega),show ((N:Nat):Int)-1-((pl u:Nat):Int)=((N-1-pl u:Nat):Int) by omega,←Int.natCast_mul];generalize i*(N-1-pl u)=z at hb;exact s_wr (by omega) (by omega)
  have hex:R_Exp_r fu (((i*(N-1-pl u):Nat):Int),())=some (ic (M i u),()):=by rw [hM i hi u hu,XX_px];exact expR hf (by omega)
  have hgr:(tab p fun j=>if j<i then (((j:Nat):Int),(m:Int)) else if j=i∧0<u then (((i:Nat):Int),(u:Int)) else ((-1:Int),(0:Int))).getD i (-1,0)=if 0<u then (((i:Nat):Int),(u:Int)) else ((-1:Int),(0:Int)):=by
   rw [tab_getD hi,if_neg (by omega)];by_cases c:0<u
   ·rw [if_pos ⟨rfl,c⟩,if_pos c]
   ·rw [if_neg (fun h=>c h.2),if_neg c]
  have hlt:(tab i fun i=>ng m (M i)).length=i:=tab_len;unfold R_Corrected_l2 R_Corrected_j3;generalize hX:(140737488355328:Int)=X;generalize hY:(4294967296:Int)=Y;simp only [hlp,hw,Int.toNat_natCast,hgp,tab_len,ex,hgr];by_cases c:0<u
  ·simp only [if_pos c,if_neg (show ¬ u=0 by omega),Int.toNat_natCast]
   have hga:(tab i (fun i=>ng m (M i))++[ng u (M i)]).getD i []=ng u (M i):=by
    rw [List.getD_eq_getElem?_getD,List.getElem?_append_right (by omega),hlt,Nat.sub_self];rfl
   have hla:(tab i (fun i=>ng m (M i))++[ng u (M i)]).length=i+1:=by rw [List.length_append,hlt];rfl
   rw [bif_pos (by omega),joinF_eq,bif_and (by omega) (by omega),bif_and (by omega) (by omega),hex,bindO_some,bif_and (by omega) (by omega),bif5' (by omega) (by omega) (by rw [hga,ng_len]) (by rw [hla];omega) (by rw [hga,ng_len];simp only [List.length_cons,List.length_nil];omega),bif_and (by omega) (by omega)];simp only [hga];rw [s_wr (by omega) (by omega)]
   have hsa:((tab i fun i=>ng m (M i))++[ng u (M i)]).set i (ng (u+1) (M i))=(tab i fun i=>ng m (M i))++[ng (u+1) (M i)]:=by
    rw [List.set_append_right _ _ (by omega),hlt,Nat.sub_self];rfl
   rw [ng_snoc',hsa,tab_set,if_neg (show ¬ u+1=0 by omega),show ((u:Int)+1)=((u+1:Nat):Int) by omega];refine congrArg (fun (r:List (Int×Int))=>j (((u+1:Nat):Int),((tab i fun i=>ng m (M i))++[ng (u+1) (M i)],r))) (tab_congr fun k _=>?_);by_cases e:k=i
   ·rw [if_pos e,if_neg (by omega),if_pos ⟨e,by omega⟩];exact congrArg (Prod.mk _) (by simp only [List.length_cons,List.length_nil];omega)
   ·rw [if_neg e];by_cases e2:k<i
    ·rw [if_pos e2,if_pos e2]
    ·rw [if_neg e2,if_neg (fun h=>e h.1),if_neg e2,if_neg (fun h=>e h.1)]
  ·simp only [if_neg c,if_pos (show u=0 by omega)];rw [bif_pos (by omega),joinF_eq,bif_and (by omega) (by omega),bif_and (by omega) (by omega),hex,bindO_some,bif_nand (by omega),bif_pos (by simp only [List.length_cons,List.length_nil];omega),bif_and (by omega) (by omega),bif_and (by simp only [List.length_cons,List.length_nil];omega) (by rw [List.append_nil,hlt];omega)];simp only [List.append_nil,hlt,List.length_cons,List.length_nil];rw [s_wr (by omega) (by omega)];have hu0:u=0:=by omega
   subst hu0;have h1:ng (0+1) (M i)=[ic (M i 0)]:=rfl;rw [tab_set,if_neg (show ¬ 0+1=0 by omega),h1];refine congrArg (fun (r:List (Int×Int))=>j (((0+1:Nat):Int),((tab i fun i=>ng m (M i))++[[ic (M i 0)]],r))) (tab_congr fun k _=>?_);by_cases e:k=i
   ·rw [if_pos e,if_neg (by omega),if_pos ⟨e,by omega⟩]
   ·rw [if_neg e];by_cases e2:k<i
    ·rw [if_pos e2,if_pos e2]
    ·rw [if_neg e2,if_neg (fun h=>e h.1),if_neg e2,if_neg (fun h=>e h.1)]
 ·intro j;unfold R_Corrected_l2;simp only [hlp,e1]
  have hA:(tab p fun j=>if j<i then (((j:Nat):Int),(m:Int)) else if j=i∧0<m then (((i:Nat):Int),(m:Int)) else ((-1:Int),(0:Int)))=tab p fun j=>if j<i+1 then (((j:Nat):Int),(m:Int)) else ((-1:Int),(0:Int)):=tab_congr fun k _=>by
   by_cases e:k=i
   ·rw [if_neg (by omega),if_pos ⟨e,hm0⟩,if_pos (by omega),e]
   ·by_cases e2:k<i
    ·rw [if_pos e2,if_pos (by omega)]
    ·rw [if_neg e2,if_neg (fun h=>e h.1),if_neg (by omega)]
  have hB:(tab i fun i=>ng m (M i))++[ng m (M i)]=tab (i+1) fun i=>ng m (M i):=by
   rw [tab_app]
   exact tab_congr fun k _=>by
    by_cases e:k=i
    ·rw [if_pos e,e]
    ·rw [if_neg e]
  rw [bif_neg (by omega),s_wr (by omega) (by omega),if_neg (by omega),hA,hB];rfl
theorem gj4_r (hN:N≤255) (hmp:m≤60) (hpl:∀ k,k<m→pl k<N) {places:List Int} (hpc:places=tab m fun k=>((pl k:Nat):Int)) {P:Int} (z:Nat→GF) (ar:List (List Int)) :
  R_Corrected_j4 fu (ng N wd,(P,(places,()))) (true,(ar,ng m z))=some (ng N (chg m pl wd z),(true,())):=by
 have hlp:places.length=m:=by rw [hpc];exact tab_len
 unfold R_Corrected_j4;simp only [Bool.not_true,cond_false,List.nil_append,List.length_nil,ng_len];rw [bif_pos (by omega)];refine stLoop (n:=m) (st:=fun t=>((t:Int),ng N (chg t pl wd z))) (by omega) ?_ ?_ ?_
 ·exact congrArg (Prod.mk (0:Int)) (ng_congr fun a _=>GF.add_zero _)
 ·intro j t ht;have hgp:places.getD t 0=((pl t:Nat):Int):=by rw [hpc];exact tab_getD ht
  have hplt:=hpl t ht;unfold R_Corrected_l5;simp only [hlp,Int.toNat_natCast,hgp,ng_len,ng_getD ht];rw [bif_pos (by omega),bif_and (by omega) (by omega),bif_and (by omega) (by omega),bif_and (by omega) (by omega),bif_and (by omega) (by omega),s_wr (by omega) (by omega),ng_getD hplt,xor_g hf,ng_set,show ((t:Int)+1)=((t+1:Nat):Int) by omega];refine congrArg (fun l=>j (((t+1:Nat):Int),l)) (ng_congr fun a ha=>?_);unfold chg;rw [sm_succ];by_cases e:a=pl t
  ·rw [if_pos e,if_pos e.symm,e];simp only [GF.mul_add,GF.add_mul,GF.mul_assoc,GF.mul_comm,GF.mul_left_comm,GF.add_assoc,GF.add_comm,GF.add_left_comm,GF.add_self,GF.add_self_left,GF.add_zero,GF.zero_add,GF.mul_zero,GF.zero_mul,GF.mul_one,GF.one_mul]
  ·rw [if_neg e,if_neg (Ne.symm e),GF.add_zero]
 ·intro j;unfold R_Corrected_l5;simp only [hlp];rw [bif_neg (by omega)]
theorem corr_g (hp0:0<p) (hp:p≤60) (hmp:m≤p) (hN:N≤255) (hpl:∀ k,k<m→pl k<N) (hinj:∀ j k,j<m→k<m→XX N (pl j)=XX N (pl k)→j=k) {places:List Int} (hpc:places=tab m fun k=>((pl k:Nat):Int)) :
  (∃ z,Sol N p m pl wd z∧R_Corrected_r fu (ng N wd,((p:Int),(places,())))=some (ng N (chg m pl wd z),(true,())))∨((∀ z,¬ Sol N p m pl wd z)∧R_Corrected_r fu (ng N wd,((p:Int),(places,())))=some ([],(false,()))):=by
 have hlp:places.length=m:=by rw [hpc];exact tab_len
 obtain ⟨M,hM⟩:∃ M:Nat→Nat→GF,M=fun i k=>if k<m then px (XX N (pl k)) i else sy N (XX N) wd i:=⟨_,rfl⟩
 have hM1:∀ i,i<p→∀ k,k<m→M i k=px (XX N (pl k)) i:=fun i _ k hk=>by rw [hM];exact if_pos hk
 have hM2:∀ i,M i m=sy N (XX N) wd i:=fun i=>by rw [hM];exact if_neg (by omega)
 have hG:GR p m 0 M (Sol N p m pl wd):=by
  have row:∀ (z:Nat→GF) i,i<p→sm m (fun k=>M i k*z k)=sm m (fun k=>px (XX N (pl k)) i*z k):=fun z i hi=>sm_congr fun k hk=>by rw [hM1 i hi k hk]
  refine ⟨fun z=>?_,fun i _ k hk=>by omega,fun z hz k hk=>?_⟩
  ·unfold Sol;constructor
   ·intro h i hi;rw [←row z i hi,h i hi,hM2]
   ·intro h i hi;rw [row z i hi,h i hi,hM2]
  ·refine vand (n:=m) (x:=fun k=>XX N (pl k)) (z:=z) hinj (F:=List.range m) (fun k hk _=>List.mem_range.2 hk) (fun k hk=>List.mem_range.1 hk) List.nodup_range (fun i hi=>?_) hk;rw [List.length_range] at hi;rw [←row z i (by omega)];exact hz i (by omega)

 obtain ⟨xs,o,hx,ho,hxs,hl1⟩:∃ (xs:List (List Int)) (o:Nat),xs.length=o∧o≤60∧(m=0∨(o=p∧∀ i,i<p→xs.getD i []=ng m (M i)))∧loopF (R_Corrected_l1 fu (ng N wd,((p:Int),(places,()))) (ng p (sy N (XX N) wd))) fu ((0:Int),(([]:List (List Int)),List.replicate p ((-1:Int),(0:Int)))) =
   loopF (R_Corrected_l6 fu (ng N wd,((p:Int),(places,()))) (ng p (sy N (XX N) wd)) ((p:Int),(xs,tab p fun i=>if m=0 then ((-1:Int),(0:Int)) else (((i:Nat):Int),(m:Int)))) (R_Corrected_j4 fu (ng N wd,((p:Int),(places,()))))) fu ((0:Int),(xs,List.replicate p ((-1:Int),(0:Int)))):=by
  by_cases c:m=0
  ·refine ⟨[],0,rfl,by omega,.inl c,?_⟩;refine stLoop (n:=p) (st:=fun t=>((t:Int),(([]:List (List Int)),List.replicate p ((-1:Int),(0:Int))))) (by omega) rfl ?_ ?_
   ·intro j i hi;unfold R_Corrected_l1;simp only [Int.toNat_natCast,List.length_replicate];rw [bif_pos (by omega)];obtain ⟨fu',rfl⟩:∃ n,fu=n+1:=⟨fu-1,by omega⟩;rw [loopF];unfold R_Corrected_l2;simp only [hlp];rw [bif_neg (by omega),s_wr (by omega) (by omega),show ((i:Int)+1)=((i+1:Nat):Int) by omega]
   ·intro j;unfold R_Corrected_l1;simp only [Int.toNat_natCast,List.length_replicate,hlp,joinF_eq];rw [bif_neg (by omega),bif_neg (by omega),bif_and (by omega) (by omega)]
    have e:List.replicate p ((-1:Int),(0:Int))=tab p fun i=>if m=0 then ((-1:Int),(0:Int)) else (((i:Nat):Int),(m:Int)):=by
     rw [tab_rep];exact tab_congr fun i _=>(if_pos c).symm
    rw [←e]
  ·refine ⟨tab p fun i=>ng m (M i),p,tab_len,by omega,.inr ⟨rfl,fun i hi=>tab_getD hi⟩,?_⟩;refine stLoop (n:=p) (st:=fun t=>((t:Int),(tab t (fun i=>ng m (M i)),tab p fun j=>if j<t then (((j:Nat):Int),(m:Int)) else ((-1:Int),(0:Int))))) (by omega) ?_ ?_ ?_
   ·rw [tab_rep];exact congrArg (fun l=>((0:Int),(([]:List (List Int)),l))) (tab_congr fun i _=>if_neg (by omega))
   ·intro j i hi;unfold R_Corrected_l1;simp only [Int.toNat_natCast,List.length_replicate];rw [bif_pos (by omega),g2_r hf (by omega) hp hmp hN hpl hM1 (ng_len _ _) hpc hi rfl rfl]
   ·intro j;unfold R_Corrected_l1;simp only [Int.toNat_natCast,List.length_replicate,hlp,tab_len,joinF_eq];rw [bif_neg (by omega),bif_neg (by omega),bif_and (by omega) (by omega)];have e:(tab p fun j=>if j<p then (((j:Nat):Int),(m:Int)) else ((-1:Int),(0:Int)))=tab p fun i=>if m=0 then ((-1:Int),(0:Int)) else (((i:Nat):Int),(m:Int)):=tab_congr fun i hi=>by rw [if_pos hi,if_neg c]
    rw [e]
 have h6:=g6_r hf hp (show o≤64 by omega) hmp hx hxs (word:=ng N wd) (places:=places) (P:=(p:Int)) (v1:=ng p (sy N (XX N) wd)) (ng_congr fun i _=>(hM2 i).symm) (v2:=((p:Int),(xs,tab p fun i=>if m=0 then ((-1:Int),(0:Int)) else (((i:Nat):Int),(m:Int))))) rfl (R_Corrected_j4 fu (ng N wd,((p:Int),(places,()))));obtain ⟨ar,h7⟩:=g7_r hf hp (show o≤64 by omega) hmp hx hG (word:=ng N wd) (places:=places) hlp (P:=(p:Int)) (R_Corrected_j4 fu (ng N wd,((p:Int),(places,()))))
 have hR:R_Corrected_r fu (ng N wd,((p:Int),(places,())))=loopF (R_Corrected_l7 fu (ng N wd,((p:Int),(places,()))) (R_Corrected_j4 fu (ng N wd,((p:Int),(places,()))))) fu ((0:Int),(AG xs p (m+1) M,WG o p (m+1) id)):=by
  unfold R_Corrected_r;simp only;rw [synR hf (by omega) (by omega),bindO_some,bif_and (by omega) (by omega),Int.toNat_natCast];simp only;rw [hl1];exact h6
 rw [hR];rcases h7 with ⟨z,hz,h7⟩ | ⟨hz,h7⟩
 ·exact .inl ⟨z,hz,h7.trans (gj4_r hf hN (by omega) hpl hpc z ar)⟩
 ·refine .inr ⟨hz,h7.trans ?_⟩;unfold R_Corrected_j4;simp only [Bool.not_false,cond_true]
end
end Gf
end Go.Proofs.Ytedmffbhklgloaa
/- What R.Decoded returns,by what R.Corrected returns. -/
set_option maxRecDepth 100000
namespace Go.Proofs.Ytedmffbhklgloaa
open Go Go.RowKit
set_option linter.unusedSimpArgs false
set_option linter.unusedSectionVars false
set_option linter.unusedVariables false
namespace Gf
abbrev DR:=Option (List Int×Bool×Unit)
def ci (n:Nat) (f:Nat→Nat):List Int:=tab n fun i=>((f i:Nat):Int)
theorem ci_len {n:Nat} {f:Nat→Nat}:(ci n f).length=n:=tab_len
theorem ci_get {n i:Nat} {f:Nat→Nat} (h:i<n) {d:Int}:(ci n f).getD i d=((f i:Nat):Int):=tab_getD h
theorem ci_snoc {n:Nat} {f:Nat→Nat}:ci n f++[((f n:Nat):Int)]=ci (n+1) f:=by
 unfold ci tab;rw [List.range_succ,List.map_append];rfl
theorem ci_1 (a:Nat):ci 1 (fun _=>a)=[(a:Int)]:=rfl
def pr2 (a b i:Nat):Nat:=if i=0 then a else b
theorem ci_2 (a b:Nat):ci 2 (pr2 a b)=[(a:Int),(b:Int)]:=rfl
theorem loopF_un {X β:Type} {f:(X→Option β)→X→Option β} {fu:Nat} {x:X} (h:0<fu):loopF f fu x=f (loopF f (fu-1)) x:=by
 obtain ⟨n,rfl⟩:∃ n,fu=n+1:=⟨fu-1,by omega⟩;rfl
section
variable {fu:Nat} (hf:18446744073709551616≤fu)
variable {word ers:List Int} {P most N0:Int} {n:Nat} {ot:Nat→Nat} {ok:List Int→Bool} {out:List Int→List Int}
include hf
theorem d9_r (hn:n≤255) (hel:ers.length≤255) {c:Nat} (hc:c≤2) {q:Nat→Nat} (hq:∀ i,i<c→q i<n) (hC:R_Corrected_r fu (word,(P,(ers++ci c fun i=>ot (q i),())))=some (out (ers++ci c fun i=>ot (q i)),(ok (ers++ci c fun i=>ot (q i)),()))) (v1:Int) (h1:v1=c) (j2:Int→DR) (j4:List Int→DR) :
  loopF (R_Decoded_l9 fu (word,(P,(ers,(most,())))) (N0,ci n ot) v1 (ci c q) j2 j4) fu ((0:Int),([]:List Int)++ers) =
   if ok (ers++ci c fun i=>ot (q i))=true then some (out (ers++ci c fun i=>ot (q i)),(true,())) else loopF (R_Decoded_l10 fu (N0,ci n ot) v1 (ci c q) j2 j4) fu ((c:Int)-1):=by
 refine stLoop (n:=c) (st:=fun t=>((t:Int),ers++ci t fun i=>ot (q i))) (by omega) ?_ ?_ ?_
 ·exact congrArg (Prod.mk (0:Int)) (List.append_nil _)
 ·intro j t ht;have hqt:=hq t ht;unfold R_Decoded_l9;simp only [ci_len,Int.toNat_natCast,ci_get ht,ci_get hqt];have hl:((ers++ci t fun i=>ot (q i)).length:Int)=(ers.length:Int)+(t:Int):=by rw [List.length_append,ci_len];omega
  have h1:(([((ot (q t):Nat):Int)]:List Int).length:Int)=1:=rfl;rw [hl,h1,bif_pos (by omega),bif_and (by omega) (by omega),bif_and (by omega) (by omega),bif_pos (by omega),s_wr (by omega) (by omega),List.append_assoc,ci_snoc (f:=fun i=>ot (q i))];rfl
 ·intro j;unfold R_Decoded_l9;simp only [ci_len];rw [bif_neg (by omega),hC,bindO_some,h1];simp only;rw [s_wr (by omega) (by omega)]
  cases ok (ers++ci c fun i=>ot (q i)) <;> rfl
theorem l8_in (hn:n≤255) (hel:ers.length≤255) {v1:Int} (h:v1≤(n:Int)) (j2:Int→DR) (j4:List Int→DR) (v4:List Int):R_Decoded_l8 fu (word,(P,(ers,(most,())))) (N0,ci n ot) v1 j2 j4 v4=loopF (R_Decoded_l9 fu (word,(P,(ers,(most,())))) (N0,ci n ot) v1 v4 j2 j4) fu ((0:Int),([]:List Int)++ers):=by
 unfold R_Decoded_l8;simp only [ci_len];rw [bif_pos h,bif_pos (by simp only [List.length_nil];omega)]
theorem l8_out {v1:Int} (h:¬ v1≤(n:Int)) (j2:Int→DR) (j4:List Int→DR) (v4:List Int):R_Decoded_l8 fu (word,(P,(ers,(most,())))) (N0,ci n ot) v1 j2 j4 v4=j2 v1:=by
 unfold R_Decoded_l8;simp only [ci_len];rw [bif_neg h]
theorem l10_neg {v1 v10:Int} {v4:List Int} (h:v10<0) (j2:Int→DR) (j4:List Int→DR) (j10:Int→DR):R_Decoded_l10 fu (N0,ci n ot) v1 v4 j2 j4 j10 v10=j2 v1:=by
 unfold R_Decoded_l10 R_Decoded_j11;simp only [joinF_eq];rw [bif_neg (by omega)];simp only [cond_false];rw [bif_pos h]
theorem l10_hit {v1:Int} {v4:List Int} {i:Nat} (hn:n≤255) (h1:0≤v1) (h2:v1≤255) (hi:i<v4.length) (hi2:i≤255) (h:v4.getD i 0=(n:Int)-v1+(i:Int)) (j2:Int→DR) (j4:List Int→DR) (j10:Int→DR):R_Decoded_l10 fu (N0,ci n ot) v1 v4 j2 j4 j10 (i:Int)=j10 ((i:Int)-1):=by
 unfold R_Decoded_l10 R_Decoded_j11;simp only [joinF_eq,ci_len,Int.toNat_natCast];rw [bif_pos (by omega),bif_and (by omega) (by omega),s_wr (x:=(n:Int)-v1) (by omega) (by omega),s_wr (x:=(n:Int)-v1+(i:Int)) (by omega) (by omega),s_pos h];simp only [cond_true];rw [s_wr (by omega) (by omega)]
theorem l10_miss {v1:Int} {v4:List Int} {i:Nat} (hn:n≤255) (h1:0≤v1) (h2:v1≤255) (hi:i<v4.length) (hi2:i≤255) (h:¬ v4.getD i 0=(n:Int)-v1+(i:Int)) {q:Nat} (hq:v4.getD i 0=(q:Int)) (hq2:q≤255) (j2:Int→DR) (j4:List Int→DR) (j10:Int→DR):R_Decoded_l10 fu (N0,ci n ot) v1 v4 j2 j4 j10 (i:Int)=loopF (R_Decoded_l12 fu v1 j4) fu (((i+1:Nat):Int),v4.set i (((q+1:Nat)):Int)):=by
 have e1:IntKind.i64.wrap ((i:Int)+1)=((i+1:Nat):Int):=by rw [s_wr (by omega) (by omega)];omega
 have e2:IntKind.i64.wrap ((q:Int)+1)=((q+1:Nat):Int):=by rw [s_wr (by omega) (by omega)];omega
 unfold R_Decoded_l10 R_Decoded_j11;simp only [joinF_eq,ci_len,Int.toNat_natCast];rw [bif_pos (by omega),bif_and (by omega) (by omega),s_wr (x:=(n:Int)-v1) (by omega) (by omega),s_wr (x:=(n:Int)-v1+(i:Int)) (by omega) (by omega),s_neg h];simp only [cond_false];rw [bif_neg (by omega),bif_and (by omega) (by omega),bif_and (by omega) (by omega),e1,hq,e2]
theorem l12_out {v1 x:Int} {v4:List Int} (h:¬ x<v1) (j4:List Int→DR) (j13:Int×List Int→DR):R_Decoded_l12 fu v1 j4 j13 (x,v4)=j4 v4:=by
 unfold R_Decoded_l12;simp only;rw [bif_neg h]
theorem l12_in {v1:Int} {i:Nat} {v4:List Int} (h:((i+1:Nat):Int)<v1) (hi:i+1<v4.length) (hi2:i≤255) {q:Nat} (hq:v4.getD i 0=(q:Int)) (hq2:q≤255) (j4:List Int→DR) (j13:Int×List Int→DR):R_Decoded_l12 fu v1 j4 j13 (((i+1:Nat):Int),v4)=j13 (((i+2:Nat):Int),v4.set (i+1) ((q+1:Nat):Int)):=by
 have e1:IntKind.i64.wrap (((i+1:Nat):Int)-1)=(i:Int):=by rw [s_wr (by omega) (by omega)];omega
 have e2:IntKind.i64.wrap ((q:Int)+1)=((q+1:Nat):Int):=by rw [s_wr (by omega) (by omega)];omega
 have e3:IntKind.i64.wrap (((i+1:Nat):Int)+1)=((i+2:Nat):Int):=by rw [s_wr (by omega) (by omega)];omega
 unfold R_Decoded_l12;simp only;rw [bif_pos h,e1,e3,bif_and (by omega) (by omega),bif_and (by omega) (by omega),Int.toNat_natCast,Int.toNat_natCast,hq,e2]
theorem d8_0 (hn:n≤255) (hel:ers.length≤255) (hC:R_Corrected_r fu (word,(P,(ers,())))=some (out ers,(ok ers,()))) (j2:Int→DR) :
  loopF (R_Decoded_l8 fu (word,(P,(ers,(most,())))) (N0,ci n ot) 0 j2) fu []=if ok ers=true then some (out ers,(true,())) else j2 0:=by
 have h9:=d9_r hf (word:=word) (ers:=ers) (P:=P) (most:=most) (N0:=N0) (n:=n) (ot:=ot) hn hel (c:=0) (by omega) (q:=fun _=>0) (fun i hi=>by omega) (by rw [show (ci 0 fun i=>ot ((fun _=>0) i))=([]:List Int) from rfl,List.append_nil];exact hC) 0 rfl j2 (loopF (R_Decoded_l8 fu (word,(P,(ers,(most,())))) (N0,ci n ot) 0 j2) (fu-1));rw [show ci 0 (fun _=>0)=([]:List Int) from rfl,show (ci 0 fun i=>ot ((fun _=>0) i))=([]:List Int) from rfl,List.append_nil] at h9;rw [loopF_un (by omega),l8_in hf hn hel (by omega),h9];by_cases c:ok ers=true
 ·rw [if_pos c,if_pos c]
 ·rw [if_neg c,if_neg c,loopF_un (by omega),l10_neg hf (by omega)]
theorem d8_1 (hn:n≤255) (hel:ers.length≤255) (hC:∀ a,a<n→R_Corrected_r fu (word,(P,(ers++[((ot a:Nat):Int)],())))=some (out (ers++[((ot a:Nat):Int)]),(ok (ers++[((ot a:Nat):Int)]),()))) (j2:Int→DR) :
  (∃ a,a<n∧ok (ers++[((ot a:Nat):Int)])=true∧loopF (R_Decoded_l8 fu (word,(P,(ers,(most,())))) (N0,ci n ot) 1 j2) fu [0]=some (out (ers++[((ot a:Nat):Int)]),(true,()))) ∨
  ((∀ a,a<n→ok (ers++[((ot a:Nat):Int)])=false)∧loopF (R_Decoded_l8 fu (word,(P,(ers,(most,())))) (N0,ci n ot) 1 j2) fu [0]=j2 1):=by
 refine postLoop (f:=R_Decoded_l8 fu (word,(P,(ers,(most,())))) (N0,ci n ot) 1 j2) (fun v=>((n:Int)-v.getD 0 0).toNat) (fun v=>∃ a:Nat,v=[(a:Int)]∧(a<n∨a=0)∧∀ b,b<a→ok (ers++[((ot b:Nat):Int)])=false)
  (fun r=>(∃ a,a<n∧ok (ers++[((ot a:Nat):Int)])=true∧r=some (out (ers++[((ot a:Nat):Int)]),(true,())))∨((∀ a,a<n→ok (ers++[((ot a:Nat):Int)])=false)∧r=j2 1)) ?_ fu [0] ⟨0,rfl,.inr rfl,fun b hb=>by omega⟩ (by show ((n:Int)-0).toNat<fu;omega)
 rintro j _ ⟨a,rfl,ha,hz⟩
 by_cases hn0:n=0
 ·exact .inr (.inr ⟨fun a ha=>by omega,l8_out hf (by omega) j2 j _⟩)
 have ha:a<n:=by omega
 have h9:=d9_r hf (word:=word) (ers:=ers) (P:=P) (most:=most) (N0:=N0) (n:=n) (ot:=ot) hn hel (c:=1) (by omega) (q:=fun _=>a) (fun i hi=>ha) (hC a ha) 1 rfl j2 j;rw [ci_1,show (ci 1 fun i=>ot ((fun _=>a) i))=[((ot a:Nat):Int)] from rfl] at h9;rw [l8_in hf hn hel (by omega),h9];by_cases c:ok (ers++[((ot a:Nat):Int)])=true
 ·rw [if_pos c];exact .inr (.inl ⟨a,ha,c,rfl⟩)
 ·rw [if_neg c]
  have c':ok (ers++[((ot a:Nat):Int)])=false:=by cases h:ok (ers++[((ot a:Nat):Int)]) <;> simp_all
  by_cases e:a=n-1
  ·right;right
   refine ⟨fun b hb=>?_,?_⟩
   ·by_cases eb:b=a
    ·rw [eb];exact c'
    ·exact hz b (by omega)
   ·rw [loopF_un (by omega),show ((1:Nat):Int)-1=((0:Nat):Int) by omega,l10_hit hf hn (by omega) (by omega) (i:=0) (by simp) (by omega) (by show (a:Int)=_;omega),loopF_un (by omega),l10_neg hf (by omega)]
  ·left
   refine ⟨[((a+1:Nat):Int)],⟨a+1,rfl,.inl (by omega),fun b hb=>?_⟩,by show ((n:Int)-((a+1:Nat):Int)).toNat<((n:Int)-(a:Int)).toNat;omega,?_⟩
   ·by_cases eb:b=a
    ·rw [eb];exact c'
    ·exact hz b (by omega)
   ·rw [loopF_un (by omega),show ((1:Nat):Int)-1=((0:Nat):Int) by omega,l10_miss hf hn (by omega) (by omega) (i:=0) (by simp) (by omega) (by show ¬ (a:Int)=_;omega) (q:=a) rfl (by omega),loopF_un (by omega),l12_out hf (by omega)];rfl
theorem d8_2 (hn:n≤255) (hel:ers.length≤255) (hC:∀ a b,a<b→b<n→R_Corrected_r fu (word,(P,(ers++[((ot a:Nat):Int),((ot b:Nat):Int)],())))=some (out (ers++[((ot a:Nat):Int),((ot b:Nat):Int)]),(ok (ers++[((ot a:Nat):Int),((ot b:Nat):Int)]),()))) (j2:Int→DR) :
  (∃ a b,a<b∧b<n∧ok (ers++[((ot a:Nat):Int),((ot b:Nat):Int)])=true∧loopF (R_Decoded_l8 fu (word,(P,(ers,(most,())))) (N0,ci n ot) 2 j2) fu [0,1]=some (out (ers++[((ot a:Nat):Int),((ot b:Nat):Int)]),(true,()))) ∨
  ((∀ a b,a<b→b<n→ok (ers++[((ot a:Nat):Int),((ot b:Nat):Int)])=false)∧loopF (R_Decoded_l8 fu (word,(P,(ers,(most,())))) (N0,ci n ot) 2 j2) fu [0,1]=j2 2):=by
 refine postLoop (f:=R_Decoded_l8 fu (word,(P,(ers,(most,())))) (N0,ci n ot) 2 j2) (fun v=>(((n:Int)-v.getD 0 0)*300+((n:Int)-v.getD 1 0)).toNat) (fun v=>∃ a b:Nat,v=[(a:Int),(b:Int)]∧a<b∧(b<n∨(a=0∧b=1))∧∀ a' b',a'<b'→b'<n→(a'<a∨(a'=a∧b'<b))→ok (ers++[((ot a':Nat):Int),((ot b':Nat):Int)])=false)
  (fun r=>(∃ a b,a<b∧b<n∧ok (ers++[((ot a:Nat):Int),((ot b:Nat):Int)])=true∧r=some (out (ers++[((ot a:Nat):Int),((ot b:Nat):Int)]),(true,())))∨((∀ a b,a<b→b<n→ok (ers++[((ot a:Nat):Int),((ot b:Nat):Int)])=false)∧r=j2 2)) ?_ fu [0,1] ⟨0,1,rfl,by omega,.inr ⟨rfl,rfl⟩,fun a' b' h1 h2 h3=>by omega⟩ (by show (((n:Int)-0)*300+((n:Int)-1)).toNat<fu;omega)
 rintro j _ ⟨a,b,rfl,hab,hb,hz⟩
 by_cases hn0:n<2
 ·exact .inr (.inr ⟨fun a b h1 h2=>by omega,l8_out hf (by omega) j2 j _⟩)
 have hb:b<n:=by omega
 have h9:=d9_r hf (word:=word) (ers:=ers) (P:=P) (most:=most) (N0:=N0) (n:=n) (ot:=ot) hn hel (c:=2) (by omega) (q:=pr2 a b) (fun i hi=>by unfold pr2;split <;> omega) (hC a b hab hb) 2 rfl j2 j;rw [ci_2,show (ci 2 fun i=>ot (pr2 a b i))=[((ot a:Nat):Int),((ot b:Nat):Int)] from rfl] at h9;rw [l8_in hf hn hel (by omega),h9];by_cases c:ok (ers++[((ot a:Nat):Int),((ot b:Nat):Int)])=true
 ·rw [if_pos c];exact .inr (.inl ⟨a,b,hab,hb,c,rfl⟩)
 ·rw [if_neg c]
  have c':ok (ers++[((ot a:Nat):Int),((ot b:Nat):Int)])=false:=by cases h:ok (ers++[((ot a:Nat):Int),((ot b:Nat):Int)]) <;> simp_all
  have cov:∀ a' b',a'<b'→b'<n→(a'<a∨(a'=a∧b'≤b))→ok (ers++[((ot a':Nat):Int),((ot b':Nat):Int)])=false:=fun a' b' h1 h2 h3=>by
   by_cases e1:a'=a∧b'=b
   ·rw [e1.1,e1.2];exact c'
   ·exact hz a' b' h1 h2 (by omega)
  by_cases e:b=n-1
  ·by_cases e':a=n-2
   ·right;right
    refine ⟨fun a' b' h1 h2=>cov a' b' h1 h2 (by omega),?_⟩;rw [loopF_un (by omega),show ((2:Nat):Int)-1=((1:Nat):Int) by omega,l10_hit hf hn (by omega) (by omega) (i:=1) (by simp) (by omega) (by show (b:Int)=_;omega),loopF_un (by omega),show ((1:Nat):Int)-1=((0:Nat):Int) by omega,l10_hit hf hn (by omega) (by omega) (i:=0) (by simp) (by omega) (by show (a:Int)=_;omega),loopF_un (by omega),l10_neg hf (by omega)]
   ·left
    refine ⟨[((a+1:Nat):Int),((a+2:Nat):Int)],⟨a+1,a+2,rfl,by omega,.inl (by omega),fun a' b' h1 h2 h3=>cov a' b' h1 h2 (by omega)⟩,by show (((n:Int)-((a+1:Nat):Int))*300+((n:Int)-((a+2:Nat):Int))).toNat<(((n:Int)-(a:Int))*300+((n:Int)-(b:Int))).toNat;omega,?_⟩;rw [loopF_un (by omega),show ((2:Nat):Int)-1=((1:Nat):Int) by omega,l10_hit hf hn (by omega) (by omega) (i:=1) (by simp) (by omega) (by show (b:Int)=_;omega),loopF_un (by omega),show ((1:Nat):Int)-1=((0:Nat):Int) by omega,l10_miss hf hn (by omega) (by omega) (i:=0) (by simp) (by omega) (by show ¬ (a:Int)=_;omega) (q:=a) rfl (by omega),loopF_un (by omega),l12_in hf (i:=0) (by omega) (by simp) (by omega) (q:=a+1) rfl (by omega),loopF_un (by omega),l12_out hf (by omega)];rfl
  ·left
   refine ⟨[(a:Int),((b+1:Nat):Int)],⟨a,b+1,rfl,by omega,.inl (by omega),fun a' b' h1 h2 h3=>cov a' b' h1 h2 (by omega)⟩,by show (((n:Int)-(a:Int))*300+((n:Int)-((b+1:Nat):Int))).toNat<(((n:Int)-(a:Int))*300+((n:Int)-(b:Int))).toNat;omega,?_⟩;rw [loopF_un (by omega),show ((2:Nat):Int)-1=((1:Nat):Int) by omega,l10_miss hf hn (by omega) (by omega) (i:=1) (by simp) (by omega) (by show ¬ (b:Int)=_;omega) (q:=b) rfl (by omega),loopF_un (by omega),l12_out hf (by omega)];rfl
end
end Gf
end Go.Proofs.Ytedmffbhklgloaa
/- What R.Decoded returns. -/
set_option maxRecDepth 100000
namespace Go.Proofs.Ytedmffbhklgloaa
open Go Go.RowKit
set_option linter.unusedSimpArgs false
set_option linter.unusedSectionVars false
set_option linter.unusedVariables false
namespace Gf
def Cand (ers:List Int) (n most:Nat) (ot:Nat→Nat) (l:List Int):Prop :=
 l=ers∨(1≤most∧∃ a,a<n∧l=ers++[((ot a:Nat):Int)])∨(2≤most∧∃ a b,a<b∧b<n∧l=ers++[((ot a:Nat):Int),((ot b:Nat):Int)])
section
variable {fu:Nat} (hf:18446744073709551616≤fu)
variable {word ers:List Int} {P N0:Int} {most n:Nat} {ot:Nat→Nat} {ok:List Int→Bool} {out:List Int→List Int}
include hf
theorem l5_in {c:Nat} (hc:c≤2) (h:c≤most) (j1:Int→DR):R_Decoded_l5 fu (word,(P,(ers,((most:Int),())))) (N0,ci n ot) j1 (c:Int)=loopF (R_Decoded_l8 fu (word,(P,(ers,((most:Int),())))) (N0,ci n ot) (c:Int) (R_Decoded_j6 fu j1)) fu (ci c fun k=>k):=by
 unfold R_Decoded_l5;simp only [joinF_eq];rw [bif_pos (by omega),bif_and (by omega) (by omega),Int.toNat_natCast];refine stLoop (n:=c) (st:=fun t=>((t:Int),ci c fun k=>if k<t then k else 0)) (by omega) ?_ ?_ ?_
 ·refine congrArg (Prod.mk (0:Int)) ?_;rw [tab_rep];exact tab_congr fun k _=>by dsimp only;rw [if_neg (by omega)];rfl
 ·intro j t ht;unfold R_Decoded_l7;simp only [ci_len,Int.toNat_natCast,List.length_replicate];rw [bif_pos (by omega),bif_and (by omega) (by omega),s_wr (by omega) (by omega),show ((t:Int)+1)=((t+1:Nat):Int) by omega];refine congrArg (fun l=>j (((t+1:Nat):Int),l)) ?_;unfold ci;rw [tab_set];refine tab_congr fun k _=>?_
  dsimp only;by_cases e:k=t
  ·rw [if_pos e,if_pos (by omega),e]
  ·rw [if_neg e];by_cases e2:k<t
   ·rw [if_pos e2,if_pos (by omega)]
   ·rw [if_neg e2,if_neg (by omega)]
 ·intro j;unfold R_Decoded_l7;simp only [Int.toNat_natCast,List.length_replicate];rw [bif_neg (by omega)];refine congrArg (fun l=>loopF (R_Decoded_l8 fu (word,(P,(ers,((most:Int),())))) (N0,ci n ot) (c:Int) (R_Decoded_j6 fu j1)) fu l) ?_;exact tab_congr fun k hk=>by dsimp only;rw [if_pos hk]
theorem l5_out {c:Nat} (h:¬ c≤most) (j1:Int→DR):R_Decoded_l5 fu (word,(P,(ers,((most:Int),())))) (N0,ci n ot) j1 (c:Int)=some ([],(false,())):=by
 unfold R_Decoded_l5;simp only;rw [bif_neg (by omega)]
theorem dj6 {c:Nat} (hc:c≤2) (j1:Int→DR):R_Decoded_j6 fu j1 (c:Int)=j1 ((c+1:Nat):Int):=by
 unfold R_Decoded_j6;simp only;rw [s_wr (by omega) (by omega)];rfl
theorem l5_r (hm:most≤2) (hn:n≤255) (hel:ers.length≤255) (hC:∀ l,Cand ers n most ot l→R_Corrected_r fu (word,(P,(l,())))=some (out l,(ok l,()))) :
  (∃ l,Cand ers n most ot l∧ok l=true∧loopF (R_Decoded_l5 fu (word,(P,(ers,((most:Int),())))) (N0,ci n ot)) fu 0=some (out l,(true,()))) ∨
  ((∀ l,Cand ers n most ot l→ok l=false)∧loopF (R_Decoded_l5 fu (word,(P,(ers,((most:Int),())))) (N0,ci n ot)) fu 0=some ([],(false,()))):=by
 have step:∀ (c:Nat) (f:Nat),0<f→c≤2→c≤most→loopF (R_Decoded_l5 fu (word,(P,(ers,((most:Int),())))) (N0,ci n ot)) f (c:Int)=loopF (R_Decoded_l8 fu (word,(P,(ers,((most:Int),())))) (N0,ci n ot) (c:Int) (R_Decoded_j6 fu (loopF (R_Decoded_l5 fu (word,(P,(ers,((most:Int),())))) (N0,ci n ot)) (f-1)))) fu (ci c fun k=>k):=fun c f hf0 h1 h2=>by
  rw [loopF_un hf0,l5_in hf h1 h2]
 have stop:∀ (c:Nat) (f:Nat),0<f→¬ c≤most→loopF (R_Decoded_l5 fu (word,(P,(ers,((most:Int),())))) (N0,ci n ot)) f (c:Int)=some ([],(false,())):=fun c f hf0 h1=>by
  rw [loopF_un hf0,l5_out hf h1]
 have h0:=step 0 fu (by omega) (by omega) (by omega);rw [show ci 0 (fun k=>k)=([]:List Int) from rfl] at h0;have g0:=d8_0 hf (word:=word) (ers:=ers) (P:=P) (most:=(most:Int)) (N0:=N0) (n:=n) (ot:=ot) hn hel (hC ers (.inl rfl)) (R_Decoded_j6 fu (loopF (R_Decoded_l5 fu (word,(P,(ers,((most:Int),())))) (N0,ci n ot)) (fu-1)));by_cases c0:ok ers=true
 ·rw [if_pos c0] at g0;exact .inl ⟨ers,.inl rfl,c0,h0.trans g0⟩
 have c0':ok ers=false:=by cases h:ok ers <;> simp_all
 rw [if_neg c0,show (0:Int)=((0:Nat):Int) from rfl,dj6 hf (by omega)] at g0;by_cases m0:most=0
 ·rw [stop _ _ (by omega) (by omega)] at g0;refine .inr ⟨fun l hl=>?_,h0.trans g0⟩;rcases hl with rfl | ⟨h,_⟩ | ⟨h,_⟩
  ·exact c0'
  ·omega
  ·omega
 have h1:=step 1 (fu-1) (by omega) (by omega) (by omega);rw [show ci 1 (fun k=>k)=([0]:List Int) from rfl] at h1;have g1:=d8_1 hf (word:=word) (ers:=ers) (P:=P) (most:=(most:Int)) (N0:=N0) (n:=n) (ot:=ot) hn hel (fun a ha=>hC _ (.inr (.inl ⟨by omega,a,ha,rfl⟩))) (R_Decoded_j6 fu (loopF (R_Decoded_l5 fu (word,(P,(ers,((most:Int),())))) (N0,ci n ot)) (fu-1-1)));rcases g1 with ⟨a,ha,hok,g1⟩ | ⟨hno1,g1⟩
 ·exact .inl ⟨_,.inr (.inl ⟨by omega,a,ha,rfl⟩),hok,h0.trans (g0.trans (h1.trans g1))⟩
 rw [show R_Decoded_j6 fu (loopF (R_Decoded_l5 fu (word,(P,(ers,((most:Int),())))) (N0,ci n ot)) (fu-1-1)) 1=_ from dj6 hf (c:=1) (by omega) _] at g1;by_cases m1:most=1
 ·rw [stop _ _ (by omega) (by omega)] at g1;refine .inr ⟨fun l hl=>?_,h0.trans (g0.trans (h1.trans g1))⟩;rcases hl with rfl | ⟨_,a,ha,rfl⟩ | ⟨h,_⟩
  ·exact c0'
  ·exact hno1 a ha
  ·omega
 have h2:=step 2 (fu-1-1) (by omega) (by omega) (by omega);rw [show ci 2 (fun k=>k)=([0,1]:List Int) from rfl] at h2;have g2:=d8_2 hf (word:=word) (ers:=ers) (P:=P) (most:=(most:Int)) (N0:=N0) (n:=n) (ot:=ot) hn hel (fun a b hab hb=>hC _ (.inr (.inr ⟨by omega,a,b,hab,hb,rfl⟩))) (R_Decoded_j6 fu (loopF (R_Decoded_l5 fu (word,(P,(ers,((most:Int),())))) (N0,ci n ot)) (fu-1-1-1)));rcases g2 with ⟨a,b,hab,hb,hok,g2⟩ | ⟨hno2,g2⟩
 ·exact .inl ⟨_,.inr (.inr ⟨by omega,a,b,hab,hb,rfl⟩),hok,h0.trans (g0.trans (h1.trans (g1.trans (h2.trans g2))))⟩
 rw [show R_Decoded_j6 fu (loopF (R_Decoded_l5 fu (word,(P,(ers,((most:Int),())))) (N0,ci n ot)) (fu-1-1-1)) 2=_ from dj6 hf (c:=2) (by omega) _,stop _ _ (by omega) (by omega)] at g2;refine .inr ⟨fun l hl=>?_,h0.trans (g0.trans (h1.trans (g1.trans (h2.trans g2))))⟩;rcases hl with rfl | ⟨_,a,ha,rfl⟩ | ⟨_,a,b,hab,hb,rfl⟩
 ·exact c0'
 ·exact hno1 a ha
 ·exact hno2 a b hab hb
def oth (N:Nat) (lost:List Nat):List Nat:=(List.range N).filter fun a=>decide (a ∉ lost)
def ints (l:List Nat):List Int:=l.map fun a=>((a:Nat):Int)
omit hf in
theorem ints_ci (l:List Nat):ints l=ci l.length fun i=>l.getD i 0:=by
 unfold ints ci tab;refine List.ext_getElem (by simp) fun i h1 h2=>?_
 have hi:i<l.length:=by simpa using h2
 simp only [List.getElem_map,List.getElem_range,List.getD_eq_getElem?_getD,List.getElem?_eq_getElem hi,Option.getD_some]
omit hf in
theorem ints_len (l:List Nat):(ints l).length=l.length:=List.length_map _
theorem d3_r {lost:List Nat} (hl:lost.length≤255) {v0:Int×List Int} {k:Nat} (hv:v0.2.length≤255) (j1:Int×List Int→DR) :
  loopF (R_Decoded_l3 fu (word,(P,(ints lost,((most:Int),())))) v0 (k:Int) j1) fu (true,(0:Int))=j1 (if k ∈ lost then v0 else (v0.1,v0.2++[(k:Int)])):=by
 refine stLoop (n:=lost.length) (st:=fun t=>(decide (k ∉ lost.take t),(t:Int))) (by omega) ?_ ?_ ?_
 ·rw [List.take_zero];rfl
 ·intro j t ht
  have hg:(ints lost).getD t 0=((lost[t]:Nat):Int):=by
   rw [ints_ci,ci_get ht,List.getD_eq_getElem?_getD,List.getElem?_eq_getElem ht,Option.getD_some]
  unfold R_Decoded_l3 R_Decoded_j4;simp only [joinF_eq,ints_len,Int.toNat_natCast,hg];rw [bif_pos (by omega),bif_and (by omega) (by omega),s_wr (by omega) (by omega),show ((t:Int)+1)=((t+1:Nat):Int) by omega]
  have e:decide (k ∉ lost.take (t+1))=(decide (k ∉ lost.take t)&&decide ((lost[t]:Int)≠(k:Int))):=by
   rw [List.take_succ_eq_append_getElem ht];by_cases h1:k ∈ lost.take t
   ·rw [decide_eq_false (fun h=>h (List.mem_append_left _ h1)),decide_eq_false (fun h=>h h1)];rfl
   ·rw [decide_eq_true h1,Bool.true_and];by_cases h2:lost[t]=k
    ·rw [decide_eq_false (fun h=>h (List.mem_append_right _ (by simp [h2]))),decide_eq_false (fun h=>h (by omega))]
    ·have:k ∉ lost.take t++[lost[t]]:=fun h=>(List.mem_append.1 h).elim h1 (fun g=>h2 (List.mem_singleton.1 g).symm)
     rw [decide_eq_true this,decide_eq_true (by omega)]
  rw [e]
  cases decide (k ∉ lost.take t) <;> rfl
 ·intro j;unfold R_Decoded_l3;simp only [ints_len];rw [bif_neg (by omega),List.take_length];by_cases h:k ∈ lost
  ·rw [decide_eq_false (fun g=>g h),if_pos h];rfl
  ·rw [decide_eq_true h,if_neg h,cond_true,bif_pos (by simp only [List.length_cons,List.length_nil];omega)]
theorem decoded_w {N:Nat} {lost:List Nat} (hN:N≤255) (hl:lost.length≤255) (hw:word.length=N) :
  R_Decoded_r fu (word,(P,(ints lost,((most:Int),()))))=loopF (R_Decoded_l5 fu (word,(P,(ints lost,((most:Int),())))) ((N:Int),ints (oth N lost))) fu 0:=by
 have hlen:∀ t,(oth t lost).length≤t:=fun t=>by
  have:=List.length_filter_le (fun a=>decide (a ∉ lost)) (List.range t);rwa [List.length_range] at this
 unfold R_Decoded_r;refine stLoop (n:=N) (st:=fun t=>((t:Int),ints (oth t lost))) (by omega) rfl ?_ ?_
 ·intro j t ht;have:=hlen t;unfold R_Decoded_l1;simp only [joinF_eq];rw [bif_pos (by omega),d3_r hf hl (by rw [ints_len];omega)]
  have e:oth (t+1) lost=oth t lost++(if t ∈ lost then [] else [t]):=by
   unfold oth;rw [List.range_succ,List.filter_append];congr 1;by_cases h:t ∈ lost
   ·rw [if_pos h,List.filter_cons_of_neg (by simp [h])];rfl
   ·rw [if_neg h,List.filter_cons_of_pos (by simp [h])];rfl
  unfold R_Decoded_j2;rw [e];by_cases h:t ∈ lost
  ·rw [if_pos h,if_pos h,List.append_nil];simp only;rw [s_wr (by omega) (by omega)];rfl
  ·rw [if_neg h,if_neg h];simp only;rw [s_wr (by omega) (by omega)];unfold ints;rw [List.map_append];rfl
 ·intro j;unfold R_Decoded_l1;simp only;rw [bif_neg (by omega)]
end
end Gf
end Go.Proofs.Ytedmffbhklgloaa
/- R.Decoded finds the code word that is near. -/
set_option maxRecDepth 100000
namespace Go.Proofs.Ytedmffbhklgloaa
open Go Go.RowKit
set_option linter.unusedSimpArgs false
set_option linter.unusedSectionVars false
set_option linter.unusedVariables false
namespace Gf
theorem nodup_len {α:Type} [DecidableEq α]:∀ {l s:List α},l.Nodup→(∀ a ∈ l,a ∈ s)→l.length≤s.length
 | [],_,_,_=>Nat.zero_le _
 | a::l,s,hn,h=>by
  have ha:=h a (by simp);have h1:=nodup_len (l:=l) (s:=s.erase a) (List.nodup_cons.1 hn).2 fun b hb=>(List.mem_erase_of_ne (fun (e:b=a)=>(List.nodup_cons.1 hn).1 (by rw [←e];exact hb))).2 (h b (List.mem_cons_of_mem _ hb))
  have h2:=List.length_erase_of_mem ha;have h3:=List.length_pos_of_mem ha;rw [List.length_cons];omega
theorem nodup_inj {l:List Nat} (h:l.Nodup) {i j:Nat} (hi:i<l.length) (hj:j<l.length) (e:l.getD i 0=l.getD j 0):i=j:=by
 rw [List.getD_eq_getElem?_getD,List.getD_eq_getElem?_getD,List.getElem?_eq_getElem hi,List.getElem?_eq_getElem hj,Option.getD_some,Option.getD_some] at e;have h1:=List.pairwise_iff_getElem.1 h;rcases Nat.lt_trichotomy i j with c | c | c
 ·exact absurd e (h1 i j hi hj c)
 ·exact c
 ·exact absurd e.symm (h1 j i hj hi c)
theorem getD_mem {l:List Nat} {i:Nat} (hi:i<l.length):l.getD i 0 ∈ l:=by
 rw [List.getD_eq_getElem?_getD,List.getElem?_eq_getElem hi,Option.getD_some];exact List.getElem_mem hi
theorem mem_getD {l:List Nat} {x:Nat} (h:x ∈ l):∃ i,i<l.length∧l.getD i 0=x:=by
 obtain ⟨i,hi,rfl⟩:=List.mem_iff_getElem.1 h;exact ⟨i,hi,by rw [List.getD_eq_getElem?_getD,List.getElem?_eq_getElem hi,Option.getD_some]⟩
theorem XX_inj {N:Nat} (hN:N≤16) {a b:Nat} (ha:a<N) (hb:b<N) (h:XX N a=XX N b):a=b:=by
 have h1:pw 2 (N-1-a)=pw 2 (N-1-b):=by
  have:=congrArg Subtype.val h;unfold XX at this;rw [px_val,px_val] at this;exact this
 have:=pw_inj _ (by omega) _ (by omega) h1;omega
section
variable {N p m t:Nat} {X wd cw e z:Nat→GF} {lost pls:List Nat}
theorem sy_add (j:Nat):sy N X (fun a=>wd a+cw a) j=sy N X wd j+sy N X cw j:=by
 unfold sy;rw [←sm_add];exact sm_congr fun a _=>by simp only [GF.mul_add,GF.add_mul,GF.mul_assoc,GF.mul_comm,GF.mul_left_comm,GF.add_assoc,GF.add_comm,GF.add_left_comm,GF.add_self,GF.add_self_left,GF.add_zero,GF.zero_add,GF.mul_zero,GF.zero_mul,GF.mul_one,GF.one_mul]
theorem sm_pl {g:Nat→GF} {pl:Nat→Nat} (h1:∀ k,k<m→pl k<N) (h2:∀ j k,j<m→k<m→pl j=pl k→j=k) (h3:∀ a,a<N→g a≠0→∃ k,k<m∧pl k=a):sm m (fun k=>g (pl k))=sm N g:=by
 have e1:sm N g=sm N fun a=>sm m fun k=>if pl k=a then g a else 0:=sm_congr fun a ha=>by
  by_cases c:g a=0
  ·rw [c];exact (sm_0 fun k _=>by split <;> rfl).symm
  ·obtain ⟨k,hk,rfl⟩:=h3 a ha c;rw [sm_one hk fun j hj hne=>if_neg fun e=>hne (h2 j k hj hk e),if_pos rfl]
 rw [e1,sm_swap];exact sm_congr fun k hk=>by rw [sm_one (h1 k hk) fun a ha hne=>if_neg (Ne.symm hne),if_pos rfl]
theorem sy_chg {pl:Nat→Nat} (h1:∀ k,k<m→pl k<N) (j:Nat):sy N X (chg m pl wd z) j=sy N X wd j+sm m fun k=>px (X (pl k)) j*z k:=by
 unfold chg;rw [sy_add];congr 1;unfold sy;rw [show (sm N fun a=>(sm m fun k=>if pl k=a then z k else 0)*px (X a) j)=sm N fun a=>sm m fun k=>(if pl k=a then z k else 0)*px (X a) j from sm_congr fun a _=>sm_mulr.symm,sm_swap];refine sm_congr fun k hk=>?_
 rw [sm_one (h1 k hk) fun a ha hne=>by rw [if_neg (Ne.symm hne),GF.zero_mul],if_pos rfl,GF.mul_comm]
def Near (N p:Nat) (lost:List Nat) (t:Nat) (wd cw:Nat→GF):Prop:=(∀ j,j<p→sy N (XX N) cw j=0)∧(Fl N (fun a=>wd a+cw a) lost).length≤t
theorem Near.uniq {c1 c2:Nat→GF} (hN:N≤16) (ht:lost.length+2*t≤p) (h1:Near N p lost t wd c1) (h2:Near N p lost t wd c2) {a:Nat} (ha:a<N):c1 a=c2 a:=by
 refine GF.add_eq ?_
 have hF:((List.range N).filter fun a=>decide (c1 a+c2 a≠0)).length≤p:=by
  refine Nat.le_trans (nodup_len (s:=lost++(Fl N (fun a=>wd a+c1 a) lost++Fl N (fun a=>wd a+c2 a) lost)) (List.nodup_range.filter _) fun b hb=>?_) (by
   rw [List.length_append,List.length_append];have:=h1.2;have:=h2.2
   omega)
  rw [List.mem_filter,List.mem_range,decide_eq_true_eq] at hb;by_cases hl:b ∈ lost
  ·exact List.mem_append_left _ hl
  ·refine List.mem_append_right _ ?_;by_cases g:wd b+c1 b=0
   ·refine List.mem_append_right _ (mem_Fl.2 ⟨hb.1,hl,fun g2=>hb.2 ?_⟩);have e1:=GF.add_eq g;have e2:=GF.add_eq g2;rw [←e1,←e2,GF.add_self]
   ·exact List.mem_append_left _ (mem_Fl.2 ⟨hb.1,hl,g⟩)
 refine vand (n:=N) (x:=XX N) (z:=fun a=>c1 a+c2 a) (fun j k hj hk e=>XX_inj hN hj hk e) (F:=(List.range N).filter fun a=>decide (c1 a+c2 a≠0)) (fun k hk hz=>List.mem_filter.2 ⟨List.mem_range.2 hk,by rw [decide_eq_true_eq];exact hz⟩) (fun k hk=>List.mem_range.1 (List.mem_filter.1 hk).1) (List.nodup_range.filter _) (fun i hi=>?_) ha;have h3:sy N (XX N) (fun a=>c1 a+c2 a) i=0:=by rw [sy_add,h1.1 i (by omega),h2.1 i (by omega),GF.add_zero]
 rw [←h3];exact sm_congr fun k _=>GF.mul_comm _ _
variable {fu:Nat} (hf:18446744073709551616≤fu)
include hf
theorem corr_l (hp0:0<p) (hp:p≤60) (hN:N≤16) (hn:pls.Nodup) (hl:∀ a ∈ pls,a<N) (hm:pls.length≤p) :
  (∃ cw,(∀ j,j<p→sy N (XX N) cw j=0)∧(∀ a,a<N→wd a+cw a≠0→a ∈ pls)∧R_Corrected_r fu (ng N wd,((p:Int),(ints pls,())))=some (ng N cw,(true,()))) ∨
  ((∀ cw,(∀ j,j<p→sy N (XX N) cw j=0)→¬ ∀ a,a<N→wd a+cw a≠0→a ∈ pls)∧R_Corrected_r fu (ng N wd,((p:Int),(ints pls,())))=some ([],(false,()))):=by
 have hpl:∀ k,k<pls.length→pls.getD k 0<N:=fun k hk=>hl _ (getD_mem hk)
 have hinj:∀ j k,j<pls.length→k<pls.length→XX N (pls.getD j 0)=XX N (pls.getD k 0)→j=k:=fun j k hj hk e=>nodup_inj hn hj hk (XX_inj hN (hpl j hj) (hpl k hk) e)
 rcases corr_g hf (p:=p) (m:=pls.length) (N:=N) (pl:=fun k=>pls.getD k 0) (wd:=wd) hp0 hp hm (by omega) hpl hinj (ints_ci pls) with ⟨z,hz,hR⟩ | ⟨hz,hR⟩
 ·refine .inl ⟨_,fun j hj=>?_,fun a ha hne=>?_,hR⟩
  ·rw [sy_chg hpl,hz j hj,GF.add_self]
  ·refine Classical.byContradiction fun hno=>hne ?_
   unfold chg;rw [sm_0 fun k hk=>if_neg fun (e:pls.getD k 0=a)=>hno (by rw [←e];exact getD_mem hk)];simp only [GF.mul_add,GF.add_mul,GF.mul_assoc,GF.mul_comm,GF.mul_left_comm,GF.add_assoc,GF.add_comm,GF.add_left_comm,GF.add_self,GF.add_self_left,GF.add_zero,GF.zero_add,GF.mul_zero,GF.zero_mul,GF.mul_one,GF.one_mul]
 ·refine .inr ⟨fun cw hc hs=>hz (fun k=>wd (pls.getD k 0)+cw (pls.getD k 0)) fun i hi=>?_,hR⟩
  have e1:=sm_pl (N:=N) (m:=pls.length) (pl:=fun k=>pls.getD k 0) (g:=fun a=>px (XX N a) i*(wd a+cw a)) hpl (fun j k hj hk e=>nodup_inj hn hj hk e) fun a ha hne=>by
   obtain ⟨k,hk,e⟩:=mem_getD (hs a ha fun h0=>hne (by rw [h0,GF.mul_zero]));exact ⟨k,hk,e⟩
  refine e1.trans ?_;have e2:sy N (XX N) (fun a=>wd a+cw a) i=sy N (XX N) wd i:=by rw [sy_add,hc i hi,GF.add_zero]
  rw [←e2];exact sm_congr fun a _=>GF.mul_comm _ _
def okR (fu:Nat) (w:List Int) (P:Int) (l:List Int):Bool:=match R_Corrected_r fu (w,(P,(l,()))) with
 | some r=>r.2.1
 | none=>false
def outR (fu:Nat) (w:List Int) (P:Int) (l:List Int):List Int:=match R_Corrected_r fu (w,(P,(l,()))) with
 | some r=>r.1
 | none=>[]
omit hf in
theorem cand_ex {n:Nat} {ot:Nat→Nat} (hn:n=(oth N lost).length) (ho:ot=fun i=>(oth N lost).getD i 0) {l:List Int} (h:Cand (ints lost) n t ot l):∃ ex:List Nat,l=ints (lost++ex)∧ex.length≤t∧ex.Nodup∧∀ a ∈ ex,a ∈ oth N lost:=by
 have hnd:(oth N lost).Nodup:=List.nodup_range.filter _;rcases h with rfl | ⟨h1,a,ha,rfl⟩ | ⟨h1,a,b,hab,hb,rfl⟩
 ·exact ⟨[],by rw [List.append_nil],Nat.zero_le _,List.nodup_nil,fun a ha=>by cases ha⟩
 ·refine ⟨[ot a],?_,h1,by simp,fun x hx=>?_⟩
  ·unfold ints;rw [List.map_append];rfl
  ·rw [List.mem_singleton.1 hx,ho];exact getD_mem (hn ▸ ha)
 ·refine ⟨[ot a,ot b],?_,h1,?_,fun x hx=>?_⟩
  ·unfold ints;rw [List.map_append];rfl
  ·have:ot a≠ot b:=fun e=>by
    rw [ho] at e;have:=nodup_inj hnd (hn ▸ (by omega:a<n)) (hn ▸ hb) e;omega
   simp [this]
  ·rcases List.mem_cons.1 hx with rfl | hx
   ·rw [ho];exact getD_mem (hn ▸ (by omega:a<n))
   ·rw [List.mem_singleton.1 hx,ho];exact getD_mem (hn ▸ hb)
omit hf in
theorem cand_of {n:Nat} {ot:Nat→Nat} (hn:n=(oth N lost).length) (ho:ot=fun i=>(oth N lost).getD i 0) (ht:t≤2) {F:List Nat} (hF:F.length≤t) (hFn:F.Nodup) (hFo:∀ a ∈ F,a ∈ oth N lost):∃ ex:List Nat,Cand (ints lost) n t ot (ints (lost++ex))∧∀ a ∈ F,a ∈ ex:=by
 match F,hF,hFn,hFo with
 | [],_,_,_=>exact ⟨[],.inl (by rw [List.append_nil]),fun a ha=>ha⟩
 | [x],hF,_,hFo =>
  obtain ⟨a,ha,e⟩:=mem_getD (hFo x (by simp));refine ⟨[x],.inr (.inl ⟨hF,a,hn ▸ ha,?_⟩),fun a ha=>ha⟩;unfold ints;rw [List.map_append,ho];simp only [e];rfl
 | [x,y],hF,hFn,hFo =>
  obtain ⟨a,ha,e⟩:=mem_getD (hFo x (by simp));obtain ⟨b,hb,e'⟩:=mem_getD (hFo y (by simp));have hne:x≠y:=fun h=>by simp [h] at hFn
  rcases Nat.lt_trichotomy a b with c | c | c
  ·refine ⟨[x,y],.inr (.inr ⟨hF,a,b,c,hn ▸ hb,?_⟩),fun a ha=>ha⟩;unfold ints;rw [List.map_append,ho];simp only [e,e'];rfl
  ·exact absurd (by rw [←e,←e',c]) hne
  ·refine ⟨[y,x],.inr (.inr ⟨hF,b,a,c,hn ▸ ha,?_⟩),fun a ha=>by simpa [or_comm] using ha⟩;unfold ints;rw [List.map_append,ho];simp only [e,e'];rfl
 | _::_::_::_,hF,_,_=>simp only [List.length_cons] at hF;omega
theorem decoded_g (hp0:0<p) (hp:p≤60) (hN:N≤16) (hn:lost.Nodup) (hl:∀ a ∈ lost,a<N) (ht:t≤2) (hk:lost.length+2*t≤p) :
  (∃ cw,Near N p lost t wd cw∧R_Decoded_r fu (ng N wd,((p:Int),(ints lost,((t:Int),()))))=some (ng N cw,(true,()))) ∨
  ((∀ cw,¬ Near N p lost t wd cw)∧R_Decoded_r fu (ng N wd,((p:Int),(ints lost,((t:Int),()))))=some ([],(false,()))):=by
 have hoN:∀ a ∈ oth N lost,a<N∧a ∉ lost:=fun a ha=>by
  unfold oth at ha;rw [List.mem_filter,List.mem_range,decide_eq_true_eq] at ha;exact ha
 have hll:lost.length≤N:=by
  have:=nodup_len (l:=lost) (s:=List.range N) hn fun a ha=>List.mem_range.2 (hl a ha)
  rwa [List.length_range] at this
 have hol:(oth N lost).length≤N:=by
  have:=List.length_filter_le (fun a=>decide (a ∉ lost)) (List.range N);rwa [List.length_range] at this
 have hcor:∀ ex:List Nat,ex.length≤t→ex.Nodup→(∀ a ∈ ex,a ∈ oth N lost)→_:=fun ex h1 h2 h3=>corr_l hf (p:=p) (N:=N) (wd:=wd) (pls:=lost++ex) hp0 hp hN (List.nodup_append.2 ⟨hn,h2,fun a ha b hb e=>(hoN b (h3 b hb)).2 (e ▸ ha)⟩) (fun a ha=>(List.mem_append.1 ha).elim (hl a) fun h=>(hoN a (h3 a h)).1) (by rw [List.length_append];omega)
 have hC:∀ l,Cand (ints lost) (oth N lost).length t (fun i=>(oth N lost).getD i 0) l→R_Corrected_r fu (ng N wd,((p:Int),(l,())))=some (outR fu (ng N wd) p l,(okR fu (ng N wd) p l,())):=fun l hc=>by
  obtain ⟨ex,rfl,h1,h2,h3⟩:=cand_ex rfl rfl hc
  rcases hcor ex h1 h2 h3 with ⟨cw,_,_,hR⟩ | ⟨_,hR⟩ <;> simp only [outR,okR,hR]
 rw [decoded_w hf (by omega) (by omega) (ng_len _ _),ints_ci (oth N lost)];rcases l5_r hf (word:=ng N wd) (ers:=ints lost) (P:=(p:Int)) (N0:=(N:Int)) (most:=t) ht (show (oth N lost).length≤255 by omega) (by rw [ints_len];omega) hC with ⟨l,hc,hok,hR⟩ | ⟨hno,hR⟩
 ·left
  obtain ⟨ex,rfl,h1,h2,h3⟩:=cand_ex rfl rfl hc;rcases hcor ex h1 h2 h3 with ⟨cw,g1,g2,g3⟩ | ⟨_,g3⟩
  ·refine ⟨cw,⟨g1,Nat.le_trans (nodup_len (s:=ex) Fl_nodup fun a ha=>?_) h1⟩,?_⟩
   ·have:=mem_Fl.1 ha;exact (List.mem_append.1 (g2 a this.1 this.2.2)).resolve_left this.2.1
   ·rw [hR];simp only [outR,g3]
  ·simp only [okR,g3] at hok;cases hok
 ·right
  refine ⟨fun cw hcw=>?_,hR⟩
  obtain ⟨ex,hc,hF⟩:=cand_of (N:=N) (lost:=lost) rfl rfl ht hcw.2 Fl_nodup fun a ha=>by
   have:=mem_Fl.1 ha;unfold oth;rw [List.mem_filter,List.mem_range,decide_eq_true_eq];exact ⟨this.1,this.2.1⟩
  have hf1:=hno _ hc;obtain ⟨ex',he,h1,h2,h3⟩:=cand_ex rfl rfl hc;rw [he] at hf1
  have hee:lost++ex=lost++ex':=by
   have:=congrArg (List.map Int.toNat) he;unfold ints at this;simpa [List.map_map,Function.comp_def] using this
  have hex:ex=ex':=List.append_cancel_left hee;subst hex;rcases hcor ex h1 h2 h3 with ⟨_,_,_,g3⟩ | ⟨g1,_⟩
  ·simp only [okR,g3] at hf1;cases hf1
  ·refine g1 cw hcw.1 fun a ha hne=>?_
   by_cases c:a ∈ lost
   ·exact List.mem_append_left _ c
   ·exact List.mem_append_right _ (hF a (mem_Fl.2 ⟨ha,c,hne⟩))
end
end Gf
end Go.Proofs.Ytedmffbhklgloaa
