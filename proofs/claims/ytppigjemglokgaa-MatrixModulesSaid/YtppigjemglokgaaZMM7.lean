/- MatrixModules: for every input this law returns true and leaves its arguments as they were. -/
import Derived.Test.YtppigjemglokgaaZMM6
import Derived.Test.YtppigjemglokgaaRows
import Derived.WalkKit
import Derived.ProofKit
import Derived.SizedLaws
import Derived.BigQuiet
import Derived.Deep.QuietTactic
import Derived.Deep.Slices
import Derived.OpenShut
/- Matrix codes: the border,the counter,what matrix.Encode draws. -/
set_option maxRecDepth 100000
namespace Go.Proofs.Ytppigjemglokgaa
open Go Go.RowKit
set_option linter.unusedSimpArgs false
set_option linter.unusedSectionVars false
set_option linter.unusedVariables false
namespace Mx
section
variable {β:Type}
def markF (fu:Nat) (w y x:Int) (ds:List Int) (k:List Int→Option β):Option β :=
 bindO (bitmap_stride_r fu ((w,()))) fun v8 =>
 bif ((decide ((0:Int)≤(IntKind.i64.wrap ((IntKind.i64.wrap (y*v8.1))+(IntKind.i64.wrap (Int.tdiv x (8:Int)))))))&&(decide ((IntKind.i64.wrap ((IntKind.i64.wrap (y*v8.1))+(IntKind.i64.wrap (Int.tdiv x (8:Int)))))<(List.length ds:Int)))) then
 bif ((decide ((0:Int)≤(Int.tmod x (8:Int))))&&(decide ((Int.tmod x (8:Int))≤(8:Int)))) then
 bif ((decide ((0:Int)≤(IntKind.i64.wrap ((IntKind.i64.wrap (y*v8.1))+(IntKind.i64.wrap (Int.tdiv x (8:Int)))))))&&(decide ((IntKind.i64.wrap ((IntKind.i64.wrap (y*v8.1))+(IntKind.i64.wrap (Int.tdiv x (8:Int)))))<(List.length ds:Int)))) then
 k ((List.set ds (Int.toNat (IntKind.i64.wrap ((IntKind.i64.wrap (y*v8.1))+(IntKind.i64.wrap (Int.tdiv x (8:Int)))))) (bits BinOp.or IntKind.u8 (List.getD ds (Int.toNat (IntKind.i64.wrap ((IntKind.i64.wrap (y*v8.1))+(IntKind.i64.wrap (Int.tdiv x (8:Int)))))) 0) ((128:Int) / 2 ^ (Int.toNat (Int.tmod x (8:Int)))))))
 else none
 else none
 else none
theorem markF_eq (fu:Nat) {w h x y:Int} {P:Int→Int→Bool} {k:List Int→Option β} (hx0:0≤x) (hx1:x<w) (hw1:w≤1024) (hy0:0≤y) (hy1:y<h) (hh1:h≤1024) :
  markF fu w y x (canon w h P) k=k (canon w h (fun a b=>P a b||(decide (a=x)&&decide (b=y)))):=by
 obtain ⟨g0,g1,g2⟩:=idx_bd hx0 hx1 hw1 hy0 hy1 hh1;have hl:=canon_len (w:=w) (h:=h) (by omega) (by omega) P;unfold markF;rw [stride_r fu (by omega) (by omega),bindO_some];simp only;rw [Int.tdiv_eq_ediv_of_nonneg hx0,Int.tmod_eq_emod_of_nonneg hx0,wr64 (x:=x / 8) (by omega) (by omega),wr64 (x:=y*strd w) (by omega) (by omega),wr64 (x:=y*strd w+x / 8) (by omega) (by omega)];rw [bif_and (by omega) (by omega),bif_and (by omega) (by omega),bif_and (by omega) (by omega),canon_set hx0 hx1 hy0 hy1]
end
theorem refused_r (fu:Nat) (e:Int):law_refused_r fu ((0,(0,[])),(e,(e,())))=some (true,()):=by
 unfold law_refused_r R_NoBits_r;simp [bindO_some]
theorem canon_valid {w h:Int} (hw0:1≤w) (hw1:w≤1024) (hh0:1≤h) (hh1:h≤1024) (P:Int→Int→Bool):bitsE w h (canon w h P)=0:=by
 have hs:=strd_N (w:=w) (by omega);have hsp:0<strd w:=by unfold strd;omega
 have hl:(canon w h P).length=strideN w.toNat*h.toNat:=by
  rw [canon_length,Int.toNat_mul (by omega) (by omega),hs,Int.toNat_natCast]
 unfold bitsE;rw [if_pos ⟨hw0,hw1,hh0,hh1⟩,if_pos hl,if_pos];refine List.all_eq_true.2 fun y hy=>?_
 have hy:=List.mem_range.1 hy;have hsn:0<strideN w.toNat:=by unfold strideN;omega
 have hlt:y*strideN w.toNat+strideN w.toNat-1<(strd w*h).toNat:=by
  rw [Int.toNat_mul (by omega) (by omega),hs,Int.toNat_natCast];have h1:(y+1)*strideN w.toNat≤h.toNat*strideN w.toNat:=Nat.mul_le_mul_right _ hy;rw [Nat.add_mul,Nat.one_mul,Nat.mul_comm h.toNat] at h1;omega
 rw [canon_getD hlt];have hu:8*strideN w.toNat-w.toNat<8:=by unfold strideN;omega
 have e:((y*strideN w.toNat+strideN w.toNat-1:Nat):Int)=(y:Int)*strd w+(strd w-1):=by
  rw [Int.natCast_sub (by omega),Int.natCast_add,Int.natCast_mul,hs];omega
 rw [e];unfold cbyte;rw [(div_of (a:=(y:Int)) (b:=strd w-1) (s:=strd w) (by omega) (by omega)).1,(div_of (a:=(y:Int)) (b:=strd w-1) (s:=strd w) (by omega) (by omega)).2];refine (low_bits (byteOf_bd _).1 (byteOf_bd _).2 hu).2 fun k hk hk2=>?_
 rw [byteOf_bit _ hk,decide_eq_false (by rw [hs];omega),Bool.false_and]
def bdr (s x y:Int):Bool:=decide (x=0∨y=s-1∨y=0∨x=s-1)
def drk (s x y:Int):Bool:=if x=0∨y=s-1 then true else if y=0 then decide (x % 2=0) else if x=s-1 then decide ((s-1-y) % 2=0) else false
theorem dark_r (fu:Nat) {s x y:Int} (hs0:0≤s) (hs:s≤32) (hx0:0≤x) (hx:x<s) (hy0:0≤y) (hy:y<s) :
  matrix_dark_r fu (s,(x,(y,())))=some (drk s x y,(bdr s x y,())):=by
 unfold matrix_dark_r matrix_dark_j1 drk bdr;simp only [joinF_eq];rw [wr64 (x:=s-1) (by omega) (by omega),wr64 (x:=s-1-y) (by omega) (by omega),Int.tmod_eq_emod_of_nonneg hx0,Int.tmod_eq_emod_of_nonneg (a:=s-1-y) (by omega)];by_cases c1:x=0
 ·rw [bif_pos c1,if_pos (c:=x=0∨y=s-1) (.inl c1),decide_eq_true (p:=x=0∨y=s-1∨y=0∨x=s-1) (.inl c1)];rfl
 ·rw [bif_neg c1];by_cases c2:y=s-1
  ·rw [decide_eq_true c2,if_pos (c:=x=0∨y=s-1) (.inr c2),decide_eq_true (p:=x=0∨y=s-1∨y=0∨x=s-1) (.inr (.inl c2))];rfl
  ·rw [decide_eq_false c2,cond_false,if_neg (by omega)];by_cases c3:y=0
   ·rw [bif_pos c3,if_pos c3,decide_eq_true (p:=x=0∨y=s-1∨y=0∨x=s-1) (.inr (.inr (.inl c3)))]
   ·rw [bif_neg c3,if_neg c3];by_cases c4:x=s-1
    ·rw [bif_pos c4,if_pos c4,decide_eq_true (p:=x=0∨y=s-1∨y=0∨x=s-1) (.inr (.inr (.inr c4)))]
    ·rw [bif_neg c4,if_neg c4,decide_eq_false (p:=x=0∨y=s-1∨y=0∨x=s-1) (by omega)]
theorem border_r (fu:Nat) {s x y:Int} (hs0:0≤s) (hs:s≤32) (hx0:0≤x) (hx:x<s) (hy0:0≤y) (hy:y<s) :
  R_Border_r fu (s,(x,(y,())))=some (if bdr s x y=true then (if drk s x y=true then 1 else 0) else 2,()):=by
 unfold R_Border_r R_Border_j1 drk bdr;simp only [joinF_eq];rw [wr64 (x:=s-1) (by omega) (by omega),wr64 (x:=s-1-y) (by omega) (by omega),Int.tmod_eq_emod_of_nonneg hx0,Int.tmod_eq_emod_of_nonneg (a:=s-1-y) (by omega),wr64 (x:=1-x % 2) (by omega) (by omega),wr64 (x:=1-(s-1-y) % 2) (by omega) (by omega)];by_cases c1:x=0
 ·rw [decide_eq_true c1,cond_true,decide_eq_true (p:=x=0∨y=s-1∨y=0∨x=s-1) (.inl c1),if_pos (c:=x=0∨y=s-1) (.inl c1)];rfl
 ·rw [decide_eq_false c1,cond_false];by_cases c2:y=s-1
  ·rw [decide_eq_true c2,cond_true,decide_eq_true (p:=x=0∨y=s-1∨y=0∨x=s-1) (.inr (.inl c2)),if_pos (c:=x=0∨y=s-1) (.inr c2)];rfl
  ·rw [decide_eq_false c2,cond_false,if_neg (c:=x=0∨y=s-1) (by omega)];by_cases c3:y=0
   ·rw [bif_pos c3,if_pos (c:=y=0) c3,decide_eq_true (p:=x=0∨y=s-1∨y=0∨x=s-1) (.inr (.inr (.inl c3))),if_pos rfl];by_cases e:x % 2=0
    ·rw [decide_eq_true e,if_pos rfl,e];rfl
    ·rw [decide_eq_false e,if_neg (by decide),show (1:Int)-x % 2=0 by omega]
   ·rw [bif_neg c3,if_neg (c:=y=0) c3];by_cases c4:x=s-1
    ·rw [bif_pos c4,if_pos (c:=x=s-1) c4,decide_eq_true (p:=x=0∨y=s-1∨y=0∨x=s-1) (.inr (.inr (.inr c4))),if_pos rfl];by_cases e:(s-1-y) % 2=0
     ·rw [decide_eq_true e,if_pos rfl,e];rfl
     ·rw [decide_eq_false e,if_neg (by decide),show (1:Int)-(s-1-y) % 2=0 by omega]
    ·rw [bif_neg c4,decide_eq_false (p:=x=0∨y=s-1∨y=0∨x=s-1) (by omega),if_neg (by decide)]
def cx (s:Int) (y:Nat):Nat→Int
 | 0=>0
 | x+1=>cx s y x+(bif bdr s x y then 0 else 1)
def cy (s:Int):Nat→Int
 | 0=>0
 | y+1=>cy s y+cx s y s.toNat
def cnt (s:Int) (y x:Nat):Int:=cy s y+cx s y x
theorem cx_bd (s:Int) (y:Nat):∀ x:Nat,0≤cx s y x∧cx s y x≤x
 | 0=>by simp [cx]
 | x+1=>by
  have:=cx_bd s y x;unfold cx
  cases bdr s x y <;> simp <;> omega
theorem cy_bd {s:Int} (h0:0≤s) (h1:s≤32):∀ y:Nat,0≤cy s y∧cy s y≤32*y
 | 0=>by simp [cy]
 | y+1=>by
  have:=cy_bd h0 h1 y;have:=cx_bd s y s.toNat;unfold cy;omega
theorem cnt_bd {s:Int} (h0:0≤s) (h1:s≤32) {x y:Nat} (hx:x≤s.toNat) (hy:y≤s.toNat):0≤cnt s y x∧cnt s y x≤2048:=by
 have:=cy_bd h0 h1 y;have:=cx_bd s y x;unfold cnt;omega
def wbit (ws:List Int) (i:Int):Bool:=decide (ws.getD (i / 8).toNat 0 / 2 ^ (7-i % 8).toNat % 2=1)
def pixM (s n:Int) (ws:List Int) (x y:Int):Bool:=bif bdr s x y then drk s x y else decide (cnt s y.toNat x.toNat<8*n)&&wbit ws (cnt s y.toNat x.toNat)
def upto (P:Int→Int→Bool) (y x:Int) (a b:Int):Bool:=(decide (b<y)||(decide (b=y)&&decide (a<x)))&&P a b
theorem upto_add {P:Int→Int→Bool} {x y:Int} (h:P x y=true):(fun a b=>upto P y x a b||(decide (a=x)&&decide (b=y)))=upto P y (x+1):=by
 funext a b
 unfold upto;by_cases e:a=x∧b=y
 ·obtain ⟨rfl,rfl⟩:=e;simp [h];omega
 ·have e2:(decide (a=x)&&decide (b=y))=false:=by rw [←Bool.not_eq_true,Bool.and_eq_true];simpa using e
  rw [e2,Bool.or_false];congr 2;by_cases eb:b=y
  ·have:a≠x:=fun q=>e ⟨q,eb⟩
   congr 1;exact decide_eq_decide.2 (by omega)
  ·rw [decide_eq_false eb];rfl
theorem upto_skip {P:Int→Int→Bool} {x y:Int} (h:P x y=false):upto P y x=upto P y (x+1):=by
 funext a b
 unfold upto;by_cases e:a=x∧b=y
 ·obtain ⟨rfl,rfl⟩:=e;rw [h,Bool.and_false,Bool.and_false]
 ·congr 2;by_cases eb:b=y
  ·have:a≠x:=fun q=>e ⟨q,eb⟩
   congr 1;exact decide_eq_decide.2 (by omega)
  ·rw [decide_eq_false eb];rfl
theorem div_cast {a i:Nat}:(a:Int) / 2 ^ i=((a / 2 ^ i:Nat):Int):=by rw [Int.natCast_ediv,Int.natCast_pow];rfl
theorem u8_bit {v:Int} (h0:0≤v) (h1:v≤255) (k:Nat):(bits BinOp.and IntKind.u8 (v / 2 ^ k) 1=1)↔v / 2 ^ k % 2=1:=by
 obtain ⟨a,rfl⟩:=Int.eq_ofNat_of_zero_le h0;rw [div_cast,bits_and1_u8 _ (Nat.lt_of_le_of_lt (Nat.div_le_self _ _) (by omega))];omega
theorem i64_bit {v:Int} (h0:0≤v) (h1:v≤255) (k:Nat):bits BinOp.and IntKind.i64 (v / 2 ^ k) 1=v / 2 ^ k % 2:=by
 obtain ⟨a,rfl⟩:=Int.eq_ofNat_of_zero_le h0;rw [div_cast,bits_and1_i _ (Nat.lt_of_le_of_lt (Nat.div_le_self _ _) (by omega))];omega
section
variable {fu:Nat} (hf:18446744073709551616≤fu) {s n:Int} {ws:List Int} {data:List Int}
include hf
theorem enc_row (hs0:1≤s) (hs:s≤32) (hn0:0≤n) (hn:n≤1000) (hl:(ws.length:Int)=n) (hw:∀ k,0≤ws.getD k 0∧ws.getD k 0≤255) {y:Nat} (hy:y<s.toNat) {v9:Int×Int×List Int} (e9:v9.1=y) (j9:(Int×Int×List Int)→Option ((Int×Int×List Int)×Int×Unit)) :
  loopF (matrix_Encode_l2 fu (data,(s,())) n ws v9 y j9) fu (cnt s y 0,((0:Int),canon s s (upto (pixM s n ws) y 0)))=j9 (((y+1:Nat):Int),(cnt s (y+1) 0,canon s s (upto (pixM s n ws) ((y+1:Nat):Int) 0))):=by
 refine stLoop (n:=s.toNat) (st:=fun x=>(cnt s y x,((x:Int),canon s s (upto (pixM s n ws) y x)))) (by omega) rfl (fun j x hx=>?_) (fun j=>?_)
 ·have hc:=cnt_bd (s:=s) (by omega) hs (x:=x) (y:=y) (by omega) (by omega);unfold matrix_Encode_l2 matrix_Encode_j3 matrix_Encode_j5;simp only [joinF_eq];rw [bif_pos (by omega),dark_r fu (by omega) hs (by omega) (by omega) (by omega) (by omega),bindO_some];simp only
  have J4:∀ c:Int,matrix_Encode_j4 fu (data,(s,())) y (cnt s y x,((x:Int),canon s s (upto (pixM s n ws) y x))) x (fun v12=>j (v12.2.1,(IntKind.i64.wrap (v12.1+1),v12.2.2))) (pixM s n ws x y,c)=j (c,(((x+1:Nat):Int),canon s s (upto (pixM s n ws) y ((x+1:Nat):Int)))):=by
   intro c;unfold matrix_Encode_j4;simp only
   cases hp:pixM s n ws x y with
   | true =>
    rw [cond_true];have m:=markF_eq fu (w:=s) (h:=s) (x:=x) (y:=y) (P:=upto (pixM s n ws) y x) (k:=fun ds=>j (c,(IntKind.i64.wrap ((x:Int)+1),ds))) (by omega) (by omega) (by omega) (by omega) (by omega) (by omega);rw [upto_add hp,wr64 (x:=(x:Int)+1) (by omega) (by omega)] at m;rw [wr64 (x:=(x:Int)+1) (by omega) (by omega)];exact m
   | false =>
    rw [cond_false,wr64 (x:=(x:Int)+1) (by omega) (by omega),upto_skip hp];rfl
  cases hb:bdr s x y with
  | true =>
   have hp:pixM s n ws x y=drk s x y:=by unfold pixM;rw [hb];rfl
   rw [←hp,Bool.not_true,cond_false,J4,show cnt s y (x+1)=cnt s y x by unfold cnt;rw [cx,hb];simp]
  | false =>
   have hp:pixM s n ws x y=(decide (cnt s y x<8*n)&&wbit ws (cnt s y x)):=by unfold pixM;rw [hb];rfl
   have hc1:cnt s y (x+1)=cnt s y x+1:=by unfold cnt;rw [cx,hb,cond_false];omega
   rw [Bool.not_false,cond_true,wr64 (x:=8*n) (by omega) (by omega),wr64 (x:=cnt s y x+1) (by omega) (by omega),hc1];by_cases c:cnt s y x<8*n
   ·rw [decide_eq_true c,Bool.true_and] at hp;have h3:=hw (cnt s y x / 8).toNat;rw [bif_pos c,Int.tdiv_eq_ediv_of_nonneg hc.1,Int.tmod_eq_emod_of_nonneg hc.1,wr64 (x:=cnt s y x / 8) (by omega) (by omega),wr64 (x:=7-cnt s y x % 8) (by omega) (by omega),bif_and (by omega) (by omega),bif_and (by omega) (by omega),decide_eq_decide.2 (u8_bit h3.1 h3.2 _)];rw [show decide (ws.getD (cnt s y x / 8).toNat 0 / 2 ^ (7-cnt s y x % 8).toNat % 2=1)=pixM s n ws x y from hp.symm];exact J4 _
   ·rw [decide_eq_false c,Bool.false_and] at hp;rw [bif_neg c];have:=J4 (cnt s y x+1);rw [hp] at this;exact this
 ·unfold matrix_Encode_l2;simp only [joinF_eq];rw [bif_neg (by omega),e9,wr64 (x:=(y:Int)+1) (by omega) (by omega)];refine congrArg j9 ?_;have e1:cnt s (y+1) 0=cnt s y s.toNat:=by unfold cnt;rw [cy,cx];omega
  rw [e1,show ((y+1:Nat):Int)=(y:Int)+1 by omega];refine congrArg (fun l=>((y:Int)+1,(cnt s y s.toNat,l))) ?_;refine canon_congr (by omega) fun a b h1 h2 h3 h4=>?_
  unfold upto;congr 1;by_cases q:b<y
  ·rw [decide_eq_true q,decide_eq_true (show b<(y:Int)+1 by omega),Bool.true_or,Bool.true_or]
  ·by_cases q2:b=y
   ·rw [decide_eq_true q2,decide_eq_true (show b<(y:Int)+1 by omega),decide_eq_true (show a<(s.toNat:Int) by omega),Bool.true_or,Bool.true_and,Bool.or_true]
   ·rw [decide_eq_false q,decide_eq_false q2,decide_eq_false (show ¬ b<(y:Int)+1 by omega),decide_eq_false (show ¬ a<0 by omega),Bool.and_false,Bool.false_and]
theorem enc_all (hs0:1≤s) (hs:s≤32) (hn0:0≤n) (hn:n≤1000) (hl:(ws.length:Int)=n) (hw:∀ k,0≤ws.getD k 0∧ws.getD k 0≤255) :
  loopF (matrix_Encode_l1 fu (data,(s,())) n ws) fu ((0:Int),((0:Int),List.replicate (strd s*s).toNat (0:Int)))=some ((s,(s,canon s s (pixM s n ws))),(0,())):=by
 refine stLoop (n:=s.toNat) (st:=fun y=>((y:Int),(cnt s y 0,canon s s (upto (pixM s n ws) y 0)))) (by omega) ?_ (fun j y hy=>?_) (fun j=>?_)
 ·refine congrArg (fun l=>((0:Int),((0:Int),l))) ?_;rw [canon_congr (Q:=fun _ _=>false) (by omega) fun a b h1 h2 h3 h4=>?_]
  ·exact canon_zero s s fun _ _=>rfl
  ·unfold upto;rw [decide_eq_false (show ¬ b<((0:Nat):Int) by omega),decide_eq_false (show ¬ a<0 by omega),Bool.and_false];rfl
 ·unfold matrix_Encode_l1;simp only;rw [bif_pos (by omega)];exact enc_row hf hs0 hs hn0 hn hl hw hy (by rfl) j
 ·unfold matrix_Encode_l1;simp only;rw [bif_neg (by omega)];refine congrArg (fun l=>some ((s,(s,l)),((0:Int),()))) ?_;refine canon_congr (by omega) fun a b h1 h2 h3 h4=>?_
  unfold upto;rw [decide_eq_true (show b<(s.toNat:Int) by omega)];rfl
end
end Mx
end Go.Proofs.Ytppigjemglokgaa
/- Matrix codes: matrix.Size,matrix.Encode. -/
set_option maxRecDepth 100000
namespace Go.Proofs.Ytppigjemglokgaa
open Go Go.RowKit
set_option linter.unusedSimpArgs false
set_option linter.unusedSectionVars false
set_option linter.unusedVariables false
namespace Mx
open Gf
def sideOk (s:Int):Prop:=(8≤s∧s≤32)∧s % 2=0
instance (s:Int):Decidable (sideOk s):=by unfold sideOk;infer_instance
def nA (s:Int):Int:=(s-2)*(s-2) / 8
def pA (s:Int):Int:=max 2 (nA s / 6*2)
theorem dims {s:Int} (h:sideOk s):4≤nA s∧nA s≤112∧2≤pA s∧pA s≤36∧pA s+2≤nA s∧(s≤20→pA s≤16)∧0≤(s-2)*(s-2)∧(s-2)*(s-2)≤900:=by
 obtain ⟨⟨h1,h2⟩,h3⟩:=h;have c:s=8∨s=10∨s=12∨s=14∨s=16∨s=18∨s=20∨s=22∨s=24∨s=26∨s=28∨s=30∨s=32:=by omega
 rcases c with rfl | rfl | rfl | rfl | rfl | rfl | rfl | rfl | rfl | rfl | rfl | rfl | rfl <;> decide +kernel
theorem side_r (fu:Nat) (s:Int):matrix_isSide_r fu (s,())=some (decide (sideOk s),()):=by
 unfold matrix_isSide_r;simp only;by_cases h1:8≤s
 ·rw [bif_pos h1];by_cases h2:s≤32
  ·rw [bif_pos h2,Int.tmod_eq_emod_of_nonneg (by omega),decide_eq_decide.2 (show s % 2=0↔sideOk s from ⟨fun h=>⟨⟨h1,h2⟩,h⟩,fun h=>h.2⟩)]
  ·rw [bif_neg h2,decide_eq_false (p:=sideOk s) (fun h=>h2 h.1.2)]
 ·rw [bif_neg h1,decide_eq_false (p:=sideOk s) (fun h=>h1 h.1.1)]
theorem size_bad (fu:Nat) {s:Int} (h:¬ sideOk s):matrix_Size_r fu (s,())=some (0,(0,(0,(3,())))):=by
 unfold matrix_Size_r;simp only;rw [side_r,bindO_some];simp only;rw [decide_eq_false h];rfl
theorem size_ok (fu:Nat) {s:Int} (h:sideOk s):matrix_Size_r fu (s,())=some (nA s,(pA s,(nA s-pA s-1,(0,())))):=by
 obtain ⟨d1,d2,d3,d4,d5,d6,d7,d8⟩:=dims h;have h1:=h.1.1;have h2:=h.1.2;unfold matrix_Size_r;simp only;rw [side_r,bindO_some];simp only;rw [decide_eq_true h,Bool.not_true,cond_false,wr64 (x:=s-2) (by omega) (by omega),wr64 (x:=(s-2)*(s-2)) (by omega) (by omega),Int.tdiv_eq_ediv_of_nonneg d7,wr64 (x:=(s-2)*(s-2) / 8) (by omega) (by omega)];rw [show (s-2)*(s-2) / 8=nA s from rfl,Int.tdiv_eq_ediv_of_nonneg (by omega),wr64 (x:=nA s / 6) (by omega) (by omega),wr64 (x:=nA s / 6*2) (by omega) (by omega),show max 2 (nA s / 6*2)=pA s from rfl,wr64 (x:=nA s-pA s) (by omega) (by omega),wr64 (x:=nA s-pA s-1) (by omega) (by omega)]
theorem wrap8 {n:Nat} (h:n<256):IntKind.u8.wrap (n:Int)=n:=by
 have:∀ v:Fin 256,IntKind.u8.wrap (v.val:Int)=v.val:=by decide +kernel
 exact this ⟨n,h⟩
def plainL (data:List Int) (d:Nat):List Int:=([(data.length:Int)]++data)++List.replicate (d-(data.length+1)) 0
theorem plainL_len {data:List Int} {d:Nat} (h:data.length+1≤d):(plainL data d).length=d:=by
 unfold plainL;rw [List.length_append,List.length_append,List.length_cons,List.length_nil,List.length_replicate];omega
theorem plainL_bytes {data:List Int} {d:Nat} (hb:∀ v ∈ data,0≤v∧v≤255) (h:data.length≤255):∀ v ∈ plainL data d,0≤v∧v≤255:=by
 intro v hv;unfold plainL at hv;rcases List.mem_append.1 hv with hv | hv
 ·rcases List.mem_append.1 hv with hv | hv
  ·rw [List.mem_singleton] at hv;omega
  ·exact hb v hv
 ·rw [List.eq_of_mem_replicate hv];omega
theorem enc_plain {data:List Int} {d:Nat} (h:data.length+1≤d) {b:Int} (hb:b=data.length) :
  (List.drop (Int.toNat (0:Int)) (List.take (Int.toNat (1:Int)) (List.set (List.replicate d (0:Int)) (Int.toNat (0:Int)) b)))++((List.drop (Int.toNat (0:Int)) (List.take (Int.toNat (min (List.length data:Int) ((d:Int)-(1:Int)))) data))++(List.drop (Int.toNat ((1:Int)+(min (List.length data:Int) ((d:Int)-(1:Int))))) (List.take (Int.toNat (d:Int)) (List.set (List.replicate d (0:Int)) (Int.toNat (0:Int)) b))))=plainL data d:=by
 subst hb;obtain ⟨e,rfl⟩:∃ e,d=data.length+1+e:=⟨d-(data.length+1),by omega⟩
 have e0:List.set (List.replicate (data.length+1+e) (0:Int)) (Int.toNat (0:Int)) (data.length:Int)=(data.length:Int)::List.replicate (data.length+e) 0:=by
  rw [show data.length+1+e=(data.length+e)+1 by omega,List.replicate_succ];rfl
 rw [e0,show min (data.length:Int) (((data.length+1+e:Nat):Int)-1)=data.length by omega,show Int.toNat ((1:Int)+data.length)=data.length+1 by omega,Int.toNat_natCast,Int.toNat_natCast,List.take_of_length_le (l:=data) (Nat.le_refl _),List.take_of_length_le (i:=data.length+1+e) (by rw [List.length_cons,List.length_replicate];omega)];unfold plainL;show [(data.length:Int)]++(data++List.drop data.length (List.replicate (data.length+e) 0))=_;rw [List.drop_replicate,List.append_assoc,show data.length+e-data.length=data.length+1+e-(data.length+1) by omega]
def wordL (s:Int) (data:List Int):List Int:=plainL data (nA s-pA s).toNat++nb (pA s).toNat (rest (pA s).toNat (nA s-pA s).toNat (byt (plainL data (nA s-pA s).toNat)))
theorem nb_ge {n:Nat} {f:Nat→Nat} (h:∀ k,f k<256):∀ v ∈ nb n f,0≤v∧v≤255:=by
 intro v hv;obtain ⟨i,_,rfl⟩:=List.mem_map.1 hv;have:=h i;omega
section
variable {fu:Nat} (hf:18446744073709551616≤fu) {s:Int} {data:List Int}
include hf
theorem encode_bad (h:¬ sideOk s):matrix_Encode_r fu (data,(s,()))=some ((0,(0,[])),(3,())):=by
 unfold matrix_Encode_r;simp only;rw [size_bad fu h,bindO_some];simp only;rw [bif_pos (by decide)]
theorem encode_large (h:sideOk s) (hl:nA s-pA s-1<data.length):matrix_Encode_r fu (data,(s,()))=some ((0,(0,[])),(2,())):=by
 unfold matrix_Encode_r;simp only;rw [size_ok fu h,bindO_some];simp only;rw [bif_neg (by decide),bif_pos hl]
theorem word_len (h:sideOk s) (hl:(data.length:Int)≤nA s-pA s-1):((wordL s data).length:Int)=nA s:=by
 obtain ⟨d1,d2,d3,d4,d5,d6,d7,d8⟩:=dims h;unfold wordL;rw [List.length_append,plainL_len (by omega),nb_len];omega
theorem encode_good (h:sideOk s) (hb:∀ v ∈ data,0≤v∧v≤255) (hl:(data.length:Int)≤nA s-pA s-1) :
  matrix_Encode_r fu (data,(s,()))=some ((s,(s,canon s s (pixM s (nA s) (wordL s data)))),(0,())):=by
 obtain ⟨d1,d2,d3,d4,d5,d6,d7,d8⟩:=dims h;have h1:=h.1.1;have h2:=h.1.2;have hpb:=plainL_bytes (d:=(nA s-pA s).toNat) hb (by omega);have hpl:=plainL_len (data:=data) (d:=(nA s-pA s).toNat) (by omega);have hdt:=byt_lt hpb;have hwl:=word_len hf h hl
 have hwb:∀ k,0≤(wordL s data).getD k 0∧(wordL s data).getD k 0≤255:=by
  intro k;refine Bytes.at (ds:=wordL s data) (fun v hv=>?_) k;unfold wordL at hv;rcases List.mem_append.1 hv with hv | hv
  ·exact hpb v hv
  ·exact nb_ge (fun k=>rest_lt hdt k) v hv
 have E:=Gf.encode_r hf (p:=(pA s).toNat) (d:=(nA s-pA s).toNat) (dt:=byt (plainL data (nA s-pA s).toNat)) (by omega) (by omega) (by omega) (by omega) hdt
 rw [show nb (nA s-pA s).toNat (byt (plainL data (nA s-pA s).toNat))=plainL data (nA s-pA s).toNat by
  have:=nb_byt hpb;rw [hpl] at this
  exact this,Int.toNat_of_nonneg (show 0≤pA s by omega)] at E
 have hsd:=strd_bd (w:=s) (h:=s) (by omega) (by omega) (by omega) (by omega);unfold matrix_Encode_r;simp only;rw [size_ok fu h,bindO_some];simp only;rw [bif_neg (by decide),bif_neg (by omega),wr64 (x:=nA s-pA s) (by omega) (by omega),bif_and (by omega) (by omega)];simp only [List.length_set,List.length_replicate];rw [bif_pos (by omega),bif_pos (by omega),bif_and (by omega) (by omega),enc_plain (by omega) (wrap8 (by omega)),E,bindO_some];simp only;rw [bif_neg (by decide),stride_r fu (by omega) (by omega),bindO_some];simp only;rw [wr64 (x:=strd s*s) (by omega) (by omega),bif_and (by omega) (by omega)];exact enc_all hf (by omega) (by omega) (by omega) (by omega) hwl hwb
end
end Mx
end Go.Proofs.Ytppigjemglokgaa
/- Residual programs of functions (printed by a program out of the code),checked by the kernel,and the contracts that follow. -/
namespace Go.Proofs.Ytppigjemglokgaa
open Go Go.RowKit
set_option linter.unusedVariables false
noncomputable section
def R_SameBytes_r (fu:Nat) (a:List Int×List Int×Unit):Option (Bool×Unit) :=
 let v0:Bool:=(decide ((bytesOf a.1)=(bytesOf a.2.1)))
 some ((v0,()))
def R_SameBytes_an:An:=(.n none .z (.n none .z .z))
noncomputable def R_SameBytes_dc:List (Nat×Ctr):=[]
def R_SameBytes_ctr:Ctr:=⟨(.pair (.list (.int .u8)) (.pair (.list (.int .u8)) .unit)),(.pair .bool .unit),R_SameBytes_r,15⟩
theorem R_SameBytes_ok:CtrOk Try.prog 15 R_SameBytes_ctr:=ctr_ok (l:=R_SameBytes_dc) (f:=12) (an:=R_SameBytes_an) trivial fun fu x=>by kernel_rfl
def law_matrixWorks_r (fu:Nat) (a:Unit):Option (Bool×Unit) :=
 bindO (matrix_Encode_r fu ((([]:List (Int)),((8:Int),())))) fun v0 =>
 let v1:Int:=v0.2.1
 bindO (matrix_Size_r fu (((12:Int),()))) fun v2 =>
 let v3:Int:=v2.1
 let v4:Int:=v2.2.1
 let v5:Int:=v2.2.2.1
 let v6:Int:=v2.2.2.2.1
 bindO (matrix_Decode_r fu ((((8:Int),((8:Int),([(170:Int),(129:Int),(128:Int),(129:Int),(128:Int),(129:Int),(128:Int),(255:Int)]:List Int))),()))) fun v7 =>
 let v8:List Int:=v7.1
 let v9:Int:=v7.2.1
 let v10:Int:=v7.2.2.1
 let v11:Int:=v7.2.2.2.1
 bif (decide (v1=(0:Int))) then
  bindO (R_SameBytes_r fu ((v0.1.2.2,(([(170:Int),(129:Int),(128:Int),(129:Int),(128:Int),(129:Int),(128:Int),(255:Int)]:List Int),())))) fun v12 =>
  bif v12.1 then
   bif (decide (v6=(0:Int))) then
    bif (decide (v3=(12:Int))) then
     bif (decide (v4=(4:Int))) then
      bif (decide (v5=(7:Int))) then
       bif (decide (v11=(0:Int))) then
        bif (decide (v9=(0:Int))) then
         let v13:Bool:=(decide (v10=(0:Int)))
         some ((v13,()))
        else
        some ((false,()))
       else
       some ((false,()))
      else
      some ((false,()))
     else
     some ((false,()))
    else
    some ((false,()))
   else
   some ((false,()))
  else
  some ((false,()))
 else
 some ((false,()))
def law_matrixWorks_an:An:=(.n none .z (.n none .z (.n none .z (.n none .z (.n none .z .z)))))
noncomputable def law_matrixWorks_dc:List (Nat×Ctr):=[(5,matrix_Encode_ctr),(6,matrix_Size_ctr),(14,matrix_Decode_ctr),(15,R_SameBytes_ctr)]
def law_matrixWorks_ctr:Ctr:=⟨.unit,(.pair .bool .unit),law_matrixWorks_r,4⟩
theorem law_matrixWorks_ok:CtrOk Try.prog 4 law_matrixWorks_ctr:=ctr_ok (l:=law_matrixWorks_dc) (f:=12) (an:=law_matrixWorks_an) ⟨matrix_Encode_ok,⟨matrix_Size_ok,⟨matrix_Decode_ok,⟨R_SameBytes_ok,trivial⟩⟩⟩⟩ fun fu x=>by kernel_rfl
end
end Go.Proofs.Ytppigjemglokgaa
/- Residual programs of functions (printed by a program out of the code),checked by the kernel,and the contracts that follow. -/
namespace Go.Proofs.Ytppigjemglokgaa
open Go Go.RowKit
set_option linter.unusedVariables false
noncomputable section
def law_MatrixModules_j8 (fu:Nat) (v16:Int×Int) (v20:Int×Int) (j16:(Int×Int)→Option (Bool×Unit)) (v21:Bool):Option (Bool×Unit) :=
 bif v21 then
  some ((false,()))
 else
 j16 ((v20.2,(IntKind.i64.wrap (v16.2+(1:Int)))))
def law_MatrixModules_j7 (fu:Nat) (v1:(Int×Int×List Int)×Int×Unit) (v15:Int) (v16:Int×Int) (v17:Int) (j16:(Int×Int)→Option (Bool×Unit)) (v20:Int×Int):Option (Bool×Unit) :=
 joinF (law_MatrixModules_j8 fu v16 v20 j16) fun j21 =>
 bif (decide (v20.1<(2:Int))) then
  bindO (R_Bit_r fu ((v1.1,(v17,(v15,()))))) fun v22 =>
  j21 ((v22.1 != (decide (v20.1=(1:Int)))))
 else
 j21 (false)
def law_MatrixModules_j9 (fu:Nat) (j20:(Int×Int)→Option (Bool×Unit)) (v21:Int×Int):Option (Bool×Unit) :=
 let v22:Int:=(IntKind.i64.wrap (v21.1+(1:Int)))
 j20 ((v21.2,v22))
def law_MatrixModules_l6 (fu:Nat) (a:List Int×Int×Unit) (v1:(Int×Int×List Int)×Int×Unit) (v9:Int) (v13:List Int) (v14:Int×Int) (v15:Int) (j14:(Int×Int)→Option (Bool×Unit)) (j16:(Int×Int)→Option (Bool×Unit)) (v16:Int×Int):Option (Bool×Unit) :=
 bif (decide (v16.2<a.2.1)) then
  let v17:Int:=v16.2
  bindO (R_Border_r fu ((a.2.1,(v17,(v15,()))))) fun v18 =>
  let v19:Int:=v18.1
  joinF (law_MatrixModules_j7 fu v1 v15 v16 v17 j16) fun j20 =>
  bif (decide (v19=(2:Int))) then
   joinF (law_MatrixModules_j9 fu j20) fun j21 =>
   let v22:Bool:=(decide ((IntKind.i64.wrap ((8:Int)*v9))≤v16.1))
   bif v22 then
    j21 ((v16.1,(0:Int)))
   else
   let v23:Bool:=(decide (v16.1<(IntKind.i64.wrap ((8:Int)*(List.length v13:Int)))))
   bif v23 then
    bif ((decide ((0:Int)≤(IntKind.i64.wrap (Int.tdiv v16.1 (8:Int)))))&&(decide ((IntKind.i64.wrap (Int.tdiv v16.1 (8:Int)))<(List.length v13:Int)))) then
    bif ((decide ((0:Int)≤(IntKind.i64.wrap ((7:Int)-(Int.tmod v16.1 (8:Int))))))&&(decide ((IntKind.i64.wrap ((7:Int)-(Int.tmod v16.1 (8:Int))))≤(64:Int)))) then
    let v24:Int:=(bits BinOp.and IntKind.i64 ((IntKind.i64.wrap (List.getD v13 (Int.toNat (IntKind.i64.wrap (Int.tdiv v16.1 (8:Int)))) 0)) / 2 ^ (Int.toNat (IntKind.i64.wrap ((7:Int)-(Int.tmod v16.1 (8:Int)))))) (1:Int))
    j21 ((v16.1,v24))
    else none
    else none
   else
   j21 ((v16.1,v19))
  else
  j20 ((v19,v16.1))
 else
 j14 (((IntKind.i64.wrap (v14.1+(1:Int))),v16.1))
def law_MatrixModules_l5 (fu:Nat) (a:List Int×Int×Unit) (v1:(Int×Int×List Int)×Int×Unit) (v9:Int) (v13:List Int) (j14:(Int×Int)→Option (Bool×Unit)) (v14:Int×Int):Option (Bool×Unit) :=
 bif (decide (v14.1<a.2.1)) then
  let v15:Int:=v14.1
  loopF (law_MatrixModules_l6 fu a v1 v9 v13 v14 v15 j14) fu ((v14.2,(0:Int)))
 else
 some ((true,()))
def law_MatrixModules_j4 (fu:Nat) (a:List Int×Int×Unit) (v1:(Int×Int×List Int)×Int×Unit) (v9:Int) (v13:List Int):Option (Bool×Unit) :=
 loopF (law_MatrixModules_l5 fu a v1 v9 v13) fu (((0:Int),(0:Int)))
def law_MatrixModules_j3 (fu:Nat) (a:List Int×Int×Unit) (v1:(Int×Int×List Int)×Int×Unit) (v9:Int) (v10:Int) (v12:Bool):Option (Bool×Unit) :=
 bif v12 then
  some ((false,()))
 else
 bif (decide ((((List.length ([(IntKind.u8.wrap (List.length a.1:Int))]:List Int):Int)+(List.length a.1:Int))*(1:Int))≤(140737488355328:Int))) then
 bif ((decide ((0:Int)≤(IntKind.i64.wrap ((IntKind.i64.wrap (v9-v10))-(List.length (([(IntKind.u8.wrap (List.length a.1:Int))]:List Int)++a.1):Int)))))&&((decide ((List.length (([(IntKind.u8.wrap (List.length a.1:Int))]:List Int)++a.1):Int)≤(500000:Int)))&&(decide ((IntKind.i64.wrap ((IntKind.i64.wrap (v9-v10))-(List.length (([(IntKind.u8.wrap (List.length a.1:Int))]:List Int)++a.1):Int)))≤(500000:Int))))) then
 joinF (law_MatrixModules_j4 fu a v1 v9) fun j13 =>
 bif (decide (a.2.1≤(20:Int))) then
  bindO (R_Checks_r fu ((((([(IntKind.u8.wrap (List.length a.1:Int))]:List Int)++a.1)++(List.replicate (Int.toNat (IntKind.i64.wrap ((IntKind.i64.wrap (v9-v10))-(List.length (([(IntKind.u8.wrap (List.length a.1:Int))]:List Int)++a.1):Int)))) (0:Int))),(v10,())))) fun v14 =>
  bif (decide ((((List.length ((([(IntKind.u8.wrap (List.length a.1:Int))]:List Int)++a.1)++(List.replicate (Int.toNat (IntKind.i64.wrap ((IntKind.i64.wrap (v9-v10))-(List.length (([(IntKind.u8.wrap (List.length a.1:Int))]:List Int)++a.1):Int)))) (0:Int))):Int)+(List.length v14.1:Int))*(1:Int))≤(140737488355328:Int))) then
  j13 ((((([(IntKind.u8.wrap (List.length a.1:Int))]:List Int)++a.1)++(List.replicate (Int.toNat (IntKind.i64.wrap ((IntKind.i64.wrap (v9-v10))-(List.length (([(IntKind.u8.wrap (List.length a.1:Int))]:List Int)++a.1):Int)))) (0:Int)))++v14.1))
  else none
 else
 j13 (((([(IntKind.u8.wrap (List.length a.1:Int))]:List Int)++a.1)++(List.replicate (Int.toNat (IntKind.i64.wrap ((IntKind.i64.wrap (v9-v10))-(List.length (([(IntKind.u8.wrap (List.length a.1:Int))]:List Int)++a.1):Int)))) (0:Int))))
 else none
 else none
def law_MatrixModules_j2 (fu:Nat) (a:List Int×Int×Unit) (v1:(Int×Int×List Int)×Int×Unit) (v2:Int) (v9:Int) (v10:Int) (v11:Bool):Option (Bool×Unit) :=
 bif v11 then
  some ((false,()))
 else
 bif (decide ((IntKind.i64.wrap ((IntKind.i64.wrap (v9-v10))-(1:Int)))<(List.length a.1:Int))) then
  bindO (law_refused_r fu ((v1.1,(v2,((2:Int),()))))) fun v12 =>
  let v13:Bool:=v12.1
  some ((v13,()))
 else
 joinF (law_MatrixModules_j3 fu a v1 v9 v10) fun j12 =>
 bif (decide (v2≠(0:Int))) then
  j12 (true)
 else
 bif (decide (v1.1.1≠a.2.1)) then
  j12 (true)
 else
 bif (decide (v1.1.2.1≠a.2.1)) then
  j12 (true)
 else
 bindO (R_BitsErr_r fu ((v1.1,()))) fun v13 =>
 j12 ((decide (v13.1≠(0:Int))))
def law_MatrixModules_j1 (fu:Nat) (a:List Int×Int×Unit) (v1:(Int×Int×List Int)×Int×Unit) (v2:Int) (v4:Int) (v5:Int) (v6:Int) (v7:Int) (v8:Bool):Option (Bool×Unit) :=
 bif v8 then
  bindO (law_refused_r fu ((v1.1,(v2,((3:Int),()))))) fun v9 =>
  bif v9.1 then
   bif (decide (v4=(0:Int))) then
    bif (decide (v5=(0:Int))) then
     bindO (law_none_r fu (((decide (v6=(0:Int))),(v7,((3:Int),()))))) fun v10 =>
     let v11:Bool:=v10.1
     some ((v11,()))
    else
    bindO (law_none_r fu ((false,(v7,((3:Int),()))))) fun v10 =>
    let v11:Bool:=v10.1
    some ((v11,()))
   else
   bindO (law_none_r fu ((false,(v7,((3:Int),()))))) fun v10 =>
   let v11:Bool:=v10.1
   some ((v11,()))
  else
  some ((false,()))
 else
 let v9:Int:=(IntKind.i64.wrap (Int.tdiv (IntKind.i64.wrap ((IntKind.i64.wrap (a.2.1-(2:Int)))*(IntKind.i64.wrap (a.2.1-(2:Int))))) (8:Int)))
 let v10:Int:=(max (2:Int) (IntKind.i64.wrap ((2:Int)*(IntKind.i64.wrap (Int.tdiv v9 (6:Int))))))
 joinF (law_MatrixModules_j2 fu a v1 v2 v9 v10) fun j11 =>
 bif (decide (v7≠(0:Int))) then
  j11 (true)
 else
 bif (decide (v4≠v9)) then
  j11 (true)
 else
 bif (decide (v5≠v10)) then
  j11 (true)
 else
 j11 ((decide (v6≠(IntKind.i64.wrap ((IntKind.i64.wrap (v9-v10))-(1:Int))))))
def law_MatrixModules_r (fu:Nat) (a:List Int×Int×Unit):Option (Bool×Unit) :=
 bindO (law_matrixWorks_r fu (())) fun v0 =>
 bif (!v0.1) then
  some ((false,()))
 else
 bindO (matrix_Encode_r fu ((a.1,(a.2.1,())))) fun v1 =>
 let v2:Int:=v1.2.1
 bindO (matrix_Size_r fu ((a.2.1,()))) fun v3 =>
 let v4:Int:=v3.1
 let v5:Int:=v3.2.1
 let v6:Int:=v3.2.2.1
 let v7:Int:=v3.2.2.2.1
 joinF (law_MatrixModules_j1 fu a v1 v2 v4 v5 v6 v7) fun j8 =>
 bindO (R_Within_r fu ((a.2.1,((8:Int),((32:Int),()))))) fun v9 =>
 bif (!v9.1) then
  j8 (true)
 else
 j8 ((decide ((Int.tmod a.2.1 (2:Int))≠(0:Int))))
def law_MatrixModules_an:An:=(.n none .z (.n none (.n none .z (.n none (.n none .z .z) .z)) (.n none .z (.n none .z (.n none (.n (some ⟨[10,7,8,9,6,0,1,5],[0],[],[.reg 40 .bool],0,[]⟩) .z (.n none (.n none .z .z) .z)) (.n none .z (.n none .z (.n none (.n (some ⟨[6,0,12,1,11,5],[0],[],[.reg 87 .bool],0,[]⟩) .z (.n none (.n none .z .z) .z)) (.n none (.n none .z (.n none (.n none .z .z) .z)) (.n none (.n (some ⟨[0,12,1,11,5],[0],[],[.reg 116 .bool],0,[]⟩) .z (.n none (.n none .z .z) .z)) (.n none .z (.n none .z (.n (some ⟨[1,11,5],[0],[(13,(.osl 1 3))],[.row 1 false (.int .u8) 5 3],0,[]⟩) (.n none .z (.n none .z .z)) (.n none .z (.n none (.n none .z (.n none (.n (some ⟨[13,138],[1],[],[.reg 139 (.int .i64),.reg 14 (.int .i64)],0,[]⟩) (.n none .z (.n none .z (.n none (.n none (.n none .z (.n none .z (.n none (.n (some ⟨[139,15,142],[],[],[.reg 14 (.int .i64),.reg 143 (.int .i64)],0,[]⟩) (.n none .z (.n none .z (.n none (.n none (.n none .z (.n none .z (.n (some ⟨[16,143],[],[],[.reg 17 (.int .i64),.reg 14 (.int .i64)],0,[]⟩) (.n none .z (.n none (.n (some ⟨[],[],[],[.reg 14 (.int .i64),.reg 17 (.int .i64)],0,[]⟩) (.n none (.n none .z (.n none .z (.n none .z (.n none .z .z)))) .z) .z) .z)) (.n (some ⟨[14],[],[],[.reg 186 .bool],0,[]⟩) .z (.n none (.n none .z .z) .z))))) .z) .z))) .z) .z))) .z) .z))) .z) .z)) (.n none .z .z))))))))))))))))
noncomputable def law_MatrixModules_dc:List (Nat×Ctr):=[(4,law_matrixWorks_ctr),(5,matrix_Encode_ctr),(6,matrix_Size_ctr),(7,R_Within_ctr),(8,law_refused_ctr),(9,law_none_ctr),(10,R_BitsErr_ctr),(11,R_Checks_ctr),(12,R_Border_ctr),(13,R_Bit_ctr)]
def law_MatrixModules_ctr:Ctr:=⟨(.pair (.list (.int .u8)) (.pair (.int .i64) .unit)),(.pair .bool .unit),law_MatrixModules_r,3⟩
theorem law_MatrixModules_ok:CtrOk Try.prog 3 law_MatrixModules_ctr:=ctr_ok (l:=law_MatrixModules_dc) (f:=12) (an:=law_MatrixModules_an) ⟨law_matrixWorks_ok,⟨matrix_Encode_ok,⟨matrix_Size_ok,⟨R_Within_ok,⟨law_refused_ok,⟨law_none_ok,⟨R_BitsErr_ok,⟨R_Checks_ok,⟨R_Border_ok,⟨R_Bit_ok,trivial⟩⟩⟩⟩⟩⟩⟩⟩⟩⟩ fun fu x=>by kernel_rfl
end
end Go.Proofs.Ytppigjemglokgaa
/- MatrixModules: the law's own loop over the modules. -/
set_option maxRecDepth 100000
namespace Go.Proofs.Ytppigjemglokgaa
open Go Go.RowKit
set_option linter.unusedSimpArgs false
set_option linter.unusedSectionVars false
set_option linter.unusedVariables false
namespace Mx
open Gf
section
variable {fu:Nat} (hf:18446744073709551616≤fu) {s n:Int} {data ws W:List Int}
include hf
theorem bit_m (hs0:1≤s) (hs:s≤32) {x y:Int} (hx0:0≤x) (hx:x<s) (hy0:0≤y) (hy:y<s) (P:Int→Int→Bool):R_Bit_r fu ((s,(s,canon s s P)),(x,(y,())))=some (P x y,()):=by
 rw [bit_r fu (by omega) (by omega) (by omega) (by omega) (canon_len (by omega) (by omega) P) (canon_bytes s s P),canon_pix (by omega),decide_eq_true (show 0≤x∧x<s∧0≤y∧y<s from ⟨hx0,hx,hy0,hy⟩),Bool.true_and]
theorem law_row (hs0:1≤s) (hs:s≤32) (hn0:0≤n) (hn:n≤1000) (hWl:(W.length:Int)≤n) (hW:∀ k,k<W.length→W.getD k 0=ws.getD k 0) (hw:∀ k,0≤ws.getD k 0∧ws.getD k 0≤255) {y:Nat} (hy:y<s.toNat) {v14:Int×Int} (e14:v14.1=y) (j14:(Int×Int)→Option (Bool×Unit)) :
  loopF (law_MatrixModules_l6 fu (data,(s,())) ((s,(s,canon s s (pixM s n ws))),(0,())) n W v14 y j14) fu (cnt s y 0,(0:Int))=j14 (((y+1:Nat):Int),cnt s (y+1) 0):=by
 refine stLoop (n:=s.toNat) (st:=fun x=>(cnt s y x,(x:Int))) (by omega) rfl (fun j x hx=>?_) (fun j=>?_)
 ·have hc:=cnt_bd (s:=s) (by omega) hs (x:=x) (y:=y) (by omega) (by omega)
  have J7:∀ b c:Int,(b<2→pixM s n ws x y=decide (b=1))→law_MatrixModules_j7 fu ((s,(s,canon s s (pixM s n ws))),(0,())) y (cnt s y x,(x:Int)) x j (b,c)=j (c,((x+1:Nat):Int)):=by
   intro b c h;unfold law_MatrixModules_j7 law_MatrixModules_j8;simp only [joinF_eq];rw [wr64 (x:=(x:Int)+1) (by omega) (by omega)];by_cases q:b<2
   ·rw [bif_pos q,bit_m hf hs0 hs (by omega) (by omega) (by omega) (by omega),bindO_some,h q,bne_self_eq_false];rfl
   ·rw [bif_neg q];rfl
  unfold law_MatrixModules_l6 law_MatrixModules_j9;simp only [joinF_eq];rw [bif_pos (by omega),border_r fu (by omega) hs (by omega) (by omega) (by omega) (by omega),bindO_some];simp only
  cases hb:bdr s x y with
  | true =>
   have hp:pixM s n ws x y=drk s x y:=by unfold pixM;rw [hb];rfl
   have hc1:cnt s y (x+1)=cnt s y x:=by unfold cnt;rw [cx,hb];simp
   rw [if_pos rfl,hc1]
   cases hd:drk s x y with
   | true =>
    rw [if_pos rfl,bif_neg (by decide),J7 1 _ (fun _=>by rw [hp,hd];rfl)]
   | false =>
    rw [if_neg (by decide),bif_neg (by decide),J7 0 _ (fun _=>by rw [hp,hd];rfl)]
  | false =>
   have hp:pixM s n ws x y=(decide (cnt s y x<8*n)&&wbit ws (cnt s y x)):=by unfold pixM;rw [hb];rfl
   have hc1:cnt s y (x+1)=cnt s y x+1:=by unfold cnt;rw [cx,hb,cond_false];omega
   rw [if_neg (by decide),bif_pos rfl,wr64 (x:=8*n) (by omega) (by omega),wr64 (x:=cnt s y x+1) (by omega) (by omega),hc1];by_cases c:8*n≤cnt s y x
   ·rw [bif_pos c,J7 0 _ (fun _=>by rw [hp,decide_eq_false (show ¬ cnt s y x<8*n by omega)];rfl)]
   ·rw [bif_neg c,wr64 (x:=8*(W.length:Int)) (by omega) (by omega)];by_cases c2:cnt s y x<8*(W.length:Int)
    ·have h3:=hw (cnt s y x / 8).toNat;have h4:=hW (cnt s y x / 8).toNat (by omega);rw [bif_pos c2,Int.tdiv_eq_ediv_of_nonneg hc.1,Int.tmod_eq_emod_of_nonneg hc.1,wr64 (x:=cnt s y x / 8) (by omega) (by omega),wr64 (x:=7-cnt s y x % 8) (by omega) (by omega),bif_and (by omega) (by omega),bif_and (by omega) (by omega),h4,wr64 (x:=ws.getD (cnt s y x / 8).toNat 0) (by omega) (by omega),i64_bit h3.1 h3.2];rw [J7 _ _ (fun _=>by rw [hp,decide_eq_true (show cnt s y x<8*n by omega),Bool.true_and];rfl)]
    ·rw [bif_neg c2,J7 2 _ (fun h=>by omega)]
 ·unfold law_MatrixModules_l6;simp only [joinF_eq];rw [bif_neg (by omega),e14,wr64 (x:=(y:Int)+1) (by omega) (by omega)];have e1:cnt s (y+1) 0=cnt s y s.toNat:=by unfold cnt;rw [cy,cx];omega
  rw [e1,show ((y+1:Nat):Int)=(y:Int)+1 by omega]
theorem law_all (hs0:1≤s) (hs:s≤32) (hn0:0≤n) (hn:n≤1000) (hWl:(W.length:Int)≤n) (hW:∀ k,k<W.length→W.getD k 0=ws.getD k 0) (hw:∀ k,0≤ws.getD k 0∧ws.getD k 0≤255) :
  law_MatrixModules_j4 fu (data,(s,())) ((s,(s,canon s s (pixM s n ws))),(0,())) n W=some (true,()):=by
 unfold law_MatrixModules_j4;refine stLoop (n:=s.toNat) (st:=fun y=>((y:Int),cnt s y 0)) (by omega) rfl (fun j y hy=>?_) (fun j=>?_)
 ·unfold law_MatrixModules_l5;simp only;rw [bif_pos (by omega)];exact law_row hf hs0 hs hn0 hn hWl hW hw hy (by rfl) j
 ·unfold law_MatrixModules_l5;simp only;rw [bif_neg (by omega)]
end
end Mx
end Go.Proofs.Ytppigjemglokgaa
/- The residual programs stand elsewhere. -/
/- R.Corrected: the rows of its matrix. -/
set_option maxRecDepth 100000
namespace Go.Proofs.Ytppigjemglokgaa
open Go Go.RowKit
set_option linter.unusedSimpArgs false
set_option linter.unusedSectionVars false
set_option linter.unusedVariables false
namespace Gf
def tab {α:Type} (n:Nat) (f:Nat→α):List α:=(List.range n).map f
section
variable {α:Type} {n:Nat} {f g:Nat→α}
theorem tab_len:(tab n f).length=n:=by unfold tab;rw [List.length_map,List.length_range]
theorem tab_getElem {i:Nat} (h:i<(tab n f).length):(tab n f)[i]=f i:=by simp only [tab,List.getElem_map,List.getElem_range]
theorem tab_getD {i:Nat} {d:α} (h:i<n):(tab n f).getD i d=f i:=by
 rw [List.getD_eq_getElem?_getD,List.getElem?_eq_getElem (by rw [tab_len];exact h),Option.getD_some,tab_getElem]
theorem tab_congr (h:∀ i,i<n→f i=g i):tab n f=tab n g:=List.map_congr_left fun i hi=>by rw [h i (List.mem_range.1 hi)]
theorem tab_set {k:Nat} {v:α}:(tab n f).set k v=tab n fun i=>if i=k then v else f i:=by
 refine List.ext_getElem (by rw [List.length_set,tab_len,tab_len]) fun i h1 h2=>?_
 rw [List.getElem_set];by_cases e:k=i
 ·rw [if_pos e,tab_getElem,if_pos e.symm]
 ·rw [if_neg e,tab_getElem,tab_getElem,if_neg (Ne.symm e)]
theorem tab_app {v:α}:tab n f++[v]=tab (n+1) fun i=>if i=n then v else f i:=by
 unfold tab;rw [List.range_succ,List.map_append,List.map_singleton,if_pos rfl];congr 1;refine List.map_congr_left fun i hi=>?_
 have:=List.mem_range.1 hi;rw [if_neg (by omega)]
theorem tab_rep (v:α):List.replicate n v=tab n fun _=>v:=by
 refine List.ext_getElem (by rw [List.length_replicate,tab_len]) fun i h1 h2=>?_
 rw [List.getElem_replicate,tab_getElem]
end
def AR (xs:List (List Int)) (p:Nat) (A:Nat→Nat→Nat):List (List Int):=xs++tab p fun j=>nb (p+1) (A j)
def RW (p:Nat) (π:Nat→Nat):List (Int×Int):=tab p fun i=>(((p+π i:Nat):Int),((p+1:Nat):Int))
section
variable {p:Nat} {xs:List (List Int)} {A:Nat→Nat→Nat} {π:Nat→Nat}
theorem AR_get (hx:xs.length=p) {j:Nat} (hj:j<p):(AR xs p A).getD (p+j) []=nb (p+1) (A j):=by
 unfold AR;rw [List.getD_eq_getElem?_getD,List.getElem?_append_right (by omega),show p+j-xs.length=j by omega,←List.getD_eq_getElem?_getD,tab_getD hj]
theorem AR_set (hx:xs.length=p) {j:Nat} (hj:j<p) {g:Nat→Nat}:(AR xs p A).set (p+j) (nb (p+1) g)=AR xs p fun i=>if i=j then g else A i:=by
 unfold AR;rw [List.set_append_right _ _ (by omega),show p+j-xs.length=j by omega,tab_set];congr 1
 exact tab_congr fun i _=>by
  dsimp only;by_cases e:i=j
  ·rw [if_pos e,if_pos e]
  ·rw [if_neg e,if_neg e]
theorem AR_congr {B:Nat→Nat→Nat} (h:∀ j,j<p→∀ k,k≤p→A j k=B j k):AR xs p A=AR xs p B:=by
 unfold AR;rw [tab_congr fun j hj=>nb_congr fun k hk=>h j hj k (by omega)]
theorem RW_len:(RW p π).length=p:=tab_len
theorem RW_get {i:Nat} {d:Int×Int} (hi:i<p):(RW p π).getD i d=(((p+π i:Nat):Int),((p+1:Nat):Int)):=tab_getD hi
theorem RW_sw {c q:Nat} (hc:c<p) (hq:q<p):(((RW p π).set c ((RW p π).getD q (-1,0))).set q ((RW p π).getD c (-1,0)))=RW p fun i=>π (sw c q i):=by
 rw [RW_get hc,RW_get hq];unfold RW;rw [tab_set,tab_set];refine tab_congr fun i hi=>?_
 unfold sw;dsimp only;by_cases e:i=q
 ·rw [if_pos e];by_cases e':i=c
  ·rw [if_pos e',←e,e']
  ·rw [if_neg e',if_pos e]
 ·rw [if_neg e];by_cases e':i=c
  ·rw [if_pos e',if_pos e']
  ·rw [if_neg e',if_neg e',if_neg e]
end
abbrev RR:=Option (List Int×Bool×Unit)
section
variable {fu:Nat} (hf:18446744073709551616≤fu)
variable {p:Nat} {xs:List (List Int)} {A:Nat→Nat→Nat} {π:Nat→Nat}
include hf
theorem l14_r (hp:p≤16) (hx:xs.length=p) (hπ:∀ i,i<p→π i<p) (hA:∀ i,i<p→∀ k,k≤p→A i k<256) {i c f:Nat} (hi:i<p) (hc:c<p) (hne:π i≠π c) (hf1:f<256)
  {v5:Int×List (List Int)×List (Int×Int)} {v6 v7 v15 v16:Int} {v13:Int×List (List Int)} {v17:Bool×List (List Int)} (hS:List.set (List.set v5.2.2 (Int.toNat v6) (List.getD v5.2.2 (Int.toNat v7) (-1,0))) (Int.toNat v7) (List.getD v5.2.2 (Int.toNat v6) (-1,0))=RW p π) (e6:v6=c) (e15:v15=i) (e16:v16=f) (e17:v17.2=AR xs p A) (j14:(Int×List (List Int))→RR) :
  loopF (R_Corrected_l14 fu v5 v6 v7 v13 v15 v16 v17 j14) fu ((0:Int),v17.2)=j14 (v13.1,AR xs p fun j k=>if j=π i then A j k ^^^ mulN f (A (π c) k) else A j k):=by
 have hpi:=hπ i hi;have hpc:=hπ c hc;refine stLoop (n:=p+1) (st:=fun t=>((t:Int),AR xs p fun j k=>if j=π i∧k<t then A j k ^^^ mulN f (A (π c) k) else A j k)) (by omega) ?_ ?_ ?_
 ·rw [e17];exact congrArg (Prod.mk (0:Int)) (AR_congr fun j _ k _=>if_neg (by omega))
 ·intro j t ht;unfold R_Corrected_l14;simp only;rw [hS];subst e6 e15 e16;have hb1:(if True∧t<t then A (π i) t ^^^ mulN f (A (π c) t) else A (π i) t)=A (π i) t:=if_neg (by omega);have hb2:(if π c=π i∧t<t then A (π c) t ^^^ mulN f (A (π c) t) else A (π c) t)=A (π c) t:=if_neg (by omega);have ha1:=hA (π i) hpi t (by omega);have ha2:=hA (π c) hpc t (by omega);simp only [e17,Int.toNat_natCast,RW_len,RW_get hi,RW_get hc,AR_get hx hpi,AR_get hx hpc,nb_len,nb_getD ht,hb1,hb2,times_m hf hf1 ha2];simp (disch:=omega) only [joinF_eq,bindO_some,s_wr,s_td,s_tm,s_pos,s_neg,cond_true,cond_false,Bool.not_true,Bool.not_false,Bool.true_and,Bool.and_true,Bool.false_and,Bool.and_false,bne_self_eq_false,decide_true,decide_false,Int.toNat_natCast];rw [xor_c hf ha1 (mul_lt hf1),nb_set,AR_set hx hpi,show ((t:Int)+1)=((t+1:Nat):Int) by omega];refine congrArg (fun l=>j (((t+1:Nat):Int),l)) (AR_congr fun j' _ k hk=>?_);by_cases e:j'=π i
  ·rw [if_pos e];by_cases e2:k=t
   ·rw [if_pos e2,if_pos ⟨e,by omega⟩,e,e2]
   ·rw [if_neg e2];by_cases e3:k<t
    ·rw [if_pos ⟨trivial,e3⟩,if_pos ⟨e,by omega⟩,e]
    ·rw [if_neg (fun h=>e3 h.2),if_neg (fun h=>e3 (by omega)),e]
  ·rw [if_neg e,if_neg (fun h=>e h.1),if_neg (fun h=>e h.1)]
 ·intro j;unfold R_Corrected_l14;simp only;rw [hS];subst e6 e15 e16;simp only [e17,Int.toNat_natCast,RW_len,RW_get hi,RW_get hc,AR_get hx hpi,AR_get hx hpc,nb_len];rw [bif_neg (by omega)]
  exact congrArg (fun l=>j14 (v13.1,l)) (AR_congr fun j _ k hk=>by
   by_cases e:j=π i
   ·rw [if_pos ⟨e,by omega⟩,if_pos e]
   ·rw [if_neg (fun h=>e h.1),if_neg e])
theorem l10_r (hp:p≤16) (hx:xs.length=p) (hπ:∀ i,i<p→π i<p) (hA:∀ i,i<p→∀ k,k≤p→A i k<256) {c f:Nat} (hc:c<p) (hf1:f<256)
  {v5:Int×List (List Int)×List (Int×Int)} {v6 v7 v11:Int} {v9:List (List Int)} (hS:List.set (List.set v5.2.2 (Int.toNat v6) (List.getD v5.2.2 (Int.toNat v7) (-1,0))) (Int.toNat v7) (List.getD v5.2.2 (Int.toNat v6) (-1,0))=RW p π) (e6:v6=c) (e11:v11=f) (e9:v9=AR xs p A) (j5:(Int×List (List Int)×List (Int×Int))→RR) :
  loopF (R_Corrected_l10 fu v5 v6 v7 v9 v11 j5) fu ((0:Int),v9)=loopF (R_Corrected_l11 fu v5 v6 v7 j5) fu ((0:Int),AR xs p fun j k=>if j=π c then mulN (A j k) f else A j k):=by
 have hpc:=hπ c hc;refine stLoop (n:=p+1) (st:=fun t=>((t:Int),AR xs p fun j k=>if j=π c∧k<t then mulN (A j k) f else A j k)) (by omega) ?_ ?_ ?_
 ·rw [e9];exact congrArg (Prod.mk (0:Int)) (AR_congr fun j _ k _=>if_neg (by omega))
 ·intro j t ht;unfold R_Corrected_l10;simp only;rw [hS];subst e6 e11;have hb1:(if True∧t<t then mulN (A (π c) t) f else A (π c) t)=A (π c) t:=if_neg (by omega);have ha2:=hA (π c) hpc t (by omega);simp only [e9,Int.toNat_natCast,RW_len,RW_get hc,AR_get hx hpc,nb_len,nb_getD ht,hb1,times_m hf ha2 hf1];simp (disch:=omega) only [joinF_eq,bindO_some,s_wr,s_td,s_tm,s_pos,s_neg,cond_true,cond_false,Bool.not_true,Bool.not_false,Bool.true_and,Bool.and_true,Bool.false_and,Bool.and_false,bne_self_eq_false,decide_true,decide_false,Int.toNat_natCast];rw [nb_set,AR_set hx hpc,show ((t:Int)+1)=((t+1:Nat):Int) by omega];refine congrArg (fun l=>j (((t+1:Nat):Int),l)) (AR_congr fun j' _ k hk=>?_);by_cases e:j'=π c
  ·rw [if_pos e];by_cases e2:k=t
   ·rw [if_pos e2,if_pos ⟨e,by omega⟩,e,e2]
   ·rw [if_neg e2];by_cases e3:k<t
    ·rw [if_pos ⟨trivial,e3⟩,if_pos ⟨e,by omega⟩,e]
    ·rw [if_neg (fun h=>e3 h.2),if_neg (fun h=>e3 (by omega)),e]
  ·rw [if_neg e,if_neg (fun h=>e h.1),if_neg (fun h=>e h.1)]
 ·intro j;unfold R_Corrected_l10;simp only;rw [hS];subst e6 e11;simp only [e9,Int.toNat_natCast,RW_len,RW_get hc,AR_get hx hpc,nb_len];rw [bif_neg (by omega)]
  exact congrArg (fun l=>loopF (R_Corrected_l11 fu v5 (c:Int) v7 j5) fu ((0:Int),l)) (AR_congr fun j _ k hk=>by
   by_cases e:j=π c
   ·rw [if_pos ⟨e,by omega⟩,if_pos e]
   ·rw [if_neg (fun h=>e h.1),if_neg e])
def Rep (p:Nat) (A:Nat→Nat→Nat) (π:Nat→Nat) (M:Nat→Nat→Nat):Prop:=∀ i,i<p→∀ k,k≤p→A (π i) k=M i k
structure Prm (p:Nat) (π:Nat→Nat):Prop where
 lt:∀ i,i<p→π i<p
 inj:∀ i j,i<p→j<p→π i=π j→i=j
 sur:∀ j,j<p→∃ i,i<p∧π i=j
theorem Rep.lt {M:Nat→Nat→Nat} (h:Rep p A π M) (hπ:Prm p π) (hM:∀ i,i<p→∀ k,k≤p→M i k<256):∀ j,j<p→∀ k,k≤p→A j k<256:=by
 intro j hj k hk;obtain ⟨i,hi,rfl⟩:=hπ.sur j hj;rw [h i hi k hk];exact hM i hi k hk
theorem l11_r (hp:p≤16) (hx:xs.length=p) (hπ:Prm p π) {M:Nat→Nat→Nat} (hM:∀ i,i<p→∀ k,k≤p→M i k<256) (hR:Rep p A π M) {c:Nat} (hc:c<p)
  {v5:Int×List (List Int)×List (Int×Int)} {v6 v7:Int} (hS:List.set (List.set v5.2.2 (Int.toNat v6) (List.getD v5.2.2 (Int.toNat v7) (-1,0))) (Int.toNat v7) (List.getD v5.2.2 (Int.toNat v6) (-1,0))=RW p π) (e6:v6=c) (e5:v5.1=c) (j5:(Int×List (List Int)×List (Int×Int))→RR) :
  ∃ B,Rep p B π (fun i k=>if i=c then M i k else M i k ^^^ mulN (M i c) (M c k))∧loopF (R_Corrected_l11 fu v5 v6 v7 j5) fu ((0:Int),AR xs p A)=j5 (((c+1:Nat):Int),(AR xs p B,RW p π)):=by
 refine (foldLoop (f:=R_Corrected_l11 fu v5 v6 v7 j5) (n:=p) (fu:=fu) (by omega) (fun t s=>∃ B,Rep p B π (fun i k=>if i<t∧i≠c then M i k ^^^ mulN (M i c) (M c k) else M i k)∧s=AR xs p B)
  (fin:=fun s=>j5 (((c+1:Nat):Int),(s,RW p π))) (s0:=AR xs p A) ⟨A,fun i hi k hk=>(hR i hi k hk).trans (if_neg (by omega)).symm,rfl⟩ ?_ ?_).elim fun s ⟨⟨B,hB,hs⟩,hl⟩=>?_
 ·rintro j i s hi ⟨B,hB,rfl⟩
  have hpi:=hπ.lt i hi;have hpc:=hπ.lt c hc
  have hBl:∀ j,j<p→∀ k,k≤p→B j k<256:=Rep.lt hf hB hπ fun i hi k hk=>by
   split
   ·exact xlt (hM i hi k hk) (mul_lt (hM i hi c (by omega)))
   ·exact hM i hi k hk
  have hval:B (π i) c=M i c:=(hB i hi c (by omega)).trans (if_neg (by omega));have e51:IntKind.i64.wrap (((i:Nat):Int)+1)=((i+1:Nat):Int):=by rw [s_wr (by omega) (by omega)];omega
  have hcc:∀ k,k≤p→B (π c) k=M c k:=fun k hk=>(hB c hc k hk).trans (if_neg (fun h=>h.2 rfl))
  have keep:(i=c∨M i c=0)→Rep p B π (fun i' k=>if i'<i+1∧i'≠c then M i' k ^^^ mulN (M i' c) (M c k) else M i' k):=by
   intro h i' hi' k hk;refine (hB i' hi' k hk).trans ?_;dsimp only;by_cases e:i'=i
   ·subst e;rw [if_neg (by omega)];rcases h with h | h
    ·rw [if_neg (fun g=>g.2 h)]
    ·by_cases e2:i'=c
     ·rw [if_neg (fun g=>g.2 e2)]
     ·rw [if_pos ⟨by omega,e2⟩,h,zero_mul (hM c hc k hk),Nat.xor_zero]
   ·by_cases e2:i'<i∧i'≠c
    ·rw [if_pos e2,if_pos ⟨by omega,e2.2⟩]
    ·rw [if_neg e2,if_neg (fun g=>e2 ⟨by omega,g.2⟩)]
  unfold R_Corrected_l11;simp only;rw [hS];simp only [e6,Int.toNat_natCast,RW_len,RW_get hi,RW_get hc,AR_get hx hpi,AR_get hx hpc,nb_len];simp (disch:=omega) only [joinF_eq,bindO_some,s_wr,s_td,s_tm,s_pos,s_neg,cond_true,cond_false,Bool.not_true,Bool.not_false,Bool.true_and,Bool.and_true,Bool.false_and,Bool.and_false,bne_self_eq_false,decide_true,decide_false,Int.toNat_natCast];rw [nb_getD (show c<p+1 by omega),hval];have e50:IntKind.i64.wrap (((i:Nat):Int)+1)=(i:Int)+1:=s_wr (by omega) (by omega);by_cases e:i=c
  ·refine ⟨_,⟨B,keep (.inl e),rfl⟩,?_⟩;rw [bif_neg (by omega)];unfold R_Corrected_j13 R_Corrected_j12;simp only [cond_false,e50]
  rw [bif_pos (by omega)];by_cases e0:M i c=0
  ·refine ⟨_,⟨B,keep (.inr e0),rfl⟩,?_⟩;rw [show decide ((M i c:Int)≠0)=false from decide_eq_false (by omega)];unfold R_Corrected_j13 R_Corrected_j12;simp only [cond_false,e50]
  have hne:π i≠π c:=fun h=>e (hπ.inj i c hi hc h)
  refine ⟨AR xs p (fun j k=>if j=π i then B j k ^^^ mulN (M i c) (B (π c) k) else B j k),⟨_,?_,rfl⟩,?_⟩
  rotate_left
  ·have h14:=l14_r hf hp hx hπ.lt hBl hi hc hne (hM i hi c (by omega)) (v5:=v5) (v6:=(c:Int)) (v7:=v7) (v13:=((i:Int),AR xs p B)) (v15:=(i:Int)) (v16:=(M i c:Int)) (v17:=(decide ((M i c:Int)≠0),AR xs p B)) (by rw [e6] at hS;exact hS) rfl rfl rfl rfl (R_Corrected_j12 fu j);unfold R_Corrected_j13;simp only;rw [e6] at hS;rw [hS];simp only [Int.toNat_natCast,RW_len,RW_get hi,AR_get hx hpi,nb_len];have hz:((M i c:Nat):Int)≠0:=by omega
   rw [decide_eq_true hz] at h14 ⊢;rw [cond_true];simp (disch:=omega) only [joinF_eq,bindO_some,s_wr,s_td,s_tm,s_pos,s_neg,cond_true,cond_false,Bool.not_true,Bool.not_false,Bool.true_and,Bool.and_true,Bool.false_and,Bool.and_false,bne_self_eq_false,decide_true,decide_false,Int.toNat_natCast];simp only [h14];unfold R_Corrected_j12;simp only [e50]
  ·intro i' hi' k hk;dsimp only;by_cases e2:i'=i
   ·subst e2;rw [if_pos rfl,if_pos ⟨by omega,e⟩,hcc k hk,(hB i' hi' k hk).trans (if_neg (by omega))]
   ·have:π i'≠π i:=fun h=>e2 (hπ.inj i' i hi' hi h)
    rw [if_neg this,hB i' hi' k hk];dsimp only;by_cases e3:i'<i∧i'≠c
    ·rw [if_pos e3,if_pos ⟨by omega,e3.2⟩]
    ·rw [if_neg e3,if_neg (fun g=>e3 ⟨by omega,g.2⟩)]
 ·rintro j s ⟨B,hB,rfl⟩
  unfold R_Corrected_l11;simp only;rw [hS,RW_len,bif_neg (by omega),e5,s_wr (by omega) (by omega),show ((c:Int)+1)=((c+1:Nat):Int) by omega]
 ·refine ⟨B,fun i hi k hk=>?_,hl.trans (by rw [hs])⟩;rw [hB i hi k hk];dsimp only;by_cases e:i=c
  ·rw [if_pos e,if_neg (fun h=>h.2 e)]
  ·rw [if_neg e,if_pos ⟨hi,e⟩]
theorem Prm.sw (hπ:Prm p π) {c q:Nat} (hc:c<p) (hq:q<p):Prm p fun i=>π (sw c q i):=by
 refine ⟨fun i hi=>hπ.lt _ (sw_lt hc hq hi),fun i j hi hj h=>?_,fun j hj=>?_⟩
 ·have:=hπ.inj _ _ (sw_lt hc hq hi) (sw_lt hc hq hj) h;have h2:=congrArg (Gf.sw c q) this;rwa [sw_sw,sw_sw] at h2
 ·obtain ⟨i,hi,e⟩:=hπ.sur j hj;exact ⟨Gf.sw c q i,sw_lt hc hq hi,by rw [sw_sw];exact e⟩
theorem l8_r (hp:p≤16) (hx:xs.length=p) (hπ:Prm p π) {M:Nat→Nat→Nat} {y:Nat→Nat} (hy:∀ k,k<p→y k<256) {c:Nat} (hG:GI p c M y) (hR:Rep p A π M) (hc:c<p)
  {v5:Int×List (List Int)×List (Int×Int)} (e5:v5=((c:Int),(AR xs p A,RW p π))) (j3:(Bool×List (List Int)×List Int)→RR) (j5:(Int×List (List Int)×List (Int×Int))→RR) :
  ∃ B ρ N,Prm p ρ∧GI p (c+1) N y∧Rep p B ρ N∧loopF (R_Corrected_l8 fu v5 (c:Int) j3 j5) fu (c:Int)=j5 (((c+1:Nat):Int),(AR xs p B,RW p ρ)):=by
 obtain ⟨q0,hq0,hq1,hq2⟩:=hG.pivot hc;refine postLoop (f:=R_Corrected_l8 fu v5 (c:Int) j3 j5) (fun v:Int=>((p:Int)-v).toNat) (fun v=>∃ q:Nat,v=q∧c≤q∧q≤q0) (fun r=>∃ B ρ N,Prm p ρ∧GI p (c+1) N y∧Rep p B ρ N∧r=j5 (((c+1:Nat):Int),(AR xs p B,RW p ρ))) ?_ fu (c:Int) ⟨c,rfl,Nat.le_refl _,hq0⟩ (by omega)
 rintro j _ ⟨q,rfl,h1,h2⟩
 have hqp:q<p:=by omega
 have hpq:=hπ.lt q hqp;have hpc:=hπ.lt c hc;have hval:A (π q) c=M q c:=hR q hqp c (by omega);by_cases e0:M q c=0
 ·left
  have hne:q≠q0:=fun e=>hq2 (e ▸ e0)
  refine ⟨((q+1:Nat):Int),⟨q+1,rfl,by omega,by omega⟩,by omega,?_⟩;unfold R_Corrected_l8 R_Corrected_j9;subst e5;simp only [Int.toNat_natCast,RW_len,RW_get hqp,AR_get hx hpq,nb_len,nb_getD (show c<p+1 by omega),hval];simp (disch:=omega) only [joinF_eq,bindO_some,s_wr,s_td,s_tm,s_pos,s_neg,cond_true,cond_false,Bool.not_true,Bool.not_false,Bool.true_and,Bool.and_true,Bool.false_and,Bool.and_false,bne_self_eq_false,decide_true,decide_false,Int.toNat_natCast];rw [show ((q:Int)+1)=((q+1:Nat):Int) by omega]
 ·right
  obtain ⟨ρ,hρ⟩:∃ ρ:Nat→Nat,ρ=fun i=>π (sw c q i):=⟨_,rfl⟩
  have hS:List.set (List.set v5.2.2 (Int.toNat (c:Int)) (List.getD v5.2.2 (Int.toNat (q:Int)) (-1,0))) (Int.toNat (q:Int)) (List.getD v5.2.2 (Int.toNat (c:Int)) (-1,0))=RW p ρ:=by
   rw [e5];simp only [Int.toNat_natCast];rw [hρ];exact RW_sw hc hqp
  have hPr:Prm p ρ:=by rw [hρ];exact Prm.sw hf hπ hc hqp
  have hG1:=hG.swap hc h1 hqp;obtain ⟨M1,hM1⟩:∃ M1:Nat→Nat→Nat,M1=fun i=>M (sw c q i):=⟨_,rfl⟩
  have hG1:GI p c M1 y:=by rw [hM1];exact hG1
  have hR1:Rep p A ρ M1:=by rw [hρ,hM1];exact fun i hi k hk=>hR _ (sw_lt hc hqp hi) k hk
  have hswc:sw c q c=q:=if_pos rfl;have hMcc:M1 c c=M q c:=by rw [hM1];show M (sw c q c) c=_;rw [hswc]
  have hb:=hG1.b c hc c (by omega);obtain ⟨f,hf1,hf2,hinv⟩:=inverse_r hf hb (by rw [hMcc];exact e0);have hG2:=hG1.scale hy hc hf1 hf2;have hρc:=hPr.lt c hc;have hv2:A (ρ c) c=M1 c c:=hR1 c hc c (by omega);have hA:∀ j,j<p→∀ k,k≤p→A j k<256:=Rep.lt hf hR1 hPr hG1.b;have h10:=l10_r hf hp hx hPr.lt hA hc hf1 (v5:=v5) (v6:=(c:Int)) (v7:=(q:Int)) (v11:=(f:Int)) (v9:=AR xs p A) hS rfl rfl rfl j5
  have hR2:Rep p (fun j k=>if j=ρ c then mulN (A j k) f else A j k) ρ (fun i k=>if i=c then mulN (M1 i k) f else M1 i k):=by
   intro i hi k hk;dsimp only;by_cases e:i=c
   ·rw [e,if_pos rfl,if_pos rfl,hR1 c hc k hk]
   ·rw [if_neg (fun h=>e (hPr.inj i c hi hc h)),if_neg e,hR1 i hi k hk]
  obtain ⟨B,hB,h11⟩:=l11_r hf hp hx hPr hG2.b hR2 hc (v5:=v5) (v6:=(c:Int)) (v7:=(q:Int)) hS rfl (by rw [e5]) j5;refine ⟨B,ρ,_,hPr,hG2.elim hy hc (by show (if c=c then mulN (M1 c c) f else M1 c c)=1;rw [if_pos rfl];exact hf2),hB,?_⟩;rw [←h11,←h10];unfold R_Corrected_l8 R_Corrected_j9;simp only;rw [hS];have hlen:(List.set v5.2.2 (Int.toNat (c:Int)) (List.getD v5.2.2 (Int.toNat (q:Int)) (-1,0))).length=p:=by rw [List.length_set,e5];exact RW_len
  have hl2:v5.2.2.length=p:=by rw [e5];exact RW_len
  have hg2:v5.2.2.getD q (-1,0)=(((p+π q:Nat):Int),((p+1:Nat):Int)):=by rw [e5];exact RW_get hqp
  have ha2:v5.2.1=AR xs p A:=by rw [e5]
  rw [hlen];simp only [hl2,ha2,Int.toNat_natCast,hg2,RW_len,RW_get hc,AR_get hx hpq,AR_get hx hρc,nb_len,nb_getD (show c<p+1 by omega),hval,hv2,hinv];simp (disch:=omega) only [joinF_eq,bindO_some,s_wr,s_td,s_tm,s_pos,s_neg,cond_true,cond_false,Bool.not_true,Bool.not_false,Bool.true_and,Bool.and_true,Bool.false_and,Bool.and_false,bne_self_eq_false,decide_true,decide_false,Int.toNat_natCast]
end
end Gf
end Go.Proofs.Ytppigjemglokgaa
/- R.Corrected at the places of the check bytes. -/
set_option maxRecDepth 100000
namespace Go.Proofs.Ytppigjemglokgaa
open Go Go.RowKit
set_option linter.unusedSimpArgs false
set_option linter.unusedSectionVars false
set_option linter.unusedVariables false
namespace Gf
theorem bif5 {α:Type} {a b c d e:Prop} [Decidable a] [Decidable b] [Decidable c] [Decidable d] [Decidable e] {x y:α} (ha:a) (hb:b) (hc:c) (hd:d) (he:e):(bif (((decide a&&(decide b&&decide c))&&decide d)&&decide e) then x else y)=x:=by
 rw [decide_eq_true ha,decide_eq_true hb,decide_eq_true hc,decide_eq_true hd,decide_eq_true he];rfl
theorem nb_snoc {n:Nat} {f:Nat→Nat}:nb n f++[((f n:Nat):Int)]=nb (n+1) f:=by
 have:=nb_app (n:=n) (f:=f) (m:=1) (g:=fun _=>f n);rw [←nb_one] at this;rw [this];refine nb_congr fun k hk=>?_
 by_cases c:k<n
 ·rw [if_pos c]
 ·rw [if_neg c,show k=n by omega]
section
variable {fu:Nat} (hf:18446744073709551616≤fu)
variable {p d:Nat} {xs:List (List Int)} {A:Nat→Nat→Nat} {π:Nat→Nat} {dt y:Nat→Nat}
include hf
theorem l15_r (hp:p≤16) (hx:xs.length=p) (hπ:Prm p π) {N:Nat→Nat→Nat} (hR:Rep p A π N) (hN:∀ i,i<p→N i p=y i)
  {word places:List Int} (hpl:places.length=p) {v5:Int×List (List Int)×List (Int×Int)} {v6:List (List Int)} (e5:v5.2.2=RW p π) (e6:v6=AR xs p A) (j3:(Bool×List (List Int)×List Int)→RR) :
  loopF (R_Corrected_l15 fu (word,((p:Int),(places,()))) v5 v6 j3) fu ((0:Int),List.replicate p (0:Int))=j3 (true,(v6,nb p y)):=by
 refine stLoop (n:=p) (st:=fun t=>((t:Int),nb p fun k=>if k<t then y k else 0)) (by omega) ?_ ?_ ?_
 ·rw [nb_rep];exact congrArg (Prod.mk (0:Int)) (nb_congr fun k _=>if_neg (by omega))
 ·intro j i hi;have hpi:=hπ.lt i hi;have hval:A (π i) p=y i:=(hR i hi p (Nat.le_refl _)).trans (hN i hi);unfold R_Corrected_l15;simp only [e5,e6,hpl,Int.toNat_natCast,RW_len,RW_get hi,AR_get hx hpi,nb_len,nb_getD (show p<p+1 by omega),hval];simp (disch:=omega) only [joinF_eq,bindO_some,s_wr,s_td,s_tm,s_pos,s_neg,cond_true,cond_false,Bool.not_true,Bool.not_false,Bool.true_and,Bool.and_true,Bool.false_and,Bool.and_false,bne_self_eq_false,decide_true,decide_false,Int.toNat_natCast];unfold R_Corrected_j16;simp (disch:=omega) only [joinF_eq,bindO_some,s_wr,s_td,s_tm,s_pos,s_neg,cond_true,cond_false,Bool.not_true,Bool.not_false,Bool.true_and,Bool.and_true,Bool.false_and,Bool.and_false,bne_self_eq_false,decide_true,decide_false,Int.toNat_natCast];rw [nb_set,show ((i:Int)+1)=((i+1:Nat):Int) by omega];refine congrArg (fun l=>j (((i+1:Nat):Int),l)) (nb_congr fun k hk=>?_);by_cases e:k=i
  ·rw [if_pos e,if_pos (by omega),e]
  ·rw [if_neg e];by_cases e2:k<i
   ·rw [if_pos e2,if_pos (by omega)]
   ·rw [if_neg e2,if_neg (by omega)]
 ·intro j;unfold R_Corrected_l15;simp only [e5,RW_len];rw [bif_neg (by omega)];exact congrArg (fun l=>j3 (true,(v6,l))) (nb_congr fun k hk=>if_pos hk)
theorem l7_r (hp:p≤16) (hx:xs.length=p) {M:Nat→Nat→Nat} (hy:∀ k,k<p→y k<256) (hG:GI p 0 M y) (hR:Rep p A id M) {word places:List Int} (hpl:places.length=p) (j3:(Bool×List (List Int)×List Int)→RR) :
  ∃ ar,loopF (R_Corrected_l7 fu (word,((p:Int),(places,()))) j3) fu ((0:Int),(AR xs p A,RW p id))=j3 (true,(ar,nb p y)):=by
 refine (foldLoop (f:=R_Corrected_l7 fu (word,((p:Int),(places,()))) j3) (n:=p) (fu:=fu) (by omega) (fun c (s:List (List Int)×List (Int×Int))=>∃ B ρ N,Prm p ρ∧GI p c N y∧Rep p B ρ N∧s=(AR xs p B,RW p ρ))
  (fin:=fun s=>j3 (true,(s.1,nb p y))) (s0:=(AR xs p A,RW p id)) ⟨A,id,M,⟨fun _ h=>h,fun _ _ _ _ h=>h,fun j hj=>⟨j,hj,rfl⟩⟩,hG,hR,rfl⟩ ?_ ?_).elim fun s ⟨_,hl⟩=>⟨s.1,hl⟩
 ·rintro j c s hc ⟨B,ρ,N,h1,h2,h3,rfl⟩
  obtain ⟨B',ρ',N',g1,g2,g3,g4⟩:=l8_r hf hp hx h1 hy h2 h3 hc (v5:=((c:Int),(AR xs p B,RW p ρ))) rfl j3 j;refine ⟨(AR xs p B',RW p ρ'),⟨B',ρ',N',g1,g2,g3,rfl⟩,?_⟩;unfold R_Corrected_l7;simp only [hpl];rw [bif_pos (by omega),g4];rfl
 ·rintro j s ⟨B,ρ,N,h1,h2,h3,rfl⟩
  unfold R_Corrected_l7;simp only [hpl];rw [bif_neg (by omega),bif_and (by omega) (by omega),Int.toNat_natCast];exact l15_r hf hp hx h1 h3 (fun i hi=>h2.last hy hi) hpl rfl rfl j3
theorem l6_r (hp0:0<p) (hp:p≤16) {M:Nat→Nat→Nat} {word places:List Int} (hpl:places.length=p) {v1:List Int} (e1:v1=nb p fun i=>M i p) {v2:Int×List (List Int)×List (Int×Int)}
  (e2:v2.2=(tab p (fun i=>nb p (M i)),tab p fun i=>(((i:Nat):Int),(p:Int)))) (j3:(Bool×List (List Int)×List Int)→RR) :
  loopF (R_Corrected_l6 fu (word,((p:Int),(places,()))) v1 v2 j3) fu ((0:Int),(v2.2.1,List.replicate p ((-1:Int),(0:Int))))=loopF (R_Corrected_l7 fu (word,((p:Int),(places,()))) j3) fu ((0:Int),(AR (tab p fun i=>nb p (M i)) p M,RW p id)):=by
 have hx:(tab p fun i=>nb p (M i)).length=p:=tab_len;refine stLoop (n:=p) (st:=fun t=>((t:Int),((tab p (fun i=>nb p (M i)))++tab t (fun j=>nb (p+1) (M j)),tab p fun i=>if i<t then (((p+i:Nat):Int),((p+1:Nat):Int)) else ((-1:Int),(0:Int))))) (by omega) ?_ ?_ ?_
 ·rw [e2,tab_rep];show ((0:Int),(_++[],_))=_;rw [List.append_nil];exact congrArg (fun l=>((0:Int),(tab p (fun i=>nb p (M i)),l))) (tab_congr fun i _=>if_neg (by omega))
 ·intro j i hi
  have hg:(tab p (fun i=>nb p (M i))++tab i (fun j=>nb (p+1) (M j))).getD i []=nb p (M i):=by
   rw [List.getD_eq_getElem?_getD,List.getElem?_append_left (by rw [hx];exact hi),←List.getD_eq_getElem?_getD,tab_getD hi]
  have hl2:(tab p (fun i=>nb p (M i))++tab i (fun j=>nb (p+1) (M j))).length=p+i:=by rw [List.length_append,hx,tab_len]
  unfold R_Corrected_l6;simp only [e2,e1,Int.toNat_natCast,tab_len,tab_getD hi,hg,nb_len,List.nil_append,nb_getD hi,List.length_nil,List.length_append,List.length_singleton,List.length_cons,hx];simp (disch:=omega) only [joinF_eq,bindO_some,s_wr,s_td,s_tm,s_pos,s_neg,cond_true,cond_false,Bool.not_true,Bool.not_false,Bool.true_and,Bool.and_true,Bool.false_and,Bool.and_false,bne_self_eq_false,decide_true,decide_false,Int.toNat_natCast];rw [nb_snoc,tab_set,List.append_assoc,tab_app,show ((i:Int)+1)=((i+1:Nat):Int) by omega]
  have hA:(tab (i+1) fun k=>if k=i then nb (p+1) (M i) else nb (p+1) (M k))=tab (i+1) fun k=>nb (p+1) (M k):=tab_congr fun k _=>by
   by_cases e:k=i
   ·rw [if_pos e,e]
   ·rw [if_neg e]
  rw [hA];refine congrArg (fun (r:List (Int×Int))=>j (((i+1:Nat):Int),((tab p fun i=>nb p (M i))++tab (i+1) (fun k=>nb (p+1) (M k)),r))) (tab_congr fun k _=>?_)
  ·by_cases e:k=i
   ·rw [if_pos e,if_pos (by omega),e,Nat.zero_add]
   ·rw [if_neg e];by_cases e2:k<i
    ·rw [if_pos e2,if_pos (by omega)]
    ·rw [if_neg e2,if_neg (by omega)]
 ·intro j;unfold R_Corrected_l6;simp only [e2,tab_len];rw [bif_neg (by omega)];exact congrArg (fun (r:List (Int×Int))=>loopF (R_Corrected_l7 fu (word,((p:Int),(places,()))) j3) fu ((0:Int),(AR (tab p fun i=>nb p (M i)) p M,r))) (tab_congr fun k hk=>if_pos hk)
theorem l2_r (hp0:0<p) (hp:p≤16) {M:Nat→Nat→Nat} (hM:∀ i,i<p→∀ k,k<p→M i k=pw 2 (i*(p-1-k))) {word places:List Int} (hw:word.length=d+p) (hd:d≤255) (hpl:places=tab p fun k=>((d+k:Nat):Int)) {i:Nat} (hi:i<p) {v2:Int×List (List Int)×List (Int×Int)}
  (e1:v2.1=i) (e2:v2.2=(tab i (fun i=>nb p (M i)),tab p fun j=>if j<i then (((j:Nat):Int),(p:Int)) else ((-1:Int),(0:Int)))) (j2:(Int×List (List Int)×List (Int×Int))→RR) :
  loopF (R_Corrected_l2 fu (word,((p:Int),(places,()))) v2 (i:Int) j2) fu ((0:Int),v2.2)=j2 (((i+1:Nat):Int),(tab (i+1) (fun i=>nb p (M i)),tab p fun j=>if j<i+1 then (((j:Nat):Int),(p:Int)) else ((-1:Int),(0:Int)))):=by
 have hlp:places.length=p:=by rw [hpl];exact tab_len
 refine stLoop (n:=p) (st:=fun u=>((u:Int),(tab i (fun i=>nb p (M i))++(if u=0 then [] else [nb u (M i)]),tab p fun j=>if j<i then (((j:Nat):Int),(p:Int)) else if j=i∧0<u then (((i:Nat):Int),(u:Int)) else ((-1:Int),(0:Int))))) (by omega) ?_ ?_ ?_
 ·rw [e2];show ((0:Int),(_++[],_))=_;rw [List.append_nil];refine congrArg (fun l=>((0:Int),(tab i (fun i=>nb p (M i)),l))) (tab_congr fun k _=>?_);by_cases e:k<i
  ·rw [if_pos e,if_pos e]
  ·rw [if_neg e,if_neg e,if_neg (by omega)]
 ·intro j u hu;have hgp:places.getD u 0=((d+u:Nat):Int):=by rw [hpl];exact tab_getD hu
  have hb:i*(p-1-u)≤16*16:=Nat.mul_le_mul (by omega) (by omega)
  have ex:IntKind.i64.wrap ((i:Int)*IntKind.i64.wrap (IntKind.i64.wrap (((d+p:Nat):Int)-1)-((d+u:Nat):Int)))=((i*(p-1-u):Nat):Int):=by
   rw [s_wr (x:=((d+p:Nat):Int)-1) (by omega) (by omega),s_wr (x:=((d+p:Nat):Int)-1-((d+u:Nat):Int)) (by omega) (by omega),show ((d+p:Nat):Int)-1-((d+u:Nat):Int)=((p-1-u:Nat):Int) by omega,←Int.natCast_mul];generalize i*(p-1-u)=z at hb;exact s_wr (by omega) (by omega)
  have hex:R_Exp_r fu (((i*(p-1-u):Nat):Int),())=some (((M i u:Nat):Int),()):=by rw [hM i hi u hu];exact exp_r hf (by omega)
  have hgr:(tab p fun j=>if j<i then (((j:Nat):Int),(p:Int)) else if j=i∧0<u then (((i:Nat):Int),(u:Int)) else ((-1:Int),(0:Int))).getD i (-1,0)=if 0<u then (((i:Nat):Int),(u:Int)) else ((-1:Int),(0:Int)):=by
   rw [tab_getD hi,if_neg (by omega)];by_cases c:0<u
   ·rw [if_pos ⟨rfl,c⟩,if_pos c]
   ·rw [if_neg (fun h=>c h.2),if_neg c]
  have hlt:(tab i fun i=>nb p (M i)).length=i:=tab_len;unfold R_Corrected_l2 R_Corrected_j3;generalize hX:(140737488355328:Int)=X;generalize hY:(4294967296:Int)=Y;simp only [hlp,hw,Int.toNat_natCast,hgp,tab_len,ex,hgr];by_cases c:0<u
  ·simp only [if_pos c,if_neg (show ¬ u=0 by omega),Int.toNat_natCast]
   have hga:(tab i (fun i=>nb p (M i))++[nb u (M i)]).getD i []=nb u (M i):=by
    rw [List.getD_eq_getElem?_getD,List.getElem?_append_right (by omega),hlt,Nat.sub_self];rfl
   have hla:(tab i (fun i=>nb p (M i))++[nb u (M i)]).length=i+1:=by rw [List.length_append,hlt];rfl
   rw [bif_pos (by omega),joinF_eq,bif_and (by omega) (by omega),bif_and (by omega) (by omega),hex,bindO_some,bif_and (by omega) (by omega),bif5 (by omega) (by omega) (by rw [hga,nb_len]) (by rw [hla];omega) (by rw [hga,nb_len];simp only [List.length_cons,List.length_nil];omega),bif_and (by omega) (by omega)];simp only [hga];rw [s_wr (by omega) (by omega)]
   have hsa:((tab i fun i=>nb p (M i))++[nb u (M i)]).set i (nb (u+1) (M i))=(tab i fun i=>nb p (M i))++[nb (u+1) (M i)]:=by
    rw [List.set_append_right _ _ (by omega),hlt,Nat.sub_self];rfl
   rw [nb_snoc,hsa,tab_set,if_neg (show ¬ u+1=0 by omega),show ((u:Int)+1)=((u+1:Nat):Int) by omega];refine congrArg (fun (r:List (Int×Int))=>j (((u+1:Nat):Int),((tab i fun i=>nb p (M i))++[nb (u+1) (M i)],r))) (tab_congr fun k _=>?_);by_cases e:k=i
   ·rw [if_pos e,if_neg (by omega),if_pos ⟨e,by omega⟩];exact congrArg (Prod.mk _) (by simp only [List.length_cons,List.length_nil];omega)
   ·rw [if_neg e];by_cases e2:k<i
    ·rw [if_pos e2,if_pos e2]
    ·rw [if_neg e2,if_neg (fun h=>e h.1),if_neg e2,if_neg (fun h=>e h.1)]
  ·simp only [if_neg c,if_pos (show u=0 by omega)];rw [bif_pos (by omega),joinF_eq,bif_and (by omega) (by omega),bif_and (by omega) (by omega),hex,bindO_some,bif_nand (by omega),bif_pos (by simp only [List.length_cons,List.length_nil];omega),bif_and (by omega) (by omega),bif_and (by simp only [List.length_cons,List.length_nil];omega) (by rw [List.append_nil,hlt];omega)];simp only [List.append_nil,hlt,List.length_cons,List.length_nil];rw [s_wr (by omega) (by omega)];have hu0:u=0:=by omega
   subst hu0;have h1:nb (0+1) (M i)=[((M i 0:Nat):Int)]:=rfl;rw [tab_set,if_neg (show ¬ 0+1=0 by omega),h1];refine congrArg (fun (r:List (Int×Int))=>j (((0+1:Nat):Int),((tab i fun i=>nb p (M i))++[[((M i 0:Nat):Int)]],r))) (tab_congr fun k _=>?_);by_cases e:k=i
   ·rw [if_pos e,if_neg (by omega),if_pos ⟨e,by omega⟩]
   ·rw [if_neg e];by_cases e2:k<i
    ·rw [if_pos e2,if_pos e2]
    ·rw [if_neg e2,if_neg (fun h=>e h.1),if_neg e2,if_neg (fun h=>e h.1)]
 ·intro j;unfold R_Corrected_l2;simp only [hlp,e1]
  have hA:(tab p fun j=>if j<i then (((j:Nat):Int),(p:Int)) else if j=i∧0<p then (((i:Nat):Int),(p:Int)) else ((-1:Int),(0:Int)))=tab p fun j=>if j<i+1 then (((j:Nat):Int),(p:Int)) else ((-1:Int),(0:Int)):=tab_congr fun k _=>by
   by_cases e:k=i
   ·rw [if_neg (by omega),if_pos ⟨e,hp0⟩,if_pos (by omega),e]
   ·by_cases e2:k<i
    ·rw [if_pos e2,if_pos (by omega)]
    ·rw [if_neg e2,if_neg (fun h=>e h.1),if_neg (by omega)]
  have hB:(tab i fun i=>nb p (M i))++[nb p (M i)]=tab (i+1) fun i=>nb p (M i):=by
   rw [tab_app]
   exact tab_congr fun k _=>by
    by_cases e:k=i
    ·rw [if_pos e,e]
    ·rw [if_neg e]
  rw [bif_neg (by omega),s_wr (by omega) (by omega),if_neg (by omega),hA,hB];rfl
end
end Gf
end Go.Proofs.Ytppigjemglokgaa
/- The residual programs stand elsewhere. -/
/- What R.Corrected and R.Checks return. -/
set_option maxRecDepth 100000
namespace Go.Proofs.Ytppigjemglokgaa
open Go Go.RowKit
set_option linter.unusedSimpArgs false
set_option linter.unusedSectionVars false
set_option linter.unusedVariables false
namespace Gf
theorem sum_tail {d:Nat} {f:Nat→Nat}:∀ {p:Nat},(∀ j,d≤j→j<d+p→f j=0)→sum (d+p) f=sum d f
 | 0,_=>rfl
 | p+1,h=>by
  rw [show d+(p+1)=(d+p)+1 by omega,sum_succ,h (d+p) (by omega) (by omega),Nat.xor_zero];exact sum_tail fun j h1 h2=>h j h1 (by omega)
def mat (p d:Nat) (dt:Nat→Nat) (i k:Nat):Nat:=if k<p then pw 2 (i*(p-1-k)) else sum d (fun j=>mulN (dt j) (pw 2 (i*(d+p-1-j))))
def wz (d:Nat) (dt:Nat→Nat) (j:Nat):Nat:=if j<d then dt j else 0
def wc (d:Nat) (dt y:Nat→Nat) (j:Nat):Nat:=if j<d then dt j else y (j-d)
section
variable {fu:Nat} (hf:18446744073709551616≤fu)
variable {p d:Nat} {dt y:Nat→Nat}
include hf
theorem l1_r (hp0:0<p) (hp:p≤16) (hd0:d≤255) {v1:List Int} {word places:List Int} (hw:word.length=d+p) (hpl:places=tab p fun k=>((d+k:Nat):Int)) {M:Nat→Nat→Nat} (hM:∀ i,i<p→∀ k,k<p→M i k=pw 2 (i*(p-1-k))) (hy:∀ k,k<p→y k<256) (hG:GI p 0 M y) (e1:v1=nb p fun i=>M i p) :
  ∃ ar,loopF (R_Corrected_l1 fu (word,((p:Int),(places,()))) v1) fu ((0:Int),(([]:List (List Int)),List.replicate p ((-1:Int),(0:Int))))=R_Corrected_j4 fu (word,((p:Int),(places,()))) (true,(ar,nb p y)):=by
 have hlp:places.length=p:=by rw [hpl];exact tab_len
 have hx:(tab p fun i=>nb p (M i)).length=p:=tab_len;obtain ⟨ar,h7⟩:=l7_r hf hp hx hy hG (A:=M) (fun _ _ _ _=>rfl) hlp (R_Corrected_j4 fu (word,((p:Int),(places,()))));refine ⟨ar,?_⟩;rw [←h7];refine stLoop (n:=p) (st:=fun t=>((t:Int),(tab t (fun i=>nb p (M i)),tab p fun j=>if j<t then (((j:Nat):Int),(p:Int)) else ((-1:Int),(0:Int))))) (by omega) ?_ ?_ ?_
 ·rw [tab_rep];exact congrArg (fun l=>((0:Int),(([]:List (List Int)),l))) (tab_congr fun i _=>if_neg (by omega))
 ·intro j i hi;unfold R_Corrected_l1;simp only [Int.toNat_natCast,List.length_replicate];rw [bif_pos (by omega),l2_r hf hp0 hp hM hw hd0 hpl hi rfl rfl]
 ·intro j;unfold R_Corrected_l1;simp only [Int.toNat_natCast,List.length_replicate,hlp,tab_len];rw [bif_neg (by omega),bif_neg (by omega),joinF_eq,bif_and (by omega) (by omega)];exact l6_r hf hp0 hp hlp e1 (v2:=((p:Int),(tab p (fun i=>nb p (M i)),tab p fun j=>if j<p then (((j:Nat):Int),(p:Int)) else ((-1:Int),(0:Int))))) (congrArg (Prod.mk _) (tab_congr fun k hk=>if_pos hk)) _
theorem j4_r (hp:p≤16) (hd0:d≤255) (hd:∀ k,dt k<256) (hy:∀ k,k<p→y k<256) {places:List Int} (hpl:places=tab p fun k=>((d+k:Nat):Int)) (n:Int) (ar:List (List Int)) :
  R_Corrected_j4 fu (nb (d+p) (wz d dt),(n,(places,()))) (true,(ar,nb p y))=some (nb (d+p) (wc d dt y),(true,())):=by
 have hlp:places.length=p:=by rw [hpl];exact tab_len
 unfold R_Corrected_j4;simp only [Bool.not_true,cond_false,List.nil_append];rw [bif_pos (by rw [nb_len];simp only [List.length_nil];omega)];refine stLoop (n:=p) (st:=fun t=>((t:Int),nb (d+p) fun j=>if j<d then dt j else if j-d<t then y (j-d) else 0)) (by omega) ?_ ?_ ?_
 ·refine congrArg (Prod.mk (0:Int)) (nb_congr fun k hk=>?_);unfold wz;by_cases c:k<d
  ·rw [if_pos c,if_pos c]
  ·rw [if_neg c,if_neg c,if_neg (by omega)]
 ·intro j t ht;have hgp:places.getD t 0=((d+t:Nat):Int):=by rw [hpl];exact tab_getD ht
  have hv:(nb (d+p) fun j=>if j<d then dt j else if j-d<t then y (j-d) else 0).getD (d+t) 0=((0:Nat):Int):=by
   rw [nb_getD (by omega),if_neg (by omega),if_neg (by omega)]
  unfold R_Corrected_l5;simp only [hlp,Int.toNat_natCast,hgp,nb_len,nb_getD ht,hv];rw [bif_pos (by omega),bif_and (by omega) (by omega),bif_and (by omega) (by omega),bif_and (by omega) (by omega),bif_and (by omega) (by omega),s_wr (by omega) (by omega),xor_c hf (by omega) (hy t ht),Nat.zero_xor,nb_set,show ((t:Int)+1)=((t+1:Nat):Int) by omega];refine congrArg (fun l=>j (((t+1:Nat):Int),l)) (nb_congr fun k hk=>?_);by_cases e:k=d+t
  ·rw [if_pos e,if_neg (by omega),if_pos (by omega),e,Nat.add_sub_cancel_left]
  ·rw [if_neg e];by_cases c:k<d
   ·rw [if_pos c,if_pos c]
   ·rw [if_neg c,if_neg c];by_cases c2:k-d<t
    ·rw [if_pos c2,if_pos (by omega)]
    ·rw [if_neg c2,if_neg (by omega)]
 ·intro j;unfold R_Corrected_l5;simp only [hlp];rw [bif_neg (by omega)];refine congrArg (fun l=>some (l,(true,()))) (nb_congr fun k hk=>?_);unfold wc;by_cases c:k<d
  ·rw [if_pos c,if_pos c]
  ·rw [if_neg c,if_neg c,if_pos (by omega)]
theorem corr_r (hp0:0<p) (hp:p≤16) (hd0:d≤255) (hd:∀ k,dt k<256) {places:List Int} (hpl:places=tab p fun k=>((d+k:Nat):Int)) :
  R_Corrected_r fu (nb (d+p) (wz d dt),((p:Int),(places,())))=some (nb (d+p) (wc d dt (rest p d dt)),(true,())):=by
 have hwz:∀ k,wz d dt k<256:=fun k=>by
  unfold wz;split
  ·exact hd k
  ·decide
 have hG:GI p 0 (mat p d dt) (rest p d dt):=start hp0 hp hd (fun i hi k hk=>if_pos hk) (fun i hi=>if_neg (by omega))
 have hs:(nb p fun i=>sum (d+p) fun j=>mulN (wz d dt j) (pw 2 (i*(d+p-1-j))))=nb p fun i=>mat p d dt i p:=nb_congr fun i hi=>by
  have e1:sum (d+p) (fun j=>mulN (wz d dt j) (pw 2 (i*(d+p-1-j))))=sum d (fun j=>mulN (wz d dt j) (pw 2 (i*(d+p-1-j)))):=sum_tail fun j h1 h2=>by
   unfold wz;rw [if_neg (by omega),zero_mul (pw_lt (by decide) _)]
  rw [e1];unfold mat;rw [if_neg (by omega)];exact sum_congr fun j hj=>by unfold wz;rw [if_pos hj]
 obtain ⟨ar,h1⟩:=l1_r hf hp0 hp hd0 (word:=nb (d+p) (wz d dt)) (nb_len _ _) hpl (M:=mat p d dt) (fun i hi k hk=>if_pos hk) (fun k _=>rest_lt hd k) hG hs;unfold R_Corrected_r;simp only;rw [syn_r hf hwz (by omega) (by omega),bindO_some,bif_and (by omega) (by omega),Int.toNat_natCast];rw [h1];exact j4_r hf hp hd0 hd (fun k _=>rest_lt hd k) hpl _ ar
theorem checks_r (hp0:0<p) (hp:p≤16) (hd0:d≤255) (hd:∀ k,dt k<256):R_Checks_r fu (nb d dt,((p:Int),()))=some (nb p (rest p d dt),()):=by
 have hw:([]++nb d dt)++List.replicate p (0:Int)=nb (d+p) (wz d dt):=by
  rw [List.nil_append,nb_rep,nb_app];exact nb_congr fun k _=>rfl
 unfold R_Checks_r;simp only [List.nil_append,nb_len];rw [bif_pos (by simp only [List.length_nil];omega)]
 have hg:((decide ((0:Int)≤(p:Int)))&&((decide ((d:Int)≤(500000:Int)))&&(decide ((p:Int)≤(500000:Int)))))=true:=by
  rw [s_pos (by omega),s_pos (by omega),s_pos (by omega)];rfl
 rw [hg,cond_true];refine stLoop (n:=p) (st:=fun t=>((t:Int),tab t fun k=>((d+k:Nat):Int))) (by omega) rfl ?_ ?_
 ·intro j t ht;unfold R_Checks_l1;simp only [nb_len,tab_len];rw [bif_pos (by omega),bif_pos (by simp only [List.length_cons,List.length_nil];omega),s_wr (by omega) (by omega),s_wr (by omega) (by omega),show ((t:Int)+1)=((t+1:Nat):Int) by omega,show ((d:Int)+(t:Int))=((d+t:Nat):Int) by omega,tab_app];refine congrArg (fun l=>j (((t+1:Nat):Int),l)) (tab_congr fun k _=>?_);by_cases e:k=t
  ·rw [if_pos e,e]
  ·rw [if_neg e]
 ·intro j;unfold R_Checks_l1;simp only [nb_len,Int.toNat_natCast,List.nil_append];rw [List.nil_append] at hw;rw [bif_neg (by omega),hw,corr_r hf hp0 hp hd0 hd rfl,bindO_some];simp only [nb_len];rw [bif_neg (by omega),bif_and (by omega) (by omega)];refine congrArg (fun l=>some (l,())) (List.ext_getElem (by rw [List.length_drop,List.length_take,nb_len,nb_len];omega) fun i h1 h2=>?_);rw [List.getElem_drop,List.getElem_take,nb_getElem,nb_getElem];unfold wc;rw [if_neg (by omega),Nat.add_sub_cancel_left]
end
end Gf
end Go.Proofs.Ytppigjemglokgaa
/- MatrixModules: the law in plain words. -/
set_option maxRecDepth 100000
namespace Go.Proofs.Ytppigjemglokgaa
open Go Go.RowKit
set_option linter.unusedSimpArgs false
set_option linter.unusedSectionVars false
set_option linter.unusedVariables false
namespace Mx
open Gf
theorem bif_and3 {α:Type} {p q r:Prop} [Decidable p] [Decidable q] [Decidable r] {a b:α} (h1:p) (h2:q) (h3:r):(bif decide p&&(decide q&&decide r) then a else b)=a:=by
 rw [decide_eq_true h1,decide_eq_true h2,decide_eq_true h3];rfl
section
variable {fu:Nat} (hf:18446744073709551616≤fu) {s:Int} {data:List Int}
include hf
theorem law_j3 (h:sideOk s) (hb:∀ v ∈ data,0≤v∧v≤255) (hl:(data.length:Int)≤nA s-pA s-1) :
  law_MatrixModules_j3 fu (data,(s,())) ((s,(s,canon s s (pixM s (nA s) (wordL s data)))),(0,())) (nA s) (pA s) false=some (true,()):=by
 obtain ⟨d1,d2,d3,d4,d5,d6,d7,d8⟩:=dims h;have h1:=h.1.1;have h2:=h.1.2;have hpb:=plainL_bytes (d:=(nA s-pA s).toNat) hb (by omega);have hpl:=plainL_len (data:=data) (d:=(nA s-pA s).toNat) (by omega);have hdt:=byt_lt hpb;have hwl:=word_len hf h hl
 have hwb:∀ k,0≤(wordL s data).getD k 0∧(wordL s data).getD k 0≤255:=by
  intro k;refine Bytes.at (ds:=wordL s data) (fun v hv=>?_) k;unfold wordL at hv;rcases List.mem_append.1 hv with hv | hv
  ·exact hpb v hv
  ·exact nb_ge (fun k=>rest_lt hdt k) v hv
 have e1:((data.length:Int)+1)=((data.length+1:Nat):Int):=by omega
 unfold law_MatrixModules_j3;simp only [joinF_eq,cond_false];rw [wrap8 (by omega),wr64 (x:=nA s-pA s) (by omega) (by omega)];have eL:(([(data.length:Int)]++data).length:Int)=data.length+1:=by rw [List.length_append,List.length_cons,List.length_nil];omega
 rw [eL,wr64 (x:=nA s-pA s-((data.length:Int)+1)) (by omega) (by omega)];rw [bif_pos (by rw [List.length_cons,List.length_nil];omega),bif_and3 (by omega) (by omega) (by omega)];rw [show (nA s-pA s-((data.length:Int)+1)).toNat=(nA s-pA s).toNat-(data.length+1) by omega];rw [show [(data.length:Int)]++data++List.replicate ((nA s-pA s).toNat-(data.length+1)) (0:Int)=plainL data (nA s-pA s).toNat from rfl];by_cases c:s≤20
 ·have C:=Gf.checks_r hf (p:=(pA s).toNat) (d:=(nA s-pA s).toNat) (dt:=byt (plainL data (nA s-pA s).toNat)) (by omega) (by have:=d6 c;omega) (by omega) hdt
  rw [show nb (nA s-pA s).toNat (byt (plainL data (nA s-pA s).toNat))=plainL data (nA s-pA s).toNat by
   have:=nb_byt hpb;rw [hpl] at this
   exact this,Int.toNat_of_nonneg (show 0≤pA s by omega)] at C
  rw [bif_pos c,C,bindO_some];simp only;rw [bif_pos (by rw [hpl,nb_len];omega)];exact law_all hf (W:=wordL s data) (by omega) (by omega) (by omega) (by omega) (by omega) (fun _ _=>rfl) hwb
 ·rw [bif_neg c];refine law_all hf (W:=plainL data (nA s-pA s).toNat) (by omega) (by omega) (by omega) (by omega) (by rw [hpl];omega) (fun k hk=>?_) hwb;unfold wordL;rw [List.getD_eq_getElem?_getD,List.getD_eq_getElem?_getD,List.getElem?_append_left hk]
theorem none_t (e:Int):law_none_r fu (true,(e,(e,())))=some (true,()):=by
 unfold law_none_r;simp only [cond_true,decide_true]
theorem matrix_law (hw:law_matrixWorks_r fu ()=some (true,())) (hb:∀ v ∈ data,0≤v∧v≤255):law_MatrixModules_r fu (data,(s,()))=some (true,()):=by
 unfold law_MatrixModules_r;simp only [joinF_eq];rw [hw,bindO_some];simp only;rw [Bool.not_true,cond_false];by_cases h:sideOk s
 ·obtain ⟨d1,d2,d3,d4,d5,d6,d7,d8⟩:=dims h;have h1:=h.1.1;have h2:=h.1.2
  have J:∀ v1:(Int×Int×List Int)×Int×Unit,v1=((s,(s,canon s s (pixM s (nA s) (wordL s data)))),(0,()))∧(data.length:Int)≤nA s-pA s-1∨v1=((0,(0,[])),(2,()))∧nA s-pA s-1<(data.length:Int) →
    law_MatrixModules_j1 fu (data,(s,())) v1 v1.2.1 (nA s) (pA s) (nA s-pA s-1) 0 false=some (true,()):=by
   intro v1 hv;unfold law_MatrixModules_j1 law_MatrixModules_j2;simp only [joinF_eq,cond_false];rw [wr64 (x:=s-2) (by omega) (by omega),wr64 (x:=(s-2)*(s-2)) (by omega) (by omega),Int.tdiv_eq_ediv_of_nonneg d7,wr64 (x:=(s-2)*(s-2) / 8) (by omega) (by omega)];rw [show (s-2)*(s-2) / 8=nA s from rfl,Int.tdiv_eq_ediv_of_nonneg (a:=nA s) (by omega),wr64 (x:=nA s / 6) (by omega) (by omega),wr64 (x:=2*(nA s / 6)) (by omega) (by omega),show max 2 (2*(nA s / 6))=pA s by unfold pA;rw [Int.mul_comm],wr64 (x:=nA s-pA s) (by omega) (by omega),wr64 (x:=nA s-pA s-1) (by omega) (by omega)];rw [bif_neg (by simp),bif_neg (by simp),bif_neg (by simp),decide_eq_false (p:=nA s-pA s-1≠nA s-pA s-1) (by simp),cond_false];rcases hv with ⟨rfl,hl⟩ | ⟨rfl,hl⟩
   ·rw [bif_neg (by omega),bif_neg (by simp),bif_neg (by simp),bif_neg (by simp),bitsErr_r hf (canon_bytes _ _ _),bindO_some,canon_valid (by omega) (by omega) (by omega) (by omega)];exact law_j3 hf h hb hl
   ·rw [bif_pos hl,refused_r,bindO_some]
  have hwi:R_Within_r fu (s,(8,(32,())))=some (decide (8≤s)&&decide (s≤32),()):=within_r fu s 8 32;have ht:decide (Int.tmod s 2≠0)=false:=by rw [Int.tmod_eq_emod_of_nonneg (by omega)];exact decide_eq_false (fun q=>q h.2)
  by_cases hl:(data.length:Int)≤nA s-pA s-1
  ·rw [encode_good hf h hb hl,bindO_some,size_ok fu h,bindO_some,hwi,bindO_some];simp only;rw [decide_eq_true h1,decide_eq_true h2,Bool.true_and,Bool.not_true,cond_false,ht];exact J _ (.inl ⟨rfl,hl⟩)
  ·rw [encode_large hf h (by omega),bindO_some,size_ok fu h,bindO_some,hwi,bindO_some];simp only;rw [decide_eq_true h1,decide_eq_true h2,Bool.true_and,Bool.not_true,cond_false,ht];exact J _ (.inr ⟨rfl,by omega⟩)
 ·have J:law_MatrixModules_j1 fu (data,(s,())) ((0,(0,[])),(3,())) 3 0 0 0 3 true=some (true,()):=by
   unfold law_MatrixModules_j1;simp only [cond_true];rw [refused_r,bindO_some];simp only [cond_true];rw [bif_pos trivial,bif_pos trivial,decide_eq_true trivial,none_t hf,bindO_some]
  rw [encode_bad hf h,bindO_some,size_bad fu h,bindO_some,within_r fu s 8 32,bindO_some];simp only;by_cases c:8≤s∧s≤32
  ·rw [decide_eq_true c.1,decide_eq_true c.2,Bool.true_and,Bool.not_true,cond_false,Int.tmod_eq_emod_of_nonneg (by omega),decide_eq_true (p:=s % 2≠0) (fun q=>h ⟨c,q⟩)];exact J
  ·rw [show (decide (8≤s)&&decide (s≤32))=false by rw [←Bool.not_eq_true,Bool.and_eq_true,decide_eq_true_eq,decide_eq_true_eq];exact c,Bool.not_false,cond_true];exact J
end
end Mx
end Go.Proofs.Ytppigjemglokgaa
/- The step from a walk to a law's row,once for all laws of the seat: a law that returns true and leaves all that was there as it was. -/
namespace Go.Proofs.Ytppigjemglokgaa
open Go.ChangeShapes Go.WideShapes Go.ChangeAt Go.RowKit

theorem own:ownKnob Try.prog.godebug=none:=by kernel_rfl
theorem laidOut:laidOutB Try.prog=true:=by kernel_rfl
theorem boolT:Try.prog.underlying 4=some .bool:=Try.underlying4

theorem trodAll_stays {H:Type} {enc:TypeId×Value→H} {P:Program} (hl:laidOutB P=true) {W W':World} (hb:Below W.heap.size W W') :
  ∀ {ts:List TypeId} {vs:List Value} {ds:List (DataW H)} {ps:List MemPlace},(∀ t ∈ ts,P.readableRec t=true∧t<P.types.size)→DataW.TrodAll enc P W 0 (fun _=>true) true ts vs ds ps →
   (∀ x ∈ ps,x.block<W.heap.size)→DataW.TrodAll enc P W' 0 (fun b=>decide (b<W.heap.size)) true ts vs ds ps
 | [],[],[],_,_,h,_=>h
 | t::ts,v::vs,d::ds,_,hr,⟨p,q,h1,h2,e⟩,hlt =>
  ⟨p,q,Below.trod hl (hr t (by simp)).1 (hr t (by simp)).2 h1 hb (fun x hx=>hlt x (by rw [e];simp [hx])),
   trodAll_stays hl hb (fun t' ht=>hr t' (by simp [ht])) h2 (fun x hx=>hlt x (by rw [e];simp [hx])),e⟩
 | [],[],_::_,_,_,h,_=>h.elim
 | [],_::_,_,_,_,h,_=>h.elim
 | _::_,[],_,_,_,h,_=>h.elim
 | _::_,_::_,[],_,_,h,_=>h.elim

def readsAll (P:Program) (ts:List TypeId):Bool:=ts.all fun t=>P.readableRec t&&decide (t<P.types.size)
theorem readsAll_all {P:Program} {ts:List TypeId} (h:readsAll P ts=true):∀ t ∈ ts,P.readableRec t=true∧t<P.types.size:=by
 intro t ht;have:=List.all_eq_true.1 h t ht;simpa using this

theorem trodAll_length {H:Type} {enc:TypeId×Value→H} {P:Program} {W:World} {base:Nat} {spare:Nat→Bool} {held:Bool} :
  ∀ {ts:List TypeId} {vs:List Value} {ds:List (DataW H)} {ps:List MemPlace},DataW.TrodAll enc P W base spare held ts vs ds ps→ds.length=ts.length
 | [],[],[],_,_=>rfl
 | _::_,_::_,_::_,_,⟨_,_,_,h2,_⟩=>by simp [trodAll_length h2]
 | [],[],_::_,_,h=>h.elim
 | [],_::_,_,_,h=>h.elim
 | _::_,[],_,_,h=>h.elim
 | _::_,_::_,[],_,h=>h.elim

set_option maxRecDepth 100000 in
theorem law_lifted {os:Os} (started:os.Started) {H:Type} {enc:TypeId×Value→H} {f:FuncId} {fn:Func} {s:ChangeSpec}
  (noInit:Try.checked.prog.inits.idxOf? f=none) (hfn:Try.checked.prog.funcs[f]?=some fn)
  (witness:∃ (w:World) (tape:Tape) (i:Input),w.os=os∧(w.forCall tape i).Shaped Try.checked.prog∧i.vars=[]∧Input.okWide Try.checked.prog (w.forCall tape i) .any w.heap.size f i ∧
   s.pre6 enc Try.checked.prog fn [] false (w.forCall tape i).memory i.args∧({}:Assume).holds Try.checked.prog (lone (Frame.enter Try.checked.prog f i.args .normal) [] (w.forCall tape i)))
  (hvars:s.vars=[]) (hres:fn.resultTypes=#[4]) (hread:readsAll Try.prog fn.params.toList=true)
  (hspec:∀ ds:List (DataW H),ds.length=fn.params.toList.length→s.fn H ds={ results:=[.lit (.bool true)],args:=ds })
  (walk:∀ (W:World) (base:Nat) (args:List Value) (ds:List (DataW H)) (ps:List MemPlace),
   (∀ (j:Nat) t v,fn.params[j]?=some t→args[j]?=some v→Value.okWide Try.prog W .any base t v)→DataW.TrodAll enc Try.prog W 0 (fun _=>true) true fn.params.toList args ds ps →
   (DataW.weightsEach Try.prog fn.params.toList ds).all (·≤reachBytes)=true→(∀ x ∈ ps,x.block<W.heap.size) →
   Calls Try.prog f args.toArray W fun e W'=>e=.returned (.bool true)∧Below W.heap.size W W') :
  ReturnsInHanded {} Try.checked os f .any (s.pre6 enc Try.checked.prog fn [] false) (s.post enc Try.checked.prog fn false true false false):=by
 refine returnsInHanded_of_change_sized (C:=Try.checked) own started noInit hfn witness ?_;intro W base args ds gs before hval hW _ hsz _;have hW':=hW;obtain ⟨p,q,hA0,hV,rfl,hfz,hnd⟩:=hW;rw [hvars] at hV;obtain ⟨rfl,rfl⟩:=trodVars_none hV;have hA:DataW.TrodAll enc Try.prog W 0 (fun _=>true) true fn.params.toList args.toList ds p:=hA0;have hlen:ds.length=fn.params.toList.length:=trodAll_length hA;have hlt:∀ x ∈ p,x.block<W.heap.size:=fun x hx=>hW'.lt x (by simpa using hx)
 have hargs:args.toList.toArray=args:=by simp
 have hsz':(DataW.weightsEach Try.prog fn.params.toList ds).all (·≤reachBytes)=true:=by
  have h:=hsz;have hvt:s.plain.varTypes Try.checked.prog=[]:=by simp [DataSpec.varTypes,ChangeSpec.plain,hvars]
  rw [hvt] at h;simp only [List.append_nil] at h;exact h
 have hw:=walk W base args.toList ds p (fun j t v ht hv=>hval j t v ht (by simpa using hv)) hA hsz' hlt;rw [hargs] at hw;refine hw.mono fun e W' ⟨he,hb⟩=>⟨.bool true,he,?_⟩
 have hsf:s.fn H (ds++[])={ results:=[.lit (.bool true)],args:=ds }:=by rw [List.append_nil];exact hspec ds hlen
 refine ⟨ds,[],p++[],[],p,[],hW',?_,?_,?_,hb.frame _,fun h=>by cases h⟩
 ·rw [hsf,hres];exact trodAll_mk1 (shut_bool boolT true)
 ·rw [hsf];exact trodAll_stays laidOut hb (readsAll_all hread) hA hlt
 ·rw [hsf,hvars];rfl
end Go.Proofs.Ytppigjemglokgaa
/- Arguments opened: what slices and structs of numbers read as. -/
set_option maxRecDepth 100000
namespace Go.Proofs.Ytppigjemglokgaa
open Go.ChangeShapes Go.WideShapes Go.ChangeAt Go.RowKit Go.Deep

theorem choose_list {α:Type} {n:Nat} {Q:Nat→α→Prop} (h:∀ i,i<n→∃ p,Q i p):∃ l:List α,l.length=n∧∀ i p,l[i]?=some p→Q i p:=by
 induction n with
 | zero=>exact ⟨[],rfl,by intro i p hi;simp at hi⟩
 | succ n ih =>
  obtain ⟨l,hl,hq⟩:=ih (fun i hi=>h i (by omega));obtain ⟨p,hp⟩:=h n (by omega);refine ⟨l++[p],by simp [hl],fun i q hi=>?_⟩;rcases Nat.lt_trichotomy i n with hlt | rfl | hgt
  ·rw [List.getElem?_append_left (by omega)] at hi;exact hq i q hi
  ·rw [List.getElem?_append_right (by omega),hl] at hi;simp at hi;subst hi;exact hp
  ·rw [List.getElem?_eq_none (by simp;omega)] at hi;cases hi

section
variable {H:Type} {enc:TypeId×Value→H} {P:Program} {w:World} {base:Nat} {spare:Nat→Bool} {held:Bool}
theorem rd_slice {t e:TypeId} {fuel:Nat} {v:Value} {x:DataW H×List MemPlace} (ht:P.underlying t=some (.slice e)) (hc:0<P.cellsOf e) (h:DataW.trod enc P w base spare held fuel t [v]=some x) :
  ∃ A n c,v=.slice A n c∧n≤c∧c≤maxLen∧∀ i,i<n→∃ b o cs n' x',A=some ⟨b,o,none⟩∧cs.length=P.cellsOf e∧(∀ j u,cs[j]?=some u→w.cell? ⟨b,o+i*P.cellsOf e+j,none⟩=some u) ∧
   DataW.trod enc P w base spare held n' e cs=some x':=by
 rcases open_slice ht h with ⟨h0,_⟩ | ⟨a,len,cap,m,n',D,Pl,hcs,_,hl,hm,hmm,_,hi⟩
 ·simp at h0;subst h0;exact ⟨none,0,0,rfl,by omega,by unfold maxLen;omega,by intro i hi;omega⟩
 ·simp at hcs;subst hcs;refine ⟨some a,len,cap,rfl,hl,hm,fun i hil=>?_⟩
  have hlm:len≤m:=by rw [hmm];split <;> omega
  obtain ⟨cs,h1,h2⟩:=hi i (by omega);obtain ⟨hb,hlen,hat⟩:=World.cells?_some h1;obtain ⟨b,o,spot⟩:=a;have h00:=hat 0 (by omega)
  have hsp:spot=none:=by
   obtain ⟨cs0,g1,_⟩:=hi 0 (by omega);obtain ⟨_,gl,gat⟩:=World.cells?_some g1;have hx:=gat 0 (by omega);rw [List.getElem?_eq_getElem (by omega)] at hx;simpa [Addr.add] using World.cell?_spot hx
  subst hsp;refine ⟨b,o,cs,n',_,rfl,hlen,?_,h2⟩;intro j u hu;have hjl:j<P.cellsOf e:=by rw [←hlen];exact (List.getElem?_eq_some_iff.1 hu).1
  have:=hat j hjl;rw [hu,Addr.add_lit,Addr.add_lit] at this;exact this
end

end Go.Proofs.Ytppigjemglokgaa
/- Arguments opened,as abstract values. -/
set_option maxRecDepth 100000
namespace Go.Proofs.Ytppigjemglokgaa
open Go Go.ChangeShapes Go.WideShapes Go.ChangeAt Go.RowKit Go.Deep

section
variable {H:Type} {enc:TypeId×Value→H} {P:Program} {w:World} {base:Nat} {spare:Nat→Bool} {held:Bool}
abbrev RelC (w:World):AV→Value→Prop:=RelD w (fun _=>False) w.heap.size
def Reads {α:Type} (w:World) (sz:Nat) (ec:α→List AV) (Q:α→Prop) (cs:List Value):Prop :=
 ∃ p,Q p∧(ec p).length=sz∧∀ (j:Nat) (a:AV) (u:Value),(ec p)[j]?=some a→cs[j]?=some u→RelC w a u
theorem ro_slice {α:Type} (ec:α→List AV) (Q:α→Prop) {t e:TypeId} {sz fuel:Nat} {v:Value} {x:DataW H×List MemPlace} (ht:P.underlying t=some (.slice e)) (hz:P.cellsOf e=sz) (hc:0<sz)
  (hel:∀ (fuel:Nat) (cs:List Value) (x:DataW H×List MemPlace),cs.length=sz→DataW.trod enc P w base spare held fuel e cs=some x→Reads w sz ec Q cs) (h:DataW.trod enc P w base spare held fuel t [v]=some x) :
  ∃ xs:List α,(∀ p ∈ xs,Q p)∧RelC w (.ro false sz (xs.map ec)) v:=by
 subst hz;obtain ⟨A,n,c,rfl,hn,hm,hi⟩:=rd_slice ht hc h
 obtain ⟨xs,hl,hq⟩:=choose_list (Q:=fun i (p:α)=>Q p∧∃ (b o:Nat) (cs:List Value),A=some ⟨b,o,none⟩∧cs.length=P.cellsOf e∧(∀ (j:Nat) (u:Value),cs[j]?=some u→w.cell? ⟨b,o+i*P.cellsOf e+j,none⟩=some u)∧(ec p).length=P.cellsOf e∧∀ (j:Nat) (a:AV) (u:Value),(ec p)[j]?=some a→cs[j]?=some u→RelC w a u) (n:=n) (by
  intro i hil;obtain ⟨b,o,cs,n',x',hA,hlen,hat,htr⟩:=hi i hil;obtain ⟨p,h1,h2,h3⟩:=hel n' cs x' hlen htr
  exact ⟨p,h1,b,o,cs,hA,hlen,hat,h2,h3⟩)
 subst hl;refine ⟨xs,fun p hp=>?_,?_⟩
 ·obtain ⟨i,hi⟩:=List.mem_iff_getElem?.1 hp;exact (hq i p hi).1
 have key:∀ (i:Nat) (row:List AV) (j:Nat) (a:AV),(xs.map ec)[i]?=some row→row[j]?=some a→∃ b o u,A=some ⟨b,o,none⟩∧w.cell? ⟨b,o+i*P.cellsOf e+j,none⟩=some u∧RelC w a u:=by
  intro i row j a hr ha;rw [List.getElem?_map] at hr;obtain ⟨p,hp,rfl⟩:=Option.map_eq_some_iff.1 hr;obtain ⟨_,b,o,cs,hA,hlen,hat,hel,hrel⟩:=hq i p hp;have hj:j<cs.length:=by rw [hlen,←hel];exact (List.getElem?_eq_some_iff.1 ha).1
  have hu:cs[j]?=some cs[j]:=List.getElem?_eq_getElem hj;exact ⟨b,o,cs[j],hA,hat j _ hu,hrel j a _ ha hu⟩
 have hcon:=RelD.ro (w:=w) (own:=fun _=>False) (bs:=w.heap.size) false (P.cellsOf e) (xs.map ec) A c (fun i j=>match A with
  | some ⟨b,o,_⟩=>(w.cell? ⟨b,o+i*P.cellsOf e+j,none⟩).getD undef
  | none=>undef) (by simpa using hn) hm (fun i hi hA=>by
   have hi:i<xs.length:=by simpa using hi
   obtain ⟨_,b,o,_,h1,_⟩:=hq i xs[i] (List.getElem?_eq_getElem hi)
   rw [hA] at h1;cases h1) (fun i row j a hr ha=>by
   obtain ⟨b,o,u,hA,hu,_⟩:=key i row j a hr ha;subst hA
   exact ⟨b,o,rfl,fun h=>h.elim,(fun h=>by cases h),by simp [hu]⟩) (fun i row j a hr ha=>by
   obtain ⟨b,o,u,hA,hu,hr⟩:=key i row j a hr ha;subst hA
   simpa [hu] using hr)
 rw [List.length_map] at hcon;exact hcon
end
theorem AF.yes {P:Program} {F:FuncId} {xs:List AV} {vs:Array Value} {w:World} (h:AF P F xs (.bool true)) (ha:ArgsV w (Gh.none w.heap.size) xs vs):Calls P F vs w fun e w'=>e=.returned (.bool true)∧Below w.heap.size w w' :=
 (h.out w vs ha).mono fun e w' ⟨v,he,hb,hv⟩=>⟨by rw [he,hv.bool'],hb⟩
end Go.Proofs.Ytppigjemglokgaa
/- Arguments of any type,opened by one theorem;the last step of a law that a residual program answers. -/
set_option maxRecDepth 100000
namespace Go.Proofs.Ytppigjemglokgaa
open Go Go.ChangeShapes Go.WideShapes Go.ChangeAt Go.RowKit Go.Deep

def Ty.wf:(t:Ty)→t.den→Prop
 | .int k,n=>(Lit.int k n).wf=true
 | .bool,_=>True
 | .str,s=>List.length s≤maxLen
 | .list t,xs=>List.length xs≤maxLen∧∀ x ∈ (xs:List t.den),t.wf x
 | .unit,_=>True
 | .pair a b,x=>a.wf x.1∧b.wf x.2
 | .agg t,x=>t.wf x
 | .aix,_=>False
 | .ptr _,_=>False
def prB (t:Ty) (f:Ty→Ty→Bool):Bool:=match t with
 | .pair x y=>f x y
 | _=>false
def unB (t:Ty):Bool:=match t with
 | .unit=>true
 | _=>false
theorem prB_ok {t:Ty} {f:Ty→Ty→Bool} (h:prB t f=true):∃ x y,t=.pair x y∧f x y=true:=by
 unfold prB at h;split at h
 ·exact ⟨_,_,rfl,h⟩
 ·cases h
theorem unB_ok {t:Ty} (h:unB t=true):t=.unit:=by
 unfold unB at h;split at h
 ·rfl
 ·cases h
def fsB (g:TypeId→Ty→Bool):List Field→Nat→Ty→Bool
 | [],_,t=>unB t
 | [a],o,t=>Nat.beq a.offset o&&g a.type t
 | a::b::l,o,t=>prB t fun x y=>Nat.beq a.offset o&&g a.type x&&fsB g (b::l) (o+x.size) y
def arB (g:Ty→Bool):Nat→Ty→Bool
 | 0,t=>unB t
 | 1,t=>g t
 | n+2,t=>prB t fun x y=>g x&&arB g (n+1) y
def intB (k:IntKind) (t:Ty):Bool:=match t with
 | .int k'=>decide (k'=k)
 | _=>false
def boolB (t:Ty):Bool:=match t with
 | .bool=>true
 | _=>false
def strB (t:Ty):Bool:=match t with
 | .str=>true
 | _=>false
def sliceB (g:Ty→Bool) (t:Ty):Bool:=match t with
 | .list t'=>g t'&&Nat.blt 0 t'.size
 | _=>false
def tyB (P:Program):Nat→TypeId→Ty→Bool
 | 0,_,_=>false
 | f+1,tid,t=>Nat.beq (P.cellsOf tid) t.size&&(match P.underlying tid with
  | some (.int k)=>intB k t
  | some .bool=>boolB t
  | some .string=>strB t
  | some (.slice e)=>sliceB (tyB P f e) t
  | some (.struct ⟨fs⟩)=>fsB (tyB P f) fs 0 t
  | some (.array n e)=>arB (tyB P f e) n t
  | _=>false)
section
variable {H:Type} {enc:TypeId×Value→H} {P:Program} {w:World} {base:Nat} {spare:Nat→Bool} {held:Bool}
abbrev ReadsT (w:World) (t:Ty) (cs:List Value):Prop:=Reads w t.size (t.cells false) t.wf cs
theorem tyB_size {f:Nat} {tid:TypeId} {t:Ty} (h:tyB P f tid t=true):P.cellsOf tid=t.size:=by
 cases f with
 | zero=>cases h
 | succ f=>rw [tyB,Bool.and_eq_true] at h;exact Nat.eq_of_beq_eq_true h.1
theorem ReadsT.pair {a b:Ty} {c d:List Value} (h:ReadsT w a c) (k:ReadsT w b d) (hl:c.length=a.size):ReadsT w (.pair a b) (c++d):=by
 obtain ⟨x,x1,x2,x3⟩:=h;obtain ⟨y,y1,y2,y3⟩:=k;refine ⟨(x,y),⟨x1,y1⟩,Ty.cells_length _ _ _,fun j v u hv hu=>?_⟩;rw [Ty.cells] at hv;by_cases hj:j<a.size
 ·rw [List.getElem?_append_left (by rw [x2];exact hj)] at hv;rw [List.getElem?_append_left (by omega)] at hu;exact x3 j v u hv hu
 ·rw [List.getElem?_append_right (by rw [x2];omega),x2] at hv;rw [List.getElem?_append_right (by omega),hl] at hu;exact y3 _ v u hv hu
theorem ReadsT.unit:ReadsT w .unit []:=⟨(),trivial,rfl,fun j a u h _=>by simp [Ty.cells] at h⟩
theorem fs_reads {g:TypeId→Ty→Bool} (hg:∀ (tid:TypeId) (t:Ty) (n:Nat) (cs:List Value) (x:DataW H×List MemPlace),g tid t=true→cs.length=t.size→DataW.trod enc P w base spare held n tid cs=some x→ReadsT w t cs) (hsz:∀ tid t,g tid t=true→P.cellsOf tid=t.size) {cs:List Value} :
  ∀ (l:List Field) (o:Nat) (t:Ty),fsB g l o t=true→(∀ a ∈ l,∃ n y,DataW.trod enc P w base spare held n a.type ((cs.drop a.offset).take (P.cellsOf a.type))=some y)→o+t.size≤cs.length→ReadsT w t ((cs.drop o).take t.size)
 | [],o,t,h,_,_=>by
  rw [unB_ok h,show Ty.unit.size=0 from rfl,List.take_zero];exact .unit
 | [a],o,t,h,hr,hl=>by
  rw [fsB,Bool.and_eq_true] at h;obtain ⟨n,y,hy⟩:=hr a (by simp);rw [Nat.eq_of_beq_eq_true h.1,hsz _ _ h.2] at hy;exact hg _ _ n _ y h.2 (by rw [List.length_take,List.length_drop];omega) hy
 | a::b::l,o,t,h,hr,hl=>by
  obtain ⟨x,y,rfl,h'⟩:=prB_ok h;clear h;have h:=h';clear h';rw [Bool.and_eq_true,Bool.and_eq_true] at h;obtain ⟨n,z,hz⟩:=hr a (by simp);rw [Nat.eq_of_beq_eq_true h.1.1,hsz _ _ h.1.2] at hz;have hs:(Ty.pair x y).size=x.size+y.size:=rfl;rw [hs] at hl;have h1:=hg _ _ n _ z h.1.2 (by rw [List.length_take,List.length_drop];omega) hz;have h2:=fs_reads hg hsz (b::l) (o+x.size) y h.2 (fun a ha=>hr a (List.mem_cons_of_mem _ ha)) (by omega);rw [hs,List.take_add,List.drop_drop];exact h1.pair h2 (by rw [List.length_take,List.length_drop];omega)
theorem ar_reads {g:Ty→Bool} {e:TypeId} (hg:∀ (t:Ty) (n:Nat) (cs:List Value) (x:DataW H×List MemPlace),g t=true→cs.length=t.size→DataW.trod enc P w base spare held n e cs=some x→ReadsT w t cs) (hsz:∀ t,g t=true→P.cellsOf e=t.size) {cs:List Value} :
  ∀ (k o:Nat) (t:Ty),arB g k t=true→(∀ i,i<k→∃ n y,DataW.trod enc P w base spare held n e ((cs.drop (o+i*P.cellsOf e)).take (P.cellsOf e))=some y)→o+t.size≤cs.length→ReadsT w t ((cs.drop o).take t.size)
 | 0,o,t,h,_,_=>by
  rw [unB_ok h,show Ty.unit.size=0 from rfl,List.take_zero];exact .unit
 | 1,o,t,h,hr,hl=>by
  rw [arB] at h;obtain ⟨n,y,hy⟩:=hr 0 (by omega);rw [hsz _ h,Nat.zero_mul,Nat.add_zero] at hy;exact hg _ n _ y h (by rw [List.length_take,List.length_drop];omega) hy
 | k+2,o,t,h,hr,hl=>by
  obtain ⟨x,y,rfl,h'⟩:=prB_ok h;clear h;have h:=h';clear h';rw [Bool.and_eq_true] at h;obtain ⟨n,z,hz⟩:=hr 0 (by omega);rw [hsz _ h.1,Nat.zero_mul,Nat.add_zero] at hz;have hs:(Ty.pair x y).size=x.size+y.size:=rfl;rw [hs] at hl;have h1:=hg _ n _ z h.1 (by rw [List.length_take,List.length_drop];omega) hz
  have h2:=ar_reads hg hsz (k+1) (o+x.size) y h.2 (fun i hi=>by
   obtain ⟨n,z,hz⟩:=hr (i+1) (by omega);refine ⟨n,z,?_⟩
   rw [←hz,←hsz _ h.1,Nat.add_mul,Nat.one_mul,Nat.add_assoc,Nat.add_comm (P.cellsOf e)]) (by omega)
  rw [hs,List.take_add,List.drop_drop];exact h1.pair h2 (by rw [List.length_take,List.length_drop];omega)
theorem ro_len {own:Nat→Prop} {bs sz:Nat} {fr:Bool} {rows:List (List AV)} {v:Value} (h:RelD w own bs (.ro fr sz rows) v):rows.length≤maxLen:=by
 cases h with
 | ro fr sz rows A c f hc hm h0 h1 h2=>omega
theorem one_cell {cs:List Value} (h:cs.length=1):∃ u,cs=[u]:=by match cs,h with | [u],_=>exact ⟨u,rfl⟩
theorem reads_ty:∀ (f:Nat) (tid:TypeId) (t:Ty) (n:Nat) (cs:List Value) (x:DataW H×List MemPlace),tyB P f tid t=true→cs.length=t.size→DataW.trod enc P w base spare held n tid cs=some x→ReadsT w t cs
 | 0,_,_,_,_,_,h,_,_=>by cases h
 | f+1,tid,t,n,cs,x,h,hl,hx=>by
  have hsize:=tyB_size h;rw [tyB,Bool.and_eq_true] at h;obtain ⟨_,h⟩:=h;split at h
  ·rename_i k hu;unfold intB at h;split at h
   ·have hk:=of_decide_eq_true h;subst hk;obtain ⟨m,rfl,_,hwf⟩:=DataW.trod_int hu hx;refine ⟨m,hwf,rfl,fun j a u ha hu=>?_⟩
    match j with
    | 0=>simp [Ty.cells] at ha hu;subst ha;subst hu;exact .int _ _
    | j+1=>simp [Ty.cells] at ha
   ·cases h
  ·rename_i hu;unfold boolB at h;split at h
   ·obtain ⟨m,rfl,_⟩:=DataW.trod_bool hu hx;refine ⟨m,trivial,rfl,fun j a u ha hu=>?_⟩
    match j with
    | 0=>simp [Ty.cells] at ha hu;subst ha;subst hu;exact .bool _
    | j+1=>simp [Ty.cells] at ha
   ·cases h
  ·rename_i hu;unfold strB at h;split at h
   ·obtain ⟨s,rfl,_,hs⟩:=DataW.trod_string hu hx;refine ⟨s.data.toList,by rw [Ty.wf,Array.length_toList];exact hs,rfl,fun j a u ha hu=>?_⟩
    match j with
    | 0=>simp [Ty.cells] at ha hu;subst ha;subst hu;exact .str _
    | j+1=>simp [Ty.cells] at ha
   ·cases h
  ·rename_i e hu;unfold sliceB at h;split at h
   ·rename_i _ t' _;rw [Bool.and_eq_true] at h;have hpos:0<t'.size:=Nat.le_of_ble_eq_true h.2;obtain ⟨v,rfl⟩:=one_cell hl;obtain ⟨xs,hw,hr⟩:=ro_slice (t'.cells false) t'.wf hu (tyB_size h.1) hpos (fun m cs x hl hx=>reads_ty f e t' m cs x h.1 hl hx) hx;refine ⟨xs,⟨?_,hw⟩,rfl,fun j a u ha hu=>?_⟩
    ·have:=ro_len hr;rw [List.length_map] at this;exact this
    match j with
    | 0=>simp [Ty.cells] at ha hu;subst ha;subst hu;exact hr
    | j+1=>simp [Ty.cells] at ha
   ·cases h
  ·rename_i fs hu;obtain ⟨xs,m,_,_,_,hxl,hat⟩:=DataW.trod_struct hu hx
   have:=fs_reads (cs:=cs) (fun tid t n cs x h1 h2 h3=>reads_ty f tid t n cs x h1 h2 h3) (fun tid t h=>tyB_size h) fs 0 t h (fun a ha=>by
    obtain ⟨i,hi⟩:=List.mem_iff_getElem?.1 ha;have hi':i<xs.length:=by rw [hxl];exact (List.getElem?_eq_some_iff.1 hi).1
    exact ⟨m,_,by rw [hat i a (by simpa using hi),List.getElem?_eq_getElem hi']⟩) (by omega)
   rw [List.drop_zero,List.take_of_length_le (by omega)] at this;exact this
  ·rename_i k e hu;obtain ⟨xs,m,_,_,_,hxl,hat⟩:=DataW.trod_array hu hx
   have:=ar_reads (cs:=cs) (e:=e) (fun t n cs x h1 h2 h3=>reads_ty f e t n cs x h1 h2 h3) (fun t h=>tyB_size h) k 0 t h (fun i hi=>by
    have hi':i<xs.length:=by rw [hxl];exact hi
    exact ⟨m,_,by rw [Nat.zero_add,hat i hi,List.getElem?_eq_getElem hi']⟩) (by omega)
   rw [List.drop_zero,List.take_of_length_le (by omega)] at this;exact this
  ·cases h
def aggP (P:Program) (tid:TypeId):Bool:=match P.underlying tid with
 | some (.struct _)=>true
 | some (.array _ _)=>true
 | _=>false
def cellP (P:Program) (tid:TypeId):Bool:=match P.underlying tid with
 | some (.int _)=>true
 | some .bool=>true
 | some .string=>true
 | some (.slice _)=>true
 | _=>false
def argB (P:Program) (tid:TypeId) (a:Ty):Bool:=match a with
 | .agg t=>tyB P 9 tid t&&aggP P tid
 | .int k=>tyB P 9 tid (.int k)&&cellP P tid
 | .bool=>tyB P 9 tid .bool&&cellP P tid
 | .str=>tyB P 9 tid .str&&cellP P tid
 | .list t=>tyB P 9 tid (.list t)&&cellP P tid
 | _=>false
def argsB (P:Program):List TypeId→Ty→Bool
 | [],t=>unB t
 | tid::l,t=>prB t fun a b=>argB P tid a&&argsB P l b
theorem okWide_arr {n b:Nat} {r:Go.Reach} {t e:TypeId} {v:Value} (ht:P.underlying t=some (.array n e)) (h:Value.okWide P w r b t v):∃ cs,v=.agg cs∧cs.size=P.cellsOf t:=by
 simp only [Value.okWide,ht] at h;obtain ⟨cs,h1,h2,_⟩:=h;exact ⟨cs,h1,h2⟩
theorem arg_agg {tid:TypeId} {t:Ty} {v:Value} {d:DataW H} {p:List MemPlace} {b:Nat} (h:tyB P 9 tid t=true) (ha:aggP P tid=true) (hv:Value.okWide P w .any b tid v) (hd:DataW.Trod enc P w base spare held tid v d p):∃ x:t.den,t.wf x∧RelV w (Gh.none w.heap.size) (.agg (t.cells false x)) v:=by
 obtain ⟨cs,rfl,hs⟩:∃ cs,v=.agg cs∧cs.size=P.cellsOf tid:=by
  unfold aggP at ha;split at ha
  ·rename_i h1;exact okWide_struct h1 hv
  ·rename_i h1;exact okWide_arr h1 hv
  ·cases ha
 obtain ⟨n,hd⟩:=hd;have hl:cs.toList.length=t.size:=by rw [←tyB_size h,←hs];simp
 obtain ⟨x,x1,x2,x3⟩:=reads_ty 9 tid t n cs.toList _ h hl hd;exact ⟨x,x1,.agg _ _ (by rw [x2,←hl];simp) fun i a u ha hu=>.dat (x3 i a u ha (by simpa using hu))⟩
theorem arg_cell {tid:TypeId} {t:Ty} {v:Value} {d:DataW H} {p:List MemPlace} {b:Nat} (h:tyB P 9 tid t=true) (hc:cellP P tid=true) (h1:t.size=1) (hv:Value.okWide P w .any b tid v) (hd:DataW.Trod enc P w base spare held tid v d p):∃ x:t.den,t.wf x∧∀ a,(t.cells false x)[0]?=some a→RelV w (Gh.none w.heap.size) a v:=by
 have hd:∃ n,DataW.trod enc P w base spare held n tid [v]=some (d,p):=by
  unfold cellP at hc;split at hc
  ·rename_i hu;obtain ⟨m,rfl⟩:=okWide_int hu hv;exact hd
  ·rename_i hu;obtain ⟨m,rfl⟩:=okWide_bool hu hv;exact hd
  ·rename_i hu;obtain ⟨m,rfl⟩:=okWide_string hu hv;exact hd
  ·rename_i hu;obtain ⟨a,n,c,rfl⟩:=okWide_slice hu hv;exact hd
  ·cases hc
 obtain ⟨n,hd⟩:=hd;obtain ⟨x,x1,x2,x3⟩:=reads_ty 9 tid t n [v] _ h (by rw [h1];rfl) hd;exact ⟨x,x1,fun a ha=>.dat (x3 0 a v ha rfl)⟩
theorem arg_ty {tid:TypeId} {v:Value} {d:DataW H} {p:List MemPlace} {b:Nat}:∀ {a:Ty},argB P tid a=true→Value.okWide P w .any b tid v→DataW.Trod enc P w base spare held tid v d p→∃ x:a.den,a.wf x∧RelV w (Gh.none w.heap.size) (a.av false x) v
 | .agg t,h,hv,hd=>by
  rw [argB,Bool.and_eq_true] at h;obtain ⟨x,h1,h2⟩:=arg_agg h.1 h.2 hv hd;exact ⟨x,h1,by rw [Ty.av];exact h2⟩
 | .int k,h,hv,hd=>by
  rw [argB,Bool.and_eq_true] at h;obtain ⟨x,h1,h2⟩:=arg_cell h.1 h.2 rfl hv hd;exact ⟨x,h1,h2 _ rfl⟩
 | .bool,h,hv,hd=>by
  rw [argB,Bool.and_eq_true] at h;obtain ⟨x,h1,h2⟩:=arg_cell h.1 h.2 rfl hv hd;exact ⟨x,h1,h2 _ rfl⟩
 | .str,h,hv,hd=>by
  rw [argB,Bool.and_eq_true] at h;obtain ⟨x,h1,h2⟩:=arg_cell h.1 h.2 rfl hv hd;exact ⟨x,h1,h2 _ rfl⟩
 | .list t,h,hv,hd=>by
  rw [argB,Bool.and_eq_true] at h;obtain ⟨x,h1,h2⟩:=arg_cell h.1 h.2 rfl hv hd;exact ⟨x,h1,h2 _ rfl⟩
 | .unit,h,_,_=>by cases h
 | .pair _ _,h,_,_=>by cases h
 | .ptr _,h,_,_=>by cases h
inductive RelsV (w:World) (G:Gh):List AV→List Value→Prop
 | nil:RelsV w G [] []
 | cons {a:AV} {v:Value} {l:List AV} {m:List Value} (h:RelV w G a v) (k:RelsV w G l m):RelsV w G (a::l) (v::m)
theorem RelsV.args {G:Gh} {l:List AV} {m:List Value} (h:RelsV w G l m):ArgsV w G l m.toArray:=by
 induction h with
 | nil=>exact ⟨rfl,fun i a v ha hv=>by simp at ha⟩
 | cons h k ih =>
  refine ⟨by have:=ih.size;simp at this ⊢;exact this,fun i a v ha hv=>?_⟩
  cases i with
  | zero=>simp at ha hv;subst ha;subst hv;exact h
  | succ i=>exact ih.rel i a v (by simpa using ha) (by simpa using hv)
theorem args_ty {b:Nat}:∀ {ts:List TypeId} {σ:Ty} {vs:List Value} {ds:List (DataW H)} {ps:List MemPlace},argsB P ts σ=true→(∀ (j:Nat) t v,ts[j]?=some t→vs[j]?=some v→Value.okWide P w .any b t v)→DataW.TrodAll enc P w base spare held ts vs ds ps→∃ x:σ.den,σ.wf x∧RelsV w (Gh.none w.heap.size) (σ.avs false x) vs
 | [],σ,vs,ds,ps,h,_,hA=>by
  obtain ⟨rfl,rfl,rfl⟩:=trodAll_nil hA;have e:=unB_ok h;subst e;exact ⟨(),trivial,.nil⟩
 | tid::l,σ,vs,ds,ps,h,hv,hA=>by
  obtain ⟨v,vs,d,ds,p,q,rfl,rfl,rfl,h0,r0⟩:=trodAll_cons hA;obtain ⟨a,c,rfl,h'⟩:=prB_ok h;clear h;have h:=h';clear h';rw [Bool.and_eq_true] at h;obtain ⟨x,x1,x2⟩:=arg_ty h.1 (hv 0 tid v rfl rfl) h0;obtain ⟨y,y1,y2⟩:=args_ty h.2 (fun j t u ht hu=>hv (j+1) t u (by simpa using ht) (by simpa using hu)) r0;exact ⟨(x,y),⟨x1,y1⟩,by rw [Ty.avs];exact .cons x2 y2⟩
end
theorem law_any {H:Type} {enc:TypeId×Value→H} {F:Nat} {ts:List TypeId} {σ:Ty} {f:Nat→σ.den→Option (Bool×Unit)} {nm:Nat} (hc:CtrOk Try.prog F ⟨σ,.pair .bool .unit,f,nm⟩) (hB:argsB Try.prog ts σ=true) (hp:∀ x:σ.den,σ.wf x→f FU x=some (true,())) {W:World} {b:Nat} {args:List Value} {ds:List (DataW H)} {ps:List MemPlace}
  (hv:∀ (j:Nat) t v,ts[j]?=some t→args[j]?=some v→Value.okWide Try.prog W .any b t v) (hA:DataW.TrodAll enc Try.prog W 0 (fun _=>true) true ts args ds ps) :
  Calls Try.prog F args.toArray W fun e W'=>e=.returned (.bool true)∧Below W.heap.size W W':=by
 obtain ⟨x,hx,hr⟩:=args_ty hB hv hA;exact AF.yes (hc FU x (true,()) (hp x hx)) hr.args
theorem fu_le:18446744073709551616≤FU:=Nat.le_refl _
end Go.Proofs.Ytppigjemglokgaa
/- The examples of the matrix codes hold. -/
namespace Go.Proofs.Ytppigjemglokgaa
open Go Go.RowKit
set_option maxRecDepth 100000
theorem matrixWorks_true:law_matrixWorks_r FU ()=some (true,()):=by kernel_rfl
theorem wf_u8 {x:Int} (h:(Lit.int .u8 x).wf=true):0≤x∧x≤255:=by
 unfold Lit.wf at h;simpa [IntKind.min,IntKind.max,IntKind.signed,IntKind.bits] using h
end Go.Proofs.Ytppigjemglokgaa
/- MatrixModules: for every input this law returns true and leaves its arguments as they were. -/
namespace Go.Proofs.Ytppigjemglokgaa
open Go.ChangeShapes Go.WideShapes Go.ChangeAt Go.RowKit

set_option maxRecDepth 100000 in
theorem matrixModules_lifted (os:Os) (started:os.Started) (H:Type) (enc:TypeId×Value→H) :
  ReturnsInHanded {} Try.checked os 3 .any (Rows.matrixModulesSpec.pre6 enc Try.prog Try.f3 Rows.matrixModulesRow.domain false) (Rows.matrixModulesSpec.post enc Try.prog Try.f3 false true false false):=by
 refine law_lifted started (by kernel_rfl) Try.func3
  (ChangeSpec.witness6 (enc:=enc) (C:=Try.checked) false ⟨#[],#[.slice none 0 0,.int .i64 0],[]⟩ 8 (by kernel_rfl) (by kernel_rfl) (by kernel_rfl) (by kernel_rfl)) rfl rfl (by kernel_rfl)
  (fun ds h=>by rw [Try.params3] at h;match ds,h with | [_,_],_=>rfl) ?_
 intro W base args ds ps hval hA hsz hlt;rw [Try.params3] at hA hval;exact law_any law_MatrixModules_ok (by kernel_rfl) (fun x hx=>Mx.matrix_law fu_le matrixWorks_true (fun v hv=>⟨(wf_u8 (hx.1.2 v hv)).1,(wf_u8 (hx.1.2 v hv)).2⟩)) (fun j t v ht hv=>hval j t v (by simpa using ht) hv) hA

theorem matrixModules_holds:Rows.MatrixModulesSaid :=
 OpenClaim.holds_of_wide 3 Try.f3 rfl rfl rfl rfl rfl rfl rfl ⟨rfl,rfl,rfl,rfl,rfl⟩ rfl rfl rfl rfl rfl (by kernel_rfl) Try.func3 (by kernel_rfl)
  (of_decide_eq_true (by kernel_rfl)) (by unfold Func.isWrapper;first | (rw [if_pos (by decide +kernel)];kernel_rfl) | (rw [if_neg (by decide +kernel)];exact ⟨rfl,rfl⟩))
  (fun os started H enc _=>matrixModules_lifted os started H enc)
end Go.Proofs.Ytppigjemglokgaa
