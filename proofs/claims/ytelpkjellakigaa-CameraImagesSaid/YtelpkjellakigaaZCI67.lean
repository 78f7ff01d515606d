/- CameraImages: for every input this law returns true and leaves its arguments as they were. -/
import Derived.Test.YtelpkjellakigaaZCI66
import Derived.Test.YtelpkjellakigaaRows
import Derived.WalkKit
import Derived.ProofKit
import Derived.SizedLaws
import Derived.BigQuiet
import Derived.Deep.QuietTactic
import Derived.Deep.Slices
import Derived.OpenShut
import Derived.Conc.Holds
/- CameraImages: turned pictures. -/
namespace Go.Proofs.Ytelpkjellakigaa
open Go Go.RowKit
set_option linter.unusedSimpArgs false
set_option linter.unusedSectionVars false
set_option linter.unusedVariables false
section
variable {fu:Nat} (hf:18446744073709551616≤fu) {w h:Int} {β:Type}
include hf
theorem row_spec {y:Int} {F:Int→Int→Bool} {f:(Int×List Int→Option β)→Int×List Int→Option β} {out:Int×List Int→Option β} (hw0:0<w) (hw1:w≤1024) (hy0:0≤y) (hy1:y<h) (hh1:h≤1024)
  (h1:∀ (j:Int×List Int→Option β) (x:Int) (ds:List Int),0≤x→x<w→f j (x,ds)=bif F x y then markF fu w y x ds (fun d=>j (x+1,d)) else j (x+1,ds))
  (h2:∀ (j:Int×List Int→Option β) (x:Int) (ds:List Int),w≤x→f j (x,ds)=out (y+1,ds)) :
  loopF f fu (0,canon w h (fun a b=>F a b&&decide (b<y)))=out (y+1,canon w h (fun a b=>F a b&&decide (b<y+1))):=by
 refine loopF_spec (fun v=>(w-v.1).toNat) (fun v=>0≤v.1∧v.1≤w∧v.2=canon w h (fun a b=>F a b&&(decide (b<y)||(decide (b=y)&&decide (a<v.1))))) (fun _=>out (y+1,canon w h (fun a b=>F a b&&decide (b<y+1)))) ?_ fu (0,_) ⟨by omega,by simp only;omega,?_⟩ (by simp only;omega)
 ·rintro j ⟨x,ds⟩ ⟨k0,k1,kv⟩ ih
  simp only at k0 k1;have kv:ds=canon w h (fun a b=>F a b&&(decide (b<y)||(decide (b=y)&&decide (a<x)))):=kv;subst kv;by_cases hx:x<w
  ·rw [h1 j x _ k0 hx]
   cases hF:F x y with
   | true =>
    simp only [cond_true];rw [markF_eq fu k0 hx hw1 hy0 hy1 hh1];refine ih (x+1,_) ⟨by simp only;omega,by simp only;omega,?_⟩ (by simp only;omega);refine canon_congr hw0 fun a b _ _ _ _=>?_
    by_cases e:a=x∧b=y
    ·obtain ⟨rfl,rfl⟩:=e;simp [hF];omega
    ·have:(decide (b<y)||(decide (b=y)&&decide (a<x+1)))=(decide (b<y)||(decide (b=y)&&decide (a<x))):=by
      rw [Bool.eq_iff_iff];simp only [Bool.or_eq_true,Bool.and_eq_true,decide_eq_true_eq];omega
     simp only;rw [this];have e2:(decide (a=x)&&decide (b=y))=false:=by rw [←Bool.not_eq_true,Bool.and_eq_true,decide_eq_true_eq,decide_eq_true_eq];exact e
     rw [e2,Bool.or_false]
   | false =>
    simp only [cond_false];refine ih (x+1,_) ⟨by simp only;omega,by simp only;omega,?_⟩ (by simp only;omega);refine canon_congr hw0 fun a b _ _ _ _=>?_
    by_cases e:a=x∧b=y
    ·obtain ⟨rfl,rfl⟩:=e;simp [hF]
    ·have:(decide (b<y)||(decide (b=y)&&decide (a<x+1)))=(decide (b<y)||(decide (b=y)&&decide (a<x))):=by
      rw [Bool.eq_iff_iff];simp only [Bool.or_eq_true,Bool.and_eq_true,decide_eq_true_eq];omega
     simp only;rw [this]
  ·rw [h2 j x _ (by omega)];congr 2;refine canon_congr hw0 fun a b _ ha _ _=>?_
   have:(decide (b<y)||(decide (b=y)&&decide (a<x)))=decide (b<y+1):=by
    rw [Bool.eq_iff_iff];simp only [Bool.or_eq_true,Bool.and_eq_true,decide_eq_true_eq];omega
   rw [this]
 ·refine canon_congr hw0 fun a b ha _ _ _=>?_
  rw [decide_eq_false (show ¬ a<0 by omega),Bool.and_false,Bool.or_false]
theorem all_spec {F:Int→Int→Bool} {f:(Int×List Int→Option β)→Int×List Int→Option β} {fin:List Int→Option β} (hw0:0<w) (hh0:0<h)
  (h1:∀ (j:Int×List Int→Option β) (y:Int),0≤y→y<h→f j (y,canon w h (fun a b=>F a b&&decide (b<y)))=j (y+1,canon w h (fun a b=>F a b&&decide (b<y+1))))
  (h2:∀ (j:Int×List Int→Option β) (y:Int) (ds:List Int),h≤y→f j (y,ds)=fin ds) (hh1:h≤1024) :
  loopF f fu (0,List.replicate (strd w*h).toNat 0)=fin (canon w h F):=by
 rw [←canon_zero w h (P:=fun _ _=>false) (fun _ _=>rfl)];refine loopF_spec (fun v=>(h-v.1).toNat) (fun v=>0≤v.1∧v.1≤h∧v.2=canon w h (fun a b=>F a b&&decide (b<v.1))) (fun _=>fin (canon w h F)) ?_ fu (0,_) ⟨by omega,by omega,?_⟩ (by simp only;omega)
 ·rintro j ⟨y,ds⟩ ⟨k0,k1,hd⟩ ih
  simp only at k0 k1 hd;by_cases hy:y<h
  ·rw [hd,h1 j y k0 hy];exact ih (y+1,_) ⟨by simp only;omega,by simp only;omega,rfl⟩ (by simp only;omega)
  ·rw [h2 j y ds (by omega),hd];congr 1;refine canon_congr hw0 fun a b _ _ _ hb=>?_
   rw [decide_eq_true (show b<y by omega),Bool.and_true]
 ·refine canon_congr hw0 fun a b _ _ hb _=>?_
  rw [decide_eq_false (show ¬ b<0 by omega),Bool.and_false]
end
def inB (w h:Int) (P:Int→Int→Bool) (x y:Int):Bool:=decide (0≤x∧x<w∧0≤y∧y<h)&&P x y
theorem is_c (fu:Nat) {w h:Int} (hw0:0≤w) (hw1:w≤1024) (hh0:0≤h) (hh:h≤1024) (P:Int→Int→Bool) (x y:Int):bitmap_Is_r fu ((w,(h,canon w h P)),(x,(y,())))=some (inB w h P x y,()):=by
 rw [is_r fu hw0 hw1 hh (canon_len hw0 hh0 _) (canon_bytes _ _ _),canon_pix hw0];rfl
theorem onL_set {n:Nat} {G:Int→Bool} {k:Int} (h0:0≤k) (h1:k<n):(onL n (fun i=>G i&&decide (i<k))).set k.toNat (G k)=onL n (fun i=>G i&&decide (i<k+1)):=by
 refine List.ext_getElem (by rw [List.length_set,onL_length,onL_length]) fun q g1 g2=>?_
 rw [List.getElem_set];have hq:q<n:=by rw [onL_length] at g2;exact g2
 have get:∀ (G':Int→Bool) (hh:q<(onL n G').length),(onL n G')[q]=G' q:=by
  intro G' hh;simp only [onL,List.getElem_map,List.getElem_range]
 rw [get,get];split
 ·rename_i e;subst e;rw [Int.toNat_of_nonneg h0,decide_eq_true (by omega),Bool.and_true]
 ·by_cases g:(q:Int)<k
  ·rw [decide_eq_true g,decide_eq_true (by omega)]
  ·rw [decide_eq_false g,decide_eq_false (by omega)]
theorem onL_none {n:Nat} {G:Int→Bool} (h:∀ i,0≤i→G i=false):onL n G=List.replicate n false:=by
 refine List.ext_getElem (by rw [onL_length,List.length_replicate]) fun q g1 g2=>?_
 simp only [onL,List.getElem_map,List.getElem_range,List.getElem_replicate];exact h _ (by omega)
theorem onL_congr {n:Nat} {G G':Int→Bool} (h:∀ i:Int,0≤i→i<(n:Int)→G i=G' i):onL n G=onL n G':=List.map_congr_left fun i hi=>h i (by omega) (by have:=List.mem_range.1 hi;omega)
def srcI (w h k x y:Int):Int:=if k % 4=0 then x else if k % 4=1 then y else if k % 4=2 then w-1-x else w-1-y
def srcJ (w h k x y:Int):Int:=if k % 4=0 then y else if k % 4=1 then h-1-x else if k % 4=2 then h-1-y else x
def srcM (w k i:Int):Int:=if 4≤k then w-1-i else i
def turnP (w h k:Int) (P:Int→Int→Bool) (x y:Int):Bool:=P (srcM w k (srcI w h k x y)) (srcJ w h k x y)
def tw (w h k:Int):Int:=if k % 2=1 then h else w
section
variable {fu:Nat} (hf:18446744073709551616≤fu) {w h:Int} {ds:List Int} (hb:Bytes ds)
include hf hb
theorem src_bd {k x y:Int} (d2:w≤1024) (d4:h≤1024) (hx0:0≤x) (hx1:x<tw w h k) (hy0:0≤y) (hy1:y<tw h w k):0≤srcI w h k x y∧srcI w h k x y<w∧0≤srcJ w h k x y∧srcJ w h k x y<h:=by
 clear hf hb;unfold tw at hx1 hy1;unfold srcI srcJ
 split <;> rename_i c1
 ·rw [if_neg (by omega)] at hx1 hy1;omega
 split <;> rename_i c2
 ·rw [if_pos (by omega)] at hx1 hy1;omega
 split <;> rename_i c3
 ·rw [if_neg (by omega)] at hx1 hy1;omega
 ·rw [if_pos (by omega)] at hx1 hy1;omega
theorem rturned_l3 (h0:bitsE w h ds=0) {k y:Int} (hk0:0≤k) (hk1:k≤7) (hy0:0≤y) (hy1:y<tw h w k) {v3:Int×List Bool} (hv3:v3.1=y) {j3:Int×List Bool→Option ((Int×Int×List Int)×Unit)} :
  loopF (R_Turned_l3 fu ((w,(h,ds)),(k,())) (tw h w k,tw w h k) v3 y j3) fu (0,onL (tw w h k*tw h w k).toNat (fun i=>turnP w h k (pixB w h ds) (i % tw w h k) (i / tw w h k)&&decide (i<y*tw w h k)))
   = j3 (y+1,onL (tw w h k*tw h w k).toNat (fun i=>turnP w h k (pixB w h ds) (i % tw w h k) (i / tw w h k)&&decide (i<(y+1)*tw w h k))):=by
 obtain ⟨d1,d2,d3,d4,d5⟩:=bitsE_dim h0;have sb:=fun x a b c=>src_bd hf hb (w:=w) (h:=h) (k:=k) (x:=x) (y:=y) d2 d4 a b hy0 c
 have tb:1≤tw w h k∧tw w h k≤1024∧1≤tw h w k∧tw h w k≤1024:=by unfold tw;split <;> omega
 have hsj:∀ x,(if k % 4=0 then ((x,y):Int×Int) else if k % 4=1 then (y,h-1-x) else if k % 4=2 then (w-1-x,h-1-y) else (w-1-y,x))=(srcI w h k x y,srcJ w h k x y):=by
  intro x;unfold srcI srcJ;split
  ·rfl
  split
  ·rfl
  split <;> rfl
 generalize hT:tw w h k=T at *
 generalize hU:tw h w k=U at *
 obtain ⟨t1,t2,t3,t4⟩:=tb;have m1:0≤y*T:=Int.mul_nonneg hy0 (by omega);have m2:(y+1)*T≤U*T:=Int.mul_le_mul_of_nonneg_right (by omega) (by omega);have m3:(y+1)*T=y*T+T:=by rw [Int.add_mul,Int.one_mul]
 have m4:U*T=T*U:=Int.mul_comm _ _
 have m5:T*U≤1048576:=by
  have:=Int.mul_le_mul t2 t4 (by omega:0≤U) (by omega:(0:Int)≤1024);omega
 refine loopF_spec (fun v:Int×List Bool=>(T-v.1).toNat) (fun v=>0≤v.1∧v.1≤T∧v.2=onL (T*U).toNat (fun i=>turnP w h k (pixB w h ds) (i % T) (i / T)&&decide (i<y*T+v.1))) (fun _=>j3 (y+1,onL (T*U).toNat (fun i=>turnP w h k (pixB w h ds) (i % T) (i / T)&&decide (i<(y+1)*T)))) ?_ fu _ ⟨by omega,by simp only;omega,by simp only [Int.add_zero]⟩ (by simp only;omega)
 rintro j ⟨x,on⟩ ⟨k0,k1,kv⟩ ih
 simp only at k0 k1 kv;unfold R_Turned_l3;by_cases hx:x<T
 ·obtain ⟨s1,s2,s3,s4⟩:=sb x k0 hx hy1
  have fin:R_Turned_j4 fu ((w,(h,ds)),(k,())) (U,T) y (x,on) x j (srcI w h k x y,srcJ w h k x y)=j3 (y+1,onL (T*U).toNat (fun i=>turnP w h k (pixB w h ds) (i % T) (i / T)&&decide (i<(y+1)*T))):=by
   have fin2:R_Turned_j5 fu ((w,(h,ds)),(k,())) (U,T) y (x,on) x (srcI w h k x y,srcJ w h k x y) j (srcM w k (srcI w h k x y))=j3 (y+1,onL (T*U).toNat (fun i=>turnP w h k (pixB w h ds) (i % T) (i / T)&&decide (i<(y+1)*T))):=by
    unfold R_Turned_j5;rw [bit_r fu d1 d2 d3 d4 d5 hb];have hl:on.length=(T*U).toNat:=by rw [kv,onL_length]
    simp (disch:=omega) only [joinF_eq,bindO_some,s_wr,s_td,s_tm,s_pos,s_neg,cond_true,cond_false,Bool.not_true,Bool.not_false,Bool.true_and,Bool.and_true,Bool.false_and,Bool.and_false,bne_self_eq_false,decide_true,decide_false,Int.toNat_natCast];refine ih (x+1,_) ⟨by simp only;omega,by simp only;omega,?_⟩ (by simp only;omega);simp only;have e:=onL_set (n:=(T*U).toNat) (G:=fun i=>turnP w h k (pixB w h ds) (i % T) (i / T)) (k:=y*T+x) (by omega) (by omega);rw [kv];rw [(div_of k0 hx).1,(div_of k0 hx).2] at e;unfold turnP at e;rw [←Int.add_assoc];exact e
   unfold R_Turned_j4;simp (disch:=omega) only [joinF_eq,bindO_some,s_wr,s_td,s_tm,s_pos,s_neg,cond_true,cond_false,Bool.not_true,Bool.not_false,Bool.true_and,Bool.and_true,Bool.false_and,Bool.and_false,bne_self_eq_false,decide_true,decide_false,Int.toNat_natCast];by_cases c:4≤k
   ·have:srcM w k (srcI w h k x y)=w-1-srcI w h k x y:=if_pos c;rw [this] at fin2;simp (disch:=omega) only [joinF_eq,bindO_some,s_wr,s_td,s_tm,s_pos,s_neg,cond_true,cond_false,Bool.not_true,Bool.not_false,Bool.true_and,Bool.and_true,Bool.false_and,Bool.and_false,bne_self_eq_false,decide_true,decide_false,Int.toNat_natCast];exact fin2
   ·have:srcM w k (srcI w h k x y)=srcI w h k x y:=if_neg c;rw [this] at fin2;simp (disch:=omega) only [joinF_eq,bindO_some,s_wr,s_td,s_tm,s_pos,s_neg,cond_true,cond_false,Bool.not_true,Bool.not_false,Bool.true_and,Bool.and_true,Bool.false_and,Bool.and_false,bne_self_eq_false,decide_true,decide_false,Int.toNat_natCast];exact fin2
  rw [←hsj] at fin;simp (disch:=omega) only [joinF_eq,bindO_some,s_wr,s_td,s_tm,s_pos,s_neg,cond_true,cond_false,Bool.not_true,Bool.not_false,Bool.true_and,Bool.and_true,Bool.false_and,Bool.and_false,bne_self_eq_false,decide_true,decide_false,Int.toNat_natCast];by_cases c0:k % 4=0
  ·rw [if_pos c0] at fin;simp (disch:=omega) only [joinF_eq,bindO_some,s_wr,s_td,s_tm,s_pos,s_neg,cond_true,cond_false,Bool.not_true,Bool.not_false,Bool.true_and,Bool.and_true,Bool.false_and,Bool.and_false,bne_self_eq_false,decide_true,decide_false,Int.toNat_natCast];exact fin
  rw [if_neg c0] at fin;by_cases c1:k % 4=1
  ·rw [if_pos c1] at fin;simp (disch:=omega) only [joinF_eq,bindO_some,s_wr,s_td,s_tm,s_pos,s_neg,cond_true,cond_false,Bool.not_true,Bool.not_false,Bool.true_and,Bool.and_true,Bool.false_and,Bool.and_false,bne_self_eq_false,decide_true,decide_false,Int.toNat_natCast];exact fin
  rw [if_neg c1] at fin;by_cases c2:k % 4=2
  ·rw [if_pos c2] at fin;simp (disch:=omega) only [joinF_eq,bindO_some,s_wr,s_td,s_tm,s_pos,s_neg,cond_true,cond_false,Bool.not_true,Bool.not_false,Bool.true_and,Bool.and_true,Bool.false_and,Bool.and_false,bne_self_eq_false,decide_true,decide_false,Int.toNat_natCast];exact fin
  rw [if_neg c2] at fin;simp (disch:=omega) only [joinF_eq,bindO_some,s_wr,s_td,s_tm,s_pos,s_neg,cond_true,cond_false,Bool.not_true,Bool.not_false,Bool.true_and,Bool.and_true,Bool.false_and,Bool.and_false,bne_self_eq_false,decide_true,decide_false,Int.toNat_natCast];exact fin
 ·simp (disch:=omega) only [joinF_eq,bindO_some,s_wr,s_td,s_tm,s_pos,s_neg,cond_true,cond_false,Bool.not_true,Bool.not_false,Bool.true_and,Bool.and_true,Bool.false_and,Bool.and_false,bne_self_eq_false,decide_true,decide_false,Int.toNat_natCast];rw [kv,hv3,m3,show x=T by omega]
theorem rturned_r (h0:bitsE w h ds=0) {k:Int} (hk0:0≤k) (hk1:k≤7) :
  R_Turned_r fu ((w,(h,ds)),(k,()))=some ((tw w h k,(tw h w k,canon (tw w h k) (tw h w k) (turnP w h k (pixB w h ds)))),()):=by
 obtain ⟨d1,d2,d3,d4,d5⟩:=bitsE_dim h0
 have tb:1≤tw w h k∧tw w h k≤1024∧1≤tw h w k∧tw h w k≤1024:=by unfold tw;split <;> omega
 have l3:=fun y v3 j3 a b c=>rturned_l3 hf hb h0 hk0 hk1 (y:=y) a b (v3:=v3) c (j3:=j3)
 have fin:R_Turned_j1 fu ((w,(h,ds)),(k,())) (tw h w k,tw w h k)=some ((tw w h k,(tw h w k,canon (tw w h k) (tw h w k) (turnP w h k (pixB w h ds)))),()):=by
  generalize hT:tw w h k=T at *
  generalize hU:tw h w k=U at *
  obtain ⟨t1,t2,t3,t4⟩:=tb
  have m5:T*U≤1048576:=by
   have:=Int.mul_le_mul t2 t4 (by omega:0≤U) (by omega:(0:Int)≤1024);omega
  have m6:0<T*U:=Int.mul_pos (by omega) (by omega);have m7:U*T=T*U:=Int.mul_comm _ _;unfold R_Turned_j1;simp (disch:=omega) only [joinF_eq,bindO_some,s_wr,s_td,s_tm,s_pos,s_neg,cond_true,cond_false,Bool.not_true,Bool.not_false,Bool.true_and,Bool.and_true,Bool.false_and,Bool.and_false,bne_self_eq_false,decide_true,decide_false,Int.toNat_natCast];have hd:=drawn_on hf (w:=T) (h:=U) (F:=turnP w h k (pixB w h ds)) (by omega) t2 (by omega) t4;refine loopF_spec (fun v:Int×List Bool=>(U-v.1).toNat) (fun v=>0≤v.1∧v.1≤U∧v.2=onL (T*U).toNat (fun i=>turnP w h k (pixB w h ds) (i % T) (i / T)&&decide (i<v.1*T))) (fun _=>some ((T,(U,canon T U (turnP w h k (pixB w h ds)))),())) ?_ fu (0,_) ⟨by omega,by simp only;omega,?_⟩ (by simp only;omega)
  ·rintro j ⟨y,on⟩ ⟨k0,k1,kv⟩ ih
   simp only at k0 k1 kv;rw [kv];unfold R_Turned_l2;by_cases hy:y<U
   ·simp (disch:=omega) only [joinF_eq,bindO_some,s_wr,s_td,s_tm,s_pos,s_neg,cond_true,cond_false,Bool.not_true,Bool.not_false,Bool.true_and,Bool.and_true,Bool.false_and,Bool.and_false,bne_self_eq_false,decide_true,decide_false,Int.toNat_natCast];rw [l3 y _ j k0 hy rfl];exact ih (y+1,_) ⟨by simp only;omega,by simp only;omega,rfl⟩ (by simp only;omega)
   ·have e:y=U:=by omega
    subst e;simp (disch:=omega) only [joinF_eq,bindO_some,s_wr,s_td,s_tm,s_pos,s_neg,cond_true,cond_false,Bool.not_true,Bool.not_false,Bool.true_and,Bool.and_true,Bool.false_and,Bool.and_false,bne_self_eq_false,decide_true,decide_false,Int.toNat_natCast]
    have e2:onL (T*y).toNat (fun i=>turnP w h k (pixB w h ds) (i % T) (i / T)&&decide (i<y*T))=onL (T*y).toNat (fun i=>turnP w h k (pixB w h ds) (i % T) (i / T)):=onL_congr fun i a b=>by
     rw [decide_eq_true (by omega),Bool.and_true]
    rw [e2,hd];simp (disch:=omega) only [joinF_eq,bindO_some,s_wr,s_td,s_tm,s_pos,s_neg,cond_true,cond_false,Bool.not_true,Bool.not_false,Bool.true_and,Bool.and_true,Bool.false_and,Bool.and_false,bne_self_eq_false,decide_true,decide_false,Int.toNat_natCast]
  ·simp only [Int.zero_mul];exact (onL_none fun i hi=>by rw [decide_eq_false (by omega),Bool.and_false]).symm
 unfold R_Turned_r;simp (disch:=omega) only [joinF_eq,bindO_some,s_wr,s_td,s_tm,s_pos,s_neg,cond_true,cond_false,Bool.not_true,Bool.not_false,Bool.true_and,Bool.and_true,Bool.false_and,Bool.and_false,bne_self_eq_false,decide_true,decide_false,Int.toNat_natCast];unfold tw at fin;by_cases c:k % 2=1
 ·rw [if_pos c,if_pos c] at fin;simp (disch:=omega) only [joinF_eq,bindO_some,s_wr,s_td,s_tm,s_pos,s_neg,cond_true,cond_false,Bool.not_true,Bool.not_false,Bool.true_and,Bool.and_true,Bool.false_and,Bool.and_false,bne_self_eq_false,decide_true,decide_false,Int.toNat_natCast];unfold tw;rw [if_pos c,if_pos c];exact fin
 ·rw [if_neg c,if_neg c] at fin;simp (disch:=omega) only [joinF_eq,bindO_some,s_wr,s_td,s_tm,s_pos,s_neg,cond_true,cond_false,Bool.not_true,Bool.not_false,Bool.true_and,Bool.and_true,Bool.false_and,Bool.and_false,bne_self_eq_false,decide_true,decide_false,Int.toNat_natCast];unfold tw;rw [if_neg c,if_neg c];exact fin
end
def par (i:Nat) (a b:Int):Int:=if i % 2=1 then b else a
def rot (w h:Int) (P:Int→Int→Bool):Nat→Int→Int→Bool
 | 0=>P
 | i+1=>fun x y=>inB (par i w h) (par i h w) (rot w h P i) y (par i h w-1-x)
theorem par_succ (i:Nat) (a b:Int):par (i+1) a b=par i b a:=by
 unfold par;by_cases c:i % 2=1
 ·rw [if_neg (by omega),if_pos c]
 ·rw [if_pos (by omega),if_neg c]
theorem inB_in {w h x y:Int} {P:Int→Int→Bool} (hx:0≤x∧x<w∧0≤y∧y<h):inB w h P x y=P x y:=by
 unfold inB;rw [decide_eq_true hx,Bool.true_and]
theorem rot_turn {w h k:Int} {P:Int→Int→Bool} (hw:1≤w) (hh:1≤h) (hk0:0≤k) (hk1:k≤7):canon (par (k % 4).toNat w h) (par (k % 4).toNat h w) (rot w h (fun x y=>P (srcM w k x) y) (k % 4).toNat)=canon (tw w h k) (tw h w k) (turnP w h k P):=by
 have e:par (k % 4).toNat w h=tw w h k∧par (k % 4).toNat h w=tw h w k:=by
  unfold par tw;by_cases c:k % 2=1
  ·have c':(k % 4).toNat % 2=1:=by omega
   rw [if_pos c',if_pos c,if_pos c',if_pos c];exact ⟨rfl,rfl⟩
  ·have c':¬ (k % 4).toNat % 2=1:=by omega
   rw [if_neg c',if_neg c,if_neg c',if_neg c];exact ⟨rfl,rfl⟩
 rw [e.1,e.2];refine canon_congr (by unfold tw;split <;> omega) fun x y hx0 hx1 hy0 hy1=>?_
 unfold tw at hx1 hy1;unfold turnP srcI srcJ;by_cases c0:k % 4=0
 ·rw [if_pos c0,if_pos c0,c0];rfl
 by_cases c1:k % 4=1
 ·rw [if_neg c0,if_pos c1,if_neg c0,if_pos c1,c1];rw [if_pos (by omega)] at hx1 hy1;show inB w h _ y (h-1-x)=_;rw [inB_in (by omega)];rfl
 by_cases c2:k % 4=2
 ·rw [if_neg c0,if_neg c1,if_pos c2,if_neg c0,if_neg c1,if_pos c2,c2];rw [if_neg (by omega)] at hx1 hy1;show inB h w (fun x y=>inB w h _ y (h-1-x)) y (w-1-x)=_;rw [inB_in (by omega),inB_in (by omega)];rfl
 ·rw [if_neg c0,if_neg c1,if_neg c2,if_neg c0,if_neg c1,if_neg c2,show k % 4=3 by omega];rw [if_pos (by omega)] at hx1 hy1;show inB w h (fun x y=>inB h w (fun x y=>inB w h _ y (h-1-x)) y (w-1-x)) y (h-1-x)=_;rw [inB_in (by omega),inB_in (by omega),inB_in (by omega)];show P (srcM w k (w-1-y)) (h-1-(h-1-x))=_;rw [show h-1-(h-1-x)=x by omega]
section
variable {fu:Nat} (hf:18446744073709551616≤fu) {w h:Int} {ds:List Int} (hb:Bytes ds)
include hf
theorem turned_l4 {y:Int} {P:Int→Int→Bool} {i:Int} {j3:Int×List Int→Option ((Int×Int×List Int)×Unit)} {v3:Int×List Int} (hw0:0<w) (hw1:w≤1024) (hh1:h≤1024) (hy0:0≤y) (hy1:y<w) (hh0:0<h) (hv:v3.1=y) :
  loopF (bitmap_Turned_l4 fu (i,(w,(h,canon w h P))) v3 y j3) fu (0,canon h w (fun a b=>inB w h P b (h-1-a)&&decide (b<y)))=j3 (y+1,canon h w (fun a b=>inB w h P b (h-1-a)&&decide (b<y+1))):=by
 refine row_spec hf (F:=fun a b=>inB w h P b (h-1-a)) hh0 hh1 hy0 hy1 hw1 (fun j x ds h0 h1=>?_) (fun j x ds h1=>?_)
 ·unfold bitmap_Turned_l4;simp (disch:=omega) only [joinF_eq,bindO_some,s_wr,s_td,s_tm,s_pos,s_neg,cond_true,cond_false,Bool.not_true,Bool.not_false,Bool.true_and,Bool.and_true,Bool.false_and,Bool.and_false,bne_self_eq_false,decide_true,decide_false,Int.toNat_natCast,bitmap_Turned_2_r,is_c]
  cases inB w h P y (h-1-x) <;> simp (disch:=omega) only [joinF_eq,bindO_some,s_wr,s_td,s_tm,s_pos,s_neg,cond_true,cond_false,Bool.not_true,Bool.not_false,Bool.true_and,Bool.and_true,Bool.false_and,Bool.and_false,bne_self_eq_false,decide_true,decide_false,Int.toNat_natCast,bitmap_Turned_j5,markF]
 ·unfold bitmap_Turned_l4;simp (disch:=omega) only [joinF_eq,bindO_some,s_wr,s_td,s_tm,s_pos,s_neg,cond_true,cond_false,Bool.not_true,Bool.not_false,Bool.true_and,Bool.and_true,Bool.false_and,Bool.and_false,bne_self_eq_false,decide_true,decide_false,Int.toNat_natCast];rw [hv]
theorem turned_j1 {P:Int→Int→Bool} {k:Int} (hk0:0≤k) (hk1:k≤7) (d1:1≤w) (d2:w≤1024) (d3:1≤h) (d4:h≤1024) :
  bitmap_Turned_j1 fu ((w,(h,ds)),(k,())) (w,(h,canon w h P))=some ((par (k % 4).toNat w h,(par (k % 4).toNat h w,canon (par (k % 4).toNat w h) (par (k % 4).toNat h w) (rot w h P (k % 4).toNat))),()):=by
 unfold bitmap_Turned_j1;refine loopF_spec (fun v=>(k % 4-v.1).toNat) (fun v:Int×Int×Int×List Int=>0≤v.1∧v.1≤k % 4∧v.2=(par v.1.toNat w h,(par v.1.toNat h w,canon (par v.1.toNat w h) (par v.1.toNat h w) (rot w h P v.1.toNat)))) (fun _=>some ((par (k % 4).toNat w h,(par (k % 4).toNat h w,canon (par (k % 4).toNat w h) (par (k % 4).toNat h w) (rot w h P (k % 4).toNat))),())) ?_ fu (0,(w,(h,_))) ⟨by omega,by simp only;omega,rfl⟩ (by simp only;omega)
 rintro j ⟨i,v⟩ ⟨k0,k1,kv⟩ ih
 simp only at k0 k1 kv;subst kv;unfold bitmap_Turned_l2
 have hW:1≤par i.toNat w h∧par i.toNat w h≤1024∧1≤par i.toNat h w∧par i.toNat h w≤1024:=by unfold par;split <;> omega
 by_cases hi:i<k % 4
 ·have e1:=par_succ i.toNat w h;have e2:=par_succ i.toNat h w;have e3:∀ x y,rot w h P (i.toNat+1) x y=inB (par i.toNat w h) (par i.toNat h w) (rot w h P i.toNat) y (par i.toNat h w-1-x):=fun x y=>rfl
  generalize par i.toNat w h=W at *
  generalize par i.toNat h w=H at *
  generalize rot w h P i.toNat=R at *
  obtain ⟨b1,b2,b3,b4⟩:=strd_bd (w:=H) (h:=W) (by omega) (by omega) (by omega) (by omega);simp (disch:=omega) only [joinF_eq,bindO_some,s_wr,s_td,s_tm,s_pos,s_neg,cond_true,cond_false,Bool.not_true,Bool.not_false,Bool.true_and,Bool.and_true,Bool.false_and,Bool.and_false,bne_self_eq_false,decide_true,decide_false,Int.toNat_natCast];rw [stride_r fu (by omega) (by omega)];simp (disch:=omega) only [joinF_eq,bindO_some,s_wr,s_td,s_tm,s_pos,s_neg,cond_true,cond_false,Bool.not_true,Bool.not_false,Bool.true_and,Bool.and_true,Bool.false_and,Bool.and_false,bne_self_eq_false,decide_true,decide_false,Int.toNat_natCast];rw [all_spec hf (w:=H) (h:=W) (F:=fun a b=>inB W H R b (H-1-a)) (fin:=fun ds=>j (i+1,(H,(W,ds)))) (by omega) (by omega) (fun j y hy0 hy1=>?_) (fun j y ds hy=>?_) (by omega)]
  ·refine ih (i+1,_) ⟨by simp only;omega,by simp only;omega,?_⟩ (by simp only;omega);simp only;rw [show (i+1).toNat=i.toNat+1 by omega,e1,e2,show rot w h P (i.toNat+1)=fun a b=>inB W H R b (H-1-a) from funext fun x=>funext fun y=>e3 x y]
  ·unfold bitmap_Turned_l3;simp (disch:=omega) only [joinF_eq,bindO_some,s_wr,s_td,s_tm,s_pos,s_neg,cond_true,cond_false,Bool.not_true,Bool.not_false,Bool.true_and,Bool.and_true,Bool.false_and,Bool.and_false,bne_self_eq_false,decide_true,decide_false,Int.toNat_natCast];exact turned_l4 hf (by omega) (by omega) (by omega) hy0 hy1 (by omega) rfl
  ·unfold bitmap_Turned_l3;simp (disch:=omega) only [joinF_eq,bindO_some,s_wr,s_td,s_tm,s_pos,s_neg,cond_true,cond_false,Bool.not_true,Bool.not_false,Bool.true_and,Bool.and_true,Bool.false_and,Bool.and_false,bne_self_eq_false,decide_true,decide_false,Int.toNat_natCast]
 ·have e:i=k % 4:=by omega
  rw [←e];simp (disch:=omega) only [joinF_eq,bindO_some,s_wr,s_td,s_tm,s_pos,s_neg,cond_true,cond_false,Bool.not_true,Bool.not_false,Bool.true_and,Bool.and_true,Bool.false_and,Bool.and_false,bne_self_eq_false,decide_true,decide_false,Int.toNat_natCast]
include hb
theorem turned_r (h0:bitsE w h ds=0) {k:Int} (hk0:0≤k) (hk1:k≤7) :
  bitmap_Turned_r fu ((w,(h,ds)),(k,()))=some ((tw w h k,(tw h w k,canon (tw w h k) (tw h w k) (turnP w h k (pixB w h ds)))),()):=by
 obtain ⟨d1,d2,d3,d4,d5⟩:=bitsE_dim h0;obtain ⟨b1,b2,b3,b4⟩:=strd_bd (w:=w) (h:=h) (by omega) d2 (by omega) d4
 have e:par (k % 4).toNat w h=tw w h k∧par (k % 4).toNat h w=tw h w k:=by
  unfold par tw;by_cases c:k % 2=1
  ·have c':(k % 4).toNat % 2=1:=by omega
   rw [if_pos c',if_pos c,if_pos c',if_pos c];exact ⟨rfl,rfl⟩
  ·have c':¬ (k % 4).toNat % 2=1:=by omega
   rw [if_neg c',if_neg c,if_neg c',if_neg c];exact ⟨rfl,rfl⟩
 have fin:bitmap_Turned_j1 fu ((w,(h,ds)),(k,())) (w,(h,canon w h (fun x y=>pixB w h ds (srcM w k x) y)))=some ((tw w h k,(tw h w k,canon (tw w h k) (tw h w k) (turnP w h k (pixB w h ds)))),()):=by
  rw [turned_j1 hf hk0 hk1 d1 d2 d3 d4,rot_turn d1 d3 hk0 hk1,e.1,e.2]
 unfold bitmap_Turned_r;by_cases c:4≤k
 ·have hs:(fun x y=>pixB w h ds (srcM w k x) y)=fun x y=>pixB w h ds (w-1-x) y:=by
   funext x y
   unfold srcM;rw [if_pos c]
  rw [hs] at fin;simp (disch:=omega) only [joinF_eq,bindO_some,s_wr,s_td,s_tm,s_pos,s_neg,cond_true,cond_false,Bool.not_true,Bool.not_false,Bool.true_and,Bool.and_true,Bool.false_and,Bool.and_false,bne_self_eq_false,decide_true,decide_false,Int.toNat_natCast];rw [stride_r fu (by omega) (by omega)];simp (disch:=omega) only [joinF_eq,bindO_some,s_wr,s_td,s_tm,s_pos,s_neg,cond_true,cond_false,Bool.not_true,Bool.not_false,Bool.true_and,Bool.and_true,Bool.false_and,Bool.and_false,bne_self_eq_false,decide_true,decide_false,Int.toNat_natCast];rw [all_spec hf (F:=fun x y=>pixB w h ds (w-1-x) y) (fin:=fun ds'=>bitmap_Turned_j1 fu ((w,(h,ds)),(k,())) (w,(h,ds'))) (by omega) (by omega) (fun j y hy0 hy1=>?_) (fun j y ds hy=>?_) d4]
  ·exact fin
  ·unfold bitmap_Turned_l6;simp (disch:=omega) only [joinF_eq,bindO_some,s_wr,s_td,s_tm,s_pos,s_neg,cond_true,cond_false,Bool.not_true,Bool.not_false,Bool.true_and,Bool.and_true,Bool.false_and,Bool.and_false,bne_self_eq_false,decide_true,decide_false,Int.toNat_natCast];refine row_spec hf (F:=fun x y=>pixB w h ds (w-1-x) y) (by omega) d2 hy0 hy1 d4 (fun j x ds' h0 h1=>?_) (fun j x ds h1=>?_)
   ·unfold bitmap_Turned_l7;simp (disch:=omega) only [joinF_eq,bindO_some,s_wr,s_td,s_tm,s_pos,s_neg,cond_true,cond_false,Bool.not_true,Bool.not_false,Bool.true_and,Bool.and_true,Bool.false_and,Bool.and_false,bne_self_eq_false,decide_true,decide_false,Int.toNat_natCast];rw [is_r fu (by omega) d2 d4 d5 hb];simp (disch:=omega) only [joinF_eq,bindO_some,s_wr,s_td,s_tm,s_pos,s_neg,cond_true,cond_false,Bool.not_true,Bool.not_false,Bool.true_and,Bool.and_true,Bool.false_and,Bool.and_false,bne_self_eq_false,decide_true,decide_false,Int.toNat_natCast]
    cases pixB w h ds (w-1-x) y <;> simp (disch:=omega) only [joinF_eq,bindO_some,s_wr,s_td,s_tm,s_pos,s_neg,cond_true,cond_false,Bool.not_true,Bool.not_false,Bool.true_and,Bool.and_true,Bool.false_and,Bool.and_false,bne_self_eq_false,decide_true,decide_false,Int.toNat_natCast,bitmap_Turned_j8,markF]
   ·unfold bitmap_Turned_l7;simp (disch:=omega) only [joinF_eq,bindO_some,s_wr,s_td,s_tm,s_pos,s_neg,cond_true,cond_false,Bool.not_true,Bool.not_false,Bool.true_and,Bool.and_true,Bool.false_and,Bool.and_false,bne_self_eq_false,decide_true,decide_false,Int.toNat_natCast]
  ·unfold bitmap_Turned_l6;simp (disch:=omega) only [joinF_eq,bindO_some,s_wr,s_td,s_tm,s_pos,s_neg,cond_true,cond_false,Bool.not_true,Bool.not_false,Bool.true_and,Bool.and_true,Bool.false_and,Bool.and_false,bne_self_eq_false,decide_true,decide_false,Int.toNat_natCast]
 ·have hs:(fun x y=>pixB w h ds (srcM w k x) y)=pixB w h ds:=by
   funext x y
   unfold srcM;rw [if_neg c]
  rw [hs,←canon_self hb h0] at fin;simp (disch:=omega) only [joinF_eq,bindO_some,s_wr,s_td,s_tm,s_pos,s_neg,cond_true,cond_false,Bool.not_true,Bool.not_false,Bool.true_and,Bool.and_true,Bool.false_and,Bool.and_false,bne_self_eq_false,decide_true,decide_false,Int.toNat_natCast];exact fin
end
end Go.Proofs.Ytelpkjellakigaa
/- Sums over rows and rectangles. No program in sight. -/
namespace Go.Proofs.Ytelpkjellakigaa
open Go
set_option linter.unusedSimpArgs false
set_option linter.unusedSectionVars false
set_option linter.unusedVariables false
namespace Cm
def sumN (f:Nat→Int):Nat→Int
 | 0=>0
 | n+1=>sumN f n+f n
theorem sumN_congr {f g:Nat→Int}:∀ {n:Nat},(∀ i,i<n→f i=g i)→sumN f n=sumN g n
 | 0,_=>rfl
 | n+1,h=>by rw [sumN,sumN,sumN_congr fun i hi=>h i (by omega),h n (by omega)]
theorem sumN_zero {f:Nat→Int}:∀ {n:Nat},(∀ i,i<n→f i=0)→sumN f n=0
 | 0,_=>rfl
 | n+1,h=>by rw [sumN,sumN_zero fun i hi=>h i (by omega),h n (by omega)];rfl
theorem sumN_bd {f:Nat→Int} {b:Int} (hb:0≤b):∀ {n:Nat},(∀ i,i<n→0≤f i∧f i≤b)→0≤sumN f n∧sumN f n≤n*b
 | 0,_=>by simp [sumN]
 | n+1,h=>by
  have a:=sumN_bd hb (n:=n) fun i hi=>h i (by omega)
  have c:=h n (by omega);have e:((n+1:Nat):Int)*b=(n:Int)*b+b:=by rw [Int.natCast_add,Int.add_mul];simp
  rw [sumN,e];omega
end Cm
end Go.Proofs.Ytelpkjellakigaa
/- Numbers: what the small functions compute. -/
namespace Go.Proofs.Ytelpkjellakigaa
open Go Go.RowKit
set_option linter.unusedSimpArgs false
set_option linter.unusedSectionVars false
set_option linter.unusedVariables false

theorem floor_s (fu:Nat) {n d:Int} (hd:0<d) (h1:d≤9223372036854775807) (h2:-9223372036854775808≤n) (h3:n≤9223372036854775807):R_Floor_r fu (n,(d,()))=some (n / d,()):=by
 unfold R_Floor_r;simp only [joinF_eq];rw [bif_pos (by omega)];have hm:=Int.tmod_add_mul_tdiv n d;have hm1:=Int.natAbs_tmod n d;have h4:n.tdiv d*d=n-n.tmod d:=by rw [Int.mul_comm];omega
 have h5:(n.tmod d).natAbs≤n.natAbs:=by rw [hm1];exact Nat.mod_le _ _
 have hb:-9223372036854775808≤n.tdiv d*d∧n.tdiv d*d≤9223372036854775807:=by
  rcases Int.le_total 0 n with hn | hn
  ·have:=Int.tmod_nonneg d hn;omega
  ·have:=Int.tmod_nonneg (a:=-n) d (by omega);rw [Int.neg_tmod] at this;omega
 obtain ⟨b1,b2⟩:=hb;have hq:=Int.natAbs_tdiv n d;have hq':(n.tdiv d).natAbs≤n.natAbs:=by rw [hq];exact Nat.div_le_self _ _
 have hq3:n.tdiv d≤9223372036854775807:=by
  rcases Int.le_total 0 n with hn | hn
  ·omega
  ·have:=Int.tdiv_nonneg (a:=-n) (b:=d) (by omega) (by omega);rw [Int.neg_tdiv] at this;omega
 rw [wr64 (x:=n.tdiv d) (by omega) hq3,wr64 (x:=n.tdiv d*d) b1 b2];by_cases hc:n<n.tdiv d*d
 ·have hlow:-9223372036854775807≤n.tdiv d:=by
   rcases Int.lt_or_le d 2 with g | g
   ·obtain rfl:d=1:=by omega
    rw [Int.tdiv_one] at hc;omega
   ·have h6:(n.tdiv d).natAbs≤n.natAbs / 2:=by
     rw [hq];exact Nat.div_le_div_left (by omega) (by omega)
    omega
  rw [bif_pos hc,wr64 (x:=n.tdiv d-1) (by omega) (by omega),tdiv_over hd hc];rfl
 ·rw [bif_neg hc,tdiv_under hd (by omega)];rfl
theorem floor_mul' {n d:Int} (hd:0<d):n / d*d≤n∧n<n / d*d+d:=by
 have h1:=Int.mul_ediv_add_emod n d;have h2:=Int.emod_nonneg n (by omega:d≠0);have h3:=Int.emod_lt_of_pos n hd;rw [Int.mul_comm] at h1;omega
theorem round_s (fu:Nat) {n d:Int} (hd:0<d) (h1:d≤1000000000000000) (h2:-1000000000000000000≤n) (h3:n≤1000000000000000000):R_Round_r fu (n,(d,()))=some (rnd n d,()):=by
 unfold R_Round_r;simp only;rw [floor_s fu hd (by omega) (by omega) (by omega)];simp only [bindO_some,joinF_eq];obtain ⟨b1,b2⟩:=floor_mul' (n:=n) hd
 have hq:-1000000000000000001≤n / d∧n / d≤1000000000000000000:=by
  constructor
  ·rcases Int.lt_or_le (n / d) 0 with g | g
   ·have:n / d*d≤n / d*1:=Int.mul_le_mul_of_nonpos_left (by omega) (by omega);have h4:n / d*d-n / d*1≤0:=by omega
    have h5:(n / d+1)*d≤(n / d+1)*1:=Int.mul_le_mul_of_nonpos_left (by omega) (by omega);rw [Int.add_mul] at h5;omega
   ·omega
  ·rcases Int.lt_or_le (n / d) 1 with g | g
   ·omega
   ·have:n / d*1≤n / d*d:=Int.mul_le_mul_of_nonneg_left (by omega) (by omega);omega
 rw [wr64 (x:=n / d*d) (by omega) (by omega),wr64 (x:=n-n / d*d) (by omega) (by omega),wr64 (x:=2*(n-n / d*d)) (by omega) (by omega)];by_cases hc:d≤2*(n-n / d*d)
 ·rw [bif_pos hc,wr64 (x:=n / d+1) (by omega) (by omega),rnd_up hd hc];rfl
 ·rw [bif_neg hc,rnd_down hd (by omega)];rfl
theorem nearest_s (fu:Nat) {n d:Int} (hd:0<d) (h1:d≤1000000000000000) (h2:-1000000000000000000≤n) (h3:n≤1000000000000000000):curve_Nearest_r fu (n,(d,()))=some (rnd n d,()):=by
 obtain ⟨g1,g2⟩:=tdiv_abs (n:=2*n+d) (m:=2002000000000000000) (2*d) (by omega) (by omega);unfold curve_Nearest_r rnd;simp only [joinF_eq];rw [wr64 (x:=2*n) (by omega) (by omega),wr64 (x:=2*n+d) (by omega) (by omega),wr64 (x:=2*d) (by omega) (by omega),bif_pos (by omega),bif_pos (by omega),wr64 (x:=(2*n+d).tdiv (2*d)) (by omega) (by omega)];by_cases hc:(2*n+d).tmod (2*d)<0
 ·rw [bif_pos hc,wr64 (x:=(2*n+d).tdiv (2*d)-1) (by omega) (by omega),tdiv_neg (by omega) hc];rfl
 ·rw [bif_neg hc,tdiv_pos (by omega) (by omega)];rfl
end Go.Proofs.Ytelpkjellakigaa
/- CameraImages: lists,windows. -/
namespace Go.Proofs.Ytelpkjellakigaa
open Go Go.RowKit
set_option linter.unusedSimpArgs false
set_option linter.unusedSectionVars false
set_option linter.unusedVariables false
namespace Ci
open Cm (sumN sumN_congr sumN_bd)
theorem stLoop {X β:Type} {f:(X→Option β)→X→Option β} {n fu:Nat} (hn:n<fu) {st:Nat→X} {x0:X} {fin:Option β} (h0:st 0=x0)
  (step:∀ j (i:Nat),i<n→f j (st i)=j (st (i+1))) (last:∀ j,f j (st n)=fin):loopF f fu x0=fin:=by
 have key:=errGen (f:=f) (n:=n) (st:=st) (E:=fun _=>0) (out:=fun _=>none) (fin:=fin) (fun j i hi _=>by rw [if_pos rfl];exact step j i hi) (fun _=>last) fu 0 (by omega) (by omega) (by omega);rw [if_pos (firstE_all _ _ fun _ _ _=>rfl),h0] at key;exact key
theorem ix {y w x:Nat} (hy:y≤1025) (hw:w≤1025) (hx:x≤1025):IntKind.i64.wrap (IntKind.i64.wrap ((y:Int)*(w:Int))+(x:Int))=((y*w+x:Nat):Int):=by
 have b:y*w≤1025*1025:=Nat.mul_le_mul hy hw;rw [←Int.natCast_mul];generalize y*w=K at b ⊢;rw [wr64 (x:=(K:Int)) (by omega) (by omega),wr64 (by omega) (by omega)];omega
theorem nx {k:Nat} (h:k≤2000000):IntKind.i64.wrap ((k:Int)+1)=((k+1:Nat):Int):=by rw [wr64 (by omega) (by omega)];omega
def tb {α:Type} (n:Nat) (G:Nat→α):List α:=(List.range n).map G
section
variable {α:Type}
theorem tb_len (n:Nat) (G:Nat→α):(tb n G).length=n:=by rw [tb,List.length_map,List.length_range]
theorem tb_get {n i:Nat} {G:Nat→α} {d:α} (h:i<n):(tb n G).getD i d=G i:=by
 rw [List.getD_eq_getElem?_getD,List.getElem?_eq_getElem (by rw [tb_len];exact h),Option.getD_some];simp only [tb,List.getElem_map,List.getElem_range]
theorem tb_congr {n:Nat} {G G':Nat→α} (h:∀ i,i<n→G i=G' i):tb n G=tb n G':=List.map_congr_left fun i hi=>h i (List.mem_range.1 hi)
theorem tb_succ (n:Nat) (G:Nat→α):tb n G++[G n]=tb (n+1) G:=by
 unfold tb;rw [List.range_succ,List.map_append];rfl
theorem tb_zero (G:Nat→α):tb 0 G=[]:=rfl
def mix (n k:Nat) (G:Nat→α) (px:List α) (d:α):List α:=tb n fun q=>if q<k then G q else px.getD q d
theorem mix_len (n k:Nat) (G:Nat→α) (px:List α) (d:α):(mix n k G px d).length=n:=tb_len _ _
theorem mix_zero {n:Nat} {G:Nat→α} {px:List α} {d:α} (h:px.length=n):mix n 0 G px d=px:=by
 refine List.ext_getElem (by rw [mix_len,h]) fun i h1 h2=>?_
 simp only [mix,tb,List.getElem_map,List.getElem_range];rw [if_neg (by omega),List.getD_eq_getElem?_getD,List.getElem?_eq_getElem h2,Option.getD_some]
theorem mix_full (n:Nat) (G:Nat→α) (px:List α) (d:α):mix n n G px d=tb n G:=tb_congr fun i hi=>if_pos hi
theorem mix_set {n k:Nat} {G:Nat→α} {px:List α} {d v:α} (hv:v=G k):(mix n k G px d).set k v=mix n (k+1) G px d:=by
 refine List.ext_getElem (by rw [List.length_set,mix_len,mix_len]) fun i h1 h2=>?_
 rw [List.getElem_set];simp only [mix,tb,List.getElem_map,List.getElem_range];by_cases e:k=i
 ·rw [if_pos e,if_pos (by omega),hv,e]
 ·rw [if_neg e];by_cases c:i<k
  ·rw [if_pos c,if_pos (by omega)]
  ·rw [if_neg c,if_neg (by omega)]
theorem mix_at {n k:Nat} {G:Nat→α} {px:List α} {d:α} (h:k<n):(mix n k G px d).getD k d=px.getD k d:=by
 unfold mix;rw [tb_get h,if_neg (by omega)]
end
theorem tb_bytes {n:Nat} {G:Nat→Int} (h:∀ i,i<n→0≤G i∧G i≤255):Bytes (tb n G):=by
 intro d hd;obtain ⟨i,hi,rfl⟩:=List.mem_map.1 hd;exact h i (List.mem_range.1 hi)
theorem w3 (G:Nat→Int) {n y:Nat} (hy:y<n) (h2:2≤n):sumN (fun k=>if 1≤y+k∧y+k≤n then G (y+k-1) else 0) 3=sumN (fun k=>G (y-1+k)) (min n (y+2)-(y-1)):=by
 have sum3:∀ f:Nat→Int,sumN f 3=f 0+f 1+f 2:=fun f=>by simp [sumN]
 have sum2:∀ f:Nat→Int,sumN f 2=f 0+f 1:=fun f=>by simp [sumN]
 rw [sum3];by_cases c0:y=0
 ·subst c0;rw [show min n (0+2)-(0-1)=2 by omega];rw [sum2];rw [if_neg (by omega),if_pos (by omega),if_pos (by omega)];simp
 ·by_cases c1:y+1=n
  ·rw [show min n (y+2)-(y-1)=2 by omega];rw [sum2];rw [if_pos (by omega),if_pos (by omega),if_neg (by omega),show y+0-1=y-1+0 by omega,show y+1-1=y-1+1 by omega];simp
  ·rw [show min n (y+2)-(y-1)=3 by omega];rw [sum3];rw [if_pos (by omega),if_pos (by omega),if_pos (by omega),show y+0-1=y-1+0 by omega,show y+1-1=y-1+1 by omega,show y+2-1=y-1+2 by omega]
def PS (P:Nat→Nat→Int) (y0 x0 m k:Nat):Int:=sumN (fun j=>sumN (fun i=>P (y0+j) (x0+i)) m) k
def S3 (P:Nat→Nat→Int) (w h y x:Nat):Int:=PS P (y-1) (x-1) (min w (x+2)-(x-1)) (min h (y+2)-(y-1))
def RS (P:Nat→Nat→Int) (w h y x k:Nat):Int:=sumN (fun j=>sumN (fun i=>if (1≤x+i∧x+i≤w)∧(1≤y+j∧y+j≤h) then P (y+j-1) (x+i-1) else 0) 3) k
theorem RS_S3 (P:Nat→Nat→Int) {w h y x:Nat} (hy:y<h) (hh:2≤h) (hx:x<w) (hw:2≤w):RS P w h y x 3=S3 P w h y x:=by
 unfold RS S3 PS;rw [←w3 (fun j=>sumN (fun i=>P j (x-1+i)) (min w (x+2)-(x-1))) hy hh];refine sumN_congr fun j _=>?_
 by_cases c:1≤y+j∧y+j≤h
 ·rw [if_pos c,←w3 (fun i=>P (y+j-1) i) hx hw];refine sumN_congr fun i _=>?_
  by_cases d:1≤x+i∧x+i≤w
  ·rw [if_pos d,if_pos ⟨d,c⟩]
  ·rw [if_neg d,if_neg (fun g=>d g.1)]
 ·rw [if_neg c];exact Cm.sumN_zero fun i _=>if_neg fun g=>c g.2
def one (_ _:Nat):Int:=1
theorem sumN_one (n:Nat):sumN (fun _=>(1:Int)) n=n:=by
 induction n with
 | zero=>rfl
 | succ n ih=>rw [sumN,ih];omega
theorem PS_one (y0 x0 m:Nat):∀ k:Nat,PS one y0 x0 m k=((k*m:Nat):Int)
 | 0=>by simp [PS,sumN]
 | k+1=>by
  have:=PS_one y0 x0 m k;unfold PS at this ⊢;rw [sumN,this];show _+sumN (fun _=>(1:Int)) m=_;rw [sumN_one,Nat.succ_mul];omega
theorem PS_bd {P:Nat→Nat→Int} (hP:∀ j i,0≤P j i∧P j i≤255) (y0 x0 m k:Nat):0≤PS P y0 x0 m k∧PS P y0 x0 m k≤255*((k*m:Nat):Int):=by
 have:=sumN_bd (f:=fun j=>sumN (fun i=>P (y0+j) (x0+i)) m) (b:=(m:Int)*255) (by omega) (n:=k) fun j _=>sumN_bd (by omega) fun i _=>hP _ _
 have e:255*((k*m:Nat):Int)=(k:Int)*((m:Int)*255):=by rw [Int.natCast_mul];grind
 rw [e];exact this
theorem rnd_bd {s n:Int} (hn:1≤n) (h0:0≤s) (h1:s≤255*n):0≤rnd s n∧rnd s n≤255:=by
 unfold rnd;refine ⟨Int.ediv_nonneg (by omega) (by omega),?_⟩;have:(2*s+n) / (2*n)<256:=Int.ediv_lt_of_lt_mul (by omega) (by omega);omega
def pxl (px:List Int) (w j i:Nat):Int:=px.getD (j*w+i) 0
theorem pxl_bd {px:List Int} (h:Bytes px) (w j i:Nat):0≤pxl px w j i∧pxl px w j i≤255:=h.at _
theorem flat_lt {y w x h:Nat} (hy:y<h) (hx:x<w):y*w+x<h*w:=by
 have:=Nat.mul_le_mul_right w (show y+1≤h by omega);rw [Nat.succ_mul] at this;omega
theorem flat_at {y w x:Nat} (hx:x<w):(y*w+x) / w=y∧(y*w+x) % w=x:=by
 have hw:0<w:=by omega
 constructor
 ·rw [Nat.mul_comm,Nat.mul_add_div hw,Nat.div_eq_of_lt hx,Nat.add_zero]
 ·rw [Nat.mul_comm,Nat.mul_add_mod,Nat.mod_eq_of_lt hx]
section
variable {fu:Nat} (hf:18446744073709551616≤fu) {w h:Nat} {px:List Int} (w0:2≤w) (w1:w≤1024) (h0:2≤h) (h1:h≤1024) (hl:px.length=h*w) (hb:Bytes px)
include hf w0 w1 h0 h1 hl hb
theorem window_r {y x:Nat} (hy:y<h) (hx:x<w):camera_window_r fu (((w:Int),((h:Int),px)),((x:Int),((y:Int),(1,()))))=some (S3 (pxl px w) w h y x,(S3 one w h y x,())):=by
 unfold camera_window_r S3;simp only;have ey0:max (0:Int) (IntKind.i64.wrap ((y:Int)-1))=((y-1:Nat):Int):=by rw [wr64 (by omega) (by omega)];omega
 have ex0:max (0:Int) (IntKind.i64.wrap ((x:Int)-1))=((x-1:Nat):Int):=by rw [wr64 (by omega) (by omega)];omega
 have eh:min (IntKind.i64.wrap ((h:Int)-1)) (IntKind.i64.wrap ((y:Int)+1))=((min h (y+2):Nat):Int)-1:=by rw [wr64 (x:=(h:Int)-1) (by omega) (by omega),wr64 (by omega) (by omega)];omega
 have ew:min (IntKind.i64.wrap ((w:Int)-1)) (IntKind.i64.wrap ((x:Int)+1))=((min w (x+2):Nat):Int)-1:=by rw [wr64 (x:=(w:Int)-1) (by omega) (by omega),wr64 (by omega) (by omega)];omega
 rw [ey0];have by1:min h (y+2)≤h:=by omega
 have bx1:min w (x+2)≤w:=by omega
 have by2:min h (y+2)-(y-1)≤3∧y-1≤min h (y+2):=by omega
 have bx2:min w (x+2)-(x-1)≤3∧x-1≤min w (x+2):=by omega
 generalize hY1:min h (y+2)=Y1 at *
 generalize hX1:min w (x+2)=X1 at *
 generalize hY0:y-1=Y0 at *
 generalize hX0:x-1=X0 at *
 have bd:∀ k m:Nat,k≤3→m≤3→(0≤PS (pxl px w) Y0 X0 m k∧PS (pxl px w) Y0 X0 m k≤2295):=fun k m hk hm=>by
  have a:=PS_bd (P:=pxl px w) (pxl_bd hb w) Y0 X0 m k;have b:k*m≤3*3:=Nat.mul_le_mul hk hm;generalize k*m=K at a b;omega
 have bo:∀ k m:Nat,k≤3→m≤3→(0≤PS one Y0 X0 m k∧PS one Y0 X0 m k≤9):=fun k m hk hm=>by
  rw [PS_one];have b:k*m≤3*3:=Nat.mul_le_mul hk hm;generalize k*m=K at b;omega
 refine stLoop (n:=Y1-Y0) (by omega) (st:=fun k=>(PS one Y0 X0 (X1-X0) k,(PS (pxl px w) Y0 X0 (X1-X0) k,((Y0+k:Nat):Int)))) rfl ?_ ?_
 ·intro j k hk;unfold camera_window_l1;simp only;rw [eh,ex0,bif_pos (show ((Y0+k:Nat):Int)≤(Y1:Int)-1 by omega)];have q1:=bd k (X1-X0) (by omega) bx2.1;have q2:=bo k (X1-X0) (by omega) bx2.1;refine stLoop (n:=X1-X0) (by omega) (st:=fun m=>(PS (pxl px w) Y0 X0 (X1-X0) k+sumN (fun i=>pxl px w (Y0+k) (X0+i)) m,(PS one Y0 X0 (X1-X0) k+sumN (fun i=>one (Y0+k) (X0+i)) m,((X0+m:Nat):Int)))) ?_ ?_ ?_
  ·simp [sumN]
  ·intro j2 m hm;unfold camera_window_l2;simp only;have lp:=flat_lt (show Y0+k<h by omega) (show X0+m<w by omega);rw [ew,bif_pos (show ((X0+m:Nat):Int)≤(X1:Int)-1 by omega),ix (y:=Y0+k) (w:=w) (x:=X0+m) (by omega) (by omega) (by omega),hl,bif_and (Int.natCast_nonneg _) (Int.ofNat_lt.2 lp),Int.toNat_natCast];have hp:=pxl_bd hb w (Y0+k) (X0+m);have e:px.getD ((Y0+k)*w+(X0+m)) 0=pxl px w (Y0+k) (X0+m):=rfl;have s1:=sumN_bd (f:=fun i=>pxl px w (Y0+k) (X0+i)) (b:=255) (by omega) (n:=m) fun i _=>pxl_bd hb w _ _
   have s2:sumN (fun i=>one (Y0+k) (X0+i)) m=m:=sumN_one m;rw [e,sumN,sumN,s2,nx (k:=X0+m) (by omega),show X0+m+1=X0+(m+1) by omega];show j2 (IntKind.i64.wrap (_+_),(IntKind.i64.wrap (_+_+1),_))=j2 (_,(_+(_+1),_));generalize pxl px w (Y0+k) (X0+m)=p at *
   generalize sumN (fun i=>pxl px w (Y0+k) (X0+i)) m=sm at *
   rw [wr64 (x:=p) (by omega) (by omega),wr64 (by omega) (by omega),wr64 (by omega) (by omega),Int.add_assoc,Int.add_assoc]
  ·intro j2;unfold camera_window_l2;simp only;rw [ew,bif_neg (show ¬ ((X0+(X1-X0):Nat):Int)≤(X1:Int)-1 by omega),nx (by omega)];rfl
 ·intro j;unfold camera_window_l1;simp only;rw [eh,bif_neg (show ¬ ((Y0+(Y1-Y0):Nat):Int)≤(Y1:Int)-1 by omega)]
end
end Ci
end Go.Proofs.Ytelpkjellakigaa
/- CameraImages: the image. -/
namespace Go.Proofs.Ytelpkjellakigaa
open Go Go.RowKit
set_option linter.unusedSimpArgs false
set_option linter.unusedSectionVars false
set_option linter.unusedVariables false
namespace Ci
open Cm (sumN sumN_congr sumN_bd)
theorem wrN {n:Nat} (h:n≤2000):IntKind.i64.wrap (n:Int)=n:=wr64 (by omega) (by omega)
def tone (s X Y L Dk tw th:Int) (P:Int→Int→Bool) (y x:Nat):Int:=if X≤(x:Int)∧Y≤(y:Int)∧inB tw th P (((x:Int)-X) / s) (((y:Int)-Y) / s)=true then Dk else L
def Bf (w h:Nat) (px:List Int) (k:Nat):Int:=rnd (S3 (pxl px w) w h (k / w) (k % w)) (S3 one w h (k / w) (k % w))
def blurN (w h:Nat) (px:List Int):Nat→List Int
 | 0=>px
 | i+1=>tb (h*w) (Bf w h (blurN w h px i))
def Nz (ns:List Int) (px:List Int) (k:Nat):Int:=if 0<ns.length then max 0 (min 255 (px.getD k 0+ns.getD (k % ns.length) 0)) else px.getD k 0
structure V (s X Y blur L Dk tw th:Int) (ns:List Int) (w h:Nat):Prop where
 s0:1≤s
 s1:s≤8
 x0:0≤X
 x1:X≤32
 y0:0≤Y
 y1:Y≤32
 b0:0≤blur
 b1:blur≤2
 l0:0≤L
 l1:L≤255
 d0:0≤Dk
 d1:Dk≤255
 tw0:1≤tw
 tw1:tw≤1024
 th0:1≤th
 th1:th≤1024
 hw:tw*s+32=w
 hh:th*s+32=h
 w1:w≤1024
 h1:h≤1024
 nl:ns.length≤64
 nb:∀ k,-64≤ns.getD k 0∧ns.getD k 0≤64
section
variable {s X Y blur L Dk tw th:Int} {ns:List Int} {w h:Nat} (D:V s X Y blur L Dk tw th ns w h)
include D
theorem V.w0:2≤w∧2≤h:=by
 have a:=Int.mul_pos (show 0<tw by have:=D.tw0;omega) (show 0<s by have:=D.s0;omega);have b:=Int.mul_pos (show 0<th by have:=D.th0;omega) (show 0<s by have:=D.s0;omega);have:=D.hw;have:=D.hh;omega
theorem V.eW:IntKind.i64.wrap (IntKind.i64.wrap (tw*s)+32)=(w:Int):=by
 have:=D.hw;have:=D.w1;have a:=Int.mul_pos (show 0<tw by have:=D.tw0;omega) (show 0<s by have:=D.s0;omega);rw [wr64 (x:=tw*s) (by omega) (by omega),wr64 (by omega) (by omega),D.hw]
theorem V.eH:IntKind.i64.wrap (IntKind.i64.wrap (th*s)+32)=(h:Int):=by
 have:=D.hh;have:=D.h1;have a:=Int.mul_pos (show 0<th by have:=D.th0;omega) (show 0<s by have:=D.s0;omega);rw [wr64 (x:=th*s) (by omega) (by omega),wr64 (by omega) (by omega),D.hh]
theorem V.hw2:h*w≤1048576:=Nat.mul_le_mul D.h1 D.w1
theorem V.tone_bd (P:Int→Int→Bool) (y x:Nat):0≤tone s X Y L Dk tw th P y x∧tone s X Y L Dk tw th P y x≤255:=by
 have:=D.l0;have:=D.l1;have:=D.d0;have:=D.d1
 unfold tone
 split <;> omega
theorem V.S1 {y x:Nat} (hy:y<h) (hx:x<w):1≤S3 one w h y x∧S3 one w h y x≤9:=by
 have h2:=D.w0;unfold S3;rw [PS_one];have a:1≤min h (y+2)-(y-1)∧min h (y+2)-(y-1)≤3:=by omega
 have b:1≤min w (x+2)-(x-1)∧min w (x+2)-(x-1)≤3:=by omega
 generalize min h (y+2)-(y-1)=A at *
 generalize min w (x+2)-(x-1)=B at *
 have c:A*B≤3*3:=Nat.mul_le_mul a.2 b.2;have d:1*1≤A*B:=Nat.mul_le_mul a.1 b.1;generalize A*B=C at *
 omega
theorem V.S3b {px:List Int} (hb:Bytes px) (y x:Nat):0≤S3 (pxl px w) w h y x∧S3 (pxl px w) w h y x≤255*S3 one w h y x:=by
 unfold S3;rw [PS_one];exact PS_bd (pxl_bd hb w) _ _ _ _
theorem V.kw {k:Nat} (hk:k<h*w):k / w<h∧k % w<w:=⟨Nat.div_lt_of_lt_mul (by rw [Nat.mul_comm];exact hk),Nat.mod_lt _ (by have:=D.w0;omega)⟩
theorem V.Bf_bd {px:List Int} (hb:Bytes px) {k:Nat} (hk:k<h*w):0≤Bf w h px k∧Bf w h px k≤255:=by
 have a:=D.S1 (D.kw hk).1 (D.kw hk).2;have b:=D.S3b hb (k / w) (k % w);exact rnd_bd a.1 b.1 b.2
theorem V.blur_ok {px:List Int} (hl:px.length=h*w) (hb:Bytes px):∀ i,(blurN w h px i).length=h*w∧Bytes (blurN w h px i)
 | 0=>⟨hl,hb⟩
 | i+1=>⟨tb_len _ _,tb_bytes fun k hk=>D.Bf_bd (V.blur_ok hl hb i).2 hk⟩
theorem V.tone_ok (P:Int→Int→Bool):(tb (h*w) fun k=>tone s X Y L Dk tw th P (k / w) (k % w)).length=h*w∧Bytes (tb (h*w) fun k=>tone s X Y L Dk tw th P (k / w) (k % w)):=⟨tb_len _ _,tb_bytes fun k _=>D.tone_bd P _ _⟩
theorem V.Nz_bd {px:List Int} (hb:Bytes px) (k:Nat):0≤Nz ns px k∧Nz ns px k≤255:=by
 have:=hb.at k;unfold Nz
 split <;> omega
variable {fu:Nat} (hf:18446744073709551616≤fu) {bits:Int×Int×List Int} {turn:Int} {P:Int→Int→Bool}
include hf
theorem pass1:loopF (camera_Capture_l2 fu (bits,((s,(X,(Y,(turn,(blur,(L,(Dk,ns))))))),())) ((tw,(th,canon tw th P)),())) fu (0,List.replicate (h*w) 0)
  = loopF (camera_Capture_l6 fu (bits,((s,(X,(Y,(turn,(blur,(L,(Dk,ns))))))),())) ((tw,(th,canon tw th P)),())) fu (0,tb (h*w) fun k=>tone s X Y L Dk tw th P (k / w) (k % w)):=by
 have w0:=D.w0;have eW:=D.eW;have eH:=D.eH;have hw2:=D.hw2;obtain ⟨s0,s1,x0,x1,y0,y1,-,-,l0,l1,d0,d1,tw0,tw1,th0,th1,hw,hh,w1,h1,-,-⟩:=D;refine stLoop (n:=h) (by omega) (st:=fun y=>((y:Int),mix (h*w) (y*w) (fun k=>tone s X Y L Dk tw th P (k / w) (k % w)) (List.replicate (h*w) 0) 0)) ?_ ?_ ?_
 ·refine Prod.ext rfl ?_;show mix (h*w) (0*w) _ _ _=_;rw [Nat.zero_mul];exact mix_zero (List.length_replicate ..)
 ·intro j y hy;unfold camera_Capture_l2;simp only [eW,eH];rw [bif_pos (show (y:Int)<(h:Int) by omega)];refine stLoop (n:=w) (by omega) (st:=fun x=>((x:Int),mix (h*w) (y*w+x) (fun k=>tone s X Y L Dk tw th P (k / w) (k % w)) (List.replicate (h*w) 0) 0)) rfl ?_ ?_
  ·intro j2 x hx;unfold camera_Capture_l3;simp only [eW,eH,joinF_eq];rw [bif_pos (show (x:Int)<(w:Int) by omega)];have lp:=flat_lt hy hx
   have key:∀ v:Int,v=tone s X Y L Dk tw th P y x→camera_Capture_j4 fu (bits,((s,(X,(Y,(turn,(blur,(L,(Dk,ns))))))),())) ((tw,(th,canon tw th P)),()) (y:Int) ((x:Int),mix (h*w) (y*w+x) (fun k=>tone s X Y L Dk tw th P (k / w) (k % w)) (List.replicate (h*w) 0) 0) (x:Int) j2 v=j2 (((x+1:Nat):Int),mix (h*w) (y*w+(x+1)) (fun k=>tone s X Y L Dk tw th P (k / w) (k % w)) (List.replicate (h*w) 0) 0):=fun v hv=>by
    unfold camera_Capture_j4;simp only [eW,mix_len]
    have hvb:0≤v∧v≤255:=by
     rw [hv];unfold tone;split <;> omega
    rw [ix (y:=y) (w:=w) (x:=x) (by omega) (by omega) (by omega),bif_and (Int.natCast_nonneg _) (Int.ofNat_lt.2 lp),nx (by omega),wru8 hvb.1 hvb.2,Int.toNat_natCast,mix_set (by rw [(flat_at hx).1,(flat_at hx).2];exact hv)];rfl
   have hj5:∀ b:Bool,b=decide (X≤(x:Int)∧Y≤(y:Int)∧inB tw th P (((x:Int)-X) / s) (((y:Int)-Y) / s)=true)→camera_Capture_j5 fu (bits,((s,(X,(Y,(turn,(blur,(L,(Dk,ns))))))),())) (camera_Capture_j4 fu (bits,((s,(X,(Y,(turn,(blur,(L,(Dk,ns))))))),())) ((tw,(th,canon tw th P)),()) (y:Int) ((x:Int),mix (h*w) (y*w+x) (fun k=>tone s X Y L Dk tw th P (k / w) (k % w)) (List.replicate (h*w) 0) 0) (x:Int) j2) (b,L)=j2 (((x+1:Nat):Int),mix (h*w) (y*w+(x+1)) (fun k=>tone s X Y L Dk tw th P (k / w) (k % w)) (List.replicate (h*w) 0) 0):=fun b hb=>by
    unfold camera_Capture_j5;simp only
    cases b with
    | true =>
     simp only [cond_true];refine key _ ?_;unfold tone;rw [if_pos (of_decide_eq_true hb.symm)]
    | false =>
     simp only [cond_false];refine key _ ?_;unfold tone;rw [if_neg (of_decide_eq_false hb.symm)]
   rw [wr64 (x:=(x:Int)-X) (by omega) (by omega),wr64 (x:=(y:Int)-Y) (by omega) (by omega)];by_cases c1:(0:Int)≤(x:Int)-X
   ·rw [bif_pos c1];by_cases c2:(0:Int)≤(y:Int)-Y
    ·have q1:0≤((x:Int)-X) / s∧((x:Int)-X) / s≤(x:Int)-X:=⟨Int.ediv_nonneg c1 (by omega),Int.ediv_le_self _ c1⟩;have q2:0≤((y:Int)-Y) / s∧((y:Int)-Y) / s≤(y:Int)-Y:=⟨Int.ediv_nonneg c2 (by omega),Int.ediv_le_self _ c2⟩;rw [bif_pos c2,bif_pos (show s≠0 by omega),bif_pos (show s≠0 by omega),Int.tdiv_eq_ediv_of_nonneg c1,Int.tdiv_eq_ediv_of_nonneg c2,wr64 (x:=((x:Int)-X) / s) (by omega) (by omega),wr64 (x:=((y:Int)-Y) / s) (by omega) (by omega),is_c fu (by omega) tw1 (by omega) th1];simp only [bindO_some];refine hj5 _ ?_;rw [Bool.eq_iff_iff,decide_eq_true_eq];exact ⟨fun g=>⟨by omega,by omega,g⟩,fun g=>g.2.2⟩
    ·rw [bif_neg c2];refine hj5 _ ?_;rw [decide_eq_false (by omega)]
   ·rw [bif_neg c1];refine hj5 _ ?_;rw [decide_eq_false (by omega)]
  ·intro j2;unfold camera_Capture_l3;simp only [eW,eH,joinF_eq];rw [bif_neg (show ¬ (w:Int)<(w:Int) by omega),nx (by omega),Nat.succ_mul]
 ·intro j;unfold camera_Capture_l2;simp only [eW,eH];rw [bif_neg (show ¬ (h:Int)<(h:Int) by omega),mix_full]
theorem pass2 {px:List Int} (hl:px.length=h*w) (hb:Bytes px) (i:Nat) (hi:i≤2) {j7}:loopF (camera_Capture_l7 fu (bits,((s,(X,(Y,(turn,(blur,(L,(Dk,ns))))))),())) ((tw,(th,canon tw th P)),()) ((i:Int),px) j7) fu (0,px)=j7 (((i+1:Nat):Int),tb (h*w) (Bf w h px)):=by
 have w0:=D.w0;have eW:=D.eW;have eH:=D.eH;have hw2:=D.hw2;have w1:=D.w1;have h1:=D.h1;refine stLoop (n:=h*w) (by omega) (st:=fun k=>((k:Int),mix (h*w) k (Bf w h px) px 0)) ?_ ?_ ?_
 ·exact Prod.ext rfl (mix_zero hl)
 ·intro j k hk;have kw:=D.kw hk;have a:=D.S1 kw.1 kw.2;have b:=D.S3b hb (k / w) (k % w);have e:=D.Bf_bd hb hk;unfold camera_Capture_l7;simp only [eW,eH,hl,mix_len];rw [bif_pos (Int.ofNat_lt.2 hk),bif_pos (show (w:Int)≠0 by omega),bif_pos (show (w:Int)≠0 by omega)];rw [show Int.tmod (k:Int) (w:Int)=((k % w:Nat):Int) from rfl,show Int.tdiv (k:Int) (w:Int)=((k / w:Nat):Int) from rfl,wrN (n:=k / w) (Nat.le_trans (Nat.le_of_lt kw.1) (by omega)),window_r hf w0.1 w1 w0.2 h1 hl hb kw.1 kw.2];simp only [bindO_some];rw [nearest_s fu (by omega) (by omega) (by omega) (by omega)];simp only [bindO_some];have e':0≤rnd (S3 (pxl px w) w h (k / w) (k % w)) (S3 one w h (k / w) (k % w))∧rnd (S3 (pxl px w) w h (k / w) (k % w)) (S3 one w h (k / w) (k % w))≤255:=e;rw [bif_and (Int.natCast_nonneg _) (Int.ofNat_lt.2 hk),wru8 e'.1 e'.2,nx (by omega),Int.toNat_natCast,mix_set (show rnd (S3 (pxl px w) w h (k / w) (k % w)) (S3 one w h (k / w) (k % w))=Bf w h px k from rfl)]
 ·intro j;unfold camera_Capture_l7;simp only [eW,eH,hl];rw [bif_neg (Int.lt_irrefl _),nx (by omega),mix_full]
theorem pass3 {px:List Int} (hl:px.length=h*w) (hb:Bytes px):loopF (camera_Capture_l8 fu (bits,((s,(X,(Y,(turn,(blur,(L,(Dk,ns))))))),())) ((tw,(th,canon tw th P)),()) (blur,px)) fu (0,px)=some (((w:Int),((h:Int),tb (h*w) (Nz ns px))),(0,())):=by
 have w0:=D.w0;have eW:=D.eW;have eH:=D.eH;have hw2:=D.hw2;refine stLoop (n:=h*w) (by omega) (st:=fun k=>((k:Int),mix (h*w) k (Nz ns px) px 0)) ?_ ?_ ?_
 ·exact Prod.ext rfl (mix_zero hl)
 ·intro j k hk;have a:=hb.at k;have n1:=D.nb (k % ns.length);have nl:=D.nl;unfold camera_Capture_l8 camera_Capture_j9;simp only [joinF_eq,hl,mix_len];rw [bif_pos (Int.ofNat_lt.2 hk)];by_cases c:0<ns.length
  ·have e2:k % ns.length<ns.length:=Nat.mod_lt _ c;have eN:Nz ns px k=max 0 (min 255 (px.getD k 0+ns.getD (k % ns.length) 0)):=if_pos c;rw [bif_pos (show (0:Int)<(ns.length:Int) by omega),bif_and (Int.natCast_nonneg _) (Int.ofNat_lt.2 hk),bif_pos (show (ns.length:Int)≠0 by omega),show Int.tmod (k:Int) (ns.length:Int)=((k % ns.length:Nat):Int) from rfl,bif_and (Int.natCast_nonneg _) (Int.ofNat_lt.2 e2)];rw [bif_and (Int.natCast_nonneg _) (Int.ofNat_lt.2 hk),Int.toNat_natCast,Int.toNat_natCast,mix_at hk,wr64 (x:=px.getD k 0) (by omega) (by omega),wr64 (x:=px.getD k 0+_) (by omega) (by omega),wru8 (by omega) (by omega),nx (by omega),mix_set eN.symm]
  ·have eN:Nz ns px k=(mix (h*w) k (Nz ns px) px 0).getD k 0:=by rw [mix_at hk];exact if_neg c
   rw [bif_neg (show ¬ (0:Int)<(ns.length:Int) by omega),nx (by omega)];have e3:=mix_set (n:=h*w) (k:=k) (px:=px) (d:=0) eN.symm;rw [←e3];congr 2;refine List.ext_getElem (by rw [List.length_set]) fun q g1 g2=>?_
   rw [List.getElem_set];split
   ·rename_i e;subst e;rw [List.getD_eq_getElem?_getD,List.getElem?_eq_getElem g1,Option.getD_some]
   ·rfl
 ·intro j;unfold camera_Capture_l8;simp only [eW,eH,hl];rw [bif_neg (Int.lt_irrefl _),mix_full]
theorem passes {px:List Int} (hl:px.length=h*w) (hb:Bytes px):loopF (camera_Capture_l6 fu (bits,((s,(X,(Y,(turn,(blur,(L,(Dk,ns))))))),())) ((tw,(th,canon tw th P)),())) fu (0,px)=some (((w:Int),((h:Int),tb (h*w) (Nz ns (blurN w h px blur.toNat)))),(0,())):=by
 have b0:=D.b0;have b1:=D.b1;have hw2:=D.hw2;refine stLoop (n:=blur.toNat) (by omega) (st:=fun i=>((i:Int),blurN w h px i)) rfl ?_ ?_
 ·intro j i hi;obtain ⟨e1,e2⟩:=D.blur_ok hl hb i;unfold camera_Capture_l6;simp only;rw [bif_pos (show (i:Int)<blur by omega),bif_pos (show ((blurN w h px i).length:Int)*1≤140737488355328 by rw [e1];omega),pass2 D hf e1 e2 i (by omega)];rfl
 ·intro j;obtain ⟨e1,e2⟩:=D.blur_ok hl hb blur.toNat;unfold camera_Capture_l6;simp only;rw [Int.toNat_of_nonneg b0,bif_neg (by omega)];exact pass3 D hf e1 e2
def img (s X Y blur L Dk tw th:Int) (ns:List Int) (w h:Nat) (P:Int→Int→Bool):List Int:=tb (h*w) (Nz ns (blurN w h (tb (h*w) fun k=>tone s X Y L Dk tw th P (k / w) (k % w)) blur.toNat))
omit hf in
theorem V.img_ok:(img s X Y blur L Dk tw th ns w h P).length=h*w∧Bytes (img s X Y blur L Dk tw th ns w h P) :=
 ⟨tb_len _ _,tb_bytes fun k _=>D.Nz_bd (D.blur_ok (D.tone_ok P).1 (D.tone_ok P).2 _).2 k⟩
theorem cap_r (hC:bitmap_Check_r fu (bits,())=some (0,())) (hV:camera_CheckView_r fu ((s,(X,(Y,(turn,(blur,(L,(Dk,ns))))))),())=some (0,())) (hT:bitmap_Turned_r fu (bits,(turn,()))=some ((tw,(th,canon tw th P)),())) :
  camera_Capture_r fu (bits,((s,(X,(Y,(turn,(blur,(L,(Dk,ns))))))),()))=some (((w:Int),((h:Int),img s X Y blur L Dk tw th ns w h P)),(0,())):=by
 have eW:=D.eW;have eH:=D.eH;have hw2:=D.hw2;have w1:=D.w1;have h1:=D.h1
 have e1:IntKind.i64.wrap ((w:Int)*(h:Int))=((h*w:Nat):Int):=by
  rw [←Int.natCast_mul,Nat.mul_comm];exact wr64 (by omega) (by omega)
 unfold camera_Capture_r;simp only [hC,hV,hT,bindO_some,joinF_eq,eW,eH];rw [bif_neg (by decide),bif_neg (by decide),bif_neg (by omega),decide_eq_false (by omega)];unfold camera_Capture_j1;simp only [eW,eH,cond_false,e1];rw [bif_and (Int.natCast_nonneg _) (by omega),Int.toNat_natCast,pass1 D hf];exact passes D hf (D.tone_ok P).1 (D.tone_ok P).2
end
end Ci
end Go.Proofs.Ytelpkjellakigaa
/- CameraImages: the reference's image. -/
namespace Go.Proofs.Ytelpkjellakigaa
open Go Go.RowKit
set_option linter.unusedSimpArgs false
set_option linter.unusedSectionVars false
set_option linter.unusedVariables false
namespace Ci
open Cm (sumN sumN_congr sumN_bd)
theorem app_bif {β:Type} {l:List Int} {v:Int} {a b:Option β} (h:l.length≤1048576):(bif (decide ((((List.length l:Int)+(List.length ([v]:List Int):Int))*(1:Int))≤(140737488355328:Int))) then a else b)=a:=by
 refine bif_pos ?_;rw [List.length_singleton];omega
theorem rj3 {fu:Nat} {v3:Int×List Int×Int×Int×Unit} {j3:(Int×List Int×Int×Int×Unit)→Option ((Int×Int×List Int)×Unit)} {v6:Int} (h:v3.2.1.length≤1048576) :
  R_Captured_j3 fu v3 j3 v6=j3 (IntKind.i64.wrap (v3.1+1),(v3.2.1++[IntKind.u8.wrap v6],(v3.2.2.1,(v3.2.2.2.1,())))):=app_bif h
theorem rj4 {fu:Nat} {bits:Int×Int×List Int} {s X Y turn blur L Dk:Int} {ns:List Int} {j6:Int→Option ((Int×Int×List Int)×Unit)} {b:Bool} {l:Int} :
  R_Captured_j4 fu (bits,((s,(X,(Y,(turn,(blur,(L,(Dk,ns))))))),())) j6 (b,l)=j6 (if b=true then Dk else l):=by cases b <;> rfl
theorem RS_bd {P:Nat→Nat→Int} {c:Int} (hc:0≤c) (hP:∀ j i,0≤P j i∧P j i≤c) (w h y x:Nat) {k:Nat} (hk:k≤3):0≤RS P w h y x k∧RS P w h y x k≤9*c:=by
 have:=sumN_bd (f:=fun j=>sumN (fun i=>if (1≤x+i∧x+i≤w)∧(1≤y+j∧y+j≤h) then P (y+j-1) (x+i-1) else 0) 3) (b:=((3:Nat):Int)*c) (by omega) (n:=k) fun j _=>sumN_bd hc fun i _=>by
  have:=hP (y+j-1) (x+i-1)
  split <;> omega
 have e:(k:Int)*(((3:Nat):Int)*c)≤3*(((3:Nat):Int)*c):=Int.mul_le_mul_of_nonneg_right (by omega) (by omega);unfold RS;omega
section
variable {s X Y blur L Dk tw th:Int} {ns:List Int} {w h:Nat} (D:V s X Y blur L Dk tw th ns w h)
variable {fu:Nat} (hf:18446744073709551616≤fu) {bits:Int×Int×List Int} {turn:Int} {P:Int→Int→Bool}
include D hf
theorem rpass1 {j5} (hj5:j5=R_Captured_l5 fu (bits,((s,(X,(Y,(turn,(blur,(L,(Dk,ns))))))),()))):loopF (R_Captured_l1 fu (bits,((s,(X,(Y,(turn,(blur,(L,(Dk,ns))))))),())) ((tw,(th,canon tw th P)),())) fu (0,(((w:Int),((h:Int),())),[]))
  = loopF j5 fu (0,(tb (h*w) (fun k=>tone s X Y L Dk tw th P (k / w) (k % w)),((w:Int),((h:Int),())))):=by
 subst hj5;have w0:=D.w0;have eW:=D.eW;have eH:=D.eH;have hw2:=D.hw2;obtain ⟨s0,s1,x0,x1,y0,y1,-,-,l0,l1,d0,d1,tw0,tw1,th0,th1,hw,hh,w1,h1,-,-⟩:=D;refine stLoop (n:=h) (by omega) (st:=fun y=>((y:Int),(((w:Int),((h:Int),())),tb (y*w) (fun k=>tone s X Y L Dk tw th P (k / w) (k % w))))) ?_ ?_ ?_
 ·simp only [Nat.zero_mul,tb_zero];rfl
 ·intro j y hy;unfold R_Captured_l1;simp only [eW,eH];rw [bif_pos (show (y:Int)<(h:Int) by omega)];refine stLoop (n:=w) (by omega) (st:=fun x=>((x:Int),(tb (y*w+x) (fun k=>tone s X Y L Dk tw th P (k / w) (k % w)),((w:Int),((h:Int),()))))) rfl ?_ ?_
  ·intro j2 x hx;unfold R_Captured_l2;simp only [joinF_eq];rw [bif_pos (show (x:Int)<(w:Int) by omega)];have lp:=flat_lt hy hx
   have key:∀ v:Int,v=tone s X Y L Dk tw th P y x→R_Captured_j3 fu ((x:Int),(tb (y*w+x) (fun k=>tone s X Y L Dk tw th P (k / w) (k % w)),((w:Int),((h:Int),())))) j2 v=j2 (((x+1:Nat):Int),(tb (y*w+(x+1)) (fun k=>tone s X Y L Dk tw th P (k / w) (k % w)),((w:Int),((h:Int),())))):=fun v hv=>by
    rw [rj3 (by show (tb _ _).length≤_;rw [tb_len];omega)];simp only
    have hvb:0≤v∧v≤255:=by
     rw [hv];unfold tone;split <;> omega
    have e:=tb_succ (y*w+x) (fun k=>tone s X Y L Dk tw th P (k / w) (k % w));rw [(flat_at hx).1,(flat_at hx).2,←hv] at e;rw [nx (by omega),wru8 hvb.1 hvb.2,e];rfl
   have hj5:∀ b:Bool,b=decide (X≤(x:Int)∧Y≤(y:Int)∧inB tw th P (((x:Int)-X) / s) (((y:Int)-Y) / s)=true)→R_Captured_j4 fu (bits,((s,(X,(Y,(turn,(blur,(L,(Dk,ns))))))),())) (R_Captured_j3 fu ((x:Int),(tb (y*w+x) (fun k=>tone s X Y L Dk tw th P (k / w) (k % w)),((w:Int),((h:Int),())))) j2) (b,L)=j2 (((x+1:Nat):Int),(tb (y*w+(x+1)) (fun k=>tone s X Y L Dk tw th P (k / w) (k % w)),((w:Int),((h:Int),())))):=fun b hb=>by
    rw [rj4];refine key _ ?_;unfold tone;by_cases c:X≤(x:Int)∧Y≤(y:Int)∧inB tw th P (((x:Int)-X) / s) (((y:Int)-Y) / s)=true
    ·rw [if_pos c,hb,decide_eq_true c,if_pos rfl]
    ·rw [if_neg c,hb,decide_eq_false c,if_neg (by decide)]
   rw [wr64 (x:=(x:Int)-X) (by omega) (by omega),wr64 (x:=(y:Int)-Y) (by omega) (by omega)];by_cases c1:X≤(x:Int)
   ·rw [bif_pos c1];by_cases c2:Y≤(y:Int)
    ·have q1:0≤((x:Int)-X) / s∧((x:Int)-X) / s≤(x:Int)-X:=⟨Int.ediv_nonneg (by omega) (by omega),Int.ediv_le_self _ (by omega)⟩;have q2:0≤((y:Int)-Y) / s∧((y:Int)-Y) / s≤(y:Int)-Y:=⟨Int.ediv_nonneg (by omega) (by omega),Int.ediv_le_self _ (by omega)⟩;rw [bif_pos c2,bif_pos (show s≠0 by omega),bif_pos (show s≠0 by omega),Int.tdiv_eq_ediv_of_nonneg (by omega),Int.tdiv_eq_ediv_of_nonneg (by omega),wr64 (x:=((x:Int)-X) / s) (by omega) (by omega),wr64 (x:=((y:Int)-Y) / s) (by omega) (by omega),bit_r fu (by omega) tw1 (by omega) th1 (canon_len (by omega) (by omega) _) (canon_bytes _ _ _),canon_pix (by omega)];simp only [bindO_some];refine hj5 _ ?_;rw [Bool.eq_iff_iff,decide_eq_true_eq];exact ⟨fun g=>⟨by omega,by omega,g⟩,fun g=>g.2.2⟩
    ·rw [bif_neg c2];refine hj5 _ ?_;rw [decide_eq_false (by omega)]
   ·rw [bif_neg c1];refine hj5 _ ?_;rw [decide_eq_false (by omega)]
  ·intro j2;unfold R_Captured_l2;simp only [joinF_eq];rw [bif_neg (show ¬ (w:Int)<(w:Int) by omega),nx (by omega),Nat.succ_mul]
 ·intro j;unfold R_Captured_l1;simp only [eW,eH];rw [bif_neg (show ¬ (h:Int)<(h:Int) by omega)]
theorem rwin {px:List Int} (hl:px.length=h*w) (hb:Bytes px) {y x:Nat} (hy:y<h) (hx:x<w) {i:Int} {v5:Int×List Int} (h5:v5.1=(x:Int)) (h6:v5.2.length≤1048576) {j5} :
  loopF (R_Captured_l8 fu (i,(px,((w:Int),((h:Int),())))) (y:Int) v5 (x:Int) j5) fu (0,(0,(y:Int)-1))=j5 (((x+1:Nat):Int),v5.2++[rnd (S3 (pxl px w) w h y x) (S3 one w h y x)]):=by
 have w0:=D.w0;have hw2:=D.hw2;have w1:=D.w1;have h1:=D.h1;have ob:∀ j i,0≤one j i∧one j i≤1:=fun _ _=>by unfold one;omega
 refine stLoop (n:=3) (by omega) (st:=fun k=>(RS one w h y x k,(RS (pxl px w) w h y x k,(y:Int)-1+(k:Int)))) ?_ ?_ ?_
 ·simp [RS,sumN]
 ·intro j k hk;have q1:=RS_bd (c:=255) (by omega) (pxl_bd hb w) w h y x (k:=k) (by omega);have q2:=RS_bd (c:=1) (by omega) ob w h y x (k:=k) (by omega);unfold R_Captured_l8;simp only;rw [wr64 (x:=(y:Int)+1) (by omega) (by omega),wr64 (x:=(x:Int)-1) (by omega) (by omega),bif_pos (show (y:Int)-1+(k:Int)≤(y:Int)+1 by omega)];refine stLoop (n:=3) (by omega) (st:=fun m=>(RS (pxl px w) w h y x k+sumN (fun i=>if (1≤x+i∧x+i≤w)∧(1≤y+k∧y+k≤h) then pxl px w (y+k-1) (x+i-1) else 0) m,(RS one w h y x k+sumN (fun i=>if (1≤x+i∧x+i≤w)∧(1≤y+k∧y+k≤h) then one (y+k-1) (x+i-1) else 0) m,(x:Int)-1+(m:Int)))) ?_ ?_ ?_
  ·simp [sumN]
  ·intro j2 m hm
   have s1:=sumN_bd (f:=fun i=>if (1≤x+i∧x+i≤w)∧(1≤y+k∧y+k≤h) then pxl px w (y+k-1) (x+i-1) else 0) (b:=255) (by omega) (n:=m) fun i _=>by
    have:=pxl_bd hb w (y+k-1) (x+i-1)
    split <;> omega
   have s2:=sumN_bd (f:=fun i=>if (1≤x+i∧x+i≤w)∧(1≤y+k∧y+k≤h) then one (y+k-1) (x+i-1) else 0) (b:=1) (by omega) (n:=m) fun i _=>by
    have:=ob (y+k-1) (x+i-1)
    split <;> omega
   have hp:=pxl_bd hb w (y+k-1) (x+m-1);have ej:IntKind.i64.wrap ((x:Int)-1+(m:Int)+1)=(x:Int)-1+((m+1:Nat):Int):=by rw [wr64 (by omega) (by omega)];omega
   have hin:∀ b:Bool,b=decide ((1≤x+m∧x+m≤w)∧(1≤y+k∧y+k≤h))→∀ A B:Int,0≤A→A≤10000→0≤B→B≤100 →
     R_Captured_j11 fu (i,(px,((w:Int),((h:Int),())))) (RS one w h y x k,(RS (pxl px w) w h y x k,(y:Int)-1+(k:Int))) (A,(B,(x:Int)-1+(m:Int))) (R_Captured_j10 fu j2) (b,(A,B))=j2 (A+(if (1≤x+m∧x+m≤w)∧(1≤y+k∧y+k≤h) then pxl px w (y+k-1) (x+m-1) else 0),(B+(if (1≤x+m∧x+m≤w)∧(1≤y+k∧y+k≤h) then one (y+k-1) (x+m-1) else 0),(x:Int)-1+((m+1:Nat):Int))):=fun b hb' A B a0 a1 b0 b1=>by
    unfold R_Captured_j11 R_Captured_j10;simp only;by_cases c:(1≤x+m∧x+m≤w)∧(1≤y+k∧y+k≤h)
    ·rw [hb',decide_eq_true c,if_pos c,if_pos c];simp only [cond_true];have e1:(y:Int)-1+(k:Int)=((y+k-1:Nat):Int):=by omega
     have e2:(x:Int)-1+(m:Int)=((x+m-1:Nat):Int):=by omega
     have lp:=flat_lt (show y+k-1<h by omega) (show x+m-1<w by omega);rw [ej,e1,e2,ix (y:=y+k-1) (w:=w) (x:=x+m-1) (by omega) (by omega) (by omega),hl,bif_and (Int.natCast_nonneg _) (Int.ofNat_lt.2 lp),Int.toNat_natCast];have e:px.getD ((y+k-1)*w+(x+m-1)) 0=pxl px w (y+k-1) (x+m-1):=rfl;rw [e];generalize pxl px w (y+k-1) (x+m-1)=p at *
     rw [wr64 (x:=p) (by omega) (by omega),wr64 (x:=A+p) (by omega) (by omega),wr64 (x:=B+1) (by omega) (by omega)];rfl
    ·rw [hb',decide_eq_false c,if_neg c,if_neg c,ej,Int.add_zero,Int.add_zero];rfl
   unfold R_Captured_l9;simp only [joinF_eq,within_r,bindO_some];rw [wr64 (x:=(x:Int)+1) (by omega) (by omega),wr64 (x:=(w:Int)-1) (by omega) (by omega),wr64 (x:=(h:Int)-1) (by omega) (by omega),bif_pos (show (x:Int)-1+(m:Int)≤(x:Int)+1 by omega),sumN,sumN,←Int.add_assoc,←Int.add_assoc];by_cases c1:0≤(x:Int)-1+(m:Int)∧(x:Int)-1+(m:Int)≤(w:Int)-1
   ·rw [bif_and c1.1 c1.2];refine hin _ ?_ _ _ (by omega) (by omega) (by omega) (by omega);rw [Bool.eq_iff_iff,Bool.and_eq_true,decide_eq_true_eq,decide_eq_true_eq,decide_eq_true_eq];omega
   ·rw [bif_nand c1];refine hin _ ?_ _ _ (by omega) (by omega) (by omega) (by omega);rw [decide_eq_false (by omega)]
  ·intro j2;unfold R_Captured_l9;simp only [joinF_eq];rw [wr64 (x:=(x:Int)+1) (by omega) (by omega),bif_neg (show ¬ (x:Int)-1+((3:Nat):Int)≤(x:Int)+1 by omega),wr64 (x:=(y:Int)-1+(k:Int)+1) (by omega) (by omega),show (y:Int)-1+(k:Int)+1=(y:Int)-1+((k+1:Nat):Int) by omega];rfl
 ·intro j;have a:=D.S1 hy hx;have b:=D.S3b hb y x;have e:=rnd_bd a.1 b.1 b.2;unfold R_Captured_l8;simp only;rw [wr64 (x:=(y:Int)+1) (by omega) (by omega),bif_neg (show ¬ (y:Int)-1+((3:Nat):Int)≤(y:Int)+1 by omega),RS_S3 _ hy w0.2 hx w0.1,RS_S3 _ hy w0.2 hx w0.1,round_s fu (by omega) (by omega) (by omega) (by omega),bindO_some,app_bif h6];simp only;rw [wru8 e.1 e.2,h5,nx (by omega)]
theorem rpass2 {px:List Int} (hl:px.length=h*w) (hb:Bytes px) {i:Nat} (hi:i≤2) {j2}:loopF (R_Captured_l6 fu ((i:Int),(px,((w:Int),((h:Int),())))) j2) fu (0,[])=j2 (((i+1:Nat):Int),(tb (h*w) (Bf w h px),((w:Int),((h:Int),())))):=by
 have w0:=D.w0;have hw2:=D.hw2;have w1:=D.w1;have h1:=D.h1;refine stLoop (n:=h) (by omega) (st:=fun y=>((y:Int),tb (y*w) (Bf w h px))) ?_ ?_ ?_
 ·simp only [Nat.zero_mul,tb_zero];rfl
 ·intro j y hy;unfold R_Captured_l6;simp only;rw [bif_pos (show (y:Int)<(h:Int) by omega)];refine stLoop (n:=w) (by omega) (st:=fun x=>((x:Int),tb (y*w+x) (Bf w h px))) rfl ?_ ?_
  ·intro j3 x hx;have lp:=flat_lt hy hx;unfold R_Captured_l7;simp only;rw [bif_pos (show (x:Int)<(w:Int) by omega),wr64 (x:=(y:Int)-1) (by omega) (by omega),rwin D hf hl hb hy hx rfl (by rw [tb_len];omega)];have e:=tb_succ (y*w+x) (Bf w h px)
   have e2:Bf w h px (y*w+x)=rnd (S3 (pxl px w) w h y x) (S3 one w h y x):=by
    unfold Bf;rw [(flat_at hx).1,(flat_at hx).2]
   rw [←e2];simp only;rw [e];rfl
  ·intro j3;unfold R_Captured_l7;simp only;rw [bif_neg (show ¬ (w:Int)<(w:Int) by omega),nx (by omega),Nat.succ_mul]
 ·intro j;unfold R_Captured_l6;simp only;rw [bif_neg (show ¬ (h:Int)<(h:Int) by omega),nx (by omega)]
theorem rpasses {px:List Int} (hl:px.length=h*w) (hb:Bytes px):loopF (R_Captured_l5 fu (bits,((s,(X,(Y,(turn,(blur,(L,(Dk,ns))))))),()))) fu (0,(px,((w:Int),((h:Int),()))))=some (((w:Int),((h:Int),tb (h*w) (Nz ns (blurN w h px blur.toNat)))),()):=by
 have b0:=D.b0;have b1:=D.b1;have hw2:=D.hw2;refine stLoop (n:=blur.toNat) (by omega) (st:=fun i=>((i:Int),(blurN w h px i,((w:Int),((h:Int),()))))) rfl ?_ ?_
 ·intro j i hi;obtain ⟨e1,e2⟩:=D.blur_ok hl hb i;unfold R_Captured_l5;simp only;rw [bif_pos (show (i:Int)<blur by omega),rpass2 D hf e1 e2 (by omega)];rfl
 ·intro j;obtain ⟨e1,e2⟩:=D.blur_ok hl hb blur.toNat;generalize blurN w h px blur.toNat=pp at e1 e2;unfold R_Captured_l5 R_Captured_j12;simp only [joinF_eq];rw [Int.toNat_of_nonneg b0,bif_neg (by omega)];by_cases c:0<ns.length
  ·rw [bif_pos (show (0:Int)<(ns.length:Int) by omega)];refine stLoop (n:=h*w) (by omega) (st:=fun k=>((k:Int),mix (h*w) k (Nz ns pp) pp 0)) ?_ ?_ ?_
   ·exact Prod.ext rfl (mix_zero e1)
   ·intro j k hk;have a:=e2.at k;have n1:=D.nb (k % ns.length);have e3:k % ns.length<ns.length:=Nat.mod_lt _ c;have eN:Nz ns pp k=max 0 (min 255 (pp.getD k 0+ns.getD (k % ns.length) 0)):=if_pos c;unfold R_Captured_l13;simp only [e1,mix_len];rw [bif_pos (Int.ofNat_lt.2 hk),bif_and (Int.natCast_nonneg _) (Int.ofNat_lt.2 hk),bif_pos (show (ns.length:Int)≠0 by omega),show Int.tmod (k:Int) (ns.length:Int)=((k % ns.length:Nat):Int) from rfl,bif_and (Int.natCast_nonneg _) (Int.ofNat_lt.2 e3)];rw [bif_and (Int.natCast_nonneg _) (Int.ofNat_lt.2 hk),Int.toNat_natCast,Int.toNat_natCast,mix_at hk,wr64 (x:=pp.getD k 0) (by omega) (by omega),wr64 (x:=pp.getD k 0+_) (by omega) (by omega),wru8 (by omega) (by omega),nx (by omega),mix_set (show min (max (pp.getD k 0+ns.getD (k % ns.length) 0) 0) 255=Nz ns pp k by rw [eN];omega)]
   ·intro j;unfold R_Captured_l13;simp only [e1];rw [bif_neg (Int.lt_irrefl _),mix_full]
  ·rw [bif_neg (show ¬ (0:Int)<(ns.length:Int) by omega)]
   have e4:tb (h*w) (Nz ns pp)=pp:=by
    rw [←mix_zero (n:=h*w) (G:=Nz ns pp) (d:=0) e1];refine tb_congr fun k hk=>?_
    rw [if_neg (by omega),mix_zero e1];exact if_neg c
   rw [e4]
theorem rcap_r (hT:R_Turned_r fu (bits,(turn,()))=some ((tw,(th,canon tw th P)),())) :
  R_Captured_r fu (bits,((s,(X,(Y,(turn,(blur,(L,(Dk,ns))))))),()))=some (((w:Int),((h:Int),img s X Y blur L Dk tw th ns w h P)),()):=by
 have eW:=D.eW;have eH:=D.eH;unfold R_Captured_r;simp only [hT,bindO_some,eW,eH];rw [rpass1 D hf rfl];exact rpasses D hf (D.tone_ok P).1 (D.tone_ok P).2
end
end Ci
end Go.Proofs.Ytelpkjellakigaa
/- CameraImages: views,bitmaps of images. -/
namespace Go.Proofs.Ytelpkjellakigaa
open Go Go.RowKit
set_option linter.unusedSimpArgs false
set_option linter.unusedSectionVars false
set_option linter.unusedVariables false
namespace Ci
theorem bif_w {β:Type} {p q:Prop} [Decidable p] [Decidable q] {x y:β}:(bif !(decide p&&decide q) then x else y)=if p∧q then y else x:=by
 by_cases h:p
 ·by_cases k:q
  ·rw [decide_eq_true h,decide_eq_true k,if_pos ⟨h,k⟩];rfl
  ·rw [decide_eq_true h,decide_eq_false k,if_neg (fun g=>k g.2)];rfl
 ·rw [decide_eq_false h,if_neg (fun g=>h g.1)];rfl
theorem bif_d {β:Type} {p:Prop} [Decidable p] {x y:β}:(bif decide p then x else y)=if p then x else y:=by
 by_cases h:p
 ·rw [decide_eq_true h,if_pos h];rfl
 ·rw [decide_eq_false h,if_neg h];rfl
def rngOk (s X Y t b L Dk:Int):Prop:=(1≤s∧s≤8)∧(0≤X∧X≤32)∧(0≤Y∧Y≤32)∧(0≤t∧t≤3)∧(0≤b∧b≤2)∧(0≤L∧L≤255)∧(0≤Dk∧Dk≤255)
def nsOk (ns:List Int):Prop:=∀ k,k<ns.length→-64≤ns.getD k 0∧ns.getD k 0≤64
open Classical in
noncomputable def viewE (s X Y t b L Dk:Int) (ns:List Int):Int:=if rngOk s X Y t b L Dk then (if L≤Dk then 18 else if 64<ns.length then 2 else if nsOk ns then 0 else 3) else 3
section
variable {fu:Nat} (hf:18446744073709551616≤fu) {s X Y t b L Dk:Int} {ns:List Int}
include hf
open Classical in
theorem chk_noise (hn:ns.length≤64):loopF (camera_CheckView_l3 fu ((s,(X,(Y,(t,(b,(L,(Dk,ns))))))),())) fu 0=some ((if nsOk ns then 0 else 3),()):=by
 have key:=findLoop (f:=camera_CheckView_l3 fu ((s,(X,(Y,(t,(b,(L,(Dk,ns))))))),())) (n:=ns.length) (fu:=fu) (by omega) (p:=fun i=>¬ (-64≤ns.getD i 0∧ns.getD i 0≤64)) (hit:=fun _=>some (3,())) (miss:=some (0,())) ?_ ?_ ?_
 ·rcases key with ⟨k,hk,hp,-,e⟩ | ⟨hp,e⟩
  ·rw [e,if_neg (fun g=>hp (g k hk))]
  ·rw [e,if_pos (show nsOk ns from fun k hk=>Classical.not_not.1 (hp k hk))]
 ·intro j i hi hp;unfold camera_CheckView_l3 camera_CheckView_j4;simp only [joinF_eq];rw [bif_pos (Int.ofNat_lt.2 hi),bif_and (Int.natCast_nonneg _) (Int.ofNat_lt.2 hi),Int.toNat_natCast];by_cases c:ns.getD i 0 < -64
  ·rw [bif_pos c];rfl
  ·rw [bif_neg c,decide_eq_true (show 64<ns.getD i 0 by omega)];rfl
 ·intro j i hi hp;have hp:=Classical.not_not.1 hp;unfold camera_CheckView_l3 camera_CheckView_j4;simp only [joinF_eq];rw [bif_pos (Int.ofNat_lt.2 hi),bif_and (Int.natCast_nonneg _) (Int.ofNat_lt.2 hi),Int.toNat_natCast,bif_neg (show ¬ ns.getD i 0 < -64 by omega),decide_eq_false (show ¬ 64<ns.getD i 0 by omega),wr64 (x:=(i:Int)+1) (by omega) (by omega)];rfl
 ·intro j;unfold camera_CheckView_l3;simp only;rw [bif_neg (Int.lt_irrefl _)]
open Classical in
theorem rchk_noise (hn:ns.length≤64):loopF (R_ViewErr_l2 fu ((s,(X,(Y,(t,(b,(L,(Dk,ns))))))),())) fu 0=some ((if nsOk ns then 0 else 3),()):=by
 have key:=findLoop (f:=R_ViewErr_l2 fu ((s,(X,(Y,(t,(b,(L,(Dk,ns))))))),())) (n:=ns.length) (fu:=fu) (by omega) (p:=fun i=>¬ (-64≤ns.getD i 0∧ns.getD i 0≤64)) (hit:=fun _=>some (3,())) (miss:=some (0,())) ?_ ?_ ?_
 ·rcases key with ⟨k,hk,hp,-,e⟩ | ⟨hp,e⟩
  ·rw [e,if_neg (fun g=>hp (g k hk))]
  ·rw [e,if_pos (show nsOk ns from fun k hk=>Classical.not_not.1 (hp k hk))]
 ·intro j i hi hp;unfold R_ViewErr_l2;simp only [within_r,bindO_some,bif_w];rw [bif_pos (Int.ofNat_lt.2 hi),bif_and (Int.natCast_nonneg _) (Int.ofNat_lt.2 hi),Int.toNat_natCast,if_neg hp]
 ·intro j i hi hp;have hp:=Classical.not_not.1 hp;unfold R_ViewErr_l2;simp only [within_r,bindO_some,bif_w];rw [bif_pos (Int.ofNat_lt.2 hi),bif_and (Int.natCast_nonneg _) (Int.ofNat_lt.2 hi),Int.toNat_natCast,if_pos hp,wr64 (x:=(i:Int)+1) (by omega) (by omega)]
 ·intro j;unfold R_ViewErr_l2;simp only;rw [bif_neg (Int.lt_irrefl _)]
theorem chk_r:camera_CheckView_r fu ((s,(X,(Y,(t,(b,(L,(Dk,ns))))))),())=some (viewE s X Y t b L Dk ns,()):=by
 have j2t:camera_CheckView_j2 fu ((s,(X,(Y,(t,(b,(L,(Dk,ns))))))),()) true=some (3,()):=rfl;have j1t:camera_CheckView_j1 fu ((s,(X,(Y,(t,(b,(L,(Dk,ns))))))),()) true=some (3,()):=rfl;unfold camera_CheckView_r viewE;simp only [joinF_eq];by_cases c:rngOk s X Y t b L Dk
 ·rw [if_pos c];obtain ⟨c1,c2,c3,c4,c5,c6,c7⟩:=c;rw [bif_neg (by omega),bif_neg (by omega),bif_neg (by omega),bif_neg (by omega),bif_neg (by omega),bif_neg (by omega),bif_neg (by omega),bif_neg (by omega),bif_neg (by omega),decide_eq_false (by omega)];unfold camera_CheckView_j1;simp only [joinF_eq,cond_false];rw [bif_neg (by omega),bif_neg (by omega),bif_neg (by omega),decide_eq_false (by omega)];unfold camera_CheckView_j2;simp only [cond_false];by_cases d1:L≤Dk
  ·rw [bif_pos d1,if_pos d1]
  rw [bif_neg d1,if_neg d1];by_cases d2:64<ns.length
  ·rw [bif_pos (show (64:Int)<(ns.length:Int) by omega),if_pos d2]
  rw [bif_neg (show ¬ (64:Int)<(ns.length:Int) by omega),if_neg d2];exact chk_noise hf (by omega)
 ·rw [if_neg c];unfold rngOk at c;by_cases d:(1≤s∧s≤8)∧(0≤X∧X≤32)∧(0≤Y∧Y≤32)∧(0≤t∧t≤3)∧(0≤b∧b≤2)
  ·rw [bif_neg (by omega),bif_neg (by omega),bif_neg (by omega),bif_neg (by omega),bif_neg (by omega),bif_neg (by omega),bif_neg (by omega),bif_neg (by omega),bif_neg (by omega),decide_eq_false (by omega)];unfold camera_CheckView_j1;simp only [joinF_eq,cond_false,bif_d]
   repeat' split
   all_goals first | rfl | (rw [decide_eq_true (by omega)];rfl)
  ·simp only [bif_d]
   repeat' split
   all_goals first | rfl | (rw [decide_eq_true (by omega)];rfl)
theorem rchk_r:R_ViewErr_r fu ((s,(X,(Y,(t,(b,(L,(Dk,ns))))))),())=some (viewE s X Y t b L Dk ns,()):=by
 have j1t:R_ViewErr_j1 fu ((s,(X,(Y,(t,(b,(L,(Dk,ns))))))),()) true=some (3,()):=rfl;unfold R_ViewErr_r viewE;simp only [joinF_eq,within_r,bindO_some,bif_w];by_cases c:rngOk s X Y t b L Dk
 ·rw [if_pos c];obtain ⟨c1,c2,c3,c4,c5,c6,c7⟩:=c;rw [if_pos c1,if_pos c2,if_pos c3,if_pos c4,if_pos c5,if_pos c6,decide_eq_true c7.1,decide_eq_true c7.2];unfold R_ViewErr_j1;simp only [Bool.and_self,Bool.not_true,cond_false];by_cases d1:L≤Dk
  ·rw [bif_pos d1,if_pos d1]
  rw [bif_neg d1,if_neg d1];by_cases d2:64<ns.length
  ·rw [bif_pos (show (64:Int)<(ns.length:Int) by omega),if_pos d2]
  rw [bif_neg (show ¬ (64:Int)<(ns.length:Int) by omega),if_neg d2];exact rchk_noise hf (by omega)
 ·rw [if_neg c];unfold rngOk at c
  repeat' split
  all_goals first | rfl | (rw [show (!(decide (0≤Dk)&&decide (Dk≤255)))=true by
   by_cases d:0≤Dk
   ·rw [decide_eq_false (show ¬ Dk≤255 by omega),Bool.and_false];rfl
   ·rw [decide_eq_false d];rfl];rfl)
omit hf in
theorem view_ok (h:viewE s X Y t b L Dk ns=0):rngOk s X Y t b L Dk∧ns.length≤64∧nsOk ns:=by
 unfold viewE at h;split at h
 ·rename_i c;split at h
  ·omega
  ·split at h
   ·omega
   ·split at h
    ·exact ⟨c,by omega,by assumption⟩
    ·omega
 ·omega
omit hf in
theorem ns_at (h:nsOk ns) (k:Nat):-64≤ns.getD k 0∧ns.getD k 0≤64:=by
 by_cases c:k<ns.length
 ·exact h k c
 ·rw [List.getD_eq_getElem?_getD,List.getElem?_eq_none (by omega)];simp
end
theorem blank_r {fu:Nat} {w h:Int} {y:(Int×Int×Unit)×List Int} (hg:bitmap_Blank_g fu (w,h)=some y):bitmap_Blank_r fu (w,h)=some y:=by
 unfold bitmap_Blank_r chkE;rw [hg];rfl
def mnR (px:List Int) (c:Int):Nat→Int
 | 0=>c
 | k+1=>min (mnR px c k) (px.getD k 0)
def mxR (px:List Int) (c:Int):Nat→Int
 | 0=>c
 | k+1=>max (mxR px c k) (px.getD k 0)
theorem mn_c (px:List Int) {c:Int} (h:c≤255):∀ k,mnR px c k=min c (mnR px 255 k)
 | 0=>by simp only [mnR];omega
 | k+1=>by simp only [mnR,mn_c px h k];omega
theorem mx_c (px:List Int) {c:Int} (h:0≤c):∀ k,mxR px c k=max c (mxR px 0 k)
 | 0=>by simp only [mxR];omega
 | k+1=>by simp only [mxR,mx_c px h k];omega
theorem mn_le (px:List Int) (c:Int):∀ k,mnR px c (k+1)≤px.getD 0 0
 | 0=>by simp only [mnR];omega
 | k+1=>by have:=mn_le px c k;rw [mnR];omega
theorem mx_le (px:List Int) (c:Int):∀ k,px.getD 0 0≤mxR px c (k+1)
 | 0=>by simp only [mxR];omega
 | k+1=>by have:=mx_le px c k;rw [mxR];omega
theorem mn_bd {px:List Int} (hb:Bytes px) {c:Int} (h:0≤c∧c≤255):∀ k,0≤mnR px c k∧mnR px c k≤255
 | 0=>h
 | k+1=>by have:=mn_bd hb h k;have:=hb.at k;rw [mnR];omega
theorem mx_bd {px:List Int} (hb:Bytes px) {c:Int} (h:0≤c∧c≤255):∀ k,0≤mxR px c k∧mxR px c k≤255
 | 0=>h
 | k+1=>by have:=mx_bd hb h k;have:=hb.at k;rw [mxR];omega
def FS (px:List Int) (w:Int) (x y:Int):Bool:=decide (2*px.getD (y*w+x).toNat 0<mnR px 255 px.length+mxR px 0 px.length)
section
variable {fu:Nat} (hf:18446744073709551616≤fu) {w h:Nat} {px:List Int} (w0:1≤w) (w1:w≤1024) (h0:1≤h) (h1:h≤1024) (hl:px.length=h*w) (hb:Bytes px)
include hf w0 w1 h0 h1 hl hb
theorem split_r:camera_split_r fu (((w:Int),((h:Int),px)),())=some (((w:Int),((h:Int),canon w h (FS px w))),()):=by
 have hn:1*1≤h*w:=Nat.mul_le_mul h0 w0;have hn2:h*w≤1024*1024:=Nat.mul_le_mul h1 w1;have p0:=hb.at 0;obtain ⟨b1,b2,b3,b4⟩:=strd_bd (w:=(w:Int)) (h:=(h:Int)) (by omega) (by omega) (by omega) (by omega);unfold camera_split_r;simp only;rw [bif_pos (show (0:Int)<(px.length:Int) by omega),bif_pos (show (0:Int)<(px.length:Int) by omega),show Int.toNat 0=0 from rfl];refine stLoop (n:=h*w) (by omega) (st:=fun k=>(mxR px (px.getD 0 0) k,(mnR px (px.getD 0 0) k,(k:Int)))) rfl ?_ ?_
 ·intro j k hk;unfold camera_split_l1;simp only;rw [hl,bif_pos (Int.ofNat_lt.2 hk),bif_and (Int.natCast_nonneg _) (Int.ofNat_lt.2 hk),Int.toNat_natCast,nx (by omega)];rfl
 ·intro j
  have e1:mnR px (px.getD 0 0) (h*w)=mnR px 255 px.length:=by
   rw [hl,mn_c px p0.2];obtain ⟨m,hm⟩:=Nat.exists_eq_add_of_le hn;have:=mn_le px 255 m;rw [hm,show 1*1+m=m+1 by omega];omega
  have e2:mxR px (px.getD 0 0) (h*w)=mxR px 0 px.length:=by
   rw [hl,mx_c px p0.1];obtain ⟨m,hm⟩:=Nat.exists_eq_add_of_le hn;have:=mx_le px 0 m;rw [hm,show 1*1+m=m+1 by omega];omega
  have m1:=mn_bd hb (c:=255) (by omega) px.length;have m2:=mx_bd hb (c:=0) (by omega) px.length;unfold camera_split_l1;simp only;rw [e1,e2,hl,bif_neg (Int.lt_irrefl _)]
  have hB:bitmap_Blank_r fu ((w:Int),(h:Int))=some (((w:Int),((h:Int),())),canon w h (fun _ _=>false)):=by
   refine blank_r ?_;unfold bitmap_Blank_g;rw [stride_r fu (by omega) (by omega),bindO_some];rw [wr64 (x:=strd (w:Int)*(h:Int)) (by omega) (by omega),bif_and b3 (by omega),canon_zero _ _ (fun _ _=>rfl)]
  rw [hB,bindO_some];refine stLoop (n:=h*w) (by omega) (st:=fun k=>((k:Int),canon w h (fun a b=>FS px w a b&&decide (b*(w:Int)+a<(k:Int))))) ?_ ?_ ?_
  ·refine Prod.ext rfl (canon_congr (by omega) fun a b ha _ hb' _=>?_);have:0≤b*(w:Int):=Int.mul_nonneg hb' (by omega);rw [decide_eq_false (show ¬ b*(w:Int)+a<((0:Nat):Int) by omega),Bool.and_false]
  ·intro j2 k hk;have kw1:k / w<h:=Nat.div_lt_of_lt_mul (by rw [Nat.mul_comm];exact hk);have kw2:k % w<w:=Nat.mod_lt _ (by omega);have kk:k / w*w+k % w=k:=by rw [Nat.mul_comm];exact Nat.div_add_mod k w
   have pk:=hb.at k
   have hF:FS px w ((k % w:Nat):Int) ((k / w:Nat):Int)=decide (2*px.getD k 0<mnR px 255 (h*w)+mxR px 0 (h*w)):=by
    unfold FS;rw [←Int.natCast_mul,←Int.natCast_add,Int.toNat_natCast,kk,hl]
   rw [hl] at m1 m2;unfold camera_split_l2 camera_split_j3;simp only [joinF_eq];rw [hl,bif_pos (Int.ofNat_lt.2 hk),bif_and (Int.natCast_nonneg _) (Int.ofNat_lt.2 hk),Int.toNat_natCast];rw [wr64 (x:=px.getD k 0) (by omega) (by omega),wr64 (x:=2*px.getD k 0) (by omega) (by omega),wr64 (x:=mnR px 255 (h*w)) (by omega) (by omega),wr64 (x:=mxR px 0 (h*w)) (by omega) (by omega),wr64 (x:=mnR px 255 (h*w)+mxR px 0 (h*w)) (by omega) (by omega),←hF];rw [nx (by omega),bif_pos (show (w:Int)≠0 by omega),bif_pos (show (w:Int)≠0 by omega)];rw [show Int.tmod (k:Int) (w:Int)=((k % w:Nat):Int) from rfl,show Int.tdiv (k:Int) (w:Int)=((k / w:Nat):Int) from rfl,wrN (n:=k / w) (Nat.le_trans (Nat.le_of_lt kw1) (by omega))];have hx0:(0:Int)≤((k % w:Nat):Int):=Int.natCast_nonneg _;have hy0:(0:Int)≤((k / w:Nat):Int):=Int.natCast_nonneg _;have hx1:((k % w:Nat):Int)<(w:Int):=Int.ofNat_lt.2 kw2;have hy1:((k / w:Nat):Int)<(h:Int):=Int.ofNat_lt.2 kw1;have kkI:((k / w:Nat):Int)*(w:Int)+((k % w:Nat):Int)=(k:Int):=by rw [←Int.natCast_mul,←Int.natCast_add,kk]
   have uq:∀ a b:Int,0≤a→a<(w:Int)→0≤b→(b*(w:Int)+a=(k:Int)↔a=((k % w:Nat):Int)∧b=((k / w:Nat):Int)):=fun a b ha0 ha1 hb0=>by
    constructor
    ·intro g;obtain ⟨a,rfl⟩:=Int.eq_ofNat_of_zero_le ha0;obtain ⟨b,rfl⟩:=Int.eq_ofNat_of_zero_le hb0
     have g':b*w+a=k:=by
      rw [←Int.natCast_mul,←Int.natCast_add] at g;exact Int.ofNat.inj g
     rw [←g',(flat_at (Int.ofNat_lt.1 ha1)).1,(flat_at (Int.ofNat_lt.1 ha1)).2];exact ⟨rfl,rfl⟩
    ·rintro ⟨rfl,rfl⟩
     exact kkI
   generalize ((k % w:Nat):Int)=KX at *
   generalize ((k / w:Nat):Int)=KY at *
   have fin:∀ c:Bool,FS px w KX KY=c→canon w h (fun a b=>(FS px w a b&&decide (b*(w:Int)+a<(k:Int)))||(c&&(decide (a=KX)&&decide (b=KY))))=canon w h (fun a b=>FS px w a b&&decide (b*(w:Int)+a<((k+1:Nat):Int))):=fun c hc=>by
    refine canon_congr (by omega) fun a b ha0 ha1 hb0 _=>?_
    have u:=uq a b ha0 ha1 hb0;by_cases e:b*(w:Int)+a=(k:Int)
    ·obtain ⟨rfl,rfl⟩:=u.1 e;rw [hc,decide_eq_true (show b*(w:Int)+a<((k+1:Nat):Int) by omega),decide_eq_true rfl,decide_eq_true rfl,decide_eq_false (show ¬ b*(w:Int)+a<(k:Int) by omega)]
     cases c <;> rfl
    ·have e2:(decide (a=KX)&&decide (b=KY))=false:=by
      rw [←Bool.not_eq_true,Bool.and_eq_true,decide_eq_true_eq,decide_eq_true_eq];exact fun g=>e (u.2 g)
     rw [e2,Bool.and_false,Bool.or_false];congr 1;exact decide_eq_decide.2 (by omega)
   cases hc:FS px w KX KY with
   | false =>
    simp only [cond_false];have:=fin false hc;simp only [Bool.false_and,Bool.or_false] at this;rw [this]
   | true =>
    simp only [cond_true];have:=fin true hc;simp only [Bool.true_and] at this;rw [←this];exact markF_eq fu (w:=(w:Int)) (h:=(h:Int)) (x:=KX) (y:=KY) (k:=fun l=>j2 (((k+1:Nat):Int),l)) hx0 hx1 (by omega) hy0 hy1 (by omega)
  ·intro j2;unfold camera_split_l2;simp only [joinF_eq];rw [hl,bif_neg (Int.lt_irrefl _)];rw [canon_congr (Q:=FS px w) (by omega) fun a b ha0 ha1 hb0 hb1=>?_];obtain ⟨a,rfl⟩:=Int.eq_ofNat_of_zero_le ha0;obtain ⟨b,rfl⟩:=Int.eq_ofNat_of_zero_le hb0;have:=flat_lt (Int.ofNat_lt.1 hb1) (Int.ofNat_lt.1 ha1);rw [←Int.natCast_mul,←Int.natCast_add,decide_eq_true (Int.ofNat_lt.2 this),Bool.and_true]
end
end Ci
end Go.Proofs.Ytelpkjellakigaa
/- The step from a walk to a law's row,once for all laws of the seat: a law that returns true and leaves all that was there as it was. -/
namespace Go.Proofs.Ytelpkjellakigaa
open Go.ChangeShapes Go.WideShapes Go.ChangeAt Go.RowKit

theorem own:ownKnob Try.prog.godebug=none:=by kernel_rfl
theorem laidOut:laidOutB Try.prog=true:=by kernel_rfl
theorem boolT:Try.prog.underlying 4=some .bool:=Try.underlying4

theorem trodAll_stays {H:Type} {enc:TypeId×Value→H} {P:Program} (hl:laidOutB P=true) {W W':World} (hb:Below W.heap.size W W') :
  ∀ {ts:List TypeId} {vs:List Value} {ds:List (DataW H)} {ps:List MemPlace},(∀ t ∈ ts,P.readableRec t=true∧t<P.types.size)→DataW.TrodAll enc P W 0 (fun _=>true) true ts vs ds ps →
   (∀ x ∈ ps,x.block<W.heap.size)→DataW.TrodAll enc P W' 0 (fun b=>decide (b<W.heap.size)) true ts vs ds ps
 | [],[],[],_,_,h,_=>h
 | t::ts,v::vs,d::ds,_,hr,⟨p,q,h1,h2,e⟩,hlt =>
  ⟨p,q,Below.trod hl (hr t (by simp)).1 (hr t (by simp)).2 h1 hb (fun x hx=>hlt x (by rw [e];simp [hx])),
   trodAll_stays hl hb (fun t' ht=>hr t' (by simp [ht])) h2 (fun x hx=>hlt x (by rw [e];simp [hx])),e⟩
 | [],[],_::_,_,_,h,_=>h.elim
 | [],_::_,_,_,_,h,_=>h.elim
 | _::_,[],_,_,_,h,_=>h.elim
 | _::_,_::_,[],_,_,h,_=>h.elim

def readsAll (P:Program) (ts:List TypeId):Bool:=ts.all fun t=>P.readableRec t&&decide (t<P.types.size)
theorem readsAll_all {P:Program} {ts:List TypeId} (h:readsAll P ts=true):∀ t ∈ ts,P.readableRec t=true∧t<P.types.size:=by
 intro t ht;have:=List.all_eq_true.1 h t ht;simpa using this

theorem trodAll_length {H:Type} {enc:TypeId×Value→H} {P:Program} {W:World} {base:Nat} {spare:Nat→Bool} {held:Bool} :
  ∀ {ts:List TypeId} {vs:List Value} {ds:List (DataW H)} {ps:List MemPlace},DataW.TrodAll enc P W base spare held ts vs ds ps→ds.length=ts.length
 | [],[],[],_,_=>rfl
 | _::_,_::_,_::_,_,⟨_,_,_,h2,_⟩=>by simp [trodAll_length h2]
 | [],[],_::_,_,h=>h.elim
 | [],_::_,_,_,h=>h.elim
 | _::_,[],_,_,h=>h.elim
 | _::_,_::_,[],_,h=>h.elim

set_option maxRecDepth 100000 in
theorem law_lifted {os:Os} (started:os.Started) {H:Type} {enc:TypeId×Value→H} {f:FuncId} {fn:Func} {s:ChangeSpec}
  (noInit:Try.checked.prog.inits.idxOf? f=none) (hfn:Try.checked.prog.funcs[f]?=some fn)
  (witness:∃ (w:World) (tape:Tape) (i:Input),w.os=os∧(w.forCall tape i).Shaped Try.checked.prog∧i.vars=[]∧Input.okWide Try.checked.prog (w.forCall tape i) .any w.heap.size f i ∧
   s.pre6 enc Try.checked.prog fn [] false (w.forCall tape i).memory i.args∧({}:Assume).holds Try.checked.prog (lone (Frame.enter Try.checked.prog f i.args .normal) [] (w.forCall tape i)))
  (hvars:s.vars=[]) (hres:fn.resultTypes=#[4]) (hread:readsAll Try.prog fn.params.toList=true)
  (hspec:∀ ds:List (DataW H),ds.length=fn.params.toList.length→s.fn H ds={ results:=[.lit (.bool true)],args:=ds })
  (walk:∀ (W:World) (base:Nat) (args:List Value) (ds:List (DataW H)) (ps:List MemPlace),
   (∀ (j:Nat) t v,fn.params[j]?=some t→args[j]?=some v→Value.okWide Try.prog W .any base t v)→DataW.TrodAll enc Try.prog W 0 (fun _=>true) true fn.params.toList args ds ps →
   (DataW.weightsEach Try.prog fn.params.toList ds).all (·≤reachBytes)=true→(∀ x ∈ ps,x.block<W.heap.size) →
   Calls Try.prog f args.toArray W fun e W'=>e=.returned (.bool true)∧Below W.heap.size W W') :
  ReturnsInHanded {} Try.checked os f .any (s.pre6 enc Try.checked.prog fn [] false) (s.post enc Try.checked.prog fn false true false false):=by
 refine returnsInHanded_of_change_sized (C:=Try.checked) own started noInit hfn witness ?_;intro W base args ds gs before hval hW _ hsz _;have hW':=hW;obtain ⟨p,q,hA0,hV,rfl,hfz,hnd⟩:=hW;rw [hvars] at hV;obtain ⟨rfl,rfl⟩:=trodVars_none hV;have hA:DataW.TrodAll enc Try.prog W 0 (fun _=>true) true fn.params.toList args.toList ds p:=hA0;have hlen:ds.length=fn.params.toList.length:=trodAll_length hA;have hlt:∀ x ∈ p,x.block<W.heap.size:=fun x hx=>hW'.lt x (by simpa using hx)
 have hargs:args.toList.toArray=args:=by simp
 have hsz':(DataW.weightsEach Try.prog fn.params.toList ds).all (·≤reachBytes)=true:=by
  have h:=hsz;have hvt:s.plain.varTypes Try.checked.prog=[]:=by simp [DataSpec.varTypes,ChangeSpec.plain,hvars]
  rw [hvt] at h;simp only [List.append_nil] at h;exact h
 have hw:=walk W base args.toList ds p (fun j t v ht hv=>hval j t v ht (by simpa using hv)) hA hsz' hlt;rw [hargs] at hw;refine hw.mono fun e W' ⟨he,hb⟩=>⟨.bool true,he,?_⟩
 have hsf:s.fn H (ds++[])={ results:=[.lit (.bool true)],args:=ds }:=by rw [List.append_nil];exact hspec ds hlen
 refine ⟨ds,[],p++[],[],p,[],hW',?_,?_,?_,hb.frame _,fun h=>by cases h⟩
 ·rw [hsf,hres];exact trodAll_mk1 (shut_bool boolT true)
 ·rw [hsf];exact trodAll_stays laidOut hb (readsAll_all hread) hA hlt
 ·rw [hsf,hvars];rfl
end Go.Proofs.Ytelpkjellakigaa
/- Arguments opened: what slices and structs of numbers read as. -/
set_option maxRecDepth 100000
namespace Go.Proofs.Ytelpkjellakigaa
open Go.ChangeShapes Go.WideShapes Go.ChangeAt Go.RowKit Go.Deep

theorem choose_list {α:Type} {n:Nat} {Q:Nat→α→Prop} (h:∀ i,i<n→∃ p,Q i p):∃ l:List α,l.length=n∧∀ i p,l[i]?=some p→Q i p:=by
 induction n with
 | zero=>exact ⟨[],rfl,by intro i p hi;simp at hi⟩
 | succ n ih =>
  obtain ⟨l,hl,hq⟩:=ih (fun i hi=>h i (by omega));obtain ⟨p,hp⟩:=h n (by omega);refine ⟨l++[p],by simp [hl],fun i q hi=>?_⟩;rcases Nat.lt_trichotomy i n with hlt | rfl | hgt
  ·rw [List.getElem?_append_left (by omega)] at hi;exact hq i q hi
  ·rw [List.getElem?_append_right (by omega),hl] at hi;simp at hi;subst hi;exact hp
  ·rw [List.getElem?_eq_none (by simp;omega)] at hi;cases hi

section
variable {H:Type} {enc:TypeId×Value→H} {P:Program} {w:World} {base:Nat} {spare:Nat→Bool} {held:Bool}
theorem rd_slice {t e:TypeId} {fuel:Nat} {v:Value} {x:DataW H×List MemPlace} (ht:P.underlying t=some (.slice e)) (hc:0<P.cellsOf e) (h:DataW.trod enc P w base spare held fuel t [v]=some x) :
  ∃ A n c,v=.slice A n c∧n≤c∧c≤maxLen∧∀ i,i<n→∃ b o cs n' x',A=some ⟨b,o,none⟩∧cs.length=P.cellsOf e∧(∀ j u,cs[j]?=some u→w.cell? ⟨b,o+i*P.cellsOf e+j,none⟩=some u) ∧
   DataW.trod enc P w base spare held n' e cs=some x':=by
 rcases open_slice ht h with ⟨h0,_⟩ | ⟨a,len,cap,m,n',D,Pl,hcs,_,hl,hm,hmm,_,hi⟩
 ·simp at h0;subst h0;exact ⟨none,0,0,rfl,by omega,by unfold maxLen;omega,by intro i hi;omega⟩
 ·simp at hcs;subst hcs;refine ⟨some a,len,cap,rfl,hl,hm,fun i hil=>?_⟩
  have hlm:len≤m:=by rw [hmm];split <;> omega
  obtain ⟨cs,h1,h2⟩:=hi i (by omega);obtain ⟨hb,hlen,hat⟩:=World.cells?_some h1;obtain ⟨b,o,spot⟩:=a;have h00:=hat 0 (by omega)
  have hsp:spot=none:=by
   obtain ⟨cs0,g1,_⟩:=hi 0 (by omega);obtain ⟨_,gl,gat⟩:=World.cells?_some g1;have hx:=gat 0 (by omega);rw [List.getElem?_eq_getElem (by omega)] at hx;simpa [Addr.add] using World.cell?_spot hx
  subst hsp;refine ⟨b,o,cs,n',_,rfl,hlen,?_,h2⟩;intro j u hu;have hjl:j<P.cellsOf e:=by rw [←hlen];exact (List.getElem?_eq_some_iff.1 hu).1
  have:=hat j hjl;rw [hu,Addr.add_lit,Addr.add_lit] at this;exact this
end

end Go.Proofs.Ytelpkjellakigaa
/- Arguments opened,as abstract values. -/
set_option maxRecDepth 100000
namespace Go.Proofs.Ytelpkjellakigaa
open Go Go.ChangeShapes Go.WideShapes Go.ChangeAt Go.RowKit Go.Deep

section
variable {H:Type} {enc:TypeId×Value→H} {P:Program} {w:World} {base:Nat} {spare:Nat→Bool} {held:Bool}
abbrev RelC (w:World):AV→Value→Prop:=RelD w (fun _=>False) w.heap.size
def Reads {α:Type} (w:World) (sz:Nat) (ec:α→List AV) (Q:α→Prop) (cs:List Value):Prop :=
 ∃ p,Q p∧(ec p).length=sz∧∀ (j:Nat) (a:AV) (u:Value),(ec p)[j]?=some a→cs[j]?=some u→RelC w a u
theorem ro_slice {α:Type} (ec:α→List AV) (Q:α→Prop) {t e:TypeId} {sz fuel:Nat} {v:Value} {x:DataW H×List MemPlace} (ht:P.underlying t=some (.slice e)) (hz:P.cellsOf e=sz) (hc:0<sz)
  (hel:∀ (fuel:Nat) (cs:List Value) (x:DataW H×List MemPlace),cs.length=sz→DataW.trod enc P w base spare held fuel e cs=some x→Reads w sz ec Q cs) (h:DataW.trod enc P w base spare held fuel t [v]=some x) :
  ∃ xs:List α,(∀ p ∈ xs,Q p)∧RelC w (.ro false sz (xs.map ec)) v:=by
 subst hz;obtain ⟨A,n,c,rfl,hn,hm,hi⟩:=rd_slice ht hc h
 obtain ⟨xs,hl,hq⟩:=choose_list (Q:=fun i (p:α)=>Q p∧∃ (b o:Nat) (cs:List Value),A=some ⟨b,o,none⟩∧cs.length=P.cellsOf e∧(∀ (j:Nat) (u:Value),cs[j]?=some u→w.cell? ⟨b,o+i*P.cellsOf e+j,none⟩=some u)∧(ec p).length=P.cellsOf e∧∀ (j:Nat) (a:AV) (u:Value),(ec p)[j]?=some a→cs[j]?=some u→RelC w a u) (n:=n) (by
  intro i hil;obtain ⟨b,o,cs,n',x',hA,hlen,hat,htr⟩:=hi i hil;obtain ⟨p,h1,h2,h3⟩:=hel n' cs x' hlen htr
  exact ⟨p,h1,b,o,cs,hA,hlen,hat,h2,h3⟩)
 subst hl;refine ⟨xs,fun p hp=>?_,?_⟩
 ·obtain ⟨i,hi⟩:=List.mem_iff_getElem?.1 hp;exact (hq i p hi).1
 have key:∀ (i:Nat) (row:List AV) (j:Nat) (a:AV),(xs.map ec)[i]?=some row→row[j]?=some a→∃ b o u,A=some ⟨b,o,none⟩∧w.cell? ⟨b,o+i*P.cellsOf e+j,none⟩=some u∧RelC w a u:=by
  intro i row j a hr ha;rw [List.getElem?_map] at hr;obtain ⟨p,hp,rfl⟩:=Option.map_eq_some_iff.1 hr;obtain ⟨_,b,o,cs,hA,hlen,hat,hel,hrel⟩:=hq i p hp;have hj:j<cs.length:=by rw [hlen,←hel];exact (List.getElem?_eq_some_iff.1 ha).1
  have hu:cs[j]?=some cs[j]:=List.getElem?_eq_getElem hj;exact ⟨b,o,cs[j],hA,hat j _ hu,hrel j a _ ha hu⟩
 have hcon:=RelD.ro (w:=w) (own:=fun _=>False) (bs:=w.heap.size) false (P.cellsOf e) (xs.map ec) A c (fun i j=>match A with
  | some ⟨b,o,_⟩=>(w.cell? ⟨b,o+i*P.cellsOf e+j,none⟩).getD undef
  | none=>undef) (by simpa using hn) hm (fun i hi hA=>by
   have hi:i<xs.length:=by simpa using hi
   obtain ⟨_,b,o,_,h1,_⟩:=hq i xs[i] (List.getElem?_eq_getElem hi)
   rw [hA] at h1;cases h1) (fun i row j a hr ha=>by
   obtain ⟨b,o,u,hA,hu,_⟩:=key i row j a hr ha;subst hA
   exact ⟨b,o,rfl,fun h=>h.elim,(fun h=>by cases h),by simp [hu]⟩) (fun i row j a hr ha=>by
   obtain ⟨b,o,u,hA,hu,hr⟩:=key i row j a hr ha;subst hA
   simpa [hu] using hr)
 rw [List.length_map] at hcon;exact hcon
end
theorem AF.yes {P:Program} {F:FuncId} {xs:List AV} {vs:Array Value} {w:World} (h:AF P F xs (.bool true)) (ha:ArgsV w (Gh.none w.heap.size) xs vs):Calls P F vs w fun e w'=>e=.returned (.bool true)∧Below w.heap.size w w' :=
 (h.out w vs ha).mono fun e w' ⟨v,he,hb,hv⟩=>⟨by rw [he,hv.bool'],hb⟩
end Go.Proofs.Ytelpkjellakigaa
/- Arguments of any type,opened by one theorem;the last step of a law that a residual program answers. -/
set_option maxRecDepth 100000
namespace Go.Proofs.Ytelpkjellakigaa
open Go Go.ChangeShapes Go.WideShapes Go.ChangeAt Go.RowKit Go.Deep

def Ty.wf:(t:Ty)→t.den→Prop
 | .int k,n=>(Lit.int k n).wf=true
 | .bool,_=>True
 | .str,s=>List.length s≤maxLen
 | .list t,xs=>List.length xs≤maxLen∧∀ x ∈ (xs:List t.den),t.wf x
 | .unit,_=>True
 | .pair a b,x=>a.wf x.1∧b.wf x.2
 | .agg t,x=>t.wf x
 | .ptr _,_=>False
def prB (t:Ty) (f:Ty→Ty→Bool):Bool:=match t with
 | .pair x y=>f x y
 | _=>false
def unB (t:Ty):Bool:=match t with
 | .unit=>true
 | _=>false
theorem prB_ok {t:Ty} {f:Ty→Ty→Bool} (h:prB t f=true):∃ x y,t=.pair x y∧f x y=true:=by
 unfold prB at h;split at h
 ·exact ⟨_,_,rfl,h⟩
 ·cases h
theorem unB_ok {t:Ty} (h:unB t=true):t=.unit:=by
 unfold unB at h;split at h
 ·rfl
 ·cases h
def fsB (g:TypeId→Ty→Bool):List Field→Nat→Ty→Bool
 | [],_,t=>unB t
 | [a],o,t=>Nat.beq a.offset o&&g a.type t
 | a::b::l,o,t=>prB t fun x y=>Nat.beq a.offset o&&g a.type x&&fsB g (b::l) (o+x.size) y
def arB (g:Ty→Bool):Nat→Ty→Bool
 | 0,t=>unB t
 | 1,t=>g t
 | n+2,t=>prB t fun x y=>g x&&arB g (n+1) y
def intB (k:IntKind) (t:Ty):Bool:=match t with
 | .int k'=>decide (k'=k)
 | _=>false
def boolB (t:Ty):Bool:=match t with
 | .bool=>true
 | _=>false
def strB (t:Ty):Bool:=match t with
 | .str=>true
 | _=>false
def sliceB (g:Ty→Bool) (t:Ty):Bool:=match t with
 | .list t'=>g t'&&Nat.blt 0 t'.size
 | _=>false
def tyB (P:Program):Nat→TypeId→Ty→Bool
 | 0,_,_=>false
 | f+1,tid,t=>Nat.beq (P.cellsOf tid) t.size&&(match P.underlying tid with
  | some (.int k)=>intB k t
  | some .bool=>boolB t
  | some .string=>strB t
  | some (.slice e)=>sliceB (tyB P f e) t
  | some (.struct ⟨fs⟩)=>fsB (tyB P f) fs 0 t
  | some (.array n e)=>arB (tyB P f e) n t
  | _=>false)
section
variable {H:Type} {enc:TypeId×Value→H} {P:Program} {w:World} {base:Nat} {spare:Nat→Bool} {held:Bool}
abbrev ReadsT (w:World) (t:Ty) (cs:List Value):Prop:=Reads w t.size (t.cells false) t.wf cs
theorem tyB_size {f:Nat} {tid:TypeId} {t:Ty} (h:tyB P f tid t=true):P.cellsOf tid=t.size:=by
 cases f with
 | zero=>cases h
 | succ f=>rw [tyB,Bool.and_eq_true] at h;exact Nat.eq_of_beq_eq_true h.1
theorem ReadsT.pair {a b:Ty} {c d:List Value} (h:ReadsT w a c) (k:ReadsT w b d) (hl:c.length=a.size):ReadsT w (.pair a b) (c++d):=by
 obtain ⟨x,x1,x2,x3⟩:=h;obtain ⟨y,y1,y2,y3⟩:=k;refine ⟨(x,y),⟨x1,y1⟩,Ty.cells_length _ _ _,fun j v u hv hu=>?_⟩;rw [Ty.cells] at hv;by_cases hj:j<a.size
 ·rw [List.getElem?_append_left (by rw [x2];exact hj)] at hv;rw [List.getElem?_append_left (by omega)] at hu;exact x3 j v u hv hu
 ·rw [List.getElem?_append_right (by rw [x2];omega),x2] at hv;rw [List.getElem?_append_right (by omega),hl] at hu;exact y3 _ v u hv hu
theorem ReadsT.unit:ReadsT w .unit []:=⟨(),trivial,rfl,fun j a u h _=>by simp [Ty.cells] at h⟩
theorem fs_reads {g:TypeId→Ty→Bool} (hg:∀ (tid:TypeId) (t:Ty) (n:Nat) (cs:List Value) (x:DataW H×List MemPlace),g tid t=true→cs.length=t.size→DataW.trod enc P w base spare held n tid cs=some x→ReadsT w t cs) (hsz:∀ tid t,g tid t=true→P.cellsOf tid=t.size) {cs:List Value} :
  ∀ (l:List Field) (o:Nat) (t:Ty),fsB g l o t=true→(∀ a ∈ l,∃ n y,DataW.trod enc P w base spare held n a.type ((cs.drop a.offset).take (P.cellsOf a.type))=some y)→o+t.size≤cs.length→ReadsT w t ((cs.drop o).take t.size)
 | [],o,t,h,_,_=>by
  rw [unB_ok h,show Ty.unit.size=0 from rfl,List.take_zero];exact .unit
 | [a],o,t,h,hr,hl=>by
  rw [fsB,Bool.and_eq_true] at h;obtain ⟨n,y,hy⟩:=hr a (by simp);rw [Nat.eq_of_beq_eq_true h.1,hsz _ _ h.2] at hy;exact hg _ _ n _ y h.2 (by rw [List.length_take,List.length_drop];omega) hy
 | a::b::l,o,t,h,hr,hl=>by
  obtain ⟨x,y,rfl,h'⟩:=prB_ok h;clear h;have h:=h';clear h';rw [Bool.and_eq_true,Bool.and_eq_true] at h;obtain ⟨n,z,hz⟩:=hr a (by simp);rw [Nat.eq_of_beq_eq_true h.1.1,hsz _ _ h.1.2] at hz;have hs:(Ty.pair x y).size=x.size+y.size:=rfl;rw [hs] at hl;have h1:=hg _ _ n _ z h.1.2 (by rw [List.length_take,List.length_drop];omega) hz;have h2:=fs_reads hg hsz (b::l) (o+x.size) y h.2 (fun a ha=>hr a (List.mem_cons_of_mem _ ha)) (by omega);rw [hs,List.take_add,List.drop_drop];exact h1.pair h2 (by rw [List.length_take,List.length_drop];omega)
theorem ar_reads {g:Ty→Bool} {e:TypeId} (hg:∀ (t:Ty) (n:Nat) (cs:List Value) (x:DataW H×List MemPlace),g t=true→cs.length=t.size→DataW.trod enc P w base spare held n e cs=some x→ReadsT w t cs) (hsz:∀ t,g t=true→P.cellsOf e=t.size) {cs:List Value} :
  ∀ (k o:Nat) (t:Ty),arB g k t=true→(∀ i,i<k→∃ n y,DataW.trod enc P w base spare held n e ((cs.drop (o+i*P.cellsOf e)).take (P.cellsOf e))=some y)→o+t.size≤cs.length→ReadsT w t ((cs.drop o).take t.size)
 | 0,o,t,h,_,_=>by
  rw [unB_ok h,show Ty.unit.size=0 from rfl,List.take_zero];exact .unit
 | 1,o,t,h,hr,hl=>by
  rw [arB] at h;obtain ⟨n,y,hy⟩:=hr 0 (by omega);rw [hsz _ h,Nat.zero_mul,Nat.add_zero] at hy;exact hg _ n _ y h (by rw [List.length_take,List.length_drop];omega) hy
 | k+2,o,t,h,hr,hl=>by
  obtain ⟨x,y,rfl,h'⟩:=prB_ok h;clear h;have h:=h';clear h';rw [Bool.and_eq_true] at h;obtain ⟨n,z,hz⟩:=hr 0 (by omega);rw [hsz _ h.1,Nat.zero_mul,Nat.add_zero] at hz;have hs:(Ty.pair x y).size=x.size+y.size:=rfl;rw [hs] at hl;have h1:=hg _ n _ z h.1 (by rw [List.length_take,List.length_drop];omega) hz
  have h2:=ar_reads hg hsz (k+1) (o+x.size) y h.2 (fun i hi=>by
   obtain ⟨n,z,hz⟩:=hr (i+1) (by omega);refine ⟨n,z,?_⟩
   rw [←hz,←hsz _ h.1,Nat.add_mul,Nat.one_mul,Nat.add_assoc,Nat.add_comm (P.cellsOf e)]) (by omega)
  rw [hs,List.take_add,List.drop_drop];exact h1.pair h2 (by rw [List.length_take,List.length_drop];omega)
theorem ro_len {own:Nat→Prop} {bs sz:Nat} {fr:Bool} {rows:List (List AV)} {v:Value} (h:RelD w own bs (.ro fr sz rows) v):rows.length≤maxLen:=by
 cases h with
 | ro fr sz rows A c f hc hm h0 h1 h2=>omega
theorem one_cell {cs:List Value} (h:cs.length=1):∃ u,cs=[u]:=by match cs,h with | [u],_=>exact ⟨u,rfl⟩
theorem reads_ty:∀ (f:Nat) (tid:TypeId) (t:Ty) (n:Nat) (cs:List Value) (x:DataW H×List MemPlace),tyB P f tid t=true→cs.length=t.size→DataW.trod enc P w base spare held n tid cs=some x→ReadsT w t cs
 | 0,_,_,_,_,_,h,_,_=>by cases h
 | f+1,tid,t,n,cs,x,h,hl,hx=>by
  have hsize:=tyB_size h;rw [tyB,Bool.and_eq_true] at h;obtain ⟨_,h⟩:=h;split at h
  ·rename_i k hu;unfold intB at h;split at h
   ·have hk:=of_decide_eq_true h;subst hk;obtain ⟨m,rfl,_,hwf⟩:=DataW.trod_int hu hx;refine ⟨m,hwf,rfl,fun j a u ha hu=>?_⟩
    match j with
    | 0=>simp [Ty.cells] at ha hu;subst ha;subst hu;exact .int _ _
    | j+1=>simp [Ty.cells] at ha
   ·cases h
  ·rename_i hu;unfold boolB at h;split at h
   ·obtain ⟨m,rfl,_⟩:=DataW.trod_bool hu hx;refine ⟨m,trivial,rfl,fun j a u ha hu=>?_⟩
    match j with
    | 0=>simp [Ty.cells] at ha hu;subst ha;subst hu;exact .bool _
    | j+1=>simp [Ty.cells] at ha
   ·cases h
  ·rename_i hu;unfold strB at h;split at h
   ·obtain ⟨s,rfl,_,hs⟩:=DataW.trod_string hu hx;refine ⟨s.data.toList,by rw [Ty.wf,Array.length_toList];exact hs,rfl,fun j a u ha hu=>?_⟩
    match j with
    | 0=>simp [Ty.cells] at ha hu;subst ha;subst hu;exact .str _
    | j+1=>simp [Ty.cells] at ha
   ·cases h
  ·rename_i e hu;unfold sliceB at h;split at h
   ·rename_i _ t' _;rw [Bool.and_eq_true] at h;have hpos:0<t'.size:=Nat.le_of_ble_eq_true h.2;obtain ⟨v,rfl⟩:=one_cell hl;obtain ⟨xs,hw,hr⟩:=ro_slice (t'.cells false) t'.wf hu (tyB_size h.1) hpos (fun m cs x hl hx=>reads_ty f e t' m cs x h.1 hl hx) hx;refine ⟨xs,⟨?_,hw⟩,rfl,fun j a u ha hu=>?_⟩
    ·have:=ro_len hr;rw [List.length_map] at this;exact this
    match j with
    | 0=>simp [Ty.cells] at ha hu;subst ha;subst hu;exact hr
    | j+1=>simp [Ty.cells] at ha
   ·cases h
  ·rename_i fs hu;obtain ⟨xs,m,_,_,_,hxl,hat⟩:=DataW.trod_struct hu hx
   have:=fs_reads (cs:=cs) (fun tid t n cs x h1 h2 h3=>reads_ty f tid t n cs x h1 h2 h3) (fun tid t h=>tyB_size h) fs 0 t h (fun a ha=>by
    obtain ⟨i,hi⟩:=List.mem_iff_getElem?.1 ha;have hi':i<xs.length:=by rw [hxl];exact (List.getElem?_eq_some_iff.1 hi).1
    exact ⟨m,_,by rw [hat i a (by simpa using hi),List.getElem?_eq_getElem hi']⟩) (by omega)
   rw [List.drop_zero,List.take_of_length_le (by omega)] at this;exact this
  ·rename_i k e hu;obtain ⟨xs,m,_,_,_,hxl,hat⟩:=DataW.trod_array hu hx
   have:=ar_reads (cs:=cs) (e:=e) (fun t n cs x h1 h2 h3=>reads_ty f e t n cs x h1 h2 h3) (fun t h=>tyB_size h) k 0 t h (fun i hi=>by
    have hi':i<xs.length:=by rw [hxl];exact hi
    exact ⟨m,_,by rw [Nat.zero_add,hat i hi,List.getElem?_eq_getElem hi']⟩) (by omega)
   rw [List.drop_zero,List.take_of_length_le (by omega)] at this;exact this
  ·cases h
def aggP (P:Program) (tid:TypeId):Bool:=match P.underlying tid with
 | some (.struct _)=>true
 | some (.array _ _)=>true
 | _=>false
def cellP (P:Program) (tid:TypeId):Bool:=match P.underlying tid with
 | some (.int _)=>true
 | some .bool=>true
 | some .string=>true
 | some (.slice _)=>true
 | _=>false
def argB (P:Program) (tid:TypeId) (a:Ty):Bool:=match a with
 | .agg t=>tyB P 9 tid t&&aggP P tid
 | .int k=>tyB P 9 tid (.int k)&&cellP P tid
 | .bool=>tyB P 9 tid .bool&&cellP P tid
 | .str=>tyB P 9 tid .str&&cellP P tid
 | .list t=>tyB P 9 tid (.list t)&&cellP P tid
 | _=>false
def argsB (P:Program):List TypeId→Ty→Bool
 | [],t=>unB t
 | tid::l,t=>prB t fun a b=>argB P tid a&&argsB P l b
theorem okWide_arr {n b:Nat} {r:Go.Reach} {t e:TypeId} {v:Value} (ht:P.underlying t=some (.array n e)) (h:Value.okWide P w r b t v):∃ cs,v=.agg cs∧cs.size=P.cellsOf t:=by
 simp only [Value.okWide,ht] at h;obtain ⟨cs,h1,h2,_⟩:=h;exact ⟨cs,h1,h2⟩
theorem arg_agg {tid:TypeId} {t:Ty} {v:Value} {d:DataW H} {p:List MemPlace} {b:Nat} (h:tyB P 9 tid t=true) (ha:aggP P tid=true) (hv:Value.okWide P w .any b tid v) (hd:DataW.Trod enc P w base spare held tid v d p):∃ x:t.den,t.wf x∧RelV w (Gh.none w.heap.size) (.agg (t.cells false x)) v:=by
 obtain ⟨cs,rfl,hs⟩:∃ cs,v=.agg cs∧cs.size=P.cellsOf tid:=by
  unfold aggP at ha;split at ha
  ·rename_i h1;exact okWide_struct h1 hv
  ·rename_i h1;exact okWide_arr h1 hv
  ·cases ha
 obtain ⟨n,hd⟩:=hd;have hl:cs.toList.length=t.size:=by rw [←tyB_size h,←hs];simp
 obtain ⟨x,x1,x2,x3⟩:=reads_ty 9 tid t n cs.toList _ h hl hd;exact ⟨x,x1,.agg _ _ (by rw [x2,←hl];simp) fun i a u ha hu=>.dat (x3 i a u ha (by simpa using hu))⟩
theorem arg_cell {tid:TypeId} {t:Ty} {v:Value} {d:DataW H} {p:List MemPlace} {b:Nat} (h:tyB P 9 tid t=true) (hc:cellP P tid=true) (h1:t.size=1) (hv:Value.okWide P w .any b tid v) (hd:DataW.Trod enc P w base spare held tid v d p):∃ x:t.den,t.wf x∧∀ a,(t.cells false x)[0]?=some a→RelV w (Gh.none w.heap.size) a v:=by
 have hd:∃ n,DataW.trod enc P w base spare held n tid [v]=some (d,p):=by
  unfold cellP at hc;split at hc
  ·rename_i hu;obtain ⟨m,rfl⟩:=okWide_int hu hv;exact hd
  ·rename_i hu;obtain ⟨m,rfl⟩:=okWide_bool hu hv;exact hd
  ·rename_i hu;obtain ⟨m,rfl⟩:=okWide_string hu hv;exact hd
  ·rename_i hu;obtain ⟨a,n,c,rfl⟩:=okWide_slice hu hv;exact hd
  ·cases hc
 obtain ⟨n,hd⟩:=hd;obtain ⟨x,x1,x2,x3⟩:=reads_ty 9 tid t n [v] _ h (by rw [h1];rfl) hd;exact ⟨x,x1,fun a ha=>.dat (x3 0 a v ha rfl)⟩
theorem arg_ty {tid:TypeId} {v:Value} {d:DataW H} {p:List MemPlace} {b:Nat}:∀ {a:Ty},argB P tid a=true→Value.okWide P w .any b tid v→DataW.Trod enc P w base spare held tid v d p→∃ x:a.den,a.wf x∧RelV w (Gh.none w.heap.size) (a.av false x) v
 | .agg t,h,hv,hd=>by
  rw [argB,Bool.and_eq_true] at h;obtain ⟨x,h1,h2⟩:=arg_agg h.1 h.2 hv hd;exact ⟨x,h1,by rw [Ty.av];exact h2⟩
 | .int k,h,hv,hd=>by
  rw [argB,Bool.and_eq_true] at h;obtain ⟨x,h1,h2⟩:=arg_cell h.1 h.2 rfl hv hd;exact ⟨x,h1,h2 _ rfl⟩
 | .bool,h,hv,hd=>by
  rw [argB,Bool.and_eq_true] at h;obtain ⟨x,h1,h2⟩:=arg_cell h.1 h.2 rfl hv hd;exact ⟨x,h1,h2 _ rfl⟩
 | .str,h,hv,hd=>by
  rw [argB,Bool.and_eq_true] at h;obtain ⟨x,h1,h2⟩:=arg_cell h.1 h.2 rfl hv hd;exact ⟨x,h1,h2 _ rfl⟩
 | .list t,h,hv,hd=>by
  rw [argB,Bool.and_eq_true] at h;obtain ⟨x,h1,h2⟩:=arg_cell h.1 h.2 rfl hv hd;exact ⟨x,h1,h2 _ rfl⟩
 | .unit,h,_,_=>by cases h
 | .pair _ _,h,_,_=>by cases h
 | .ptr _,h,_,_=>by cases h
inductive RelsV (w:World) (G:Gh):List AV→List Value→Prop
 | nil:RelsV w G [] []
 | cons {a:AV} {v:Value} {l:List AV} {m:List Value} (h:RelV w G a v) (k:RelsV w G l m):RelsV w G (a::l) (v::m)
theorem RelsV.args {G:Gh} {l:List AV} {m:List Value} (h:RelsV w G l m):ArgsV w G l m.toArray:=by
 induction h with
 | nil=>exact ⟨rfl,fun i a v ha hv=>by simp at ha⟩
 | cons h k ih =>
  refine ⟨by have:=ih.size;simp at this ⊢;exact this,fun i a v ha hv=>?_⟩
  cases i with
  | zero=>simp at ha hv;subst ha;subst hv;exact h
  | succ i=>exact ih.rel i a v (by simpa using ha) (by simpa using hv)
theorem args_ty {b:Nat}:∀ {ts:List TypeId} {σ:Ty} {vs:List Value} {ds:List (DataW H)} {ps:List MemPlace},argsB P ts σ=true→(∀ (j:Nat) t v,ts[j]?=some t→vs[j]?=some v→Value.okWide P w .any b t v)→DataW.TrodAll enc P w base spare held ts vs ds ps→∃ x:σ.den,σ.wf x∧RelsV w (Gh.none w.heap.size) (σ.avs false x) vs
 | [],σ,vs,ds,ps,h,_,hA=>by
  obtain ⟨rfl,rfl,rfl⟩:=trodAll_nil hA;have e:=unB_ok h;subst e;exact ⟨(),trivial,.nil⟩
 | tid::l,σ,vs,ds,ps,h,hv,hA=>by
  obtain ⟨v,vs,d,ds,p,q,rfl,rfl,rfl,h0,r0⟩:=trodAll_cons hA;obtain ⟨a,c,rfl,h'⟩:=prB_ok h;clear h;have h:=h';clear h';rw [Bool.and_eq_true] at h;obtain ⟨x,x1,x2⟩:=arg_ty h.1 (hv 0 tid v rfl rfl) h0;obtain ⟨y,y1,y2⟩:=args_ty h.2 (fun j t u ht hu=>hv (j+1) t u (by simpa using ht) (by simpa using hu)) r0;exact ⟨(x,y),⟨x1,y1⟩,by rw [Ty.avs];exact .cons x2 y2⟩
end
theorem law_any {H:Type} {enc:TypeId×Value→H} {F:Nat} {ts:List TypeId} {σ:Ty} {f:Nat→σ.den→Option (Bool×Unit)} {nm:Nat} (hc:CtrOk Try.prog F ⟨σ,.pair .bool .unit,f,nm⟩) (hB:argsB Try.prog ts σ=true) (hp:∀ x:σ.den,σ.wf x→f FU x=some (true,())) {W:World} {b:Nat} {args:List Value} {ds:List (DataW H)} {ps:List MemPlace}
  (hv:∀ (j:Nat) t v,ts[j]?=some t→args[j]?=some v→Value.okWide Try.prog W .any b t v) (hA:DataW.TrodAll enc Try.prog W 0 (fun _=>true) true ts args ds ps) :
  Calls Try.prog F args.toArray W fun e W'=>e=.returned (.bool true)∧Below W.heap.size W W':=by
 obtain ⟨x,hx,hr⟩:=args_ty hB hv hA;exact AF.yes (hc FU x (true,()) (hp x hx)) hr.args
end Go.Proofs.Ytelpkjellakigaa
/- The law CameraImages. -/
namespace Go.Proofs.Ytelpkjellakigaa
open Go Go.RowKit
set_option linter.unusedSimpArgs false
set_option linter.unusedSectionVars false
set_option linter.unusedVariables false
namespace Ci
theorem check_ok {fu:Nat} {w h:Nat} {px:List Int} (w0:1≤w) (w1:w≤1024) (h0:1≤h) (h1:h≤1024) (hl:px.length=h*w):camera_Check_r fu (((w:Int),((h:Int),px)),())=some (0,()):=by
 have hn2:h*w≤1024*1024:=Nat.mul_le_mul h1 w1
 have e:IntKind.i64.wrap ((w:Int)*(h:Int))=((h*w:Nat):Int):=by
  rw [←Int.natCast_mul,Nat.mul_comm];exact wr64 (by omega) (by omega)
 unfold camera_Check_r;simp only [joinF_eq];rw [bif_neg (by omega),bif_neg (by omega),bif_neg (by omega),decide_eq_false (by omega)];unfold camera_Check_j1;simp only [cond_false];rw [e,hl,bif_neg (by simp)]
theorem bin_r {fu:Nat} (hf:18446744073709551616≤fu) {w h:Nat} {px:List Int} (w0:1≤w) (w1:w≤1024) (h0:1≤h) (h1:h≤1024) (hl:px.length=h*w) (hb:Bytes px):camera_Binarize_r fu (((w:Int),((h:Int),px)),())=some (((w:Int),((h:Int),canon w h (FS px w))),(0,())):=by
 unfold camera_Binarize_r;rw [check_ok w0 w1 h0 h1 hl];simp only [bindO_some];rw [bif_neg (by decide),split_r hf w0 w1 h0 h1 hl hb,bindO_some]
theorem none0 (fu:Nat) (e:Int):law_none_r fu (true,(e,(e,())))=some (true,()):=by
 rw [none_r,decide_eq_true rfl];rfl
section
variable {fu:Nat} (hf:18446744073709551616≤fu)
include hf
theorem bad (a:(Int×Int×List Int)×(Int×Int×Int×Int×Int×Int×Int×List Int)×Unit) {e:Int} (he:e≠0):law_CameraImages_j2 fu a ((0,(0,[])),(e,())) e e=some (true,()):=by
 unfold law_CameraImages_j2;simp only;rw [bif_pos he,bif_pos trivial,bif_pos trivial,show (decide ((List.length ([]:List Int):Int)=0))=true from rfl,none0,bindO_some]
theorem search {a:(Int×Int×List Int)×(Int×Int×Int×Int×Int×Int×Int×List Int)×Unit} {w h:Nat} {px:List Int} (w0:1≤w) (w1:w≤1024) (h0:1≤h) (h1:h≤1024) (hl:px.length=h*w) (hb:Bytes px) (hR:R_Captured_r fu (a.1,(a.2.1,()))=some (((w:Int),((h:Int),px)),())):law_CameraImages_j3 fu a (((w:Int),((h:Int),px)),(0,())) 0 false=some (true,()):=by
 have hn:1*1≤h*w:=Nat.mul_le_mul h0 w0;have hn2:h*w≤1024*1024:=Nat.mul_le_mul h1 w1;unfold law_CameraImages_j3;simp only [cond_false];rw [hR,bindO_some];simp only [joinF_eq];rw [bif_neg (by decide),bif_neg (by simp),bif_neg (by simp),check_ok w0 w1 h0 h1 hl]
 have hS:R_SameBytes_r fu (px,(px,()))=some (true,()):=by
  unfold R_SameBytes_r;simp only [decide_true]
 rw [hS];simp only [bindO_some,Bool.not_true,cond_false];unfold law_CameraImages_j4;rw [show (decide ((0:Int)≠0))=false from rfl];simp only [cond_false];refine stLoop (n:=h*w) (by omega) (st:=fun k=>(mxR px 0 k,(mnR px 255 k,(k:Int)))) rfl ?_ ?_
 ·intro j k hk;have pk:=hb.at k;unfold law_CameraImages_l5;simp only;rw [hl,bif_pos (Int.ofNat_lt.2 hk),bif_and (Int.natCast_nonneg _) (Int.ofNat_lt.2 hk),Int.toNat_natCast,nx (by omega),wr64 (x:=px.getD k 0) (by omega) (by omega)];rfl
 ·intro j;unfold law_CameraImages_l5;simp only;rw [hl,bif_neg (Int.lt_irrefl _),bif_and (Int.natCast_nonneg _) (by omega),Int.toNat_natCast];refine stLoop (n:=h*w) (by omega) (st:=fun k=>((k:Int),mix (h*w) k (fun i=>decide (2*px.getD i 0<mnR px 255 (h*w)+mxR px 0 (h*w))) (List.replicate (h*w) false) false)) ?_ ?_ ?_
  ·exact Prod.ext rfl (mix_zero (List.length_replicate ..))
  ·intro j2 k hk;have pk:=hb.at k;have m1:=mn_bd hb (c:=255) (by omega) (h*w);have m2:=mx_bd hb (c:=0) (by omega) (h*w);unfold law_CameraImages_l6;simp only [mix_len];rw [hl,bif_pos (Int.ofNat_lt.2 hk),bif_and (Int.natCast_nonneg _) (Int.ofNat_lt.2 hk),bif_and (Int.natCast_nonneg _) (Int.ofNat_lt.2 hk),Int.toNat_natCast,nx (by omega),wr64 (x:=px.getD k 0) (by omega) (by omega),wr64 (x:=2*px.getD k 0) (by omega) (by omega),wr64 (x:=mnR px 255 (h*w)+mxR px 0 (h*w)) (by omega) (by omega),mix_set rfl]
  ·intro j2;unfold law_CameraImages_l6;simp only;rw [hl,bif_neg (Int.lt_irrefl _),bin_r hf w0 w1 h0 h1 hl hb,bindO_some];simp only;rw [bif_pos trivial,mix_full];rw [drawn_r hf (w:=(w:Int)) (h:=(h:Int)) (by omega) (by omega) (by omega) (by omega) (by rw [tb_len,Int.natCast_mul,Int.mul_comm]),bindO_some];rw [canon_congr (P:=fun x y=>(tb (h*w) fun i=>decide (2*px.getD i 0<mnR px 255 (h*w)+mxR px 0 (h*w))).getD (y*(w:Int)+x).toNat false) (Q:=FS px w) (by omega) fun a b ha0 ha1 hb0 hb1=>?_]
   ·rw [same_r,bindO_some]
   ·obtain ⟨a,rfl⟩:=Int.eq_ofNat_of_zero_le ha0;obtain ⟨b,rfl⟩:=Int.eq_ofNat_of_zero_le hb0;have:=flat_lt (Int.ofNat_lt.1 hb1) (Int.ofNat_lt.1 ha1);unfold FS;rw [←Int.natCast_mul,←Int.natCast_add,Int.toNat_natCast,tb_get this,hl]
theorem cameraImages_r {w h s X Y t b L Dk:Int} {ds ns:List Int} (hb:Bytes ds) (hwk:law_cameraWorks_r fu ()=some (true,())) :
  law_CameraImages_r fu ((w,(h,ds)),((s,(X,(Y,(t,(b,(L,(Dk,ns))))))),()))=some (true,()):=by
 unfold law_CameraImages_r;rw [hwk,bindO_some];simp only [Bool.not_true,cond_false,joinF_eq];have hC:=check_r hf (w:=w) (h:=h) hb;have hE:=bitsErr_r hf (w:=w) (h:=h) hb;have hV:=chk_r hf (s:=s) (X:=X) (Y:=Y) (t:=t) (b:=b) (L:=L) (Dk:=Dk) (ns:=ns);have hW:=rchk_r hf (s:=s) (X:=X) (Y:=Y) (t:=t) (b:=b) (L:=L) (Dk:=Dk) (ns:=ns);rw [hE,hW,hV];by_cases e0:bitsE w h ds=0
 ·obtain ⟨d1,d2,d3,d4,d5⟩:=bitsE_dim e0;by_cases v0:viewE s X Y t b L Dk ns=0
  ·obtain ⟨⟨r1,r2,r3,r4,r5,r6,r7⟩,r8,r9⟩:=view_ok v0;have hT:=turned_r hf hb e0 (k:=t) (by omega) (by omega);have hTR:=rturned_r hf hb e0 (k:=t) (by omega) (by omega)
   have hmax:max w h=max (tw w h t) (tw h w t):=by unfold tw;split <;> omega
   have htb:1≤tw w h t∧tw w h t≤1024∧1≤tw h w t∧tw h w t≤1024:=by unfold tw;split <;> omega
   generalize tw w h t=TW at *
   generalize tw h w t=TH at *
   have m1:TW*s≤1024*8:=Int.mul_le_mul htb.2.1 r1.2 (by omega) (by omega);have m2:TH*s≤1024*8:=Int.mul_le_mul htb.2.2.2 r1.2 (by omega) (by omega);have m3:0<TW*s:=Int.mul_pos (by omega) (by omega);have m4:0<TH*s:=Int.mul_pos (by omega) (by omega)
   have m5:(max TW TH)*s=max (TW*s) (TH*s):=by
    by_cases c:TW≤TH
    ·have:TW*s≤TH*s:=Int.mul_le_mul_of_nonneg_right c (by omega);rw [Int.max_eq_right c,Int.max_eq_right this]
    ·have:TH*s≤TW*s:=Int.mul_le_mul_of_nonneg_right (by omega) (by omega);rw [Int.max_eq_left (by omega),Int.max_eq_left this]
   have eM:IntKind.i64.wrap (IntKind.i64.wrap ((max w h)*s)+32)=max (TW*s) (TH*s)+32:=by
    rw [hmax,m5,wr64 (x:=max (TW*s) (TH*s)) (by omega) (by omega),wr64 (by omega) (by omega)]
   have e1:IntKind.i64.wrap (IntKind.i64.wrap (TW*s)+32)=TW*s+32:=by
    rw [wr64 (x:=TW*s) (by omega) (by omega),wr64 (by omega) (by omega)]
   have e2:IntKind.i64.wrap (IntKind.i64.wrap (TH*s)+32)=TH*s+32:=by
    rw [wr64 (x:=TH*s) (by omega) (by omega),wr64 (by omega) (by omega)]
   rw [e0] at hC ⊢;rw [v0] at hV ⊢;by_cases big:1024<max (TW*s) (TH*s)+32
   ·have hcap:camera_Capture_r fu ((w,(h,ds)),((s,(X,(Y,(t,(b,(L,(Dk,ns))))))),()))=some ((0,(0,[])),(19,())):=by
     have jt:camera_Capture_j1 fu ((w,(h,ds)),((s,(X,(Y,(t,(b,(L,(Dk,ns))))))),())) ((TW,(TH,canon TW TH (turnP w h t (pixB w h ds)))),()) true=some ((0,(0,[])),(19,())):=rfl;unfold camera_Capture_r;simp only [hC,hV,hT,bindO_some,joinF_eq,e1,e2];rw [bif_neg (by decide),bif_neg (by decide)];by_cases c:1024<TW*s+32
     ·rw [bif_pos c,jt]
     ·rw [bif_neg c,decide_eq_true (show 1024<TH*s+32 by omega),jt]
    rw [hcap];simp only [bindO_some];rw [bif_pos trivial,bif_neg (by decide)];unfold law_CameraImages_j1 law_CameraImages_j7;simp only [joinF_eq];rw [bif_pos trivial,eM,decide_eq_true big];simp only [cond_true];exact bad hf _ (by decide)
   ·obtain ⟨W,hW⟩:=Int.eq_ofNat_of_zero_le (show 0≤TW*s+32 by omega);obtain ⟨H,hH⟩:=Int.eq_ofNat_of_zero_le (show 0≤TH*s+32 by omega);have D:V s X Y b L Dk TW TH ns W H:=⟨r1.1,r1.2,r2.1,r2.2,r3.1,r3.2,r5.1,r5.2,r6.1,r6.2,r7.1,r7.2,htb.1,htb.2.1,htb.2.2.1,htb.2.2.2,hW,hH,by omega,by omega,r8,ns_at r9⟩;rw [cap_r D hf hC hV hT];simp only [bindO_some];rw [bif_pos trivial,bif_neg (by decide)];unfold law_CameraImages_j1 law_CameraImages_j7;simp only [joinF_eq];rw [bif_pos trivial,eM,decide_eq_false big];simp only [cond_false];unfold law_CameraImages_j2;simp only [joinF_eq];rw [bif_neg (by decide)];have io:=D.img_ok (P:=turnP w h t (pixB w h ds));have sr:=search hf (a:=((w,(h,ds)),((s,(X,(Y,(t,(b,(L,(Dk,ns))))))),()))) (show 1≤W by have:=D.w0;omega) D.w1 (show 1≤H by have:=D.w0;omega) D.h1 io.1 io.2 (rcap_r D hf hTR);by_cases c:24<w
    ·rw [bif_pos c];rfl
    ·rw [bif_neg c];by_cases c2:24<h
     ·rw [decide_eq_true c2];rfl
     ·rw [decide_eq_false c2];exact sr
  ·have hcap:camera_Capture_r fu ((w,(h,ds)),((s,(X,(Y,(t,(b,(L,(Dk,ns))))))),()))=some ((0,(0,[])),(viewE s X Y t b L Dk ns,())):=by
    unfold camera_Capture_r;simp only [hC,hV,e0,bindO_some,joinF_eq];rw [bif_neg (by decide),bif_pos v0]
   rw [hcap,e0];simp only [bindO_some];rw [bif_pos trivial,bif_neg (by simp)];unfold law_CameraImages_j1 law_CameraImages_j7;simp only [joinF_eq];rw [bif_neg v0];simp only [cond_false];exact bad hf _ v0
 ·have hcap:camera_Capture_r fu ((w,(h,ds)),((s,(X,(Y,(t,(b,(L,(Dk,ns))))))),()))=some ((0,(0,[])),(bitsE w h ds,())):=by
   unfold camera_Capture_r;simp only [hC,bindO_some,joinF_eq];rw [bif_pos e0]
  rw [hcap];simp only [bindO_some];rw [bif_neg e0];unfold law_CameraImages_j1 law_CameraImages_j7;simp only [joinF_eq];rw [bif_neg e0];simp only [cond_false];exact bad hf _ e0
end
end Ci
namespace Cm
theorem wf_u8 {x:Int} (h:(Lit.int .u8 x).wf=true):0≤x∧x≤255:=by
 unfold Lit.wf at h;simpa [IntKind.min,IntKind.max,IntKind.signed,IntKind.bits] using h
theorem wfB {l:List Int} (h:∀ x ∈ l,(Lit.int .u8 x).wf=true):Bytes l:=fun d hd=>wf_u8 (h d hd)
end Cm
end Go.Proofs.Ytelpkjellakigaa
/- A call that leaves no other goroutine: the sentence about those that are only leaving. No program in sight. -/
namespace Go.Proofs.Ytelpkjellakigaa
open Go
theorem quiet_leaving {P:Program} {m:Machine} (h:m.quiet):m.OnlyLeaving P:=by
 obtain ⟨h1,h2⟩:=h;refine ⟨fun g hg=>⟨0,?_⟩,h2⟩;unfold Machine.othersDone at h1;have h3:=List.all_eq_true.1 h1 g hg;exact eq_of_beq h3
theorem leaving_of_handed {a:Go.Assume} {C:Go.Checked} {os:Go.Os} {f:FuncId} {r:Go.Reach} {Pre:World→Array Value→Prop} {Post:World→Array Value→Value→World→Prop}
  (h:ReturnsInHanded a C os f r Pre Post):ReturnsInLeavingWide a C os f r Pre Post:=fun enter=>by
 obtain ⟨e1,own,started,wit,runs⟩:=h enter;refine ⟨e1,own,started,wit,fun w tape i hi=>?_⟩;obtain ⟨N,v,w',h1,h2,h3,h4,⟨M,last,g1,g2,q,ho,eh⟩,h6⟩:=runs w tape i hi;exact ⟨N,v,w',h1,h2,h3,h4,⟨M,last,g1,g2,ho,quiet_leaving q,eh⟩,h6⟩
end Go.Proofs.Ytelpkjellakigaa
/- CameraImages: for every input this law returns true and leaves its arguments as they were. -/
namespace Go.Proofs.Ytelpkjellakigaa
open Go.ChangeShapes Go.WideShapes Go.ChangeAt Go.RowKit

set_option maxRecDepth 100000 in
theorem cameraImages_lifted (os:Os) (started:os.Started) (H:Type) (enc:TypeId×Value→H) :
  ReturnsInHanded {} Try.checked os 11 .any (Rows.cameraImagesSpec.pre6 enc Try.prog Try.f11 Rows.cameraImagesRow.domain false) (Rows.cameraImagesSpec.post enc Try.prog Try.f11 false true false false):=by
 refine law_lifted started (by kernel_rfl) Try.func11
  (ChangeSpec.witness6 (enc:=enc) (C:=Try.checked) false ⟨#[],#[.agg #[.int .i64 0,.int .i64 0,.slice none 0 0],.agg #[.int .i64 0,.int .i64 0,.int .i64 0,.int .i64 0,.int .i64 0,.int .i64 0,.int .i64 0,.slice none 0 0]],[]⟩ 8 (by kernel_rfl) (by kernel_rfl) (by kernel_rfl) (by kernel_rfl)) rfl rfl (by kernel_rfl)
  (fun ds h=>by rw [Try.params11] at h;match ds,h with | [_,_],_=>rfl) ?_
 intro W base args ds ps hval hA hsz hlt;rw [Try.params11] at hA hval;exact law_any law_CameraImages_ok (by kernel_rfl) ((fun x hx=>Ci.cameraImages_r (Nat.le_of_eq FU_val.symm) (w:=x.1.1) (h:=x.1.2.1) (ds:=x.1.2.2) (s:=x.2.1.1) (X:=x.2.1.2.1) (Y:=x.2.1.2.2.1) (t:=x.2.1.2.2.2.1) (b:=x.2.1.2.2.2.2.1) (L:=x.2.1.2.2.2.2.2.1) (Dk:=x.2.1.2.2.2.2.2.2.1) (ns:=x.2.1.2.2.2.2.2.2.2) (Cm.wfB hx.1.2.2.2) rfl)) (fun j t v ht hv=>hval j t v (by simpa using ht) hv) hA

theorem cameraImages_holds:Rows.CameraImagesSaid :=
 OpenClaim.holds_of_wide_leaving 11 Try.f11 rfl rfl rfl rfl rfl rfl rfl ⟨rfl,rfl,rfl,rfl,rfl⟩ rfl rfl rfl rfl rfl (by kernel_rfl) Try.func11 (by kernel_rfl)
  (of_decide_eq_true (by kernel_rfl)) (by unfold Func.isWrapper;first | (rw [if_pos (by decide +kernel)];kernel_rfl) | (rw [if_neg (by decide +kernel)];exact ⟨rfl,rfl⟩))
  (fun os started H enc _=>leaving_of_handed (cameraImages_lifted os started H enc))
end Go.Proofs.Ytelpkjellakigaa
