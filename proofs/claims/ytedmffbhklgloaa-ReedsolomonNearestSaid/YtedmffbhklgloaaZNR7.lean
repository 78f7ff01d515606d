/- ReedsolomonNearest: for every input this law returns true and leaves its arguments as they were. -/
import Derived.Test.YtedmffbhklgloaaZNR6
import Derived.Test.YtedmffbhklgloaaRows
import Derived.WalkKit
import Derived.ProofKit
import Derived.SizedLaws
import Derived.BigQuiet
import Derived.Deep.QuietTactic
import Derived.Deep.Slices
import Derived.OpenShut
/- The walk of Decode: erasures,repair,the final count. -/
set_option maxRecDepth 100000
namespace Go.Proofs.Ytedmffbhklgloaa
open Go Go.RowKit
set_option linter.unusedSimpArgs false
set_option linter.unusedSectionVars false
set_option linter.unusedVariables false
namespace Gf
abbrev ER:=Option (List Int×Int×Int×Unit)
def cn (P:Nat→Bool):Nat→Nat
 | 0=>0
 | t+1=>cn P t+if P t then 1 else 0
theorem cn_le (P:Nat→Bool):∀ t,cn P t≤t
 | 0=>Nat.le_refl _
 | t+1=>by
  have:=cn_le P t;rw [cn]
  split <;> omega
theorem cn_filter (P:Nat→Bool):∀ t,cn P t=((List.range t).filter P).length
 | 0=>rfl
 | t+1=>by
  rw [cn,cn_filter P t,List.range_succ,List.filter_append,List.length_append];congr 1;cases h:P t
  ·rw [List.filter_cons_of_neg (by simp [h])];rfl
  ·rw [List.filter_cons_of_pos (by simp [h])];rfl
def fl (N:Nat) (lost:List Nat):List Bool:=tab N fun a=>decide (a ∈ lost)
def eP (N:Nat) (lost:List Nat):Nat→Nat→GF
 | 0,j=>if j=0 then 1 else 0
 | t+1,j=>nx (eP N lost t) (eP N lost t) 1 (XX N (lost.getD t 0)) j
section
variable {N:Nat} {lost:List Nat}
theorem eP_0:∀ t,eP N lost t 0=1
 | 0=>rfl
 | t+1=>(nx_0 (Nat.le_refl _)).trans (eP_0 t)
theorem eP_high:∀ t j,t<j→eP N lost t j=0
 | 0,j,h=>if_neg (by omega)
 | t+1,j,h=>nx_high (L:=t) (Lb:=t) (M:=t+1) (eP_high t) (eP_high t) (by omega) (by omega) j h
theorem eP_root:∀ t i,i<t→E (XX N (lost.getD i 0)) (eP N lost t) t=0
 | t+1,i,h=>by
  have e1:E (XX N (lost.getD i 0)) (eP N lost (t+1)) (t+1)=E (XX N (lost.getD i 0)) (eP N lost t) (t+1)+XX N (lost.getD t 0)*E (XX N (lost.getD i 0)) (sh 1 (eP N lost t)) (t+1):=E_lin (t+1);have e2:E (XX N (lost.getD i 0)) (sh 1 (eP N lost t)) (t+1)=E (XX N (lost.getD i 0)) (eP N lost t) t:=E_shift 1 t;rw [e1,e2,E,eP_high t (t+1) (by omega),GF.zero_add,←GF.add_mul];by_cases c:i=t
  ·rw [c,GF.add_self,GF.zero_mul]
  ·rw [eP_root t i (by omega),GF.mul_zero]
def lin (x:GF) (j:Nat):GF:=if j=0 then 1 else if j=1 then x else 0
theorem cv_lin {a:Nat→GF} {x:GF} (m:Nat):cv a (lin x) m=nx a a 1 x m:=by
 unfold cv nx sh
 cases m with
 | zero =>
  rw [sm_succ];show 0+a 0*1=a 0+x*(if 0<1 then (0:GF) else a (0-1));rw [if_pos (by decide)];simp only [GF.mul_add,GF.add_mul,GF.mul_assoc,GF.mul_comm,GF.mul_left_comm,GF.add_assoc,GF.add_comm,GF.add_left_comm,GF.add_self,GF.add_self_left,GF.add_zero,GF.zero_add,GF.mul_zero,GF.zero_mul,GF.mul_one,GF.one_mul]
 | succ m =>
  rw [sm_succ,sm_succ,sm_0 fun i hi=>by
   show a i*lin x (m+1-i)=0;unfold lin
   rw [if_neg (by omega),if_neg (by omega),GF.mul_zero]]
  unfold lin;rw [if_neg (show ¬ m+1-m=0 by omega),if_pos (show m+1-m=1 by omega),if_pos (show m+1-(m+1)=0 by omega),if_neg (show ¬ m+1<1 by omega),Nat.add_sub_cancel];simp only [GF.mul_add,GF.add_mul,GF.mul_assoc,GF.mul_comm,GF.mul_left_comm,GF.add_assoc,GF.add_comm,GF.add_left_comm,GF.add_self,GF.add_self_left,GF.add_zero,GF.zero_add,GF.mul_zero,GF.zero_mul,GF.mul_one,GF.one_mul]
end
theorem sy_congr {N:Nat} {X c1 c2:Nat→GF} (h:∀ a,a<N→c1 a=c2 a) (j:Nat):sy N X c1 j=sy N X c2 j:=sm_congr fun a ha=>by rw [h a ha]
def slp (lc:Nat) (c:Nat→GF) (y:GF):GF:=sm (lc / 2) fun u=>c (2*u+1)*px y (2*u)
def rp (N p lc:Nat) (c v wd:Nat→GF) (i:Nat):GF:=if (sm lc fun j=>c j*px (GF.iv (XX N i)) j)≠0 then wd i else if slp lc c (GF.iv (XX N i))=0 then wd i else wd i+(XX N i*sm p fun m=>v m*px (GF.iv (XX N i)) m)*GF.iv (slp lc c (GF.iv (XX N i)))
theorem ne_dec {x:GF}:decide (ic x≠0)=decide (x≠0):=by
 by_cases h:x=0
 ·rw [decide_eq_false fun g=>g (ic_zero.2 h),decide_eq_false fun g=>g h]
 ·have g:ic x≠0:=fun g=>h (ic_zero.1 g)
  rw [decide_eq_true g,decide_eq_true h]
section
variable {fu:Nat} (hf:18446744073709551616≤fu)
variable {N p lc:Nat} {c v wd out:Nat→GF} {lost:List Nat}
include hf
theorem syn_g {q:Nat} (hl:N≤400) (hq:q≤64):reedsolomon_syndromes_r fu (ng N wd,((q:Int),()))=some (ng q (sy N (XX N) wd),(decide (∀ j,j<q→sy N (XX N) wd j=0),())):=by
 have hv:∀ i,horner (fun a=>(wd a).1) (pw 2 i) N=(sy N (XX N) wd i).1:=fun i=>by rw [horner_syn (fun a=>(wd a).2),sy_sum]
 have h:=syndromes_r hf (len:=N) (q:=q) (w:=fun a=>(wd a).1) (fun k=>(wd k).2) hl hq;refine h.trans ?_;have e1:nb q (fun i=>horner (fun a=>(wd a).1) (pw 2 i) N)=ng q (sy N (XX N) wd):=nb_congr fun i _=>hv i
 have e2:clean (fun i=>horner (fun a=>(wd a).1) (pw 2 i) N) q=decide (∀ j,j<q→sy N (XX N) wd j=0):=by
  by_cases g:∀ j,j<q→sy N (XX N) wd j=0
  ·rw [decide_eq_true g];exact (clean_iff q).2 fun k hk=>by rw [hv,g k hk];rfl
  ·rw [decide_eq_false g]
   cases hc:clean (fun i=>horner (fun a=>(wd a).1) (pw 2 i) N) q with
   | false=>rfl
   | true=>exact absurd (fun j hj=>GF.ext (by rw [←hv,(clean_iff q).1 hc j hj];rfl)) g
 rw [e1,e2]
theorem r5_r (hN:N≤255) (hlc:lc≤200) (hp:p≤64) {i:Nat} (hi:i<N) (u:Unit) (j10:Int×List Int→ER) :
  loopF (reedsolomon_Decode_l5 fu (ng lc c,u) (ng p v) ((i:Int),ng N out) (i:Int) (ic (XX N i)) (ic (GF.iv (XX N i))) j10) fu ((0:Int),(1:Int)) =
   j10 ((i:Int),if slp lc c (GF.iv (XX N i))=0 then ng N out else ng N fun a=>if a=i then out i+(XX N i*sm p fun m=>v m*px (GF.iv (XX N i)) m)*GF.iv (slp lc c (GF.iv (XX N i))) else out a):=by
 refine stLoop (n:=lc / 2) (st:=fun t=>(ic (sm t fun u=>c (2*u+1)*px (GF.iv (XX N i)) (2*u)),((2*t+1:Nat):Int))) (by omega) rfl ?_ ?_
 ·intro j t ht;have e1:IntKind.i64.wrap (((2*t+1:Nat):Int)-1)=((2*t:Nat):Int):=by rw [s_wr (by omega) (by omega)];omega
  have e2:IntKind.i64.wrap (((2*t+1:Nat):Int)+2)=((2*(t+1)+1:Nat):Int):=by rw [s_wr (by omega) (by omega)];omega
  unfold reedsolomon_Decode_l5;simp only;rw [ng_len,bif_pos (by omega),bif_and (by omega) (by omega),Int.toNat_natCast,ng_getD (by omega),e1,e2,pow_g hf _ (by omega),bindO_some];simp only;rw [mul_g hf,bindO_some];simp only;rw [xor_g hf];rfl
 ·intro j;unfold reedsolomon_Decode_l5;simp only;rw [ng_len,bif_neg (by omega),ne_dec];show (bif decide (slp lc c (GF.iv (XX N i))≠0) then _ else _)=_;by_cases h:slp lc c (GF.iv (XX N i))=0
  ·rw [bif_neg (fun g=>g h),if_pos h]
  ·rw [bif_pos h,if_neg h,ng_len,bif_and (by omega) (by omega),at_g hf (by omega),bindO_some];simp only;rw [mul_g hf,bindO_some];simp only;have hiv:=iv_g hf (slp lc c (GF.iv (XX N i)));unfold slp at hiv;rw [hiv,bindO_some];simp only;rw [mul_g hf,bindO_some];simp only;rw [bif_and (by omega) (by omega),Int.toNat_natCast,ng_getD hi,xor_g hf,ng_set];rfl
theorem r3_r (hN:N≤255) (hlc:lc≤200) (hp:p≤64) (u:Unit) {a:List Int×Int×List Int×Unit} (ha:a.1.length=N) (v2:List Int×Int×List Bool) :
  loopF (reedsolomon_Decode_l3 fu a v2 (ng lc c,u) (ng p v)) fu ((0:Int),ng N wd)=loopF (reedsolomon_Decode_l6 fu a v2 ((N:Int),ng N (rp N p lc c v wd))) fu ((0:Int),((0:Int),(0:Int))):=by
 refine stLoop (n:=N) (st:=fun t=>((t:Int),ng N fun i=>if i<t then rp N p lc c v wd i else wd i)) (by omega) (congrArg (Prod.mk (0:Int)) (ng_congr fun i _=>if_neg (by omega))) ?_ ?_
 ·intro j t ht;have e1:IntKind.i64.wrap (IntKind.i64.wrap ((N:Int)-1)-(t:Int))=((N-1-t:Nat):Int):=by rw [s_wr (x:=(N:Int)-1) (by omega) (by omega),s_wr (by omega) (by omega)];omega
  have e2:IntKind.i64.wrap ((t:Int)+1)=((t+1:Nat):Int):=by rw [s_wr (by omega) (by omega)];omega
  have hpw:reedsolomon_power_r fu ((2:Int),(((N-1-t:Nat):Int),()))=some (ic (XX N t),()):=pow_g hf two (by omega);unfold reedsolomon_Decode_l3;simp only [joinF_eq];rw [ha,bif_pos (by omega),ng_len,e1,hpw,bindO_some];simp only;rw [iv_g hf,bindO_some];simp only;rw [at_g hf (by omega),bindO_some];simp only;rw [ne_dec]
  have upd:∀ x:GF,x=rp N p lc c v wd t→(ng N fun a=>if a=t then x else if a<t then rp N p lc c v wd a else wd a)=ng N fun a=>if a<t+1 then rp N p lc c v wd a else wd a:=fun x hx=>ng_congr fun a _=>by
   by_cases h:a=t
   ·rw [if_pos h,if_pos (by omega),hx,h]
   ·rw [if_neg h];by_cases h2:a<t
    ·rw [if_pos h2,if_pos (by omega)]
    ·rw [if_neg h2,if_neg (by omega)]
  have keep:wd t=rp N p lc c v wd t→(ng N fun i=>if i<t then rp N p lc c v wd i else wd i)=ng N fun a=>if a<t+1 then rp N p lc c v wd a else wd a:=fun hx=>ng_congr fun a _=>by
   by_cases h:a=t
   ·rw [if_neg (by omega),if_pos (by omega),h,hx]
   ·by_cases h2:a<t
    ·rw [if_pos h2,if_pos (by omega)]
    ·rw [if_neg h2,if_neg (by omega)]
  by_cases h1:(sm lc fun j=>c j*px (GF.iv (XX N t)) j)≠0
  ·rw [bif_pos h1];unfold reedsolomon_Decode_j4;simp only;rw [e2,keep (by unfold rp;rw [if_pos h1])]
  ·rw [bif_neg h1,r5_r hf hN hlc hp ht];unfold reedsolomon_Decode_j4;simp only;rw [e2];refine congrArg (fun l=>j (((t+1:Nat):Int),l)) ?_;by_cases h2:slp lc c (GF.iv (XX N t))=0
   ·rw [if_pos h2,keep (by unfold rp;rw [if_neg h1,if_pos h2])]
   ·rw [if_neg h2];refine upd _ ?_;unfold rp;rw [if_neg h1,if_neg h2,if_neg (by omega)]
 ·intro j;unfold reedsolomon_Decode_l3;simp only [joinF_eq];rw [ha,bif_neg (by omega)];exact congrArg (fun l=>loopF (reedsolomon_Decode_l6 fu a v2 ((N:Int),l)) fu ((0:Int),((0:Int),(0:Int)))) (ng_congr fun i hi=>if_pos hi)
theorem r6_r (hN:N≤255) (hp:p≤64) (hkl:lost.length≤p) {er:List Int} {i0:Int} :
  loopF (reedsolomon_Decode_l6 fu (ng N wd,((p:Int),(ints lost,()))) (er,(i0,fl N lost)) ((N:Int),ng N out)) fu ((0:Int),((0:Int),(0:Int))) =
   if (∀ j,j<p→sy N (XX N) out j=0)∧2*cn (fun a=>decide (a ∉ lost∧out a≠wd a)) N≤p-lost.length then some (ng N out,(((cn (fun a=>decide (out a≠wd a)) N:Nat):Int),(0,()))) else some ([],(0,(21,()))):=by
 have hc1:=cn_le (fun a=>decide (out a≠wd a));have hc2:=cn_le (fun a=>decide (a ∉ lost∧out a≠wd a));refine stLoop (n:=N) (st:=fun t=>(((cn (fun a=>decide (out a≠wd a)) t:Nat):Int),(((cn (fun a=>decide (a ∉ lost∧out a≠wd a)) t:Nat):Int),(t:Int)))) (by omega) rfl ?_ ?_
 ·intro j t ht;have h1:=hc1 t;have h2:=hc2 t;have e2:IntKind.i64.wrap ((t:Int)+1)=((t+1:Nat):Int):=by rw [s_wr (by omega) (by omega)];omega
  have e3:IntKind.i64.wrap (((cn (fun a=>decide (out a≠wd a)) t:Nat):Int)+1)=((cn (fun a=>decide (out a≠wd a)) t+1:Nat):Int):=by rw [s_wr (by omega) (by omega)];omega
  have e4:IntKind.i64.wrap (((cn (fun a=>decide (a ∉ lost∧out a≠wd a)) t:Nat):Int)+1)=((cn (fun a=>decide (a ∉ lost∧out a≠wd a)) t+1:Nat):Int):=by rw [s_wr (by omega) (by omega)];omega
  have hfl:(fl N lost).length=N:=tab_len;have hfg:(fl N lost).getD t false=decide (t ∈ lost):=tab_getD ht
  have hne:decide (ic (out t)≠ic (wd t))=decide (out t≠wd t):=by
   by_cases h:out t=wd t
   ·rw [decide_eq_false (fun g=>g (ic_eq.2 h)),decide_eq_false (fun g=>g h)]
   ·have g:ic (out t)≠ic (wd t):=fun g=>h (ic_eq.1 g)
    rw [decide_eq_true g,decide_eq_true h]
  unfold reedsolomon_Decode_l6 reedsolomon_Decode_j7;simp only [joinF_eq];rw [ng_len,ng_len,bif_pos (by omega),bif_and (by omega) (by omega),bif_and (by omega) (by omega),Int.toNat_natCast,ng_getD ht,ng_getD ht,hne,hfl,hfg];rw [cn,cn];by_cases h:out t=wd t
  ·rw [bif_neg (fun g=>g h),e2,decide_eq_false (fun g=>g h),decide_eq_false (fun g=>g.2 h)];rfl
  ·rw [bif_pos h,bif_and (by omega) (by omega),e2,e3,e4,decide_eq_true h];by_cases hl:t ∈ lost
   ·rw [decide_eq_true hl,decide_eq_false (fun g=>g.1 hl)];rfl
   ·rw [decide_eq_false hl,decide_eq_true ⟨hl,h⟩];rfl
 ·intro j;have h1:=hc1 N;have h2:=hc2 N;unfold reedsolomon_Decode_l6 reedsolomon_Decode_j8;simp only [joinF_eq];rw [ng_len,bif_neg (by omega),syn_g hf (by omega) (by omega),bindO_some];simp only;by_cases g1:∀ j,j<p→sy N (XX N) out j=0
  ·rw [decide_eq_true g1];simp only [Bool.not_true,cond_false,ints_len];rw [s_wr (by omega) (by omega),s_wr (by omega) (by omega)];by_cases g2:2*cn (fun a=>decide (a ∉ lost∧out a≠wd a)) N≤p-lost.length
   ·rw [if_pos ⟨g1,g2⟩,decide_eq_false (by omega)];rfl
   ·rw [if_neg (fun h=>g2 h.2),decide_eq_true (by omega)];rfl
  ·rw [decide_eq_false g1,if_neg (fun h=>g1 h.1)];rfl
end
end Gf
end Go.Proofs.Ytedmffbhklgloaa
/- What Decode returns. -/
set_option maxRecDepth 100000
namespace Go.Proofs.Ytedmffbhklgloaa
open Go Go.RowKit
set_option linter.unusedSimpArgs false
set_option linter.unusedSectionVars false
set_option linter.unusedVariables false
namespace Gf
theorem sm_rev {n:Nat} {f:Nat→GF}:sm n (fun k=>f (n-1-k))=sm n f:=by
 induction n generalizing f with
 | zero=>rfl
 | succ n ih =>
  rw [sm_succ,sm_shift (f:=f),GF.add_comm,show n+1-1-n=0 by omega];congr 1;rw [←ih (f:=fun k=>f (k+1))];refine sm_congr fun k hk=>?_
  rw [show n+1-1-k=n-1-k+1 by omega]
theorem cv_comm (a b:Nat→GF) (m:Nat):cv a b m=cv b a m:=by
 unfold cv;rw [←sm_rev];refine sm_congr fun k hk=>?_
 rw [show m+1-1-k=m-k by omega,show m-(m-k)=k by omega,GF.mul_comm]
section
variable {fu:Nat} (hf:18446744073709551616≤fu)
variable {N p:Nat} {wd:Nat→GF} {lost:List Nat}
include hf
omit hf in
theorem ints_get {tl:List Int} {t:Nat} (h:t<lost.length) {d:Int}:(ints lost++tl).getD t d=((lost.getD t 0:Nat):Int):=by
 have h1:t<(ints lost).length:=by rw [ints_len];exact h
 rw [List.getD_eq_getElem?_getD,List.getElem?_append_left h1,ints_ci,←List.getD_eq_getElem?_getD,ci_get h]
omit hf in
theorem take_mem (hn:lost.Nodup) {t:Nat} (h:t<lost.length):lost.getD t 0 ∉ lost.take t:=fun hm=>by
 obtain ⟨i,hi,e⟩:=mem_getD hm;have hi':i<t:=by rw [List.length_take] at hi;omega
 have e2:(lost.take t).getD i 0=lost.getD i 0:=by rw [List.getD_eq_getElem?_getD,List.getElem?_take_of_lt hi',←List.getD_eq_getElem?_getD]
 rw [e2] at e;have:=nodup_inj hn (by omega) h e;omega
omit hf in
theorem take_succ' {t:Nat} (h:t<lost.length):lost.take (t+1)=lost.take t++[lost.getD t 0]:=by
 rw [List.take_succ_eq_append_getElem h,List.getD_eq_getElem?_getD,List.getElem?_eq_getElem h,Option.getD_some]
def est (N:Nat) (lost:List Nat) (t:Nat):List Int×Int×List Bool:=(ng (t+1) (eP N lost t),((t:Int),fl N (lost.take t)))
theorem l1_step (hN:N≤16) (hn:lost.Nodup) (hl:∀ a ∈ lost,a<N) {w tl:List Int} (hw:w.length=N) {P:Int} (j:List Int×Int×List Bool→ER) {t:Nat} (ht:t<lost.length):reedsolomon_Decode_l1 fu (w,(P,(ints lost++tl,()))) j (est N lost t)=j (est N lost (t+1)):=by
 have hll:lost.length≤N:=by
  have:=nodup_len (l:=lost) (s:=List.range N) hn fun a ha=>List.mem_range.2 (hl a ha)
  rwa [List.length_range] at this
 have ha:=hl _ (getD_mem ht);have e1:IntKind.i64.wrap (IntKind.i64.wrap ((N:Int)-1)-((lost.getD t 0:Nat):Int))=((N-1-lost.getD t 0:Nat):Int):=by rw [s_wr (x:=(N:Int)-1) (by omega) (by omega),s_wr (by omega) (by omega)];omega
 have e2:IntKind.i64.wrap ((t:Int)+1)=((t+1:Nat):Int):=by rw [s_wr (by omega) (by omega)];omega
 have hpw:reedsolomon_power_r fu ((2:Int),(((N-1-lost.getD t 0:Nat):Int),()))=some (ic (XX N (lost.getD t 0)),()):=pow_g hf two (by omega);have hfl:(fl N (lost.take t)).length=N:=tab_len;have hfg:(fl N (lost.take t)).getD (lost.getD t 0) false=false:=(tab_getD ha).trans (decide_eq_false (take_mem hn ht));have hle:(((ints lost++tl).length:Nat):Int)=(lost.length:Int)+(tl.length:Int):=by rw [List.length_append,ints_len];omega
 have htm:_reedsolomon_poly__times_r fu (ng (t+1) (eP N lost t),([(1:Int),ic (XX N (lost.getD t 0))],((256:Int),())))=some (ng (t+2) (eP N lost (t+1)),()):=by
  have h:=times_g hf (la:=t+1) (lb:=2) (M:=t+2) (Lm:=256) (by omega) (by omega) (by omega) (a:=eP N lost t) (b:=lin (XX N (lost.getD t 0))) (fun j hj=>eP_high t j (by omega)) (fun j hj=>by unfold lin;rw [if_neg (by omega),if_neg (by omega)]);refine Eq.trans (b:=some (ng (t+2) (cv (eP N lost t) (lin (XX N (lost.getD t 0)))),())) h (congrArg (fun l=>some (l,())) (ng_congr fun m _=>?_));rw [cv_lin];rfl
 have hset:(fl N (lost.take t)).set (lost.getD t 0) true=fl N (lost.take (t+1)):=by
  unfold fl;rw [tab_set];refine tab_congr fun a _=>?_
  rw [take_succ' ht];by_cases c:a=lost.getD t 0
  ·rw [if_pos c,decide_eq_true (List.mem_append_right _ (List.mem_singleton.2 c))]
  ·rw [if_neg c];by_cases c2:a ∈ lost.take t
   ·rw [decide_eq_true c2,decide_eq_true (List.mem_append_left _ c2)]
   ·have:a ∉ lost.take t++[lost.getD t 0]:=fun h=>(List.mem_append.1 h).elim c2 fun g=>c (List.mem_singleton.1 g)
    rw [decide_eq_false c2,decide_eq_false this]
 unfold reedsolomon_Decode_l1 reedsolomon_Decode_j2 est;simp only [joinF_eq,hw];rw [hle,bif_pos (by omega),bif_and (by omega) (by omega),Int.toNat_natCast,ints_get ht,bif_neg (by omega),decide_eq_false (by omega)];simp only [cond_false];rw [hfl,bif_and (by omega) (by omega),Int.toNat_natCast,hfg];simp only [cond_false];rw [bif_and (by omega) (by omega),e1,hpw,bindO_some];simp only;rw [htm,bindO_some];simp only;rw [e2,hset]
omit hf in
theorem est_0:est N lost 0=([(1:Int)],((0:Int),List.replicate (Int.toNat (N:Int)) false)):=by
 unfold est fl;rw [Int.toNat_natCast,tab_rep];refine congrArg (fun l=>(([(1:Int)],((0:Int),l)):List Int×Int×List Bool)) (tab_congr fun a _=>?_);rw [List.take_zero];rfl
theorem decode_bad (hp0:0<p) (hpN:p<N) (hN:N≤16) (hn:lost.Nodup) (hl:∀ a ∈ lost,a<N) {x:Int} {rest:List Int} :
  ((x<0∨(N:Int)≤x)→reedsolomon_Decode_r fu (ng N wd,((p:Int),(ints lost++x::rest,())))=some ([],(0,(3,())))) ∧
  ((∃ a ∈ lost,x=((a:Nat):Int))→reedsolomon_Decode_r fu (ng N wd,((p:Int),(ints lost++x::rest,())))=some ([],(0,(7,())))):=by
 have hll:lost.length≤N:=by
  have:=nodup_len (l:=lost) (s:=List.range N) hn fun a ha=>List.mem_range.2 (hl a ha)
  rwa [List.length_range] at this
 have hE:vE N (p:Int)=0:=by
  unfold vE;rw [if_neg (by omega),if_neg (by omega),if_neg (by omega)]
 have start:reedsolomon_Decode_r fu (ng N wd,((p:Int),(ints lost++x::rest,())))=loopF (reedsolomon_Decode_l1 fu (ng N wd,((p:Int),(ints lost++x::rest,())))) fu (est N lost 0):=by
  unfold reedsolomon_Decode_r;simp only;rw [check_r hf,bindO_some];simp only;rw [ng_len,hE,bif_neg (by omega),bif_and (by omega) (by omega),est_0]
 have hle:(((ints lost++x::rest).length:Nat):Int)=(lost.length:Int)+(rest.length:Int)+1:=by rw [List.length_append,ints_len,List.length_cons];omega
 have hgx:(ints lost++x::rest).getD lost.length 0=x:=by
  rw [List.getD_eq_getElem?_getD,List.getElem?_append_right (by rw [ints_len];omega),ints_len,Nat.sub_self];rfl
 have hlast:∀ j,reedsolomon_Decode_l1 fu (ng N wd,((p:Int),(ints lost++x::rest,()))) j (est N lost lost.length)=reedsolomon_Decode_j2 fu (ng N wd,((p:Int),(ints lost++x::rest,()))) (est N lost lost.length) x j (decide (x<0∨(N:Int)≤x)):=fun j=>by
  unfold reedsolomon_Decode_l1;simp only [joinF_eq];have e1:(est N lost lost.length).2.1=((lost.length:Nat):Int):=rfl;rw [e1,hle,bif_pos (by omega),bif_and (by omega) (by omega),Int.toNat_natCast,hgx,ng_len];by_cases c:x<0
  ·rw [bif_pos c,decide_eq_true (Or.inl c)]
  ·rw [bif_neg c];by_cases c2:(N:Int)≤x
   ·rw [decide_eq_true c2,decide_eq_true (Or.inr c2)]
   ·rw [decide_eq_false c2,decide_eq_false (fun h=>h.elim c c2)]
 refine ⟨fun hx=>?_,?_⟩
 ·rw [start];refine stLoop (n:=lost.length) (st:=est N lost) (by omega) rfl (fun j t ht=>l1_step hf hN hn hl (ng_len _ _) j ht) fun j=>?_
  rw [hlast j,decide_eq_true hx];unfold reedsolomon_Decode_j2;simp only [cond_true]
 ·rintro ⟨a,ha,rfl⟩
  have haN:=hl a ha;have hfl:(fl N lost).length=N:=tab_len;have hfg:(fl N lost).getD a false=true:=(tab_getD haN).trans (decide_eq_true ha);rw [start];refine stLoop (n:=lost.length) (st:=est N lost) (by omega) rfl (fun j t ht=>l1_step hf hN hn hl (ng_len _ _) j ht) fun j=>?_
  rw [hlast j,decide_eq_false (by omega)];have e1:(est N lost lost.length).2.2=fl N lost:=by unfold est;rw [List.take_length]
  unfold reedsolomon_Decode_j2;simp only [cond_false];rw [e1,hfl,bif_and (by omega) (by omega),Int.toNat_natCast,hfg];simp only [cond_true]
theorem decode_w (hp0:0<p) (hp:p≤60) (hpN:p<N) (hN:N≤16) (hn:lost.Nodup) (hl:∀ a ∈ lost,a<N) :
  (p<lost.length→reedsolomon_Decode_r fu (ng N wd,((p:Int),(ints lost,())))=some ([],(0,(21,())))) ∧
  (lost.length≤p→(∀ j,j<p→sy N (XX N) wd j=0)→reedsolomon_Decode_r fu (ng N wd,((p:Int),(ints lost,())))=some (ng N wd,(0,(0,())))) ∧
  (lost.length≤p→¬ (∀ j,j<p→sy N (XX N) wd j=0)→∀ e:Nat→GF,(∀ j,j<p→sy N (XX N) wd j=sy N (XX N) e j)→∃ c b L Lb g last lc,BM N (XX N) e lost p c b L Lb g last∧1≤lc∧lc≤L+1∧(∀ j,lc≤j→c j=0) ∧
   reedsolomon_Decode_r fu (ng N wd,((p:Int),(ints lost,())))=if (∀ j,j<p→sy N (XX N) (rp N p lc c (D N (XX N) e c) wd) j=0)∧2*cn (fun a=>decide (a ∉ lost∧rp N p lc c (D N (XX N) e c) wd a≠wd a)) N≤p-lost.length then some (ng N (rp N p lc c (D N (XX N) e c) wd),(((cn (fun a=>decide (rp N p lc c (D N (XX N) e c) wd a≠wd a)) N:Nat):Int),(0,()))) else some ([],(0,(21,())))):=by
 have hll:lost.length≤N:=by
  have:=nodup_len (l:=lost) (s:=List.range N) hn fun a ha=>List.mem_range.2 (hl a ha)
  rwa [List.length_range] at this
 have hE:vE N (p:Int)=0:=by
  unfold vE;rw [if_neg (by omega),if_neg (by omega),if_neg (by omega)]
 have start:reedsolomon_Decode_r fu (ng N wd,((p:Int),(ints lost++[],())))=loopF (reedsolomon_Decode_l1 fu (ng N wd,((p:Int),(ints lost++[],())))) fu (est N lost 0):=by
  unfold reedsolomon_Decode_r;simp only;rw [check_r hf,bindO_some];simp only;rw [ng_len,hE,bif_neg (by omega),bif_and (by omega) (by omega),est_0]
 have xd:∀ i j,i<N→j<N→XX N i=XX N j→i=j:=fun i j hi hj h=>XX_inj hN hi hj h
 have head:∀ fin:ER,(∀ j,reedsolomon_Decode_l1 fu (ng N wd,((p:Int),(ints lost++[],()))) j (est N lost lost.length)=fin)→reedsolomon_Decode_r fu (ng N wd,((p:Int),(ints lost,())))=fin:=fun fin h=>by
  have h2:=start.trans (stLoop (n:=lost.length) (st:=est N lost) (by omega) rfl (fun j t ht=>l1_step hf hN hn hl (ng_len _ _) j ht) h);rwa [List.append_nil] at h2
 have e1:(est N lost lost.length)=(ng (lost.length+1) (eP N lost lost.length),((lost.length:Int),fl N lost)):=by unfold est;rw [List.take_length]
 refine ⟨fun hk=>head _ fun j=>?_,fun hk hs=>head _ fun j=>?_,fun hk hs e he=>?_⟩
 ·unfold reedsolomon_Decode_l1;rw [e1];simp only [List.append_nil,ints_len];rw [bif_neg (by omega),bif_pos (by omega)]
 ·unfold reedsolomon_Decode_l1;rw [e1];simp only [List.append_nil,ints_len];rw [bif_neg (by omega),bif_neg (by omega),ng_len,bif_pos (by omega),syn_g hf (by omega) (by omega),bindO_some];simp only;rw [decide_eq_true hs];simp only [cond_true]
 ·obtain ⟨c,b,L,Lb,g,last,lc,hloc,hB,g1,g2,g3⟩:=locate_g hf (p:=p) (k:=lost.length) (S:=sy N (XX N) wd) (er:=eP N lost lost.length) (by omega) hk (N:=N) (X:=XX N) (e:=e) (lost:=lost) rfl xd he (eP_0 _) (eP_high _) (fun a ha=>by
   obtain ⟨i,hi,rfl⟩:=mem_getD ha
   exact eP_root _ i hi)
  refine ⟨c,b,L,Lb,g,last,lc,hB,g1,g2,g3,head _ fun j=>?_⟩;have hLn:=hB.Ln;obtain ⟨S',hS1,hS2⟩:∃ S':Nat→GF,(∀ j,j<p→S' j=sy N (XX N) wd j)∧∀ j,p≤j→S' j=0:=⟨fun j=>if j<p then sy N (XX N) wd j else 0,fun j hj=>if_pos hj,fun j hj=>if_neg (by omega)⟩;have hSe:ng p (sy N (XX N) wd)=ng p S':=ng_congr fun j hj=>(hS1 j hj).symm
  have hval:_reedsolomon_poly__times_r fu (ng p (sy N (XX N) wd),(ng lc c,((p:Int),())))=some (ng p (D N (XX N) e c),()):=by
   rw [hSe];have h:=times_g hf (la:=p) (lb:=lc) (M:=p) (Lm:=(p:Int)) (by omega) (by omega) (by omega) (a:=S') (b:=c) hS2 g3;refine h.trans (congrArg (fun l=>some (l,())) (ng_congr fun m hm=>?_));rw [cv_comm,←cv_D];unfold cv;refine sm_congr fun i hi=>?_
   rw [hS1 _ (by omega),he _ (by omega)]
  have h3:=r3_r hf (N:=N) (p:=p) (lc:=lc) (c:=c) (v:=D N (XX N) e c) (wd:=wd) (by omega) (by omega) (by omega) () (a:=(ng N wd,((p:Int),(ints lost,())))) (ng_len _ _) (ng (lost.length+1) (eP N lost lost.length),((lost.length:Int),fl N lost));have h6:=r6_r hf (N:=N) (p:=p) (wd:=wd) (out:=rp N p lc c (D N (XX N) e c) wd) (lost:=lost) (by omega) (by omega) hk (er:=ng (lost.length+1) (eP N lost lost.length)) (i0:=(lost.length:Int));unfold reedsolomon_Decode_l1;rw [e1];simp only [List.append_nil,ints_len];rw [bif_neg (by omega),bif_neg (by omega),ng_len,bif_pos (by omega),syn_g hf (by omega) (by omega),bindO_some];simp only;rw [decide_eq_false hs];simp only [cond_false];rw [hloc,bindO_some];simp only;rw [ng_len,hval,bindO_some];simp only;rw [h3,h6]
theorem rp_near (hpN:p<N) (hN:N≤16) (hn:lost.Nodup) (hl:∀ a ∈ lost,a<N) {t:Nat} (hk:lost.length+2*t≤p) {cw:Nat→GF} (hc:Near N p lost t wd cw) {c b:Nat→GF} {L Lb g lc:Nat} {last:GF} (hB:BM N (XX N) (fun a=>wd a+cw a) lost p c b L Lb g last) (h2:lc≤L+1) (h3:∀ j,lc≤j→c j=0) {i:Nat} (hi:i<N) :
  rp N p lc c (D N (XX N) (fun a=>wd a+cw a) c) wd i=cw i:=by
 have xd:∀ i j,i<N→j<N→XX N i=XX N j→i=j:=fun i j hi hj h=>XX_inj hN hi hj h
 have hL:=hB.done xd hn hl (by have:=hc.2;omega);have hLp:=hB.Ln;have hx:XX N i≠0:=px_ne (fun h=>absurd (congrArg Subtype.val h) (by decide)) _;have hy:=GF.mul_iv hx
 have hat:E (XX N i) c L=px (XX N i) L*sm lc fun j=>c j*px (GF.iv (XX N i)) j:=by
  rw [E_pow hy,sm_cut (n:=lc) (m:=L+1) (fun j h _=>by rw [h3 j h,GF.zero_mul]) h2]
 have hsl:slp lc c (GF.iv (XX N i))=sm (L+1) fun u=>c (2*u+1)*px (GF.iv (XX N i)) (2*u):=by
  unfold slp;exact (sm_cut (n:=lc / 2) (m:=L+1) (fun j h _=>by rw [h3 (2*j+1) (by omega),GF.zero_mul]) (by omega)).symm
 by_cases hA:i ∈ lost++Fl N (fun a=>wd a+cw a) lost
 ·have h0:=hL.cr i hA;rw [hat] at h0;have hz:=(GF.mul_eq_zero h0).resolve_left (px_ne hx L);obtain ⟨v1,v2⟩:=hL.value hLp hA hy (t:=L+1) (by omega);unfold rp;rw [if_neg (fun h=>h hz),hsl,if_neg v1,v2,GF.add_self_left]
 ·have h0:=hL.other hi hA;rw [hat] at h0;have hz:(sm lc fun j=>c j*px (GF.iv (XX N i)) j)≠0:=fun h=>h0 (by rw [h,GF.mul_zero])
  unfold rp;rw [if_pos hz];refine GF.add_eq (Classical.byContradiction fun h=>hA (hL.ae i hi h))
theorem decode_g (hp0:0<p) (hp:p≤60) (hpN:p<N) (hN:N≤16) (hn:lost.Nodup) (hl:∀ a ∈ lost,a<N) (hk:lost.length≤p) :
  (∃ cw,Near N p lost ((p-lost.length) / 2) wd cw∧reedsolomon_Decode_r fu (ng N wd,((p:Int),(ints lost,())))=some (ng N cw,(((cn (fun a=>decide (cw a≠wd a)) N:Nat):Int),(0,())))) ∨
  ((∀ cw,¬ Near N p lost ((p-lost.length) / 2) wd cw)∧reedsolomon_Decode_r fu (ng N wd,((p:Int),(ints lost,())))=some ([],(0,(21,())))):=by
 obtain ⟨_,w2,w3⟩:=decode_w hf (wd:=wd) hp0 hp hpN hN hn hl

 have hnear:∀ out:Nat→GF,(∀ j,j<p→sy N (XX N) out j=0)→(2*cn (fun a=>decide (a ∉ lost∧out a≠wd a)) N≤p-lost.length↔Near N p lost ((p-lost.length) / 2) wd out):=fun out ho=>by
  have e:cn (fun a=>decide (a ∉ lost∧out a≠wd a)) N=(Fl N (fun a=>wd a+out a) lost).length:=by
   rw [cn_filter];unfold Fl;refine congrArg List.length (List.filter_congr fun a _=>?_)
   have:(out a≠wd a)↔(wd a+out a≠0):=by
    constructor
    ·exact fun h h0=>h (GF.add_eq h0).symm
    ·exact fun h h0=>h (by rw [h0,GF.add_self])
   simp only [this]
  rw [e];constructor
  ·exact fun h=>⟨ho,by omega⟩
  ·exact fun h=>by have:=h.2;omega
 by_cases hs:∀ j,j<p→sy N (XX N) wd j=0
 ·left
  refine ⟨wd,(hnear wd hs).1 ?_,?_⟩
  ·have:cn (fun a=>decide (a ∉ lost∧wd a≠wd a)) N=0:=by
    rw [cn_filter,List.length_eq_zero_iff,List.filter_eq_nil_iff];intro a _;simp
   rw [this];omega
  ·have:cn (fun a=>decide (wd a≠wd a)) N=0:=by
    rw [cn_filter,List.length_eq_zero_iff,List.filter_eq_nil_iff];intro a _;simp
   rw [w2 hk hs,this];rfl
 ·by_cases hc:∃ cw,Near N p lost ((p-lost.length) / 2) wd cw
  ·left
   obtain ⟨cw,hcw⟩:=hc;obtain ⟨c,b,L,Lb,g,last,lc,hB,g1,g2,g3,hR⟩:=w3 hk hs (fun a=>wd a+cw a) fun j hj=>by rw [sy_add,hcw.1 j hj,GF.add_zero]
   have hout:∀ i,i<N→rp N p lc c (D N (XX N) (fun a=>wd a+cw a) c) wd i=cw i:=fun i hi=>rp_near hf hpN hN hn hl (t:=(p-lost.length) / 2) (by omega) hcw hB g2 g3 hi
   have hcode:∀ j,j<p→sy N (XX N) (rp N p lc c (D N (XX N) (fun a=>wd a+cw a) c) wd) j=0:=fun j hj=>(sy_congr hout j).trans (hcw.1 j hj)
   have hcnt:∀ (Q:Nat→GF→Bool),cn (fun a=>Q a (rp N p lc c (D N (XX N) (fun a=>wd a+cw a) c) wd a)) N=cn (fun a=>Q a (cw a)) N:=fun Q=>by
    rw [cn_filter,cn_filter];refine congrArg List.length (List.filter_congr fun a ha=>?_);rw [hout a (List.mem_range.1 ha)]
   refine ⟨cw,hcw,?_⟩;have c1:=hcnt fun a x=>decide (a ∉ lost∧x≠wd a)
   have c2:=hcnt fun a x=>decide (x≠wd a)
   have hle:=(hnear cw hcw.1).2 hcw;rw [hR,if_pos ⟨hcode,by rw [c1];exact hle⟩,c2,ng_congr hout]
  ·right
   refine ⟨fun cw h=>hc ⟨cw,h⟩,?_⟩;obtain ⟨c,b,L,Lb,g,last,lc,hB,g1,g2,g3,hR⟩:=w3 hk hs wd fun j _=>rfl
   rw [hR,if_neg fun h=>hc ⟨_,(hnear _ h.1).1 h.2⟩]
end
end Gf
end Go.Proofs.Ytedmffbhklgloaa
/- Residual programs of functions (printed by a program out of the code),checked by the kernel,and the contracts that follow. -/
namespace Go.Proofs.Ytedmffbhklgloaa
open Go Go.RowKit
set_option linter.unusedVariables false
noncomputable section
def law_ReedsolomonNearest_j7 (fu:Nat) (j12:(Int×Int)→Option (Bool×Unit)) (v14:Int×Int):Option (Bool×Unit) :=
 let v15:Int:=(IntKind.i64.wrap (v14.1+(1:Int)))
 j12 ((v14.2,v15))
def law_ReedsolomonNearest_j6 (fu:Nat) (a:List Int×Int×List Int×Unit) (v9:Int×Int) (v12:Int×Int) (j9:(Int×Int)→Option (Bool×Unit)) (j12:(Int×Int)→Option (Bool×Unit)) (v13:Bool):Option (Bool×Unit) :=
 bif v13 then
  joinF (law_ReedsolomonNearest_j7 fu j12) fun j14 =>
  bif ((decide ((0:Int)≤v12.2))&&(decide (v12.2<(List.length a.2.2.1:Int)))) then
  let v15:Int:=(List.getD a.2.2.1 (Int.toNat v12.2) 0)
  bif ((decide ((0:Int)≤v9.2))&&(decide (v9.2<(List.length a.2.2.1:Int)))) then
  let v16:Int:=(List.getD a.2.2.1 (Int.toNat v9.2) 0)
  bif (decide (v15=v16)) then
   j14 ((v12.2,(7:Int)))
  else
  j14 ((v12.2,v12.1))
  else none
  else none
 else
 let v14:Int:=(IntKind.i64.wrap (v9.2+(1:Int)))
 j9 ((v12.1,v14))
def law_ReedsolomonNearest_l5 (fu:Nat) (a:List Int×Int×List Int×Unit) (v9:Int×Int) (j9:(Int×Int)→Option (Bool×Unit)) (j12:(Int×Int)→Option (Bool×Unit)) (v12:Int×Int):Option (Bool×Unit) :=
 joinF (law_ReedsolomonNearest_j6 fu a v9 v12 j9 j12) fun j13 =>
 bif (decide (v12.2<v9.2)) then
  j13 ((decide (v12.1=(0:Int))))
 else
 j13 (false)
def law_ReedsolomonNearest_j4 (fu:Nat) (a:List Int×Int×List Int×Unit) (v9:Int×Int) (j9:(Int×Int)→Option (Bool×Unit)) (v11:Int):Option (Bool×Unit) :=
 loopF (law_ReedsolomonNearest_l5 fu a v9 j9) fu ((v11,(0:Int)))
def law_ReedsolomonNearest_j10 (fu:Nat) (j15:(Int×Int)→Option (Bool×Unit)) (v16:Int×Int):Option (Bool×Unit) :=
 j15 ((v16.2,(IntKind.i64.wrap (v16.1+(1:Int)))))
def law_ReedsolomonNearest_l9 (fu:Nat) (v2:List Int) (v5:List Int) (v6:Int) (v7:Int) (v13:List Int) (j15:(Int×Int)→Option (Bool×Unit)) (v15:Int×Int):Option (Bool×Unit) :=
 bif (decide (v15.2<(List.length v13:Int))) then
  joinF (law_ReedsolomonNearest_j10 fu j15) fun j16 =>
  let v17:Int:=v15.2
  bif ((decide ((0:Int)≤v17))&&(decide (v17<(List.length v13:Int)))) then
  let v18:Int:=(List.getD v13 (Int.toNat v17) 0)
  bif ((decide ((0:Int)≤v17))&&(decide (v17<(List.length v2:Int)))) then
  let v19:Int:=(List.getD v2 (Int.toNat v17) 0)
  bif (decide (v18≠v19)) then
   let v20:Int:=(IntKind.i64.wrap (v15.1+(1:Int)))
   j16 ((v15.2,v20))
  else
  j16 ((v15.2,v15.1))
  else none
  else none
 else
 bif (decide (v7=(0:Int))) then
  bif (decide (v6=v15.1)) then
   bindO (R_SameBytes_r fu ((v5,(v13,())))) fun v16 =>
   let v17:Bool:=v16.1
   some ((v17,()))
  else
  some ((false,()))
 else
 some ((false,()))
def law_ReedsolomonNearest_j8 (fu:Nat) (a:List Int×Int×List Int×Unit) (v2:List Int) (v3:Int) (v5:List Int) (v6:Int) (v7:Int) (v11:Int):Option (Bool×Unit) :=
 bif (decide (v11≠(0:Int))) then
  bif (decide ((List.length v5:Int)=(0:Int))) then
   bindO (law_none_r fu (((decide (v6=(0:Int))),(v7,(v11,()))))) fun v12 =>
   let v13:Bool:=v12.1
   some ((v13,()))
  else
  bindO (law_none_r fu ((false,(v7,(v11,()))))) fun v12 =>
  let v13:Bool:=v12.1
  some ((v13,()))
 else
 bindO (R_Decoded_r fu ((v2,(v3,(a.2.2.1,((IntKind.i64.wrap (Int.tdiv (IntKind.i64.wrap (v3-(List.length a.2.2.1:Int))) (2:Int))),())))))) fun v12 =>
 let v13:List Int:=v12.1
 let v14:Bool:=v12.2.1
 bif (!v14) then
  bif (decide ((List.length v5:Int)=(0:Int))) then
   bindO (law_none_r fu (((decide (v6=(0:Int))),(v7,((21:Int),()))))) fun v15 =>
   let v16:Bool:=v15.1
   some ((v16,()))
  else
  bindO (law_none_r fu ((false,(v7,((21:Int),()))))) fun v15 =>
  let v16:Bool:=v15.1
  some ((v16,()))
 else
 loopF (law_ReedsolomonNearest_l9 fu v2 v5 v6 v7 v13) fu (((0:Int),(0:Int)))
def law_ReedsolomonNearest_j11 (fu:Nat) (j11:(Int)→Option (Bool×Unit)) (v12:Bool×Int):Option (Bool×Unit) :=
 bif v12.1 then
  j11 ((21:Int))
 else
 j11 (v12.2)
def law_ReedsolomonNearest_j3 (fu:Nat) (a:List Int×Int×List Int×Unit) (v2:List Int) (v3:Int) (v5:List Int) (v6:Int) (v7:Int) (v9:Int×Int) (j9:(Int×Int)→Option (Bool×Unit)) (v10:Bool):Option (Bool×Unit) :=
 bif v10 then
  joinF (law_ReedsolomonNearest_j4 fu a v9 j9) fun j11 =>
  bif ((decide ((0:Int)≤v9.2))&&(decide (v9.2<(List.length a.2.2.1:Int)))) then
  let v12:Int:=(List.getD a.2.2.1 (Int.toNat v9.2) 0)
  bindO (R_Within_r fu ((v12,((0:Int),((IntKind.i64.wrap ((List.length v2:Int)-(1:Int))),()))))) fun v13 =>
  bif (!v13.1) then
   j11 ((3:Int))
  else
  j11 (v9.1)
  else none
 else
 joinF (law_ReedsolomonNearest_j8 fu a v2 v3 v5 v6 v7) fun j11 =>
 joinF (law_ReedsolomonNearest_j11 fu j11) fun j12 =>
 bif (decide (v9.1=(0:Int))) then
  j12 (((decide (v3<(List.length a.2.2.1:Int))),v9.1))
 else
 j12 ((false,v9.1))
def law_ReedsolomonNearest_l2 (fu:Nat) (a:List Int×Int×List Int×Unit) (v2:List Int) (v3:Int) (v5:List Int) (v6:Int) (v7:Int) (j9:(Int×Int)→Option (Bool×Unit)) (v9:Int×Int):Option (Bool×Unit) :=
 joinF (law_ReedsolomonNearest_j3 fu a v2 v3 v5 v6 v7 v9 j9) fun j10 =>
 bif (decide (v9.2<(List.length a.2.2.1:Int))) then
  j10 ((decide (v9.1=(0:Int))))
 else
 j10 (false)
def law_ReedsolomonNearest_j1 (fu:Nat) (a:List Int×Int×List Int×Unit) (v2:List Int) (v3:Int) (v5:List Int) (v6:Int) (v7:Int) (v8:Int):Option (Bool×Unit) :=
 loopF (law_ReedsolomonNearest_l2 fu a v2 v3 v5 v6 v7) fu ((v8,(0:Int)))
def law_ReedsolomonNearest_r (fu:Nat) (a:List Int×Int×List Int×Unit):Option (Bool×Unit) :=
 bindO (law_reedsolomonWorks_r fu (())) fun v0 =>
 bif (!v0.1) then
  some ((false,()))
 else
 bif ((decide ((0:Int)≤(min (List.length a.1:Int) (12:Int))))&&(decide ((min (List.length a.1:Int) (12:Int))≤(List.length a.1:Int)))) then
 bindO (R_Mod_r fu ((a.2.1,((6:Int),())))) fun v1 =>
 let v2:List Int:=(List.drop (Int.toNat (0:Int)) (List.take (Int.toNat (min (List.length a.1:Int) (12:Int))) a.1))
 let v3:Int:=v1.1
 bindO (reedsolomon_Decode_r fu ((v2,(v3,(a.2.2.1,()))))) fun v4 =>
 let v5:List Int:=v4.1
 let v6:Int:=v4.2.1
 let v7:Int:=v4.2.2.1
 joinF (law_ReedsolomonNearest_j1 fu a v2 v3 v5 v6 v7) fun j8 =>
 let v9:Bool:=(decide (v3=(0:Int)))
 bif v9 then
  j8 ((3:Int))
 else
 let v10:Bool:=(decide ((List.length v2:Int)≤v3))
 bif v10 then
  j8 ((12:Int))
 else
 j8 ((0:Int))
 else none
def law_ReedsolomonNearest_an:An:=(.n none .z (.n none (.n none .z (.n none (.n none .z .z) .z)) (.n none (.dr [] []) (.n none .z (.n none .z (.n (some ⟨[0,9,8,7,2,1],[],[],[.reg 10 (.int .i64)],0,[]⟩) (.n none (.n none .z (.n none .z (.n none .z (.n none .z .z)))) .z) (.n none (.n none .z (.n none (.n (some ⟨[],[],[],[.reg 10 (.int .i64),.reg 11 (.int .i64)],0,[]⟩) (.n none (.n (some ⟨[11,10],[],[],[.reg 49 .bool],0,[]⟩) .z .z) (.n none (.n none (.n (some ⟨[11],[],[],[.reg 10 (.int .i64)],0,[]⟩) (.n none .z (.n none .z .z)) (.n none .z (.n none (.n (some ⟨[],[],[],[.reg 10 (.int .i64),.reg 12 (.int .i64)],0,[]⟩) (.n none (.n (some ⟨[12,10],[],[],[.reg 67 .bool],0,[]⟩) .z .z) (.n (some ⟨[],[],[],[.reg 12 (.int .i64),.reg 10 (.int .i64)],0,[]⟩) (.n none (.n none (.dr [] []) (.n none .z .z)) .z) .z)) .z) .z))) .z) .z)) .z) .z)) (.n (some ⟨[],[],[],[.reg 10 (.int .i64)],0,[]⟩) (.n (some ⟨[],[],[],[.reg 86 .bool,.reg 10 (.int .i64)],0,[]⟩) .z (.n none .z .z)) (.n none (.n none .z (.n none (.n none .z .z) .z)) (.n none .z (.n none (.n none .z (.n none (.n none .z .z) .z)) (.n none .z (.n none (.n none .z (.n none (.n (some ⟨[13,123],[],[],[.reg 15 (.int .i64),.reg 124 (.int .i64)],0,[]⟩) (.n none .z (.n none .z (.n (some ⟨[],[],[],[.reg 124 (.int .i64),.reg 15 (.int .i64)],0,[]⟩) (.n none (.n none .z (.n none (.dr [] []) (.n none .z .z))) .z) .z))) .z) .z)) (.n none .z .z))))))))))))))
noncomputable def law_ReedsolomonNearest_dc:List (Nat×Ctr):=[(4,law_reedsolomonWorks_ctr),(5,R_Mod_ctr),(6,reedsolomon_Decode_ctr),(7,R_Within_ctr),(8,law_none_ctr),(9,R_Decoded_ctr),(10,R_SameBytes_ctr)]
def law_ReedsolomonNearest_ctr:Ctr:=⟨(.pair (.list (.int .u8)) (.pair (.int .i64) (.pair (.list (.int .i64)) .unit))),(.pair .bool .unit),law_ReedsolomonNearest_r,3⟩
theorem law_ReedsolomonNearest_ok:CtrOk Try.prog 3 law_ReedsolomonNearest_ctr:=ctr_ok (l:=law_ReedsolomonNearest_dc) (f:=12) (an:=law_ReedsolomonNearest_an) ⟨law_reedsolomonWorks_ok,⟨R_Mod_ok,⟨reedsolomon_Decode_ok,⟨R_Within_ok,⟨law_none_ok,⟨R_Decoded_ok,⟨R_SameBytes_ok,trivial⟩⟩⟩⟩⟩⟩⟩ fun fu x=>by kernel_rfl
end
end Go.Proofs.Ytedmffbhklgloaa
/- ReedsolomonNearest: the law in plain words. -/
set_option maxRecDepth 100000
namespace Go.Proofs.Ytedmffbhklgloaa
open Go Go.RowKit
set_option linter.unusedSimpArgs false
set_option linter.unusedSectionVars false
set_option linter.unusedVariables false
namespace Gf
theorem ers_split (N:Nat):∀ (rest:List Int) (lost:List Nat),lost.Nodup→(∀ a ∈ lost,a<N) →
  (∃ l:List Nat,l.Nodup∧(∀ a ∈ l,a<N)∧ints lost++rest=ints l) ∨
  (∃ (l:List Nat) (x:Int) (r:List Int),l.Nodup∧(∀ a ∈ l,a<N)∧ints lost++rest=ints l++x::r∧((x<0∨(N:Int)≤x)∨∃ a ∈ l,x=((a:Nat):Int)))
 | [],lost,hn,hl=>.inl ⟨lost,hn,hl,List.append_nil _⟩
 | x::r,lost,hn,hl=>by
  by_cases c:x<0∨(N:Int)≤x
  ·exact .inr ⟨lost,x,r,hn,hl,rfl,.inl c⟩
  ·obtain ⟨a,rfl⟩:∃ a:Nat,x=a:=Int.eq_ofNat_of_zero_le (by omega);by_cases h:a ∈ lost
   ·exact .inr ⟨lost,a,r,hn,hl,rfl,.inr ⟨a,h,rfl⟩⟩
   ·have e:ints lost++((a:Nat):Int)::r=ints (lost++[a])++r:=by
     unfold ints;rw [List.map_append,List.append_assoc];rfl
    rw [e];refine ers_split N r (lost++[a]) (List.nodup_append.2 ⟨hn,by simp,fun x hx y hy e=>h (by rw [←List.mem_singleton.1 hy,←e];exact hx)⟩) fun b hb=>?_
    rcases List.mem_append.1 hb with hb | hb
    ·exact hl b hb
    ·rw [List.mem_singleton.1 hb];omega
abbrev BR:=Option (Bool×Unit)
section
variable {fu:Nat} (hf:18446744073709551616≤fu)
variable {N p:Nat} {wd:Nat→GF} {lost:List Nat} {w0 ers word d:List Int} {q0 n er:Int}
include hf
theorem none_t' (e:Int):law_none_r fu (true,(e,(e,())))=some (true,()):=by
 unfold law_none_r;simp only [cond_true,decide_true]
theorem sameB' (l:List Int):R_SameBytes_r fu (l,(l,()))=some (true,()):=by
 unfold R_SameBytes_r;simp only [decide_true]
theorem within0 (x h:Int):R_Within_r fu (x,(0,(h,())))=some (decide (0≤x∧x≤h),()):=by
 unfold R_Within_r;simp only;by_cases c:0≤x
 ·rw [bif_pos c];by_cases c2:x≤h
  ·rw [decide_eq_true c2,decide_eq_true ⟨c,c2⟩]
  ·rw [decide_eq_false c2,decide_eq_false fun h=>c2 h.2]
 ·rw [bif_neg c,decide_eq_false fun h=>c h.1]
theorem n5_no {i:Nat} (hi:i<ers.length) (hi2:i≤1000) (h:∀ u,u<i→ers.getD u 0≠ers.getD i 0) (w:Int) (j9:Int×Int→BR) :
  loopF (law_ReedsolomonNearest_l5 fu (w0,(q0,(ers,()))) (w,(i:Int)) j9) fu ((0:Int),(0:Int))=j9 ((0:Int),((i+1:Nat):Int)):=by
 refine stLoop (n:=i) (st:=fun t=>((0:Int),(t:Int))) (by omega) rfl ?_ ?_
 ·intro j t ht;unfold law_ReedsolomonNearest_l5 law_ReedsolomonNearest_j6 law_ReedsolomonNearest_j7;simp only [joinF_eq];rw [bif_pos (by omega)];simp only [decide_true,cond_true];rw [bif_and (by omega) (by omega),bif_and (by omega) (by omega),Int.toNat_natCast,Int.toNat_natCast,bif_neg (h t ht),s_wr (by omega) (by omega)];rfl
 ·intro j;unfold law_ReedsolomonNearest_l5 law_ReedsolomonNearest_j6;simp only [joinF_eq];rw [bif_neg (by omega)];simp only [cond_false];rw [s_wr (by omega) (by omega)];rfl
theorem n5_stop {i:Nat} (hi2:i≤1000) {w:Int} (hw:w≠0) (w' k:Int) (j9:Int×Int→BR) (j12:Int×Int→BR) :
  law_ReedsolomonNearest_l5 fu (w0,(q0,(ers,()))) (w',(i:Int)) j9 j12 (w,k)=j9 (w,((i+1:Nat):Int)):=by
 unfold law_ReedsolomonNearest_l5 law_ReedsolomonNearest_j6;simp only [joinF_eq];rw [decide_eq_false hw];simp only [cond_false,Bool.cond_self];rw [s_wr (by omega) (by omega)];rfl
theorem n5_dup {i u:Nat} (hi:i<ers.length) (hi2:i≤1000) (hu:u<i) (hx:ers.getD u 0=ers.getD i 0) (h:∀ v,v<u→ers.getD v 0≠ers.getD i 0) (w:Int) (j9:Int×Int→BR) :
  loopF (law_ReedsolomonNearest_l5 fu (w0,(q0,(ers,()))) (w,(i:Int)) j9) fu ((0:Int),(0:Int))=j9 ((7:Int),((i+1:Nat):Int)):=by
 refine stLoop (n:=u+1) (st:=fun t=>if t≤u then ((0:Int),(t:Int)) else ((7:Int),(t:Int))) (by omega) rfl ?_ ?_
 ·intro j t ht;rw [if_pos (show t≤u by omega)];unfold law_ReedsolomonNearest_l5 law_ReedsolomonNearest_j6 law_ReedsolomonNearest_j7;simp only [joinF_eq];rw [bif_pos (by omega)];simp only [decide_true,cond_true];rw [bif_and (by omega) (by omega),bif_and (by omega) (by omega),Int.toNat_natCast,Int.toNat_natCast,s_wr (by omega) (by omega)];by_cases c:t=u
  ·rw [bif_pos (by rw [c];exact hx),if_neg (by omega)];rfl
  ·rw [bif_neg (h t (by omega)),if_pos (by omega)];rfl
 ·intro j;rw [if_neg (by omega)];exact n5_stop hf hi2 (by decide) _ _ _ _
theorem n2_false (w i:Int) (j9:Int×Int→BR):law_ReedsolomonNearest_j3 fu (w0,(q0,(ers,()))) word (p:Int) d n er (w,i) j9 false=law_ReedsolomonNearest_j8 fu (w0,(q0,(ers,()))) word (p:Int) d n er (if w=0∧(p:Int)<(ers.length:Int) then 21 else w):=by
 unfold law_ReedsolomonNearest_j3 law_ReedsolomonNearest_j11;simp only [cond_false,joinF_eq];by_cases h:w=0
 ·rw [bif_pos h];by_cases h2:(p:Int)<(ers.length:Int)
  ·rw [decide_eq_true h2,if_pos ⟨h,h2⟩];rfl
  ·rw [decide_eq_false h2,if_neg (fun g=>h2 g.2)];rfl
 ·rw [bif_neg h,if_neg (fun g=>h g.1)]
theorem n2_stop {w:Int} (hw:w≠0) (i:Int) (j9:Int×Int→BR):law_ReedsolomonNearest_l2 fu (w0,(q0,(ers,()))) word (p:Int) d n er j9 (w,i)=law_ReedsolomonNearest_j8 fu (w0,(q0,(ers,()))) word (p:Int) d n er w:=by
 have h:=n2_false hf (w0:=w0) (q0:=q0) (ers:=ers) (word:=word) (p:=p) (d:=d) (n:=n) (er:=er) w i j9;rw [if_neg (fun g=>hw g.1)] at h;unfold law_ReedsolomonNearest_l2;simp only [joinF_eq];rw [decide_eq_false hw];simp only [Bool.cond_self];exact h
theorem n2_step (hw:word.length=N) (hN:N≤16) (hN0:0<N) {i:Nat} (hi:i<ers.length) (hi2:i≤1000) {x:Int} (hx:ers.getD i 0=x) (j9:Int×Int→BR) :
  law_ReedsolomonNearest_l2 fu (w0,(q0,(ers,()))) word (p:Int) d n er j9 ((0:Int),(i:Int))=loopF (law_ReedsolomonNearest_l5 fu (w0,(q0,(ers,()))) ((0:Int),(i:Int)) j9) fu ((if 0≤x∧x<(N:Int) then 0 else 3),(0:Int)):=by
 unfold law_ReedsolomonNearest_l2 law_ReedsolomonNearest_j3 law_ReedsolomonNearest_j4;simp only [joinF_eq];rw [bif_pos (by omega)];simp only [decide_true,cond_true];rw [bif_and (by omega) (by omega),Int.toNat_natCast,hx,hw,within0 hf,bindO_some,s_wr (by omega) (by omega)];simp only;by_cases c:0≤x∧x<(N:Int)
 ·rw [decide_eq_true (show 0≤x∧x≤(N:Int)-1 by omega),if_pos c];rfl
 ·rw [decide_eq_false (show ¬ (0≤x∧x≤(N:Int)-1) by omega),if_neg c];rfl
omit hf in
theorem ints_nodup {tl:List Int} (hn:lost.Nodup) {i u:Nat} (hi:i<lost.length) (hu:u<i):(ints lost++tl).getD u 0≠(ints lost++tl).getD i 0:=fun e=>by
 rw [ints_get hi,ints_get (by omega)] at e;have:=nodup_inj hn (show u<lost.length by omega) hi (by omega);omega
theorem n2_good (hw:word.length=N) (hN:N≤16) (hN0:0<N) (hn:lost.Nodup) (hl:∀ a ∈ lost,a<N) {tl:List Int} (he:ers=ints lost++tl) (j9:Int×Int→BR) {i:Nat} (hi:i<lost.length) :
  law_ReedsolomonNearest_l2 fu (w0,(q0,(ers,()))) word (p:Int) d n er j9 ((0:Int),(i:Int))=j9 ((0:Int),((i+1:Nat):Int)):=by
 have hll:lost.length≤N:=by
  have:=nodup_len (l:=lost) (s:=List.range N) hn fun a ha=>List.mem_range.2 (hl a ha)
  rwa [List.length_range] at this
 have hle:i<ers.length:=by rw [he,List.length_append,ints_len];omega
 have hx:ers.getD i 0=((lost.getD i 0:Nat):Int):=by rw [he];exact ints_get hi
 have ha:=hl _ (getD_mem hi);rw [n2_step hf hw hN hN0 hle (by omega) hx,if_pos (by omega)];exact n5_no hf hle (by omega) (fun u hu=>by rw [he];exact ints_nodup hn hi hu) 0 j9
theorem n2_all (hw:word.length=N) (hN:N≤16) (hN0:0<N) (hn:lost.Nodup) (hl:∀ a ∈ lost,a<N) :
  (ers=ints lost→loopF (law_ReedsolomonNearest_l2 fu (w0,(q0,(ers,()))) word (p:Int) d n er) fu ((0:Int),(0:Int))=law_ReedsolomonNearest_j8 fu (w0,(q0,(ers,()))) word (p:Int) d n er (if p<lost.length then 21 else 0)) ∧
  (∀ x r,ers=ints lost++x::r→(x<0∨(N:Int)≤x)→loopF (law_ReedsolomonNearest_l2 fu (w0,(q0,(ers,()))) word (p:Int) d n er) fu ((0:Int),(0:Int))=law_ReedsolomonNearest_j8 fu (w0,(q0,(ers,()))) word (p:Int) d n er 3) ∧
  (∀ x r,ers=ints lost++x::r→(∃ a ∈ lost,x=((a:Nat):Int))→loopF (law_ReedsolomonNearest_l2 fu (w0,(q0,(ers,()))) word (p:Int) d n er) fu ((0:Int),(0:Int))=law_ReedsolomonNearest_j8 fu (w0,(q0,(ers,()))) word (p:Int) d n er 7):=by
 have hll:lost.length≤N:=by
  have:=nodup_len (l:=lost) (s:=List.range N) hn fun a ha=>List.mem_range.2 (hl a ha)
  rwa [List.length_range] at this
 have bad:∀ x r (e:Int),e≠0→ers=ints lost++x::r→(∀ j9,law_ReedsolomonNearest_l2 fu (w0,(q0,(ers,()))) word (p:Int) d n er j9 ((0:Int),((lost.length:Nat):Int))=j9 (e,((lost.length+1:Nat):Int)))→loopF (law_ReedsolomonNearest_l2 fu (w0,(q0,(ers,()))) word (p:Int) d n er) fu ((0:Int),(0:Int))=law_ReedsolomonNearest_j8 fu (w0,(q0,(ers,()))) word (p:Int) d n er e:=fun x r e h0 he h=>by
  refine stLoop (n:=lost.length+1) (st:=fun t=>if t≤lost.length then ((0:Int),(t:Int)) else (e,(t:Int))) (by omega) (if_pos (by omega)) (fun j i hi=>?_) fun j=>?_
  ·rw [if_pos (show i≤lost.length by omega)];by_cases c:i=lost.length
   ·rw [c,h j,if_neg (by omega)]
   ·rw [n2_good hf hw hN hN0 hn hl he j (by omega),if_pos (by omega)]
  ·rw [if_neg (by omega)];exact n2_stop hf h0 _ j
 have hlen:∀ x r,ers=ints lost++x::r→lost.length<ers.length∧ers.getD lost.length 0=x:=fun x r he=>by
  constructor
  ·rw [he,List.length_append,ints_len,List.length_cons];omega
  ·rw [he,List.getD_eq_getElem?_getD,List.getElem?_append_right (by rw [ints_len];omega),ints_len,Nat.sub_self];rfl
 refine ⟨fun he=>?_,fun x r he hx=>?_,fun x r he hx=>?_⟩
 ·have hle:ers.length=lost.length:=by rw [he,ints_len]
  refine stLoop (n:=lost.length) (st:=fun t=>((0:Int),(t:Int))) (by omega) rfl (fun j i hi=>n2_good hf hw hN hN0 hn hl (tl:=[]) (by rw [he,List.append_nil]) j hi) fun j=>?_
  have h:=n2_false hf (w0:=w0) (q0:=q0) (ers:=ers) (word:=word) (p:=p) (d:=d) (n:=n) (er:=er) 0 ((lost.length:Nat):Int) j;unfold law_ReedsolomonNearest_l2;simp only [joinF_eq];rw [bif_neg (by omega),h,hle];congr 1;by_cases c:p<lost.length
  ·rw [if_pos ⟨rfl,by omega⟩,if_pos c]
  ·rw [if_neg (fun g=>c (by omega)),if_neg c]
 ·obtain ⟨g1,g2⟩:=hlen x r he;refine bad x r 3 (by decide) he fun j9=>?_
  rw [n2_step hf hw hN hN0 g1 (by omega) g2,if_neg (by omega),loopF_un (by omega)];exact n5_stop hf (by omega) (by decide) _ _ _ _
 ·obtain ⟨g1,g2⟩:=hlen x r he;obtain ⟨a,ha,hxa⟩:=hx;obtain ⟨u,hu,hua⟩:=mem_getD ha;have haN:=hl a ha;refine bad x r 7 (by decide) he fun j9=>?_
  rw [n2_step hf hw hN hN0 g1 (by omega) g2,if_pos (by omega)];refine n5_dup hf g1 (by omega) hu ?_ (fun v hv=>?_) 0 j9
  ·rw [g2,he,ints_get hu,hua,hxa]
  ·rw [g2,hxa,he,ints_get (by omega)];intro e;have:=nodup_inj hn (show v<lost.length by omega) hu (by rw [hua];omega);omega
theorem n8_err {w:Int} (hw:w≠0):law_ReedsolomonNearest_j8 fu (w0,(q0,(ers,()))) word (p:Int) [] 0 w w=some (true,()):=by
 unfold law_ReedsolomonNearest_j8;rw [bif_pos hw,bif_pos (by rfl),decide_eq_true rfl,none_t' hf,bindO_some]
theorem n9_r (hN:N≤255) {cw:Nat→GF} {d:List Int} (hd:d=ng N cw):loopF (law_ReedsolomonNearest_l9 fu (ng N wd) d (((cn (fun a=>decide (cw a≠wd a)) N:Nat):Int)) 0 (ng N cw)) fu ((0:Int),(0:Int))=some (true,()):=by
 have hc1:=cn_le (fun a=>decide (cw a≠wd a));refine stLoop (n:=N) (st:=fun t=>(((cn (fun a=>decide (cw a≠wd a)) t:Nat):Int),(t:Int))) (by omega) rfl ?_ ?_
 ·intro j t ht;have h1:=hc1 t;have e2:IntKind.i64.wrap ((t:Int)+1)=((t+1:Nat):Int):=by rw [s_wr (by omega) (by omega)];omega
  have e3:IntKind.i64.wrap (((cn (fun a=>decide (cw a≠wd a)) t:Nat):Int)+1)=((cn (fun a=>decide (cw a≠wd a)) t+1:Nat):Int):=by rw [s_wr (by omega) (by omega)];omega
  have hne:decide (ic (cw t)≠ic (wd t))=decide (cw t≠wd t):=by
   by_cases h:cw t=wd t
   ·rw [decide_eq_false (fun g=>g (ic_eq.2 h)),decide_eq_false (fun g=>g h)]
   ·have g:ic (cw t)≠ic (wd t):=fun g=>h (ic_eq.1 g)
    rw [decide_eq_true g,decide_eq_true h]
  unfold law_ReedsolomonNearest_l9 law_ReedsolomonNearest_j10;simp only [joinF_eq];rw [ng_len,ng_len,bif_pos (by omega),bif_and (by omega) (by omega),bif_and (by omega) (by omega),Int.toNat_natCast,ng_getD ht,ng_getD ht,hne];rw [cn];by_cases h:cw t=wd t
  ·rw [bif_neg (fun g=>g h),e2,decide_eq_false (fun g=>g h)];rfl
  ·rw [bif_pos h,e2,e3,decide_eq_true h];rfl
 ·intro j;unfold law_ReedsolomonNearest_l9;simp only [decide_true,cond_true];rw [ng_len,bif_neg (by omega),hd,sameB' hf,bindO_some]
theorem near_law (hW:law_reedsolomonWorks_r fu ()=some (true,())) {data:List Int} (hb:∀ x ∈ data,0≤x∧x≤255) {q:Int} (hq1:-9223372036854775808≤q) (hq2:q≤9223372036854775807) (ers:List Int):law_ReedsolomonNearest_r fu (data,(q,(ers,())))=some (true,()):=by
 obtain ⟨N,hN⟩:∃ N,N=min data.length 12:=⟨_,rfl⟩;obtain ⟨p,hp⟩:∃ p:Nat,q % 6=p:=Int.eq_ofNat_of_zero_le (Int.emod_nonneg _ (by decide));have hp5:p≤5:=by have:=Int.emod_lt_of_pos q (show (0:Int)<6 by decide);omega
 have hmin:min (data.length:Int) 12=(N:Int):=by omega
 have hbt:∀ x ∈ data.take N,0≤x∧x≤255:=fun x hx=>hb x (List.mem_of_mem_take hx)
 obtain ⟨wd,hwd⟩:∃ wd:Nat→GF,data.take N=ng N wd:=by
  refine ⟨fun k=>⟨byt (data.take N) k,byt_lt hbt k⟩,?_⟩;have h:=nb_byt hbt;rw [List.length_take,show min N data.length=N by omega] at h;exact h.symm
 have hN12:N≤12:=by omega
 unfold law_ReedsolomonNearest_r;simp only;rw [hW,bindO_some];simp only [Bool.not_true,cond_false];rw [hmin,bif_and (by omega) (by omega),rmod fu (by omega) (by omega) hq1 hq2,bindO_some,hp];simp only;rw [Int.toNat_natCast,show Int.toNat (0:Int)=0 from rfl,List.drop_zero,hwd]
 have hchk:∀ e:Int,vE N (p:Int)=e→e≠0→reedsolomon_Decode_r fu (ng N wd,((p:Int),(ers,())))=some ([],(0,(e,()))):=fun e he h0=>by
  unfold reedsolomon_Decode_r;simp only;rw [check_r hf,bindO_some];simp only;rw [ng_len,he,bif_pos h0]
 have stop:∀ w:Int,w≠0→law_ReedsolomonNearest_j1 fu (data,(q,(ers,()))) (ng N wd) (p:Int) [] 0 w w=some (true,()):=fun w h0=>by
  unfold law_ReedsolomonNearest_j1;rw [loopF_un (by omega),n2_stop hf h0,n8_err hf h0]
 by_cases c0:p=0
 ·rw [hchk 3 (by unfold vE;rw [if_pos (by omega)]) (by decide),bindO_some];simp only [joinF_eq];rw [bif_pos (by omega),stop 3 (by decide)]
 by_cases c1:N≤p
 ·rw [hchk 12 (by unfold vE;rw [if_neg (by omega),if_neg (by omega),if_pos (by omega)]) (by decide),bindO_some];simp only [joinF_eq,ng_len];rw [bif_neg (by omega),bif_pos (by omega),stop 12 (by decide)]
 have tail:∀ (d:List Int) (n e:Int),reedsolomon_Decode_r fu (ng N wd,((p:Int),(ers,())))=some (d,(n,(e,())))→loopF (law_ReedsolomonNearest_l2 fu (data,(q,(ers,()))) (ng N wd) (p:Int) d n e) fu ((0:Int),(0:Int))=some (true,()) →
   (bindO (reedsolomon_Decode_r fu (ng N wd,((p:Int),(ers,())))) fun v4=>joinF (law_ReedsolomonNearest_j1 fu (data,(q,(ers,()))) (ng N wd) (p:Int) v4.1 v4.2.1 v4.2.2.1) fun j8=>bif decide ((p:Int)=0) then j8 3 else bif decide (((ng N wd).length:Int)≤(p:Int)) then j8 12 else j8 0)=some (true,()):=fun d n e h1 h2=>by
  rw [h1,bindO_some];simp only [joinF_eq,ng_len];rw [bif_neg (by omega),bif_neg (by omega)];exact h2
 rcases ers_split N ers [] List.nodup_nil (fun a ha=>by cases ha) with ⟨lost,hn,hl,he⟩ | ⟨lost,x,r,hn,hl,he,hx⟩
 ·have he:ers=ints lost:=he;obtain ⟨a1,_,_⟩:=n2_all hf (w0:=data) (q0:=q) (ers:=ers) (word:=ng N wd) (p:=p) (d:=[]) (n:=0) (er:=21) (ng_len N wd) (by omega) (by omega) hn hl;by_cases ck:p<lost.length
  ·refine tail [] 0 21 ?_ ?_
   ·rw [he];exact (decode_w hf (by omega) (by omega) (by omega) (by omega) hn hl).1 ck
   ·rw [a1 he,if_pos ck,n8_err hf (by decide)]
  ·have hdec:=decoded_g hf (p:=p) (N:=N) (wd:=wd) (lost:=lost) (t:=(p-lost.length) / 2) (by omega) (by omega) (by omega) hn hl (by omega) (by omega);have hD:=decode_g hf (p:=p) (N:=N) (wd:=wd) (lost:=lost) (by omega) (by omega) (by omega) (by omega) hn hl (by omega)
   have earg:IntKind.i64.wrap (Int.tdiv (IntKind.i64.wrap ((p:Int)-((ints lost).length:Int))) 2)=(((p-lost.length) / 2:Nat):Int):=by
    rw [ints_len,s_wr (x:=(p:Int)-(lost.length:Int)) (by omega) (by omega),s_td (by omega),s_wr (by omega) (by omega)];omega
   rcases hD with ⟨cw,hc,hD⟩ | ⟨hno,hD⟩
   ·rcases hdec with ⟨cw',hc',hR⟩ | ⟨hno,_⟩
    ·have hsame:ng N cw'=ng N cw:=ng_congr fun a ha=>Near.uniq (by omega) (by omega) hc' hc ha
     obtain ⟨a1,_,_⟩:=n2_all hf (w0:=data) (q0:=q) (ers:=ers) (word:=ng N wd) (p:=p) (d:=ng N cw) (n:=((cn (fun a=>decide (cw a≠wd a)) N:Nat):Int)) (er:=0) (ng_len N wd) (by omega) (by omega) hn hl;refine tail _ _ _ (by rw [he];exact hD) ?_;rw [a1 he,if_neg ck,he];unfold law_ReedsolomonNearest_j8;rw [bif_neg (by decide)];simp only;rw [earg,hR,bindO_some];simp only [Bool.not_true,cond_false];rw [hsame];exact n9_r hf (by omega) rfl
    ·exact absurd hc (hno cw)
   ·rcases hdec with ⟨cw',hc',_⟩ | ⟨_,hR⟩
    ·exact absurd hc' (hno cw')
    ·refine tail [] 0 21 (by rw [he];exact hD) ?_;rw [a1 he,if_neg ck,he];unfold law_ReedsolomonNearest_j8;rw [bif_neg (by decide)];simp only;rw [earg,hR,bindO_some];simp only [Bool.not_false,cond_true,decide_true];rw [bif_pos (by rfl),none_t' hf,bindO_some]
 ·have he:ers=ints lost++x::r:=he;obtain ⟨b1,b2⟩:=decode_bad hf (p:=p) (N:=N) (wd:=wd) (lost:=lost) (x:=x) (rest:=r) (by omega) (by omega) (by omega) hn hl;rcases hx with hx | hx
  ·obtain ⟨_,a2,_⟩:=n2_all hf (w0:=data) (q0:=q) (ers:=ers) (word:=ng N wd) (p:=p) (d:=[]) (n:=0) (er:=3) (ng_len N wd) (by omega) (by omega) hn hl;refine tail [] 0 3 (by rw [he];exact b1 hx) ?_;rw [a2 x r he hx,n8_err hf (by decide)]
  ·obtain ⟨_,_,a3⟩:=n2_all hf (w0:=data) (q0:=q) (ers:=ers) (word:=ng N wd) (p:=p) (d:=[]) (n:=0) (er:=7) (ng_len N wd) (by omega) (by omega) hn hl;refine tail [] 0 7 (by rw [he];exact b2 hx) ?_;rw [a3 x r he hx,n8_err hf (by decide)]
end
end Gf
end Go.Proofs.Ytedmffbhklgloaa
/- The step from a walk to a law's row,once for all laws of the seat: a law that returns true and leaves all that was there as it was. -/
namespace Go.Proofs.Ytedmffbhklgloaa
open Go.ChangeShapes Go.WideShapes Go.ChangeAt Go.RowKit

theorem own:ownKnob Try.prog.godebug=none:=by kernel_rfl
theorem laidOut:laidOutB Try.prog=true:=by kernel_rfl
theorem boolT:Try.prog.underlying 4=some .bool:=Try.underlying4

theorem trodAll_stays {H:Type} {enc:TypeId×Value→H} {P:Program} (hl:laidOutB P=true) {W W':World} (hb:Below W.heap.size W W') :
  ∀ {ts:List TypeId} {vs:List Value} {ds:List (DataW H)} {ps:List MemPlace},(∀ t ∈ ts,P.readableRec t=true∧t<P.types.size)→DataW.TrodAll enc P W 0 (fun _=>true) true ts vs ds ps →
   (∀ x ∈ ps,x.block<W.heap.size)→DataW.TrodAll enc P W' 0 (fun b=>decide (b<W.heap.size)) true ts vs ds ps
 | [],[],[],_,_,h,_=>h
 | t::ts,v::vs,d::ds,_,hr,⟨p,q,h1,h2,e⟩,hlt =>
  ⟨p,q,Below.trod hl (hr t (by simp)).1 (hr t (by simp)).2 h1 hb (fun x hx=>hlt x (by rw [e];simp [hx])),
   trodAll_stays hl hb (fun t' ht=>hr t' (by simp [ht])) h2 (fun x hx=>hlt x (by rw [e];simp [hx])),e⟩
 | [],[],_::_,_,_,h,_=>h.elim
 | [],_::_,_,_,_,h,_=>h.elim
 | _::_,[],_,_,_,h,_=>h.elim
 | _::_,_::_,[],_,_,h,_=>h.elim

def readsAll (P:Program) (ts:List TypeId):Bool:=ts.all fun t=>P.readableRec t&&decide (t<P.types.size)
theorem readsAll_all {P:Program} {ts:List TypeId} (h:readsAll P ts=true):∀ t ∈ ts,P.readableRec t=true∧t<P.types.size:=by
 intro t ht;have:=List.all_eq_true.1 h t ht;simpa using this

theorem trodAll_length {H:Type} {enc:TypeId×Value→H} {P:Program} {W:World} {base:Nat} {spare:Nat→Bool} {held:Bool} :
  ∀ {ts:List TypeId} {vs:List Value} {ds:List (DataW H)} {ps:List MemPlace},DataW.TrodAll enc P W base spare held ts vs ds ps→ds.length=ts.length
 | [],[],[],_,_=>rfl
 | _::_,_::_,_::_,_,⟨_,_,_,h2,_⟩=>by simp [trodAll_length h2]
 | [],[],_::_,_,h=>h.elim
 | [],_::_,_,_,h=>h.elim
 | _::_,[],_,_,h=>h.elim
 | _::_,_::_,[],_,h=>h.elim

set_option maxRecDepth 100000 in
theorem law_lifted {os:Os} (started:os.Started) {H:Type} {enc:TypeId×Value→H} {f:FuncId} {fn:Func} {s:ChangeSpec}
  (noInit:Try.checked.prog.inits.idxOf? f=none) (hfn:Try.checked.prog.funcs[f]?=some fn)
  (witness:∃ (w:World) (tape:Tape) (i:Input),w.os=os∧(w.forCall tape i).Shaped Try.checked.prog∧i.vars=[]∧Input.okWide Try.checked.prog (w.forCall tape i) .any w.heap.size f i ∧
   s.pre6 enc Try.checked.prog fn [] false (w.forCall tape i).memory i.args∧({}:Assume).holds Try.checked.prog (lone (Frame.enter Try.checked.prog f i.args .normal) [] (w.forCall tape i)))
  (hvars:s.vars=[]) (hres:fn.resultTypes=#[4]) (hread:readsAll Try.prog fn.params.toList=true)
  (hspec:∀ ds:List (DataW H),ds.length=fn.params.toList.length→s.fn H ds={ results:=[.lit (.bool true)],args:=ds })
  (walk:∀ (W:World) (base:Nat) (args:List Value) (ds:List (DataW H)) (ps:List MemPlace),
   (∀ (j:Nat) t v,fn.params[j]?=some t→args[j]?=some v→Value.okWide Try.prog W .any base t v)→DataW.TrodAll enc Try.prog W 0 (fun _=>true) true fn.params.toList args ds ps →
   (DataW.weightsEach Try.prog fn.params.toList ds).all (·≤reachBytes)=true→(∀ x ∈ ps,x.block<W.heap.size) →
   Calls Try.prog f args.toArray W fun e W'=>e=.returned (.bool true)∧Below W.heap.size W W') :
  ReturnsInHanded {} Try.checked os f .any (s.pre6 enc Try.checked.prog fn [] false) (s.post enc Try.checked.prog fn false true false false):=by
 refine returnsInHanded_of_change_sized (C:=Try.checked) own started noInit hfn witness ?_;intro W base args ds gs before hval hW _ hsz _;have hW':=hW;obtain ⟨p,q,hA0,hV,rfl,hfz,hnd⟩:=hW;rw [hvars] at hV;obtain ⟨rfl,rfl⟩:=trodVars_none hV;have hA:DataW.TrodAll enc Try.prog W 0 (fun _=>true) true fn.params.toList args.toList ds p:=hA0;have hlen:ds.length=fn.params.toList.length:=trodAll_length hA;have hlt:∀ x ∈ p,x.block<W.heap.size:=fun x hx=>hW'.lt x (by simpa using hx)
 have hargs:args.toList.toArray=args:=by simp
 have hsz':(DataW.weightsEach Try.prog fn.params.toList ds).all (·≤reachBytes)=true:=by
  have h:=hsz;have hvt:s.plain.varTypes Try.checked.prog=[]:=by simp [DataSpec.varTypes,ChangeSpec.plain,hvars]
  rw [hvt] at h;simp only [List.append_nil] at h;exact h
 have hw:=walk W base args.toList ds p (fun j t v ht hv=>hval j t v ht (by simpa using hv)) hA hsz' hlt;rw [hargs] at hw;refine hw.mono fun e W' ⟨he,hb⟩=>⟨.bool true,he,?_⟩
 have hsf:s.fn H (ds++[])={ results:=[.lit (.bool true)],args:=ds }:=by rw [List.append_nil];exact hspec ds hlen
 refine ⟨ds,[],p++[],[],p,[],hW',?_,?_,?_,hb.frame _,fun h=>by cases h⟩
 ·rw [hsf,hres];exact trodAll_mk1 (shut_bool boolT true)
 ·rw [hsf];exact trodAll_stays laidOut hb (readsAll_all hread) hA hlt
 ·rw [hsf,hvars];rfl
end Go.Proofs.Ytedmffbhklgloaa
/- Arguments opened: what slices and structs of numbers read as. -/
set_option maxRecDepth 100000
namespace Go.Proofs.Ytedmffbhklgloaa
open Go.ChangeShapes Go.WideShapes Go.ChangeAt Go.RowKit Go.Deep

theorem choose_list {α:Type} {n:Nat} {Q:Nat→α→Prop} (h:∀ i,i<n→∃ p,Q i p):∃ l:List α,l.length=n∧∀ i p,l[i]?=some p→Q i p:=by
 induction n with
 | zero=>exact ⟨[],rfl,by intro i p hi;simp at hi⟩
 | succ n ih =>
  obtain ⟨l,hl,hq⟩:=ih (fun i hi=>h i (by omega));obtain ⟨p,hp⟩:=h n (by omega);refine ⟨l++[p],by simp [hl],fun i q hi=>?_⟩;rcases Nat.lt_trichotomy i n with hlt | rfl | hgt
  ·rw [List.getElem?_append_left (by omega)] at hi;exact hq i q hi
  ·rw [List.getElem?_append_right (by omega),hl] at hi;simp at hi;subst hi;exact hp
  ·rw [List.getElem?_eq_none (by simp;omega)] at hi;cases hi

section
variable {H:Type} {enc:TypeId×Value→H} {P:Program} {w:World} {base:Nat} {spare:Nat→Bool} {held:Bool}
theorem rd_slice {t e:TypeId} {fuel:Nat} {v:Value} {x:DataW H×List MemPlace} (ht:P.underlying t=some (.slice e)) (hc:0<P.cellsOf e) (h:DataW.trod enc P w base spare held fuel t [v]=some x) :
  ∃ A n c,v=.slice A n c∧n≤c∧c≤maxLen∧∀ i,i<n→∃ b o cs n' x',A=some ⟨b,o,none⟩∧cs.length=P.cellsOf e∧(∀ j u,cs[j]?=some u→w.cell? ⟨b,o+i*P.cellsOf e+j,none⟩=some u) ∧
   DataW.trod enc P w base spare held n' e cs=some x':=by
 rcases open_slice ht h with ⟨h0,_⟩ | ⟨a,len,cap,m,n',D,Pl,hcs,_,hl,hm,hmm,_,hi⟩
 ·simp at h0;subst h0;exact ⟨none,0,0,rfl,by omega,by unfold maxLen;omega,by intro i hi;omega⟩
 ·simp at hcs;subst hcs;refine ⟨some a,len,cap,rfl,hl,hm,fun i hil=>?_⟩
  have hlm:len≤m:=by rw [hmm];split <;> omega
  obtain ⟨cs,h1,h2⟩:=hi i (by omega);obtain ⟨hb,hlen,hat⟩:=World.cells?_some h1;obtain ⟨b,o,spot⟩:=a;have h00:=hat 0 (by omega)
  have hsp:spot=none:=by
   obtain ⟨cs0,g1,_⟩:=hi 0 (by omega);obtain ⟨_,gl,gat⟩:=World.cells?_some g1;have hx:=gat 0 (by omega);rw [List.getElem?_eq_getElem (by omega)] at hx;simpa [Addr.add] using World.cell?_spot hx
  subst hsp;refine ⟨b,o,cs,n',_,rfl,hlen,?_,h2⟩;intro j u hu;have hjl:j<P.cellsOf e:=by rw [←hlen];exact (List.getElem?_eq_some_iff.1 hu).1
  have:=hat j hjl;rw [hu,Addr.add_lit,Addr.add_lit] at this;exact this
end

end Go.Proofs.Ytedmffbhklgloaa
/- Arguments opened,as abstract values. -/
set_option maxRecDepth 100000
namespace Go.Proofs.Ytedmffbhklgloaa
open Go Go.ChangeShapes Go.WideShapes Go.ChangeAt Go.RowKit Go.Deep

section
variable {H:Type} {enc:TypeId×Value→H} {P:Program} {w:World} {base:Nat} {spare:Nat→Bool} {held:Bool}
abbrev RelC (w:World):AV→Value→Prop:=RelD w (fun _=>False) w.heap.size
def Reads {α:Type} (w:World) (sz:Nat) (ec:α→List AV) (Q:α→Prop) (cs:List Value):Prop :=
 ∃ p,Q p∧(ec p).length=sz∧∀ (j:Nat) (a:AV) (u:Value),(ec p)[j]?=some a→cs[j]?=some u→RelC w a u
theorem ro_slice {α:Type} (ec:α→List AV) (Q:α→Prop) {t e:TypeId} {sz fuel:Nat} {v:Value} {x:DataW H×List MemPlace} (ht:P.underlying t=some (.slice e)) (hz:P.cellsOf e=sz) (hc:0<sz)
  (hel:∀ (fuel:Nat) (cs:List Value) (x:DataW H×List MemPlace),cs.length=sz→DataW.trod enc P w base spare held fuel e cs=some x→Reads w sz ec Q cs) (h:DataW.trod enc P w base spare held fuel t [v]=some x) :
  ∃ xs:List α,(∀ p ∈ xs,Q p)∧RelC w (.ro false sz (xs.map ec)) v:=by
 subst hz;obtain ⟨A,n,c,rfl,hn,hm,hi⟩:=rd_slice ht hc h
 obtain ⟨xs,hl,hq⟩:=choose_list (Q:=fun i (p:α)=>Q p∧∃ (b o:Nat) (cs:List Value),A=some ⟨b,o,none⟩∧cs.length=P.cellsOf e∧(∀ (j:Nat) (u:Value),cs[j]?=some u→w.cell? ⟨b,o+i*P.cellsOf e+j,none⟩=some u)∧(ec p).length=P.cellsOf e∧∀ (j:Nat) (a:AV) (u:Value),(ec p)[j]?=some a→cs[j]?=some u→RelC w a u) (n:=n) (by
  intro i hil;obtain ⟨b,o,cs,n',x',hA,hlen,hat,htr⟩:=hi i hil;obtain ⟨p,h1,h2,h3⟩:=hel n' cs x' hlen htr
  exact ⟨p,h1,b,o,cs,hA,hlen,hat,h2,h3⟩)
 subst hl;refine ⟨xs,fun p hp=>?_,?_⟩
 ·obtain ⟨i,hi⟩:=List.mem_iff_getElem?.1 hp;exact (hq i p hi).1
 have key:∀ (i:Nat) (row:List AV) (j:Nat) (a:AV),(xs.map ec)[i]?=some row→row[j]?=some a→∃ b o u,A=some ⟨b,o,none⟩∧w.cell? ⟨b,o+i*P.cellsOf e+j,none⟩=some u∧RelC w a u:=by
  intro i row j a hr ha;rw [List.getElem?_map] at hr;obtain ⟨p,hp,rfl⟩:=Option.map_eq_some_iff.1 hr;obtain ⟨_,b,o,cs,hA,hlen,hat,hel,hrel⟩:=hq i p hp;have hj:j<cs.length:=by rw [hlen,←hel];exact (List.getElem?_eq_some_iff.1 ha).1
  have hu:cs[j]?=some cs[j]:=List.getElem?_eq_getElem hj;exact ⟨b,o,cs[j],hA,hat j _ hu,hrel j a _ ha hu⟩
 have hcon:=RelD.ro (w:=w) (own:=fun _=>False) (bs:=w.heap.size) false (P.cellsOf e) (xs.map ec) A c (fun i j=>match A with
  | some ⟨b,o,_⟩=>(w.cell? ⟨b,o+i*P.cellsOf e+j,none⟩).getD undef
  | none=>undef) (by simpa using hn) hm (fun i hi hA=>by
   have hi:i<xs.length:=by simpa using hi
   obtain ⟨_,b,o,_,h1,_⟩:=hq i xs[i] (List.getElem?_eq_getElem hi)
   rw [hA] at h1;cases h1) (fun i row j a hr ha=>by
   obtain ⟨b,o,u,hA,hu,_⟩:=key i row j a hr ha;subst hA
   exact ⟨b,o,rfl,fun h=>h.elim,(fun h=>by cases h),by simp [hu]⟩) (fun i row j a hr ha=>by
   obtain ⟨b,o,u,hA,hu,hr⟩:=key i row j a hr ha;subst hA
   simpa [hu] using hr)
 rw [List.length_map] at hcon;exact hcon
end
theorem AF.yes {P:Program} {F:FuncId} {xs:List AV} {vs:Array Value} {w:World} (h:AF P F xs (.bool true)) (ha:ArgsV w (Gh.none w.heap.size) xs vs):Calls P F vs w fun e w'=>e=.returned (.bool true)∧Below w.heap.size w w' :=
 (h.out w vs ha).mono fun e w' ⟨v,he,hb,hv⟩=>⟨by rw [he,hv.bool'],hb⟩
end Go.Proofs.Ytedmffbhklgloaa
/- Arguments of any type,opened by one theorem;the last step of a law that a residual program answers. -/
set_option maxRecDepth 100000
namespace Go.Proofs.Ytedmffbhklgloaa
open Go Go.ChangeShapes Go.WideShapes Go.ChangeAt Go.RowKit Go.Deep

def Ty.wf:(t:Ty)→t.den→Prop
 | .int k,n=>(Lit.int k n).wf=true
 | .bool,_=>True
 | .str,s=>List.length s≤maxLen
 | .list t,xs=>List.length xs≤maxLen∧∀ x ∈ (xs:List t.den),t.wf x
 | .unit,_=>True
 | .pair a b,x=>a.wf x.1∧b.wf x.2
 | .agg t,x=>t.wf x
 | .aix,_=>False
 | .ptr _,_=>False
def prB (t:Ty) (f:Ty→Ty→Bool):Bool:=match t with
 | .pair x y=>f x y
 | _=>false
def unB (t:Ty):Bool:=match t with
 | .unit=>true
 | _=>false
theorem prB_ok {t:Ty} {f:Ty→Ty→Bool} (h:prB t f=true):∃ x y,t=.pair x y∧f x y=true:=by
 unfold prB at h;split at h
 ·exact ⟨_,_,rfl,h⟩
 ·cases h
theorem unB_ok {t:Ty} (h:unB t=true):t=.unit:=by
 unfold unB at h;split at h
 ·rfl
 ·cases h
def fsB (g:TypeId→Ty→Bool):List Field→Nat→Ty→Bool
 | [],_,t=>unB t
 | [a],o,t=>Nat.beq a.offset o&&g a.type t
 | a::b::l,o,t=>prB t fun x y=>Nat.beq a.offset o&&g a.type x&&fsB g (b::l) (o+x.size) y
def arB (g:Ty→Bool):Nat→Ty→Bool
 | 0,t=>unB t
 | 1,t=>g t
 | n+2,t=>prB t fun x y=>g x&&arB g (n+1) y
def intB (k:IntKind) (t:Ty):Bool:=match t with
 | .int k'=>decide (k'=k)
 | _=>false
def boolB (t:Ty):Bool:=match t with
 | .bool=>true
 | _=>false
def strB (t:Ty):Bool:=match t with
 | .str=>true
 | _=>false
def sliceB (g:Ty→Bool) (t:Ty):Bool:=match t with
 | .list t'=>g t'&&Nat.blt 0 t'.size
 | _=>false
def tyB (P:Program):Nat→TypeId→Ty→Bool
 | 0,_,_=>false
 | f+1,tid,t=>Nat.beq (P.cellsOf tid) t.size&&(match P.underlying tid with
  | some (.int k)=>intB k t
  | some .bool=>boolB t
  | some .string=>strB t
  | some (.slice e)=>sliceB (tyB P f e) t
  | some (.struct ⟨fs⟩)=>fsB (tyB P f) fs 0 t
  | some (.array n e)=>arB (tyB P f e) n t
  | _=>false)
section
variable {H:Type} {enc:TypeId×Value→H} {P:Program} {w:World} {base:Nat} {spare:Nat→Bool} {held:Bool}
abbrev ReadsT (w:World) (t:Ty) (cs:List Value):Prop:=Reads w t.size (t.cells false) t.wf cs
theorem tyB_size {f:Nat} {tid:TypeId} {t:Ty} (h:tyB P f tid t=true):P.cellsOf tid=t.size:=by
 cases f with
 | zero=>cases h
 | succ f=>rw [tyB,Bool.and_eq_true] at h;exact Nat.eq_of_beq_eq_true h.1
theorem ReadsT.pair {a b:Ty} {c d:List Value} (h:ReadsT w a c) (k:ReadsT w b d) (hl:c.length=a.size):ReadsT w (.pair a b) (c++d):=by
 obtain ⟨x,x1,x2,x3⟩:=h;obtain ⟨y,y1,y2,y3⟩:=k;refine ⟨(x,y),⟨x1,y1⟩,Ty.cells_length _ _ _,fun j v u hv hu=>?_⟩;rw [Ty.cells] at hv;by_cases hj:j<a.size
 ·rw [List.getElem?_append_left (by rw [x2];exact hj)] at hv;rw [List.getElem?_append_left (by omega)] at hu;exact x3 j v u hv hu
 ·rw [List.getElem?_append_right (by rw [x2];omega),x2] at hv;rw [List.getElem?_append_right (by omega),hl] at hu;exact y3 _ v u hv hu
theorem ReadsT.unit:ReadsT w .unit []:=⟨(),trivial,rfl,fun j a u h _=>by simp [Ty.cells] at h⟩
theorem fs_reads {g:TypeId→Ty→Bool} (hg:∀ (tid:TypeId) (t:Ty) (n:Nat) (cs:List Value) (x:DataW H×List MemPlace),g tid t=true→cs.length=t.size→DataW.trod enc P w base spare held n tid cs=some x→ReadsT w t cs) (hsz:∀ tid t,g tid t=true→P.cellsOf tid=t.size) {cs:List Value} :
  ∀ (l:List Field) (o:Nat) (t:Ty),fsB g l o t=true→(∀ a ∈ l,∃ n y,DataW.trod enc P w base spare held n a.type ((cs.drop a.offset).take (P.cellsOf a.type))=some y)→o+t.size≤cs.length→ReadsT w t ((cs.drop o).take t.size)
 | [],o,t,h,_,_=>by
  rw [unB_ok h,show Ty.unit.size=0 from rfl,List.take_zero];exact .unit
 | [a],o,t,h,hr,hl=>by
  rw [fsB,Bool.and_eq_true] at h;obtain ⟨n,y,hy⟩:=hr a (by simp);rw [Nat.eq_of_beq_eq_true h.1,hsz _ _ h.2] at hy;exact hg _ _ n _ y h.2 (by rw [List.length_take,List.length_drop];omega) hy
 | a::b::l,o,t,h,hr,hl=>by
  obtain ⟨x,y,rfl,h'⟩:=prB_ok h;clear h;have h:=h';clear h';rw [Bool.and_eq_true,Bool.and_eq_true] at h;obtain ⟨n,z,hz⟩:=hr a (by simp);rw [Nat.eq_of_beq_eq_true h.1.1,hsz _ _ h.1.2] at hz;have hs:(Ty.pair x y).size=x.size+y.size:=rfl;rw [hs] at hl;have h1:=hg _ _ n _ z h.1.2 (by rw [List.length_take,List.length_drop];omega) hz;have h2:=fs_reads hg hsz (b::l) (o+x.size) y h.2 (fun a ha=>hr a (List.mem_cons_of_mem _ ha)) (by omega);rw [hs,List.take_add,List.drop_drop];exact h1.pair h2 (by rw [List.length_take,List.length_drop];omega)
theorem ar_reads {g:Ty→Bool} {e:TypeId} (hg:∀ (t:Ty) (n:Nat) (cs:List Value) (x:DataW H×List MemPlace),g t=true→cs.length=t.size→DataW.trod enc P w base spare held n e cs=some x→ReadsT w t cs) (hsz:∀ t,g t=true→P.cellsOf e=t.size) {cs:List Value} :
  ∀ (k o:Nat) (t:Ty),arB g k t=true→(∀ i,i<k→∃ n y,DataW.trod enc P w base spare held n e ((cs.drop (o+i*P.cellsOf e)).take (P.cellsOf e))=some y)→o+t.size≤cs.length→ReadsT w t ((cs.drop o).take t.size)
 | 0,o,t,h,_,_=>by
  rw [unB_ok h,show Ty.unit.size=0 from rfl,List.take_zero];exact .unit
 | 1,o,t,h,hr,hl=>by
  rw [arB] at h;obtain ⟨n,y,hy⟩:=hr 0 (by omega);rw [hsz _ h,Nat.zero_mul,Nat.add_zero] at hy;exact hg _ n _ y h (by rw [List.length_take,List.length_drop];omega) hy
 | k+2,o,t,h,hr,hl=>by
  obtain ⟨x,y,rfl,h'⟩:=prB_ok h;clear h;have h:=h';clear h';rw [Bool.and_eq_true] at h;obtain ⟨n,z,hz⟩:=hr 0 (by omega);rw [hsz _ h.1,Nat.zero_mul,Nat.add_zero] at hz;have hs:(Ty.pair x y).size=x.size+y.size:=rfl;rw [hs] at hl;have h1:=hg _ n _ z h.1 (by rw [List.length_take,List.length_drop];omega) hz
  have h2:=ar_reads hg hsz (k+1) (o+x.size) y h.2 (fun i hi=>by
   obtain ⟨n,z,hz⟩:=hr (i+1) (by omega);refine ⟨n,z,?_⟩
   rw [←hz,←hsz _ h.1,Nat.add_mul,Nat.one_mul,Nat.add_assoc,Nat.add_comm (P.cellsOf e)]) (by omega)
  rw [hs,List.take_add,List.drop_drop];exact h1.pair h2 (by rw [List.length_take,List.length_drop];omega)
theorem ro_len {own:Nat→Prop} {bs sz:Nat} {fr:Bool} {rows:List (List AV)} {v:Value} (h:RelD w own bs (.ro fr sz rows) v):rows.length≤maxLen:=by
 cases h with
 | ro fr sz rows A c f hc hm h0 h1 h2=>omega
theorem one_cell {cs:List Value} (h:cs.length=1):∃ u,cs=[u]:=by match cs,h with | [u],_=>exact ⟨u,rfl⟩
theorem reads_ty:∀ (f:Nat) (tid:TypeId) (t:Ty) (n:Nat) (cs:List Value) (x:DataW H×List MemPlace),tyB P f tid t=true→cs.length=t.size→DataW.trod enc P w base spare held n tid cs=some x→ReadsT w t cs
 | 0,_,_,_,_,_,h,_,_=>by cases h
 | f+1,tid,t,n,cs,x,h,hl,hx=>by
  have hsize:=tyB_size h;rw [tyB,Bool.and_eq_true] at h;obtain ⟨_,h⟩:=h;split at h
  ·rename_i k hu;unfold intB at h;split at h
   ·have hk:=of_decide_eq_true h;subst hk;obtain ⟨m,rfl,_,hwf⟩:=DataW.trod_int hu hx;refine ⟨m,hwf,rfl,fun j a u ha hu=>?_⟩
    match j with
    | 0=>simp [Ty.cells] at ha hu;subst ha;subst hu;exact .int _ _
    | j+1=>simp [Ty.cells] at ha
   ·cases h
  ·rename_i hu;unfold boolB at h;split at h
   ·obtain ⟨m,rfl,_⟩:=DataW.trod_bool hu hx;refine ⟨m,trivial,rfl,fun j a u ha hu=>?_⟩
    match j with
    | 0=>simp [Ty.cells] at ha hu;subst ha;subst hu;exact .bool _
    | j+1=>simp [Ty.cells] at ha
   ·cases h
  ·rename_i hu;unfold strB at h;split at h
   ·obtain ⟨s,rfl,_,hs⟩:=DataW.trod_string hu hx;refine ⟨s.data.toList,by rw [Ty.wf,Array.length_toList];exact hs,rfl,fun j a u ha hu=>?_⟩
    match j with
    | 0=>simp [Ty.cells] at ha hu;subst ha;subst hu;exact .str _
    | j+1=>simp [Ty.cells] at ha
   ·cases h
  ·rename_i e hu;unfold sliceB at h;split at h
   ·rename_i _ t' _;rw [Bool.and_eq_true] at h;have hpos:0<t'.size:=Nat.le_of_ble_eq_true h.2;obtain ⟨v,rfl⟩:=one_cell hl;obtain ⟨xs,hw,hr⟩:=ro_slice (t'.cells false) t'.wf hu (tyB_size h.1) hpos (fun m cs x hl hx=>reads_ty f e t' m cs x h.1 hl hx) hx;refine ⟨xs,⟨?_,hw⟩,rfl,fun j a u ha hu=>?_⟩
    ·have:=ro_len hr;rw [List.length_map] at this;exact this
    match j with
    | 0=>simp [Ty.cells] at ha hu;subst ha;subst hu;exact hr
    | j+1=>simp [Ty.cells] at ha
   ·cases h
  ·rename_i fs hu;obtain ⟨xs,m,_,_,_,hxl,hat⟩:=DataW.trod_struct hu hx
   have:=fs_reads (cs:=cs) (fun tid t n cs x h1 h2 h3=>reads_ty f tid t n cs x h1 h2 h3) (fun tid t h=>tyB_size h) fs 0 t h (fun a ha=>by
    obtain ⟨i,hi⟩:=List.mem_iff_getElem?.1 ha;have hi':i<xs.length:=by rw [hxl];exact (List.getElem?_eq_some_iff.1 hi).1
    exact ⟨m,_,by rw [hat i a (by simpa using hi),List.getElem?_eq_getElem hi']⟩) (by omega)
   rw [List.drop_zero,List.take_of_length_le (by omega)] at this;exact this
  ·rename_i k e hu;obtain ⟨xs,m,_,_,_,hxl,hat⟩:=DataW.trod_array hu hx
   have:=ar_reads (cs:=cs) (e:=e) (fun t n cs x h1 h2 h3=>reads_ty f e t n cs x h1 h2 h3) (fun t h=>tyB_size h) k 0 t h (fun i hi=>by
    have hi':i<xs.length:=by rw [hxl];exact hi
    exact ⟨m,_,by rw [Nat.zero_add,hat i hi,List.getElem?_eq_getElem hi']⟩) (by omega)
   rw [List.drop_zero,List.take_of_length_le (by omega)] at this;exact this
  ·cases h
def aggP (P:Program) (tid:TypeId):Bool:=match P.underlying tid with
 | some (.struct _)=>true
 | some (.array _ _)=>true
 | _=>false
def cellP (P:Program) (tid:TypeId):Bool:=match P.underlying tid with
 | some (.int _)=>true
 | some .bool=>true
 | some .string=>true
 | some (.slice _)=>true
 | _=>false
def argB (P:Program) (tid:TypeId) (a:Ty):Bool:=match a with
 | .agg t=>tyB P 9 tid t&&aggP P tid
 | .int k=>tyB P 9 tid (.int k)&&cellP P tid
 | .bool=>tyB P 9 tid .bool&&cellP P tid
 | .str=>tyB P 9 tid .str&&cellP P tid
 | .list t=>tyB P 9 tid (.list t)&&cellP P tid
 | _=>false
def argsB (P:Program):List TypeId→Ty→Bool
 | [],t=>unB t
 | tid::l,t=>prB t fun a b=>argB P tid a&&argsB P l b
theorem okWide_arr {n b:Nat} {r:Go.Reach} {t e:TypeId} {v:Value} (ht:P.underlying t=some (.array n e)) (h:Value.okWide P w r b t v):∃ cs,v=.agg cs∧cs.size=P.cellsOf t:=by
 simp only [Value.okWide,ht] at h;obtain ⟨cs,h1,h2,_⟩:=h;exact ⟨cs,h1,h2⟩
theorem arg_agg {tid:TypeId} {t:Ty} {v:Value} {d:DataW H} {p:List MemPlace} {b:Nat} (h:tyB P 9 tid t=true) (ha:aggP P tid=true) (hv:Value.okWide P w .any b tid v) (hd:DataW.Trod enc P w base spare held tid v d p):∃ x:t.den,t.wf x∧RelV w (Gh.none w.heap.size) (.agg (t.cells false x)) v:=by
 obtain ⟨cs,rfl,hs⟩:∃ cs,v=.agg cs∧cs.size=P.cellsOf tid:=by
  unfold aggP at ha;split at ha
  ·rename_i h1;exact okWide_struct h1 hv
  ·rename_i h1;exact okWide_arr h1 hv
  ·cases ha
 obtain ⟨n,hd⟩:=hd;have hl:cs.toList.length=t.size:=by rw [←tyB_size h,←hs];simp
 obtain ⟨x,x1,x2,x3⟩:=reads_ty 9 tid t n cs.toList _ h hl hd;exact ⟨x,x1,.agg _ _ (by rw [x2,←hl];simp) fun i a u ha hu=>.dat (x3 i a u ha (by simpa using hu))⟩
theorem arg_cell {tid:TypeId} {t:Ty} {v:Value} {d:DataW H} {p:List MemPlace} {b:Nat} (h:tyB P 9 tid t=true) (hc:cellP P tid=true) (h1:t.size=1) (hv:Value.okWide P w .any b tid v) (hd:DataW.Trod enc P w base spare held tid v d p):∃ x:t.den,t.wf x∧∀ a,(t.cells false x)[0]?=some a→RelV w (Gh.none w.heap.size) a v:=by
 have hd:∃ n,DataW.trod enc P w base spare held n tid [v]=some (d,p):=by
  unfold cellP at hc;split at hc
  ·rename_i hu;obtain ⟨m,rfl⟩:=okWide_int hu hv;exact hd
  ·rename_i hu;obtain ⟨m,rfl⟩:=okWide_bool hu hv;exact hd
  ·rename_i hu;obtain ⟨m,rfl⟩:=okWide_string hu hv;exact hd
  ·rename_i hu;obtain ⟨a,n,c,rfl⟩:=okWide_slice hu hv;exact hd
  ·cases hc
 obtain ⟨n,hd⟩:=hd;obtain ⟨x,x1,x2,x3⟩:=reads_ty 9 tid t n [v] _ h (by rw [h1];rfl) hd;exact ⟨x,x1,fun a ha=>.dat (x3 0 a v ha rfl)⟩
theorem arg_ty {tid:TypeId} {v:Value} {d:DataW H} {p:List MemPlace} {b:Nat}:∀ {a:Ty},argB P tid a=true→Value.okWide P w .any b tid v→DataW.Trod enc P w base spare held tid v d p→∃ x:a.den,a.wf x∧RelV w (Gh.none w.heap.size) (a.av false x) v
 | .agg t,h,hv,hd=>by
  rw [argB,Bool.and_eq_true] at h;obtain ⟨x,h1,h2⟩:=arg_agg h.1 h.2 hv hd;exact ⟨x,h1,by rw [Ty.av];exact h2⟩
 | .int k,h,hv,hd=>by
  rw [argB,Bool.and_eq_true] at h;obtain ⟨x,h1,h2⟩:=arg_cell h.1 h.2 rfl hv hd;exact ⟨x,h1,h2 _ rfl⟩
 | .bool,h,hv,hd=>by
  rw [argB,Bool.and_eq_true] at h;obtain ⟨x,h1,h2⟩:=arg_cell h.1 h.2 rfl hv hd;exact ⟨x,h1,h2 _ rfl⟩
 | .str,h,hv,hd=>by
  rw [argB,Bool.and_eq_true] at h;obtain ⟨x,h1,h2⟩:=arg_cell h.1 h.2 rfl hv hd;exact ⟨x,h1,h2 _ rfl⟩
 | .list t,h,hv,hd=>by
  rw [argB,Bool.and_eq_true] at h;obtain ⟨x,h1,h2⟩:=arg_cell h.1 h.2 rfl hv hd;exact ⟨x,h1,h2 _ rfl⟩
 | .unit,h,_,_=>by cases h
 | .pair _ _,h,_,_=>by cases h
 | .ptr _,h,_,_=>by cases h
inductive RelsV (w:World) (G:Gh):List AV→List Value→Prop
 | nil:RelsV w G [] []
 | cons {a:AV} {v:Value} {l:List AV} {m:List Value} (h:RelV w G a v) (k:RelsV w G l m):RelsV w G (a::l) (v::m)
theorem RelsV.args {G:Gh} {l:List AV} {m:List Value} (h:RelsV w G l m):ArgsV w G l m.toArray:=by
 induction h with
 | nil=>exact ⟨rfl,fun i a v ha hv=>by simp at ha⟩
 | cons h k ih =>
  refine ⟨by have:=ih.size;simp at this ⊢;exact this,fun i a v ha hv=>?_⟩
  cases i with
  | zero=>simp at ha hv;subst ha;subst hv;exact h
  | succ i=>exact ih.rel i a v (by simpa using ha) (by simpa using hv)
theorem args_ty {b:Nat}:∀ {ts:List TypeId} {σ:Ty} {vs:List Value} {ds:List (DataW H)} {ps:List MemPlace},argsB P ts σ=true→(∀ (j:Nat) t v,ts[j]?=some t→vs[j]?=some v→Value.okWide P w .any b t v)→DataW.TrodAll enc P w base spare held ts vs ds ps→∃ x:σ.den,σ.wf x∧RelsV w (Gh.none w.heap.size) (σ.avs false x) vs
 | [],σ,vs,ds,ps,h,_,hA=>by
  obtain ⟨rfl,rfl,rfl⟩:=trodAll_nil hA;have e:=unB_ok h;subst e;exact ⟨(),trivial,.nil⟩
 | tid::l,σ,vs,ds,ps,h,hv,hA=>by
  obtain ⟨v,vs,d,ds,p,q,rfl,rfl,rfl,h0,r0⟩:=trodAll_cons hA;obtain ⟨a,c,rfl,h'⟩:=prB_ok h;clear h;have h:=h';clear h';rw [Bool.and_eq_true] at h;obtain ⟨x,x1,x2⟩:=arg_ty h.1 (hv 0 tid v rfl rfl) h0;obtain ⟨y,y1,y2⟩:=args_ty h.2 (fun j t u ht hu=>hv (j+1) t u (by simpa using ht) (by simpa using hu)) r0;exact ⟨(x,y),⟨x1,y1⟩,by rw [Ty.avs];exact .cons x2 y2⟩
end
theorem law_any {H:Type} {enc:TypeId×Value→H} {F:Nat} {ts:List TypeId} {σ:Ty} {f:Nat→σ.den→Option (Bool×Unit)} {nm:Nat} (hc:CtrOk Try.prog F ⟨σ,.pair .bool .unit,f,nm⟩) (hB:argsB Try.prog ts σ=true) (hp:∀ x:σ.den,σ.wf x→f FU x=some (true,())) {W:World} {b:Nat} {args:List Value} {ds:List (DataW H)} {ps:List MemPlace}
  (hv:∀ (j:Nat) t v,ts[j]?=some t→args[j]?=some v→Value.okWide Try.prog W .any b t v) (hA:DataW.TrodAll enc Try.prog W 0 (fun _=>true) true ts args ds ps) :
  Calls Try.prog F args.toArray W fun e W'=>e=.returned (.bool true)∧Below W.heap.size W W':=by
 obtain ⟨x,hx,hr⟩:=args_ty hB hv hA;exact AF.yes (hc FU x (true,()) (hp x hx)) hr.args
theorem fu_le:18446744073709551616≤FU:=Nat.le_refl _
end Go.Proofs.Ytedmffbhklgloaa
/- The examples of the corrections hold. -/
namespace Go.Proofs.Ytedmffbhklgloaa
open Go Go.RowKit
set_option maxRecDepth 100000
theorem reedsolomonWorks_true:law_reedsolomonWorks_r FU ()=some (true,()):=by kernel_rfl
theorem wf_u8 {x:Int} (h:(Lit.int .u8 x).wf=true):0≤x∧x≤255:=by
 unfold Lit.wf at h;simpa [IntKind.min,IntKind.max,IntKind.signed,IntKind.bits] using h
end Go.Proofs.Ytedmffbhklgloaa
/- The range of machine integers. -/
namespace Go.Proofs.Ytedmffbhklgloaa
open Go Go.RowKit
theorem wf_i64r {x:Int} (h:(Lit.int .i64 x).wf=true):-9223372036854775808≤x∧x≤9223372036854775807:=by
 unfold Lit.wf at h;simpa [IntKind.min,IntKind.max,IntKind.signed,IntKind.bits] using h
end Go.Proofs.Ytedmffbhklgloaa
/- ReedsolomonNearest: for every input this law returns true and leaves its arguments as they were. -/
namespace Go.Proofs.Ytedmffbhklgloaa
open Go.ChangeShapes Go.WideShapes Go.ChangeAt Go.RowKit

set_option maxRecDepth 100000 in
theorem reedsolomonNearest_lifted (os:Os) (started:os.Started) (H:Type) (enc:TypeId×Value→H) :
  ReturnsInHanded {} Try.checked os 3 .any (Rows.reedsolomonNearestSpec.pre6 enc Try.prog Try.f3 Rows.reedsolomonNearestRow.domain false) (Rows.reedsolomonNearestSpec.post enc Try.prog Try.f3 false true false false):=by
 refine law_lifted started (by kernel_rfl) Try.func3
  (ChangeSpec.witness6 (enc:=enc) (C:=Try.checked) false ⟨#[],#[.slice none 0 0,.int .i64 0,.slice none 0 0],[]⟩ 8 (by kernel_rfl) (by kernel_rfl) (by kernel_rfl) (by kernel_rfl)) rfl rfl (by kernel_rfl)
  (fun ds h=>by rw [Try.params3] at h;match ds,h with | [_,_,_],_=>rfl) ?_
 intro W base args ds ps hval hA hsz hlt;rw [Try.params3] at hA hval;exact law_any law_ReedsolomonNearest_ok (by kernel_rfl) (fun x hx=>Gf.near_law fu_le reedsolomonWorks_true (fun v hv=>⟨(wf_u8 (hx.1.2 v hv)).1,(wf_u8 (hx.1.2 v hv)).2⟩) (wf_i64r hx.2.1).1 (wf_i64r hx.2.1).2 x.2.2.1) (fun j t v ht hv=>hval j t v (by simpa using ht) hv) hA

theorem reedsolomonNearest_holds:Rows.ReedsolomonNearestSaid :=
 OpenClaim.holds_of_wide 3 Try.f3 rfl rfl rfl rfl rfl rfl rfl ⟨rfl,rfl,rfl,rfl,rfl⟩ rfl rfl rfl rfl rfl (by kernel_rfl) Try.func3 (by kernel_rfl)
  (of_decide_eq_true (by kernel_rfl)) (by unfold Func.isWrapper;first | (rw [if_pos (by decide +kernel)];kernel_rfl) | (rw [if_neg (by decide +kernel)];exact ⟨rfl,rfl⟩))
  (fun os started H enc _=>reedsolomonNearest_lifted os started H enc)
end Go.Proofs.Ytedmffbhklgloaa
