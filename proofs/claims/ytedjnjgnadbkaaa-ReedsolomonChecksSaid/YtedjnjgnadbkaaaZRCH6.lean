/- ReedsolomonChecks: for every input this law returns true and leaves its arguments as they were. -/
import Derived.Test.YtedjnjgnadbkaaaZRCH5
import Derived.Laws.Bits64b
import Derived.Test.YtedjnjgnadbkaaaRows
import Derived.WalkKit
import Derived.ProofKit
import Derived.SizedLaws
import Derived.BigQuiet
import Derived.Deep.QuietTactic
import Derived.Deep.Slices
import Derived.OpenShut
/- The field of 256 elements: what Mul,Inverse and the document's Times compute. -/
namespace Go.Proofs.Ytedjnjgnadbkaaa
open Go Go.RowKit
set_option linter.unusedSimpArgs false
set_option linter.unusedSectionVars false
set_option linter.unusedVariables false
theorem stLoop {X β:Type} {f:(X→Option β)→X→Option β} {n fu:Nat} (hn:n<fu) {st:Nat→X} {x0:X} {fin:Option β} (h0:st 0=x0)
  (step:∀ j (i:Nat),i<n→f j (st i)=j (st (i+1))) (last:∀ j,f j (st n)=fin):loopF f fu x0=fin:=by
 have key:=errGen (f:=f) (n:=n) (st:=st) (E:=fun _=>0) (out:=fun _=>none) (fin:=fin) (fun j i hi _=>by rw [if_pos rfl];exact step j i hi) (fun _=>last) fu 0 (by omega) (by omega) (by omega);rw [if_pos (firstE_all _ _ fun _ _ _=>rfl),h0] at key;exact key
theorem bits_xor_u8 (a b:Nat) (ha:a<256) (hb:b<256):bits .xor .u8 (a:Int) (b:Int)=((a ^^^ b:Nat):Int):=by
 have hx:a ^^^ b<2 ^ 8:=Nat.xor_lt_two_pow (by omega) (by omega)
 have h1:(BitVec.ofInt 8 (a:Int)).toNat=a:=by
  rw [BitVec.ofInt_natCast,BitVec.toNat_ofNat];exact Nat.mod_eq_of_lt (by omega)
 have h2:(BitVec.ofInt 8 (b:Int)).toNat=b:=by
  rw [BitVec.ofInt_natCast,BitVec.toNat_ofNat];exact Nat.mod_eq_of_lt (by omega)
 show IntKind.u8.wrap ((BitVec.ofInt 8 (a:Int) ^^^ BitVec.ofInt 8 (b:Int)).toNat:Int)=_;rw [BitVec.toNat_xor,h1,h2];simp [IntKind.wrap,IntKind.bits,IntKind.signed];omega
theorem bits_and_u8 (a b:Nat) (ha:a<256) (hb:b<256):bits .and .u8 (a:Int) (b:Int)=((a &&& b:Nat):Int):=by
 have hx:a &&& b<2 ^ 8:=Nat.and_lt_two_pow _ (by omega)
 have h1:(BitVec.ofInt 8 (a:Int)).toNat=a:=by
  rw [BitVec.ofInt_natCast,BitVec.toNat_ofNat];exact Nat.mod_eq_of_lt (by omega)
 have h2:(BitVec.ofInt 8 (b:Int)).toNat=b:=by
  rw [BitVec.ofInt_natCast,BitVec.toNat_ofNat];exact Nat.mod_eq_of_lt (by omega)
 show IntKind.u8.wrap ((BitVec.ofInt 8 (a:Int) &&& BitVec.ofInt 8 (b:Int)).toNat:Int)=_;rw [BitVec.toNat_and,h1,h2];simp [IntKind.wrap,IntKind.bits,IntKind.signed];omega
theorem bits_xor_i (a b:Nat) (ha:a<32768) (hb:b<32768):bits .xor .i64 (a:Int) (b:Int)=((a ^^^ b:Nat):Int):=by
 have hx:a ^^^ b<2 ^ 15:=Nat.xor_lt_two_pow (by omega) (by omega)
 have h1:(BitVec.ofInt 64 (a:Int)).toNat=a:=by
  rw [BitVec.ofInt_natCast,BitVec.toNat_ofNat];exact Nat.mod_eq_of_lt (by omega)
 have h2:(BitVec.ofInt 64 (b:Int)).toNat=b:=by
  rw [BitVec.ofInt_natCast,BitVec.toNat_ofNat];exact Nat.mod_eq_of_lt (by omega)
 show IntKind.i64.wrap ((BitVec.ofInt 64 (a:Int) ^^^ BitVec.ofInt 64 (b:Int)).toNat:Int)=_;rw [BitVec.toNat_xor,h1,h2];exact wr64 (by omega) (by omega)
theorem bits_and1_i (a:Nat) (ha:a<32768):bits .and .i64 (a:Int) 1=((a % 2:Nat):Int):=by
 have h1:(BitVec.ofInt 64 (a:Int)).toNat=a:=by
  rw [BitVec.ofInt_natCast,BitVec.toNat_ofNat];exact Nat.mod_eq_of_lt (by omega)
 show IntKind.i64.wrap ((BitVec.ofInt 64 (a:Int) &&& BitVec.ofInt 64 1).toNat:Int)=_;rw [BitVec.toNat_and,h1,show (BitVec.ofInt 64 1).toNat=1 from rfl,Nat.and_one_is_mod];exact wr64 (by omega) (by omega)
theorem bits_and1_u8 (a:Nat) (ha:a<256):bits .and .u8 (a:Int) 1=((a % 2:Nat):Int):=by
 have:=bits_and_u8 a 1 ha (by decide);rw [Nat.and_one_is_mod] at this;exact this
theorem xt_bits:∀ a:Nat,a<256→bits .xor .u8 (IntKind.u8.wrap ((a:Int)*2 ^ (Int.toNat (1:Int)))) (bits .and .u8 (29:Int) (IntKind.u8.wrap (-((a:Int) / 2 ^ (Int.toNat (7:Int))))))=(xtN a:Int):=by decide +kernel
theorem neg_bit:∀ b:Nat,b<256→IntKind.u8.wrap (-(bits .and .u8 (b:Int) (1:Int)))=((if b % 2=1 then 255 else 0:Nat):Int):=by decide +kernel
theorem and_255:∀ a:Nat,a<256→a &&& 255=a:=by decide +kernel
section
variable {fu:Nat} (hf:18446744073709551616≤fu)
include hf
theorem mul_r {a b:Nat} (ha:a<256) (hb:b<256):reedsolomon_Mul_r fu ((a:Int),((b:Int),()))=some ((mulN a b:Int),()):=by
 unfold reedsolomon_Mul_r;refine postLoop (f:=reedsolomon_Mul_l1 fu) (fun x=>x.2.2.toNat) (fun x=>∃ f p a' b':Nat,x=((p:Int),((a':Int),(b':Int)))∧b'<2 ^ f∧f≤8∧p<256∧a'<256∧mulS f p a' b'=mulN a b) (fun r=>r=some ((mulN a b:Int),())) ?_ fu _ ⟨8,0,a,b,rfl,hb,Nat.le_refl _,by decide,ha,rfl⟩ (by simp only;omega)
 rintro j _ ⟨f,p,a',b',rfl,h1,h2,h3,h4,h5⟩
 by_cases c:b'=0
 ·subst c;refine .inr ?_;rw [←h5,mulS_zero];unfold reedsolomon_Mul_l1;simp (disch:=omega) only [joinF_eq,bindO_some,s_wr,s_td,s_tm,s_pos,s_neg,cond_true,cond_false,Bool.not_true,Bool.not_false,Bool.true_and,Bool.and_true,Bool.false_and,Bool.and_false,bne_self_eq_false,decide_true,decide_false,Int.toNat_natCast]
 ·obtain ⟨f,rfl⟩:∃ f',f=f'+1:=⟨f-1,by
   rcases Nat.eq_zero_or_pos f with e | e
   ·subst e;omega
   ·omega⟩
  have hb256:b'<256:=Nat.lt_of_lt_of_le h1 (Nat.pow_le_pow_right (n:=2) (by decide) h2);refine .inl ⟨(((if b' % 2=1 then p ^^^ a' else p:Nat):Int),((xtN a':Int),((b' / 2:Nat):Int))),⟨f,_,_,_,rfl,by rw [Nat.pow_succ] at h1;omega,by omega,?_,xt_lt h4,by rw [←h5,mulS]⟩,by simp only;omega,?_⟩
  ·split
   ·exact Nat.xor_lt_two_pow (n:=8) h3 h4
   ·exact h3
  ·have e1:bits .xor .u8 (p:Int) (bits .and .u8 (a':Int) (IntKind.u8.wrap (-(bits .and .u8 (b':Int) (1:Int)))))=((if b' % 2=1 then p ^^^ a' else p:Nat):Int):=by
    rw [neg_bit b' hb256];by_cases e:b' % 2=1
    ·rw [if_pos e,if_pos e,bits_and_u8 a' 255 h4 (by decide),and_255 a' h4,bits_xor_u8 p a' h3 h4]
    ·rw [if_neg e,if_neg e,bits_and_u8 a' 0 h4 (by decide),Nat.and_zero,bits_xor_u8 p 0 h3 (by decide),Nat.xor_zero]
   have e2:((b':Int) / 2 ^ (Int.toNat (1:Int)))=((b' / 2:Nat):Int):=by
    show (b':Int) / 2=_;omega
   unfold reedsolomon_Mul_l1;simp (disch:=omega) only [joinF_eq,bindO_some,s_wr,s_td,s_tm,s_pos,s_neg,cond_true,cond_false,Bool.not_true,Bool.not_false,Bool.true_and,Bool.and_true,Bool.false_and,Bool.and_false,bne_self_eq_false,decide_true,decide_false,Int.toNat_natCast];rw [e1,xt_bits a' h4,e2]
theorem pow_r {a:Nat} {n:Nat} (ha:a<256) (hn:n<256):reedsolomon_power_r fu ((a:Int),((n:Int),()))=some ((powS 8 1 a n:Int),()):=by
 unfold reedsolomon_power_r;refine postLoop (f:=reedsolomon_power_l1 fu) (fun x=>x.2.2.toNat) (fun x=>∃ f p a' n':Nat,x=((p:Int),((a':Int),(n':Int)))∧n'<2 ^ f∧f≤8∧p<256∧a'<256∧powS f p a' n'=powS 8 1 a n) (fun r=>r=some ((powS 8 1 a n:Int),())) ?_ fu _ ⟨8,1,a,n,rfl,hn,Nat.le_refl _,by decide,ha,rfl⟩ (by simp only;omega)
 rintro j _ ⟨f,p,a',b',rfl,h1,h2,h3,h4,h5⟩
 by_cases c:b'=0
 ·subst c;refine .inr ?_;rw [←h5,powS_zero];unfold reedsolomon_power_l1;simp (disch:=omega) only [joinF_eq,bindO_some,s_wr,s_td,s_tm,s_pos,s_neg,cond_true,cond_false,Bool.not_true,Bool.not_false,Bool.true_and,Bool.and_true,Bool.false_and,Bool.and_false,bne_self_eq_false,decide_true,decide_false,Int.toNat_natCast]
 ·obtain ⟨f,rfl⟩:∃ f',f=f'+1:=⟨f-1,by
   rcases Nat.eq_zero_or_pos f with e | e
   ·subst e;omega
   ·omega⟩
  have hb256:b'<256:=Nat.lt_of_lt_of_le h1 (Nat.pow_le_pow_right (n:=2) (by decide) h2);refine .inl ⟨(((if b' % 2=1 then mulN p a' else p:Nat):Int),((mulN a' a':Int),((b' / 2:Nat):Int))),⟨f,_,_,_,rfl,by rw [Nat.pow_succ] at h1;omega,by omega,?_,mulN_lt h4,by rw [←h5,powS]⟩,by simp only;omega,?_⟩
  ·split
   ·exact mulN_lt h3
   ·exact h3
  ·have e2:((b':Int) / 2 ^ (Int.toNat (1:Int)))=((b' / 2:Nat):Int):=by
    show (b':Int) / 2=_;omega
   have e3:=bits_and1_i b' (by omega);unfold reedsolomon_power_l1;by_cases e:b' % 2=1
   ·rw [if_pos e];simp (disch:=omega) only [joinF_eq,bindO_some,s_wr,s_td,s_tm,s_pos,s_neg,cond_true,cond_false,Bool.not_true,Bool.not_false,Bool.true_and,Bool.and_true,Bool.false_and,Bool.and_false,bne_self_eq_false,decide_true,decide_false,Int.toNat_natCast,mul_r hf h3 h4];unfold reedsolomon_power_j2;simp (disch:=omega) only [joinF_eq,bindO_some,s_wr,s_td,s_tm,s_pos,s_neg,cond_true,cond_false,Bool.not_true,Bool.not_false,Bool.true_and,Bool.and_true,Bool.false_and,Bool.and_false,bne_self_eq_false,decide_true,decide_false,Int.toNat_natCast,mul_r hf h4 h4];rw [e2]
   ·rw [if_neg e];simp (disch:=omega) only [joinF_eq,bindO_some,s_wr,s_td,s_tm,s_pos,s_neg,cond_true,cond_false,Bool.not_true,Bool.not_false,Bool.true_and,Bool.and_true,Bool.false_and,Bool.and_false,bne_self_eq_false,decide_true,decide_false,Int.toNat_natCast];unfold reedsolomon_power_j2;simp (disch:=omega) only [joinF_eq,bindO_some,s_wr,s_td,s_tm,s_pos,s_neg,cond_true,cond_false,Bool.not_true,Bool.not_false,Bool.true_and,Bool.and_true,Bool.false_and,Bool.and_false,bne_self_eq_false,decide_true,decide_false,Int.toNat_natCast,mul_r hf h4 h4];rw [e2]
theorem tA_lt {a b:Nat} (ha:a<256):∀ i,i≤8→tAN a b i<32768
 | 0,_=>by show (0:Nat)<32768;decide
 | i+1,hi=>by
  have:=tA_lt (a:=a) (b:=b) ha i (by omega)
  have hp:a*2 ^ i<32768:=by
   have h1:=Nat.pow_le_pow_right (n:=2) (by decide) (show i≤7 by omega);have h2:=Nat.mul_le_mul (show a≤255 by omega) h1;omega
  rw [tAN];split
  ·exact Nat.xor_lt_two_pow (n:=15) this hp
  ·exact this
theorem tQ_lt {p:Nat} (hp:p<32768):∀ j,j≤7→tQN p j<32768
 | 0,_=>hp
 | j+1,hj=>by
  have:=tQ_lt hp j (by omega)
  have h2:285*2 ^ (6-j)<32768:=by
   have h1:=Nat.pow_le_pow_right (n:=2) (by decide) (show 6-j≤6 by omega);omega
  rw [tQN];split
  ·exact Nat.xor_lt_two_pow (n:=15) this h2
  ·exact this
theorem div_cast {a i:Nat}:(a:Int) / 2 ^ i=((a / 2 ^ i:Nat):Int):=by rw [Int.natCast_ediv,Int.natCast_pow];rfl
theorem mul_cast {a i:Nat}:(a:Int)*2 ^ i=((a*2 ^ i:Nat):Int):=by rw [Int.natCast_mul,Int.natCast_pow];rfl
theorem times_r {a b:Nat} (ha:a<256) (hb:b<256):R_Times_r fu ((a:Int),((b:Int),()))=some ((timN a b:Int),()):=by
 unfold R_Times_r;refine stLoop (n:=8) (st:=fun i=>((tAN a b i:Int),(i:Int))) (by omega) rfl (fun j i hi=>?_) (fun j=>?_)
 ·have t1:=tA_lt hf (a:=a) (b:=b) ha i (by omega)
  have hp:a*2 ^ i<32768:=by
   have h1:=Nat.pow_le_pow_right (n:=2) (by decide) (show i≤7 by omega);have h2:=Nat.mul_le_mul (show a≤255 by omega) h1;omega
  have e1:bits .and .u8 ((b:Int) / 2 ^ i) 1=((b / 2 ^ i % 2:Nat):Int):=by
   rw [div_cast hf,bits_and1_u8 _ (Nat.lt_of_le_of_lt (Nat.div_le_self _ _) hb)]
  have e2:bits .xor .i64 (tAN a b i:Int) (IntKind.i64.wrap ((a:Int)*2 ^ i))=((tAN a b i ^^^ (a*2 ^ i):Nat):Int):=by
   rw [mul_cast hf,wr64 (by omega) (by omega),bits_xor_i _ _ t1 hp]
  have e3:IntKind.i64.wrap (a:Int)=(a:Int):=wr64 (by omega) (by omega);unfold R_Times_l1;by_cases g:b / 2 ^ i % 2=1
  ·have e1:bits .and .u8 ((b:Int) / 2 ^ i) 1=1:=by rw [e1,g];rfl
   have e5:tAN a b (i+1)=tAN a b i ^^^ (a*2 ^ i):=by rw [tAN,if_pos g]
   rw [e5];simp (disch:=omega) only [joinF_eq,bindO_some,s_wr,s_td,s_tm,s_pos,s_neg,cond_true,cond_false,Bool.not_true,Bool.not_false,Bool.true_and,Bool.and_true,Bool.false_and,Bool.and_false,bne_self_eq_false,decide_true,decide_false,Int.toNat_natCast];unfold R_Times_j2;simp (disch:=omega) only [joinF_eq,bindO_some,s_wr,s_td,s_tm,s_pos,s_neg,cond_true,cond_false,Bool.not_true,Bool.not_false,Bool.true_and,Bool.and_true,Bool.false_and,Bool.and_false,bne_self_eq_false,decide_true,decide_false,Int.toNat_natCast];rw [e2];rfl
  ·have e1:bits .and .u8 ((b:Int) / 2 ^ i) 1=0:=by
    rw [e1,show b / 2 ^ i % 2=0 by have:=Nat.mod_lt (b / 2 ^ i) (show 0<2 by decide);omega];rfl
   have e5:tAN a b (i+1)=tAN a b i:=by rw [tAN,if_neg g]
   rw [e5];simp (disch:=omega) only [joinF_eq,bindO_some,s_wr,s_td,s_tm,s_pos,s_neg,cond_true,cond_false,Bool.not_true,Bool.not_false,Bool.true_and,Bool.and_true,Bool.false_and,Bool.and_false,bne_self_eq_false,decide_true,decide_false,Int.toNat_natCast];unfold R_Times_j2;simp (disch:=omega) only [joinF_eq,bindO_some,s_wr,s_td,s_tm,s_pos,s_neg,cond_true,cond_false,Bool.not_true,Bool.not_false,Bool.true_and,Bool.and_true,Bool.false_and,Bool.and_false,bne_self_eq_false,decide_true,decide_false,Int.toNat_natCast];rfl
 ·unfold R_Times_l1;simp (disch:=omega) only [joinF_eq,bindO_some,s_wr,s_td,s_tm,s_pos,s_neg,cond_true,cond_false,Bool.not_true,Bool.not_false,Bool.true_and,Bool.and_true,Bool.false_and,Bool.and_false,bne_self_eq_false,decide_true,decide_false,Int.toNat_natCast];have t8:=tA_lt hf (a:=a) (b:=b) ha 8 (Nat.le_refl _);unfold timN;generalize tAN a b 8=p at *
  refine stLoop (n:=7) (st:=fun k=>((tQN p k:Int),(14:Int)-(k:Int))) (by omega) rfl (fun j' k hk=>?_) (fun j'=>?_)
  ·have t1:=tQ_lt hf t8 k (by omega)
   have h2:285*2 ^ (6-k)<32768:=by
    have h1:=Nat.pow_le_pow_right (n:=2) (by decide) (show 6-k≤6 by omega);omega
   have ek:(14:Int)-(k:Int)=((14-k:Nat):Int):=by omega
   have ek2:(14:Int)-(k:Int)-8=((6-k:Nat):Int):=by omega
   have e1:bits .and .i64 ((tQN p k:Int) / 2 ^ (14-k)) 1=((tQN p k / 2 ^ (14-k) % 2:Nat):Int):=by
    rw [div_cast hf,bits_and1_i _ (Nat.lt_of_le_of_lt (Nat.div_le_self _ _) t1)]
   have e2:bits .xor .i64 (tQN p k:Int) (IntKind.i64.wrap ((285:Int)*2 ^ (6-k)))=((tQN p k ^^^ (285*2 ^ (6-k)):Nat):Int):=by
    rw [show ((285:Int)*2 ^ (6-k))=((285*2 ^ (6-k):Nat):Int) from mul_cast hf (a:=285),wr64 (by omega) (by omega),bits_xor_i _ _ t1 h2]
   have en:(14:Int)-((k+1:Nat):Int)=(14:Int)-(k:Int)-1:=by omega
   have ei:((14:Int)-(k:Int)).toNat=14-k:=by omega
   have ej:((14:Int)-(k:Int)-8).toNat=6-k:=by omega
   unfold R_Times_l3;by_cases g:tQN p k / 2 ^ (14-k) % 2=1
   ·have e1:bits .and .i64 ((tQN p k:Int) / 2 ^ (14-k)) 1=1:=by rw [e1,g];rfl
    have e5:tQN p (k+1)=tQN p k ^^^ (285*2 ^ (6-k)):=by rw [tQN,if_pos g]
    rw [e5,en];simp (disch:=omega) only [joinF_eq,bindO_some,s_wr,s_td,s_tm,s_pos,s_neg,cond_true,cond_false,Bool.not_true,Bool.not_false,Bool.true_and,Bool.and_true,Bool.false_and,Bool.and_false,bne_self_eq_false,decide_true,decide_false,Int.toNat_natCast];simp only [ei,ej];simp (disch:=omega) only [joinF_eq,bindO_some,s_wr,s_td,s_tm,s_pos,s_neg,cond_true,cond_false,Bool.not_true,Bool.not_false,Bool.true_and,Bool.and_true,Bool.false_and,Bool.and_false,bne_self_eq_false,decide_true,decide_false,Int.toNat_natCast];unfold R_Times_j4;simp (disch:=omega) only [joinF_eq,bindO_some,s_wr,s_td,s_tm,s_pos,s_neg,cond_true,cond_false,Bool.not_true,Bool.not_false,Bool.true_and,Bool.and_true,Bool.false_and,Bool.and_false,bne_self_eq_false,decide_true,decide_false,Int.toNat_natCast];rw [e2]
   ·have e1:bits .and .i64 ((tQN p k:Int) / 2 ^ (14-k)) 1=0:=by
     rw [e1,show tQN p k / 2 ^ (14-k) % 2=0 by have:=Nat.mod_lt (tQN p k / 2 ^ (14-k)) (show 0<2 by decide);omega];rfl
    have e5:tQN p (k+1)=tQN p k:=by rw [tQN,if_neg g]
    rw [e5,en];simp (disch:=omega) only [joinF_eq,bindO_some,s_wr,s_td,s_tm,s_pos,s_neg,cond_true,cond_false,Bool.not_true,Bool.not_false,Bool.true_and,Bool.and_true,Bool.false_and,Bool.and_false,bne_self_eq_false,decide_true,decide_false,Int.toNat_natCast];simp only [ei,ej];simp (disch:=omega) only [joinF_eq,bindO_some,s_wr,s_td,s_tm,s_pos,s_neg,cond_true,cond_false,Bool.not_true,Bool.not_false,Bool.true_and,Bool.and_true,Bool.false_and,Bool.and_false,bne_self_eq_false,decide_true,decide_false,Int.toNat_natCast];unfold R_Times_j4;simp (disch:=omega) only [joinF_eq,bindO_some,s_wr,s_td,s_tm,s_pos,s_neg,cond_true,cond_false,Bool.not_true,Bool.not_false,Bool.true_and,Bool.and_true,Bool.false_and,Bool.and_false,bne_self_eq_false,decide_true,decide_false,Int.toNat_natCast]
  ·have t7:=tQ_lt hf t8 7 (Nat.le_refl _);unfold R_Times_l3;simp (disch:=omega) only [joinF_eq,bindO_some,s_wr,s_td,s_tm,s_pos,s_neg,cond_true,cond_false,Bool.not_true,Bool.not_false,Bool.true_and,Bool.and_true,Bool.false_and,Bool.and_false,bne_self_eq_false,decide_true,decide_false,Int.toNat_natCast]
   have:IntKind.u8.wrap (tQN p 7:Int)=((tQN p 7 % 256:Nat):Int):=by
    simp [IntKind.wrap,IntKind.bits,IntKind.signed]
   rw [this]
end
def mulE:Nat→Nat→Nat→Nat→Nat
 | 0,p,_,_=>p
 | f+1,p,a,b=>fN (if b % 2=1 then p ^^^ a else p) fun p=>fN (xtN a) fun a=>fN (b / 2) fun b=>mulE f p a b
theorem mulE_eq:∀ f p a b:Nat,mulE f p a b=mulS f p a b
 | 0,_,_,_=>rfl
 | f+1,p,a,b=>by rw [mulE,mulS,fN_eq,fN_eq,fN_eq,mulE_eq f]
def tAE (a b:Nat):Nat→Nat→Nat→Nat
 | 0,_,p=>p
 | f+1,i,p=>fN (if b / 2 ^ i % 2=1 then p ^^^ (a*2 ^ i) else p) fun p=>tAE a b f (i+1) p
theorem tAE_eq (a b:Nat):∀ f i:Nat,tAE a b f i (tAN a b i)=tAN a b (i+f)
 | 0,_=>rfl
 | f+1,i=>by
  rw [tAE,fN_eq];have:(if b / 2 ^ i % 2=1 then tAN a b i ^^^ (a*2 ^ i) else tAN a b i)=tAN a b (i+1):=by rw [tAN]
  rw [this,tAE_eq a b f (i+1),show i+1+f=i+(f+1) by omega]
def tQE:Nat→Nat→Nat→Nat
 | 0,_,q=>q
 | f+1,j,q=>fN (if q / 2 ^ (14-j) % 2=1 then q ^^^ (285*2 ^ (6-j)) else q) fun q=>tQE f (j+1) q
theorem tQE_eq (p:Nat):∀ f j:Nat,tQE f j (tQN p j)=tQN p (j+f)
 | 0,_=>rfl
 | f+1,j=>by
  rw [tQE,fN_eq];have:(if tQN p j / 2 ^ (14-j) % 2=1 then tQN p j ^^^ (285*2 ^ (6-j)) else tQN p j)=tQN p (j+1):=by rw [tQN]
  rw [this,tQE_eq p f (j+1),show j+1+f=j+(f+1) by omega]
def timE (a b:Nat):Nat:=fN (tAE a b 8 0 0) fun p=>tQE 7 0 p % 256
theorem timE_eq (a b:Nat):timE a b=timN a b:=by
 unfold timE timN;rw [fN_eq];have h1:=tAE_eq a b 8 0;have h2:=tQE_eq (tAN a b (0+8)) 7 0;have h1:tAE a b 8 0 0=tAN a b (0+8):=h1;have h2:tQE 7 0 (tAN a b (0+8))=tQN (tAN a b (0+8)) (0+7):=h2;rw [h1,h2]
def rowM (a:Nat):Nat→Bool
 | 0=>true
 | b+1=>Nat.beq (mulE 8 0 a b) (timE a b)&&rowM a b
theorem rowM_at {a:Nat}:∀ {n b:Nat},rowM a n=true→b<n→mulN a b=timN a b
 | 0,_,_,h=>absurd h (Nat.not_lt_zero _)
 | n+1,b,h,hb=>by
  rw [rowM,Bool.and_eq_true] at h;by_cases e:b=n
  ·subst e;have:=Nat.eq_of_beq_eq_true h.1;rw [mulE_eq,timE_eq] at this;exact this
  ·exact rowM_at h.2 (by omega)
def chM (k:Nat):Nat→Bool
 | 0=>true
 | i+1=>rowM (16*k+i) 256&&chM k i
theorem chM_at {k:Nat}:∀ {n i:Nat},chM k n=true→i<n→rowM (16*k+i) 256=true
 | 0,_,_,h=>absurd h (Nat.not_lt_zero _)
 | n+1,i,h,hi=>by
  rw [chM,Bool.and_eq_true] at h;by_cases e:i=n
  ·subst e;exact h.1
  ·exact chM_at h.2 (by omega)
set_option maxRecDepth 100000
theorem mm0:chM 0 16=true:=by kernel_rfl
theorem mm1:chM 1 16=true:=by kernel_rfl
theorem mm2:chM 2 16=true:=by kernel_rfl
theorem mm3:chM 3 16=true:=by kernel_rfl
theorem mm4:chM 4 16=true:=by kernel_rfl
theorem mm5:chM 5 16=true:=by kernel_rfl
theorem mm6:chM 6 16=true:=by kernel_rfl
theorem mm7:chM 7 16=true:=by kernel_rfl
theorem mm8:chM 8 16=true:=by kernel_rfl
theorem mm9:chM 9 16=true:=by kernel_rfl
theorem mm10:chM 10 16=true:=by kernel_rfl
theorem mm11:chM 11 16=true:=by kernel_rfl
theorem mm12:chM 12 16=true:=by kernel_rfl
theorem mm13:chM 13 16=true:=by kernel_rfl
theorem mm14:chM 14 16=true:=by kernel_rfl
theorem mm15:chM 15 16=true:=by kernel_rfl
theorem mmA:∀ k,k<16→chM k 16=true
 | 0,_=>mm0
 | 1,_=>mm1
 | 2,_=>mm2
 | 3,_=>mm3
 | 4,_=>mm4
 | 5,_=>mm5
 | 6,_=>mm6
 | 7,_=>mm7
 | 8,_=>mm8
 | 9,_=>mm9
 | 10,_=>mm10
 | 11,_=>mm11
 | 12,_=>mm12
 | 13,_=>mm13
 | 14,_=>mm14
 | 15,_=>mm15
 | n+16,h=>absurd h (by omega)
theorem mul_tim {a b:Nat} (ha:a<256) (hb:b<256):mulN a b=timN a b:=by
 have h:=chM_at (mmA (a / 16) (by omega)) (show a % 16<16 by omega);rw [show 16*(a / 16)+a % 16=a by omega] at h;exact rowM_at h hb
end Go.Proofs.Ytedjnjgnadbkaaa
/- What Encode returns. -/
set_option maxRecDepth 100000
namespace Go.Proofs.Ytedjnjgnadbkaaa
open Go Go.RowKit
set_option linter.unusedSimpArgs false
set_option linter.unusedSectionVars false
set_option linter.unusedVariables false
namespace Gf
theorem bf2 {α:Type} {p q:Prop} [Decidable p] [Decidable q] {a b:α} (h:p) (k:q):(bif decide p&&decide q then a else b)=a:=by rw [decide_eq_true h,decide_eq_true k];rfl
def tO (m i k:Nat):Nat:=(if k<i then mulN (gen m k) (pw 2 m) else 0) ^^^ (if 0<k∧k≤i then gen m (k-1) else 0)
def tI (m i j k:Nat):Nat:=(tO m i k ^^^ (if k=i∧0<j then mulN (gen m i) (pw 2 m) else 0)) ^^^ (if k=i+1∧1<j then gen m i else 0)
theorem if0 {c:Prop} [Decidable c] {a:Nat} (h:a<256):(if c then a else 0)<256:=lt_ite1 h
theorem tO_lt (m i k:Nat):tO m i k<256:=xlt (if0 (mul_lt (gen_lt m k))) (if0 (gen_lt m _))
theorem tI_lt (m i j k:Nat):tI m i j k<256:=xlt (xlt (tO_lt m i k) (if0 (mul_lt (gen_lt m i)))) (if0 (gen_lt m i))
theorem tI_0 (m i k:Nat):tI m i 0 k=tO m i k:=by
 unfold tI;rw [if_neg (by omega),if_neg (by omega),Nat.xor_zero,Nat.xor_zero]
theorem tI_2 (m i k:Nat):tI m i 2 k=tO m (i+1) k:=by
 unfold tI tO;by_cases h1:k=i
 ·subst h1;rw [if_neg (show ¬ k<k by omega),Nat.zero_xor,if_pos (show k=k∧0<2 by omega),if_neg (show ¬ (k=k+1∧1<2) by omega),Nat.xor_zero,if_pos (show k<k+1 by omega),Nat.xor_comm];congr 1;by_cases h2:0<k
  ·rw [if_pos (by omega),if_pos (by omega)]
  ·rw [if_neg (by omega),if_neg (by omega)]
 ·by_cases h2:k=i+1
  ·subst h2;rw [if_neg (by omega),if_neg (by omega),if_neg (by omega),if_pos (by omega),if_neg (by omega),if_pos (by omega),Nat.add_sub_cancel];simp
  ·rw [if_neg (show ¬ (k=i∧0<2) by omega),if_neg (show ¬ (k=i+1∧1<2) by omega),Nat.xor_zero,Nat.xor_zero];congr 1
   ·by_cases h3:k<i
    ·rw [if_pos h3,if_pos (by omega)]
    ·rw [if_neg h3,if_neg (by omega)]
   ·by_cases h3:0<k∧k≤i
    ·rw [if_pos h3,if_pos (by omega)]
    ·rw [if_neg h3,if_neg (by omega)]
section
variable {fu:Nat} (hf:18446744073709551616≤fu)
include hf
theorem xor_c {a b:Nat} (ha:a<256) (hb:b<256):bits BinOp.xor IntKind.u8 (a:Int) (b:Int)=((a ^^^ b:Nat):Int):=bits_xor_u8 a b ha hb
theorem times_row {m i:Nat} (hm:m≤64) (hi:i<m+1) (L:Int) (v0:Int×List Int) (e0:v0.1=i) (j0:(Int×List Int)→Option (List Int×Unit)) :
  loopF (_reedsolomon_poly__times_l2 fu (nb (m+1) (gen m),([(pw 2 m:Int),1],(L,()))) v0 (gen m i:Int) (i:Int) j0) fu ((0:Int),nb (m+2) (tO m i))=j0 (((i+1:Nat):Int),nb (m+2) (tO m (i+1))):=by
 refine stLoop (n:=2) (st:=fun j=>((j:Int),nb (m+2) (tI m i j))) (by omega) (congrArg (Prod.mk (0:Int)) (nb_congr fun k _=>tI_0 m i k)) ?_ ?_
 ·intro j q hq;have e1:IntKind.i64.wrap ((i:Int)+(q:Int))=((i+q:Nat):Int):=by rw [s_wr (by omega) (by omega)];omega
  have e2:IntKind.i64.wrap ((q:Int)+1)=((q+1:Nat):Int):=by rw [s_wr (by omega) (by omega)];omega
  unfold _reedsolomon_poly__times_l2 _reedsolomon_poly__times_j3;simp only [joinF_eq,List.length_cons,List.length_nil];rw [nb_len,e1,e2,bif_pos (by omega),bf2 (by omega) (by omega),bif_pos (by omega),bf2 (by omega) (by omega),Int.toNat_natCast,Int.toNat_natCast,nb_getD (by omega)];rcases (show q=0∨q=1 by omega) with rfl | rfl
  ·rw [show ([(pw 2 m:Int),1]:List Int).getD 0 0=(pw 2 m:Int) from rfl,mul_r hf (gen_lt m i) (p2 m),bindO_some];simp only;rw [bf2 (by omega) (by omega),xor_c hf (tI_lt m i 0 _) (mul_lt (gen_lt m i)),Nat.add_zero];refine congrArg (fun l=>j (((0+1:Nat):Int),l)) (nb_set' (fun k hk hne=>?_) fun _=>?_)
   ·unfold tI;rw [if_neg (show ¬ (k=i∧0<0) by omega),if_neg (show ¬ (k=i∧0<0+1) by omega),if_neg (show ¬ (k=i+1∧1<0) by omega),if_neg (show ¬ (k=i+1∧1<0+1) by omega)]
   ·unfold tI;rw [Nat.add_zero,if_neg (show ¬ (i=i∧0<0) by omega),if_neg (show ¬ (i=i+1∧1<0) by omega),Nat.xor_zero,Nat.xor_zero,if_pos (show i=i∧0<1 by omega),if_neg (show ¬ (i=i+1∧1<1) by omega),Nat.xor_zero]
  ·have hm1:reedsolomon_Mul_r fu ((gen m i:Int),(((1:Nat):Int),()))=_:=mul_r hf (gen_lt m i) (by decide);rw [show ([(pw 2 m:Int),1]:List Int).getD 1 0=((1:Nat):Int) from rfl,hm1,bindO_some];simp only;rw [bf2 (by omega) (by omega),mul_one _ (gen_lt m i),xor_c hf (tI_lt m i 1 _) (gen_lt m i)];refine congrArg (fun l=>j (((1+1:Nat):Int),l)) (nb_set' (fun k hk hne=>?_) fun _=>?_)
   ·unfold tI;rw [if_neg (show ¬ (k=i+1∧1<1) by omega),if_neg (show ¬ (k=i+1∧1<1+1) by omega)];by_cases h:k=i
    ·rw [if_pos (by omega),if_pos (by omega)]
    ·rw [if_neg (by omega),if_neg (by omega)]
   ·unfold tI;rw [if_neg (show ¬ (i+1=i+1∧1<1) by omega),if_pos (show i+1=i+1∧1<1+1 by omega),if_neg (show ¬ (i+1=i∧0<1) by omega),if_neg (show ¬ (i+1=i∧0<1+1) by omega),Nat.xor_zero,Nat.xor_zero]
 ·intro j;unfold _reedsolomon_poly__times_l2;simp only [joinF_eq,List.length_cons,List.length_nil];rw [bif_neg (by omega),e0,s_wr (by omega) (by omega)];exact congrArg (fun l=>j0 (((i+1:Nat):Int),l)) (nb_congr fun k _=>tI_2 m i k)
theorem times_r' {m:Nat} (hm:m≤64) {L:Int} (hL:(m:Int)+2≤L) (hL1:L≤65):_reedsolomon_poly__times_r fu (nb (m+1) (gen m),([(pw 2 m:Int),1],(L,())))=some (nb (m+2) (gen (m+1)),()):=by
 unfold _reedsolomon_poly__times_r
 have e1:IntKind.i64.wrap (IntKind.i64.wrap ((List.length (nb (m+1) (gen m)):Int)+(List.length ([(pw 2 m:Int),1]:List Int):Int))-1)=((m+2:Nat):Int):=by
  rw [nb_len,show (([(pw 2 m:Int),1]:List Int).length)=2 from rfl,s_wr (x:=((m+1:Nat):Int)+((2:Nat):Int)) (by omega) (by omega),s_wr (x:=((m+1:Nat):Int)+((2:Nat):Int)-1) (by omega) (by omega)];omega
 simp only [e1];have e2:min L ((m+2:Nat):Int)=((m+2:Nat):Int):=by omega
 simp only [e2];rw [bf2 (by omega) (by omega),Int.toNat_natCast,nb_rep];refine stLoop (n:=m+1) (st:=fun i=>((i:Int),nb (m+2) (tO m i))) (by omega) (congrArg (Prod.mk (0:Int)) (nb_congr fun k _=>?_)) ?_ ?_
 ·unfold tO;rw [if_neg (by omega),if_neg (by omega)];rfl
 ·intro j i hi;unfold _reedsolomon_poly__times_l1;simp only;rw [nb_len,bif_pos (by omega),bf2 (by omega) (by omega),Int.toNat_natCast,nb_getD hi];exact times_row hf hm hi L _ rfl j
 ·intro j;unfold _reedsolomon_poly__times_l1;simp only;rw [nb_len,bif_neg (by omega)];refine congrArg (fun l=>some (l,())) (nb_congr fun k hk=>?_);unfold tO;rw [gen];by_cases h1:k<m+1
  ·rw [if_pos h1];congr 1;by_cases h2:k=0
   ·rw [if_pos h2,if_neg (by omega)]
   ·rw [if_neg h2,if_pos (by omega)]
  ·rw [if_neg h1,gen_high m k (by omega),zero_mul (p2 m)];congr 1;rw [if_pos (by omega),if_neg (by omega)]
end
end Gf
end Go.Proofs.Ytedjnjgnadbkaaa
/- Encode: the register over the data. -/
set_option maxRecDepth 100000
namespace Go.Proofs.Ytedjnjgnadbkaaa
open Go Go.RowKit
set_option linter.unusedSimpArgs false
set_option linter.unusedSectionVars false
set_option linter.unusedVariables false
namespace Gf
section
variable {fu:Nat} (hf:18446744073709551616≤fu) {p d:Nat} {dt:Nat→Nat}
include hf
theorem power2 {m:Nat} (hm:m<256):reedsolomon_power_r fu ((2:Int),((m:Int),()))=some ((pw 2 m:Int),()):=by
 have h:=pow_r hf (a:=2) (n:=m) (by decide) hm;rw [pow_2 hm] at h;exact h
theorem enc_row (hp:0<p) (hp1:p≤64) {t:Nat} (ht:t<255) {c:Nat} (hc:c<256) {R:Nat→Nat} (hR:∀ k,R k<256) (v2:Int×List Int) (e2:v2=((t:Int),nb p R)) (v1:List Int×Int) (e1:v1.1=nb (p+1) (gen p)) (ds:List Int) (j2:(Int×List Int)→Option (List Int×Int×Unit)) :
  loopF (reedsolomon_Encode_l4 fu (ds,((p:Int),())) v1 v2 ((c ^^^ R 0:Nat):Int) j2) fu ((0:Int),nb p fun k=>if k+1<p then R (k+1) else 0)=j2 (((t+1:Nat):Int),nb p (step p (gen p) c R)):=by
 subst e2;have hs:=nb_shift hp R
 have hl:∀ X:List Int,X.set (p-1) (0:Int)=nb p (fun k=>if k+1<p then R (k+1) else 0)→X.length=p:=fun X h=>by
  have:=congrArg List.length h;rwa [List.length_set,nb_len] at this
 have hlen:=hl _ hs;have ew:IntKind.i64.wrap ((p:Int)-1)=((p-1:Nat):Int):=by rw [s_wr (by omega) (by omega)];omega
 refine stLoop (n:=p) (st:=fun k=>((k:Int),nb p fun q=>if q<k then step p (gen p) c R q else if q+1<p then R (q+1) else 0)) (by omega) (congrArg (Prod.mk (0:Int)) (nb_congr fun q _=>if_neg (by omega))) ?_ ?_
 ·intro j k hk;have e3:IntKind.i64.wrap (((p-1:Nat):Int)-(k:Int))=((p-1-k:Nat):Int):=by rw [s_wr (by omega) (by omega)];omega
  have e4:IntKind.i64.wrap ((k:Int)+1)=((k+1:Nat):Int):=by rw [s_wr (by omega) (by omega)];omega
  unfold reedsolomon_Encode_l4;simp only;rw [List.length_set,hlen,nb_len,ew,e3,e1,nb_len,bif_pos (by omega),bf2 (by omega) (by omega),bf2 (by omega) (by omega),Int.toNat_natCast,Int.toNat_natCast,nb_getD (by omega),mul_r hf (xlt hc (hR 0)) (gen_lt p _),bindO_some];simp only;rw [bf2 (by omega) (by omega),e4,nb_getD hk,if_neg (by omega),xor_c hf (lt_ite1 (hR _)) (mul_lt (xlt hc (hR 0)))];refine congrArg (fun l=>j (((k+1:Nat):Int),l)) (nb_set' (fun q hq hne=>?_) fun _=>?_)
  ·by_cases h:q<k
   ·rw [if_pos h,if_pos (show q<k+1 by omega)]
   ·rw [if_neg h,if_neg (show ¬ q<k+1 by omega)]
  ·rw [if_pos (show k<k+1 by omega)];rfl
 ·intro j;unfold reedsolomon_Encode_l4;simp only;rw [List.length_set,hlen,bif_neg (by omega),s_wr (by omega) (by omega)];exact congrArg (fun l=>j2 (((t+1:Nat):Int),l)) (nb_congr fun q hq=>if_pos hq)
theorem enc_data (hp:0<p) (hp1:p≤64) (hd1:d+p≤255) (hdt:∀ k,dt k<256) (v1:List Int×Int) (e1:v1.1=nb (p+1) (gen p)) :
  loopF (reedsolomon_Encode_l3 fu (nb d dt,((p:Int),())) v1) fu ((0:Int),nb p fun _=>0)=some (nb d dt++nb p (rest p d dt),(0,())):=by
 have ew:IntKind.i64.wrap ((p:Int)-1)=((p-1:Nat):Int):=by rw [s_wr (by omega) (by omega)];omega
 refine stLoop (n:=d) (st:=fun t=>((t:Int),nb p (regs p (gen p) dt t))) (by omega) rfl ?_ ?_
 ·intro j t ht;have hR:=regs_lt (p:=p) (gen_lt p) hdt t;have hs:=nb_shift hp (regs p (gen p) dt t)
  have hl:∀ X:List Int,X.set (p-1) (0:Int)=nb p (fun k=>if k+1<p then regs p (gen p) dt t (k+1) else 0)→X.length=p:=fun X h=>by
   have:=congrArg List.length h;rwa [List.length_set,nb_len] at this
  have hlen:=hl _ hs;unfold reedsolomon_Encode_l3;simp only;rw [hlen,ew,Int.toNat_natCast (p-1),hs];rw [nb_len,nb_len,bif_pos (by omega),bf2 (by omega) (by omega),bif_pos (by omega),bif_pos (by omega),bf2 (by omega) (by omega),Int.toNat_natCast,nb_getD ht,show Int.toNat (0:Int)=0 from rfl,nb_getD hp,xor_c hf (hdt t) (hR 0)];exact enc_row hf hp hp1 (by omega) (hdt t) hR _ rfl v1 e1 _ j
 ·intro j;unfold reedsolomon_Encode_l3;simp only;rw [nb_len,nb_len,bif_neg (by omega),bif_pos (by omega),bif_pos (by omega)];rfl
theorem encode_r (hp:0<p) (hp1:p≤64) (hd0:0<d) (hd1:d+p≤255) (hdt:∀ k,dt k<256):reedsolomon_Encode_r fu (nb d dt,((p:Int),()))=some (nb d dt++nb p (rest p d dt),(0,())):=by
 unfold reedsolomon_Encode_r reedsolomon_Encode_j1;simp only [joinF_eq];rw [bif_neg (by omega),decide_eq_false (show ¬ (64:Int)<(p:Int) by omega)];simp only [cond_false];rw [nb_len,bif_neg (by omega),s_wr (x:=(d:Int)+(p:Int)) (by omega) (by omega),bif_neg (by omega)];refine stLoop (n:=p) (st:=fun m=>(nb (m+1) (gen m),(m:Int))) (by omega) rfl ?_ ?_
 ·intro j m hm;have e4:IntKind.i64.wrap ((m:Int)+1)=((m+1:Nat):Int):=by rw [s_wr (by omega) (by omega)];omega
  have e5:IntKind.i64.wrap ((p:Int)+1)=(p:Int)+1:=s_wr (by omega) (by omega);unfold reedsolomon_Encode_l2;simp only;rw [bif_pos (by omega),power2 hf (by omega),bindO_some];simp only;rw [e5,times_r' hf (by omega) (by omega) (by omega),bindO_some,e4]
 ·intro j;unfold reedsolomon_Encode_l2;simp only;rw [bif_neg (by omega),bf2 (by omega) (by omega),Int.toNat_natCast,nb_rep];exact enc_data hf hp hp1 hd1 hdt _ rfl
end
end Gf
end Go.Proofs.Ytedjnjgnadbkaaa
/- Residual programs of functions (printed by a program out of the code),checked by the kernel,and the contracts that follow. -/
namespace Go.Proofs.Ytedjnjgnadbkaaa
open Go Go.RowKit
set_option linter.unusedVariables false
noncomputable section
def R_Inverse_l1 (fu:Nat) (a:Int×Unit) (j0:(Int)→Option (Int×Unit)) (v0:Int):Option (Int×Unit) :=
 bif (decide (v0<(256:Int))) then
  bindO (R_Times_r fu ((a.1,((IntKind.u8.wrap v0),())))) fun v1 =>
  bif (decide (v1.1=(1:Int))) then
   let v2:Int:=(IntKind.u8.wrap v0)
   some ((v2,()))
  else
  let v2:Int:=(IntKind.i64.wrap (v0+(1:Int)))
  j0 (v2)
 else
 some (((0:Int),()))
def R_Inverse_r (fu:Nat) (a:Int×Unit):Option (Int×Unit) :=
 loopF (R_Inverse_l1 fu a) fu ((1:Int))
def R_Inverse_an:An:=(.n none .z (.n none (.n none .z (.n none (.n (some ⟨[0],[],[],[.reg 3 (.int .i64)],0,[]⟩) (.n none (.n none .z .z) (.n none (.n none (.n none .z (.n none (.n none .z .z) .z)) .z) .z)) .z) .z)) (.n none .z .z)))
noncomputable def R_Inverse_dc:List (Nat×Ctr):=[(16,R_Times_ctr)]
def R_Inverse_ctr:Ctr:=⟨(.pair (.int .u8) .unit),(.pair (.int .u8) .unit),R_Inverse_r,118⟩
theorem R_Inverse_ok:CtrOk Try.prog 118 R_Inverse_ctr:=ctr_ok (l:=R_Inverse_dc) (f:=12) (an:=R_Inverse_an) ⟨R_Times_ok,trivial⟩ fun fu x=>by kernel_rfl
def R_Floor_j1 (fu:Nat) (v1:Int):Option (Int×Unit) :=
 some ((v1,()))
def R_Floor_r (fu:Nat) (a:Int×Int×Unit):Option (Int×Unit) :=
 bif (decide (a.2.1≠(0:Int))) then
 let v0:Int:=(IntKind.i64.wrap (Int.tdiv a.1 a.2.1))
 joinF (R_Floor_j1 fu) fun j1 =>
 bif (decide (a.1<(IntKind.i64.wrap (v0*a.2.1)))) then
  let v2:Int:=(IntKind.i64.wrap (v0-(1:Int)))
  j1 (v2)
 else
 j1 (v0)
 else none
def R_Floor_an:An:=(.n none .z (.n none .z (.n (some ⟨[],[],[],[.reg 5 (.int .i64)],0,[]⟩) (.n none .z (.n none .z .z)) (.n none .z .z))))
noncomputable def R_Floor_dc:List (Nat×Ctr):=[]
def R_Floor_ctr:Ctr:=⟨(.pair (.int .i64) (.pair (.int .i64) .unit)),(.pair (.int .i64) .unit),R_Floor_r,69⟩
theorem R_Floor_ok:CtrOk Try.prog 69 R_Floor_ctr:=ctr_ok (l:=R_Floor_dc) (f:=12) (an:=R_Floor_an) trivial fun fu x=>by kernel_rfl
def R_Mod_r (fu:Nat) (a:Int×Int×Unit):Option (Int×Unit) :=
 bindO (R_Floor_r fu ((a.1,(a.2.1,())))) fun v0 =>
 let v1:Int:=(IntKind.i64.wrap (a.1-(IntKind.i64.wrap (a.2.1*v0.1))))
 some ((v1,()))
def R_Mod_an:An:=(.n none .z (.n none .z .z))
noncomputable def R_Mod_dc:List (Nat×Ctr):=[(69,R_Floor_ctr)]
def R_Mod_ctr:Ctr:=⟨(.pair (.int .i64) (.pair (.int .i64) .unit)),(.pair (.int .i64) .unit),R_Mod_r,18⟩
theorem R_Mod_ok:CtrOk Try.prog 18 R_Mod_ctr:=ctr_ok (l:=R_Mod_dc) (f:=12) (an:=R_Mod_an) ⟨R_Floor_ok,trivial⟩ fun fu x=>by kernel_rfl
def R_Exp_j2 (fu:Nat) (v2:Int×Int×Int) (j2:(Int×Int×Int)→Option (Int×Unit)) (v3:Int×Int):Option (Int×Unit) :=
 bindO (R_Times_r fu ((v3.1,(v3.1,())))) fun v4 =>
 let v5:Int:=v4.1
 let v6:Int:=(IntKind.i64.wrap (Int.tdiv v2.2.2 (2:Int)))
 j2 ((v3.2,(v5,v6)))
def R_Exp_l1 (fu:Nat) (j2:(Int×Int×Int)→Option (Int×Unit)) (v2:Int×Int×Int):Option (Int×Unit) :=
 bif (decide ((0:Int)<v2.2.2)) then
  joinF (R_Exp_j2 fu v2 j2) fun j3 =>
  bif (decide ((Int.tmod v2.2.2 (2:Int))=(1:Int))) then
   bindO (R_Times_r fu ((v2.1,(v2.2.1,())))) fun v4 =>
   let v5:Int:=v4.1
   j3 ((v2.2.1,v5))
  else
  j3 ((v2.2.1,v2.1))
 else
 let v3:Int:=v2.1
 some ((v3,()))
def R_Exp_r (fu:Nat) (a:Int×Unit):Option (Int×Unit) :=
 bindO (R_Mod_r fu ((a.1,((255:Int),())))) fun v0 =>
 let v1:Int:=v0.1
 loopF (R_Exp_l1 fu) fu (((1:Int),((2:Int),v1)))
def R_Exp_an:An:=(.n none .z (.n none .z (.n none (.n none .z (.n none (.n (some ⟨[2],[],[],[.reg 3 (.int .u8),.reg 4 (.int .u8),.reg 0 (.int .i64)],0,[]⟩) (.n none (.n none .z .z) (.n none (.n none (.n (some ⟨[0],[],[],[.reg 4 (.int .u8),.reg 3 (.int .u8)],0,[]⟩) (.n none .z (.n none .z .z)) .z) .z) .z)) .z) .z)) (.n none .z .z))))
noncomputable def R_Exp_dc:List (Nat×Ctr):=[(16,R_Times_ctr),(18,R_Mod_ctr)]
def R_Exp_ctr:Ctr:=⟨(.pair (.int .i64) .unit),(.pair (.int .u8) .unit),R_Exp_r,78⟩
theorem R_Exp_ok:CtrOk Try.prog 78 R_Exp_ctr:=ctr_ok (l:=R_Exp_dc) (f:=12) (an:=R_Exp_an) ⟨R_Times_ok,⟨R_Mod_ok,trivial⟩⟩ fun fu x=>by kernel_rfl
def R_Syndromes_l2 (fu:Nat) (a:List Int×Int×Unit) (v0:Int×List Int) (v1:Int) (j0:(Int×List Int)→Option (List Int×Unit)) (j2:(Int×List Int)→Option (List Int×Unit)) (v2:Int×List Int):Option (List Int×Unit) :=
 bif (decide (v2.1<(List.length a.1:Int))) then
  bif ((decide ((0:Int)≤v2.1))&&(decide (v2.1<(List.length a.1:Int)))) then
  let v3:Int:=(List.getD a.1 (Int.toNat v2.1) 0)
  let v4:Int:=v2.1
  bif ((decide ((0:Int)≤v1))&&(decide (v1<(List.length v2.2:Int)))) then
  bindO (R_Exp_r fu (((IntKind.i64.wrap (v1*(IntKind.i64.wrap ((IntKind.i64.wrap ((List.length a.1:Int)-(1:Int)))-v4)))),()))) fun v5 =>
  bindO (R_Times_r fu ((v3,(v5.1,())))) fun v6 =>
  bif ((decide ((0:Int)≤v1))&&(decide (v1<(List.length v2.2:Int)))) then
  j2 (((IntKind.i64.wrap (v2.1+(1:Int))),(List.set v2.2 (Int.toNat v1) (bits BinOp.xor IntKind.u8 (List.getD v2.2 (Int.toNat v1) 0) v6.1))))
  else none
  else none
  else none
 else
 j0 (((IntKind.i64.wrap (v0.1+(1:Int))),v2.2))
def R_Syndromes_l1 (fu:Nat) (a:List Int×Int×Unit) (j0:(Int×List Int)→Option (List Int×Unit)) (v0:Int×List Int):Option (List Int×Unit) :=
 bif (decide (v0.1<(List.length (List.replicate (Int.toNat a.2.1) (0:Int)):Int))) then
  let v1:Int:=v0.1
  loopF (R_Syndromes_l2 fu a v0 v1 j0) fu (((0:Int),v0.2))
 else
 some ((v0.2,()))
def R_Syndromes_r (fu:Nat) (a:List Int×Int×Unit):Option (List Int×Unit) :=
 bif ((decide ((0:Int)≤a.2.1))&&(decide (((1:Int)*a.2.1)≤(281474976710656:Int)))) then
 loopF (R_Syndromes_l1 fu a) fu (((0:Int),(List.replicate (Int.toNat a.2.1) (0:Int))))
 else none
def R_Syndromes_an:An:=(.n none .z (.n none .z (.n none (.n none .z (.n none (.n (some ⟨[5,0,12,4],[],[],[.reg 13 (.int .i64),.row 0 true (.int .u8) 5 0],0,[]⟩) (.n none .z (.n none .z (.n none (.n none (.n none .z (.n none .z (.n none (.n (some ⟨[13,16,6,17],[],[],[.reg 18 (.int .i64),.row 0 true (.int .u8) 5 0],0,[]⟩) (.n none .z (.n none .z (.n none (.n none (.n none .z (.dr [] [])) .z) .z))) .z) .z))) .z) .z))) .z) .z)) (.n none .z .z))))
noncomputable def R_Syndromes_dc:List (Nat×Ctr):=[(16,R_Times_ctr),(78,R_Exp_ctr)]
def R_Syndromes_ctr:Ctr:=⟨(.pair (.list (.int .u8)) (.pair (.int .i64) .unit)),(.pair (.list (.int .u8)) .unit),R_Syndromes_r,26⟩
theorem R_Syndromes_ok:CtrOk Try.prog 26 R_Syndromes_ctr:=ctr_ok (l:=R_Syndromes_dc) (f:=12) (an:=R_Syndromes_an) ⟨R_Times_ok,⟨R_Exp_ok,trivial⟩⟩ fun fu x=>by kernel_rfl
end
end Go.Proofs.Ytedjnjgnadbkaaa
/- What the document's functions over the field compute. -/
set_option maxRecDepth 100000
namespace Go.Proofs.Ytedjnjgnadbkaaa
open Go Go.RowKit
set_option linter.unusedSimpArgs false
set_option linter.unusedSectionVars false
set_option linter.unusedVariables false
namespace Gf
theorem rfloor (fu:Nat) {n d:Int} (hd:0<d) (h1:d≤1000000000000000) (h2:-9223372036854775808≤n) (h3:n≤9223372036854775807):R_Floor_r fu (n,(d,()))=some (n / d,()):=by
 have a1:=Int.mul_tdiv_add_tmod n d;have a2:n.tdiv d*d=d*n.tdiv d:=Int.mul_comm _ _
 have a3:-d<n.tmod d∧n.tmod d<d:=by
  constructor
  ·have:=Int.lt_tmod_of_pos n hd;omega
  ·exact Int.tmod_lt_of_pos n hd
 have a4:-9223372036854775808≤n.tdiv d∧n.tdiv d≤9223372036854775808:=by
  have:=tdiv_abs (m:=9223372036854775808) d (by omega:-9223372036854775808≤n) (by omega);omega
 have a5:n.tdiv d≤9223372036854775807:=by
  by_cases c:0≤n
  ·rw [Int.tdiv_eq_ediv_of_nonneg c];exact Int.le_trans (Int.ediv_le_self _ c) h3
  ·by_cases c2:n.tdiv d≤0
   ·omega
   ·have:=Int.mul_le_mul_of_nonneg_right (show 1≤n.tdiv d by omega) (show 0≤d by omega);omega
 have a6:0≤n→0≤n.tmod d:=fun c=>Int.tmod_nonneg _ c
 have a7:n≤0→n.tmod d≤0:=fun c=>by
  have:=Int.tmod_nonneg (a:=-n) d (by omega);rw [Int.neg_tmod] at this;omega
 unfold R_Floor_r R_Floor_j1;simp (disch:=omega) only [joinF_eq,bindO_some,s_wr,s_td,s_tm,s_pos,s_neg,cond_true,cond_false,Bool.not_true,Bool.not_false,Bool.true_and,Bool.and_true,Bool.false_and,Bool.and_false,bne_self_eq_false,decide_true,decide_false,Int.toNat_natCast];by_cases c:n<n.tdiv d*d
 ·simp (disch:=omega) only [joinF_eq,bindO_some,s_wr,s_td,s_tm,s_pos,s_neg,cond_true,cond_false,Bool.not_true,Bool.not_false,Bool.true_and,Bool.and_true,Bool.false_and,Bool.and_false,bne_self_eq_false,decide_true,decide_false,Int.toNat_natCast];have e:=tdiv_over hd c;by_cases lo:-9223372036854775808≤n.tdiv d-1
  ·simp (disch:=omega) only [joinF_eq,bindO_some,s_wr,s_td,s_tm,s_pos,s_neg,cond_true,cond_false,Bool.not_true,Bool.not_false,Bool.true_and,Bool.and_true,Bool.false_and,Bool.and_false,bne_self_eq_false,decide_true,decide_false,Int.toNat_natCast];rw [e]
  ·have:n.tdiv d=-9223372036854775808:=by omega
   rw [this] at c;have:d*1≤d*9223372036854775808:=Int.mul_le_mul_of_nonneg_left (by decide) (by omega);omega
 ·simp (disch:=omega) only [joinF_eq,bindO_some,s_wr,s_td,s_tm,s_pos,s_neg,cond_true,cond_false,Bool.not_true,Bool.not_false,Bool.true_and,Bool.and_true,Bool.false_and,Bool.and_false,bne_self_eq_false,decide_true,decide_false,Int.toNat_natCast];rw [tdiv_under hd (by omega)]
theorem rmod (fu:Nat) {n d:Int} (hd:0<d) (h1:d≤1000000000000000) (h2:-9223372036854775808≤n) (h3:n≤9223372036854775807):R_Mod_r fu (n,(d,()))=some (n % d,()):=by
 unfold R_Mod_r;rw [rfloor fu hd h1 h2 h3];have e:=Int.mul_ediv_add_emod n d;have e0:=Int.emod_nonneg n (show d≠0 by omega);have e1:=Int.emod_lt_of_pos n hd;by_cases c:-9223372036854775808≤d*(n / d)
 ·simp (disch:=omega) only [joinF_eq,bindO_some,s_wr,s_td,s_tm,s_pos,s_neg,cond_true,cond_false,Bool.not_true,Bool.not_false,Bool.true_and,Bool.and_true,Bool.false_and,Bool.and_false,bne_self_eq_false,decide_true,decide_false,Int.toNat_natCast];congr 2;omega
 ·have:IntKind.i64.wrap (d*(n / d))=d*(n / d)+18446744073709551616:=by rw [IntKind.wrap_i64];omega
  simp (disch:=omega) only [joinF_eq,bindO_some,s_wr,s_td,s_tm,s_pos,s_neg,cond_true,cond_false,Bool.not_true,Bool.not_false,Bool.true_and,Bool.and_true,Bool.false_and,Bool.and_false,bne_self_eq_false,decide_true,decide_false,Int.toNat_natCast];rw [this];have:IntKind.i64.wrap (n-(d*(n / d)+18446744073709551616))=n-d*(n / d):=by rw [IntKind.wrap_i64];omega
  rw [this];congr 2;omega
section
variable {fu:Nat} (hf:18446744073709551616≤fu)
include hf
theorem times_m {a b:Nat} (ha:a<256) (hb:b<256):R_Times_r fu ((a:Int),((b:Int),()))=some ((mulN a b:Int),()):=by
 rw [times_r hf ha hb,mul_tim ha hb]
theorem exp_r {n:Nat} (hn:n≤1000000):R_Exp_r fu ((n:Int),())=some ((pw 2 n:Int),()):=by
 unfold R_Exp_r;rw [rmod fu (by omega) (by omega) (by omega) (by omega),bindO_some];simp only;rw [show (n:Int) % 255=((n % 255:Nat):Int) by omega,←pw_mod];have he:n % 255<255:=Nat.mod_lt _ (by decide);generalize n % 255=e at he;refine postLoop (f:=R_Exp_l1 fu) (fun x=>x.2.2.toNat) (fun x=>∃ p a' n':Nat,x=((p:Int),((a':Int),(n':Int)))∧n'<255∧p<256∧a'<256∧mulN p (pw a' n')=pw 2 e) (fun r=>r=some ((pw 2 e:Int),())) ?_ fu _ ⟨1,2,e,rfl,he,by decide,by decide,one_mul (pw_lt (by decide) e)⟩ (by simp only;omega)
 rintro j _ ⟨p,a',n',rfl,h1,h2,h3,h4⟩
 by_cases c:n'=0
 ·subst c;refine .inr ?_;rw [show pw a' 0=1 from rfl,mul_one p h2] at h4;unfold R_Exp_l1;simp only;rw [bif_neg (by omega),h4]
 ·have e1:IntKind.i64.wrap (Int.tdiv (n':Int) 2)=((n' / 2:Nat):Int):=by rw [s_td (by omega),s_wr (by omega) (by omega)];omega
  have hsq:=times_m hf h3 h3;refine .inl ⟨(((if n' % 2=1 then mulN p a' else p:Nat):Int),((mulN a' a':Int),((n' / 2:Nat):Int))),⟨_,_,_,rfl,by omega,?_,mul_lt h3,?_⟩,by simp only;omega,?_⟩
  ·split
   ·exact mul_lt h2
   ·exact h2
  ·rw [pw_sq h3,←h4];by_cases g:n' % 2=1
   ·rw [if_pos g,mul_assoc h2 h3 (pw_lt h3 _),mul_comm h3 (pw_lt h3 _)];congr 1;have:pw a' n'=pw a' (2*(n' / 2)+1):=by congr 1;omega
    rw [this,pw]
   ·rw [if_neg g];congr 2;omega
  ·unfold R_Exp_l1 R_Exp_j2;simp only [joinF_eq];rw [bif_pos (by omega),s_tm (by omega)];by_cases g:n' % 2=1
   ·rw [bif_pos (by omega),times_m hf h2 h3,bindO_some];simp only;rw [hsq,bindO_some,e1,if_pos g]
   ·rw [bif_neg (by omega),hsq,bindO_some,e1,if_neg g]
theorem inverse_r {a:Nat} (ha:a<256) (h0:a≠0):∃ b:Nat,b<256∧mulN a b=1∧R_Inverse_r fu ((a:Int),())=some ((b:Int),()):=by
 obtain ⟨g1,g2⟩:=inv_all a ha h0;have hi0:inv a≠0:=fun e=>by rw [e,mul_zero] at g1;cases g1
 unfold R_Inverse_r;refine postLoop (f:=R_Inverse_l1 fu ((a:Int),())) (fun x=>(256-x).toNat) (fun x=>∃ k:Nat,x=(k:Int)∧1≤k∧k≤inv a) (fun r=>∃ b:Nat,b<256∧mulN a b=1∧r=some ((b:Int),())) ?_ fu _ ⟨1,rfl,by omega,by omega⟩ (by omega)
 rintro j _ ⟨k,rfl,k1,k2⟩
 have hk:k<256:=by omega
 have e1:IntKind.u8.wrap (k:Int)=(k:Int):=by simp [IntKind.wrap,IntKind.bits,IntKind.signed];omega
 unfold R_Inverse_l1;simp only;rw [bif_pos (by omega),e1,times_m hf ha hk,bindO_some];simp only;by_cases c:mulN a k=1
 ·exact .inr ⟨k,hk,c,by rw [bif_pos (by omega)]⟩
 ·have hne:k≠inv a:=fun e=>c (by rw [e];exact g1)
  refine .inl ⟨((k+1:Nat):Int),⟨k+1,rfl,by omega,by omega⟩,by omega,?_⟩;rw [bif_neg (by omega),s_wr (by omega) (by omega)];rfl
theorem syn_row {len q:Nat} {w:Nat→Nat} (hw:∀ k,w k<256) (hl:len≤400) (hq:q≤400) {i:Nat} (hi:i<q) (n':Int) {S:Nat→Nat} (hS:∀ k,S k<256) (hS0:S i=0) (v0:Int×List Int) (e0:v0.1=i) (j0:(Int×List Int)→Option (List Int×Unit)) :
  loopF (R_Syndromes_l2 fu (nb len w,(n',())) v0 (i:Int) j0) fu ((0:Int),nb q S)=j0 (((i+1:Nat):Int),nb q fun k=>if k=i then sum len (fun j=>mulN (w j) (pw 2 (i*(len-1-j)))) else S k):=by
 have h2:(2:Nat)<256:=by decide
 have hlt:∀ t,sum t (fun j=>mulN (w j) (pw 2 (i*(len-1-j))))<256:=fun t=>sum_lt fun j _=>mul_lt (hw j)
 refine stLoop (n:=len) (st:=fun t=>((t:Int),nb q fun k=>if k=i then sum t (fun j=>mulN (w j) (pw 2 (i*(len-1-j)))) else S k)) (by omega) (congrArg (Prod.mk (0:Int)) (nb_congr fun k _=>?_)) ?_ ?_
 ·by_cases c:k=i
  ·rw [if_pos c,c,hS0];rfl
  ·rw [if_neg c]
 ·intro j t ht;have hb:i*(len-1-t)≤400*400:=Nat.mul_le_mul (by omega) (by omega)
  have e1:IntKind.i64.wrap ((i:Int)*IntKind.i64.wrap (IntKind.i64.wrap ((len:Int)-1)-(t:Int)))=((i*(len-1-t):Nat):Int):=by
   rw [s_wr (x:=(len:Int)-1) (by omega) (by omega),s_wr (x:=(len:Int)-1-(t:Int)) (by omega) (by omega),show (len:Int)-1-(t:Int)=((len-1-t:Nat):Int) by omega,←Int.natCast_mul];generalize i*(len-1-t)=z at hb;exact s_wr (by omega) (by omega)
  have e4:IntKind.i64.wrap ((t:Int)+1)=((t+1:Nat):Int):=by rw [s_wr (by omega) (by omega)];omega
  unfold R_Syndromes_l2;simp only;rw [nb_len,nb_len,bif_pos (by omega),bf2 (by omega) (by omega),bf2 (by omega) (by omega),e1,exp_r hf (by omega),bindO_some];simp only;rw [Int.toNat_natCast,Int.toNat_natCast,nb_getD ht,times_m hf (hw t) (pw_lt h2 _),bindO_some];simp only;rw [bf2 (by omega) (by omega),e4,nb_getD hi,if_pos rfl,xor_c hf (hlt t) (mul_lt (hw t))];refine congrArg (fun l=>j (((t+1:Nat):Int),l)) (nb_set' (fun k hk hne=>by rw [if_neg hne,if_neg hne]) fun _=>?_);rw [if_pos rfl,sum_succ]
 ·intro j;unfold R_Syndromes_l2;simp only;rw [nb_len,bif_neg (by omega),e0,s_wr (by omega) (by omega)];rfl
theorem syn_r {len q:Nat} {w:Nat→Nat} (hw:∀ k,w k<256) (hl:len≤400) (hq:q≤400):R_Syndromes_r fu (nb len w,((q:Int),()))=some (nb q (fun i=>sum len (fun j=>mulN (w j) (pw 2 (i*(len-1-j))))),()):=by
 unfold R_Syndromes_r;simp only;rw [bf2 (by omega) (by omega),Int.toNat_natCast,nb_rep];refine stLoop (n:=q) (st:=fun i=>((i:Int),nb q fun k=>if k<i then sum len (fun j=>mulN (w j) (pw 2 (k*(len-1-j)))) else 0)) (by omega) (congrArg (Prod.mk (0:Int)) (nb_congr fun k _=>if_neg (by omega))) ?_ ?_
 ·intro j i hi;unfold R_Syndromes_l1;simp only;rw [Int.toNat_natCast,List.length_replicate,bif_pos (by omega),syn_row hf hw hl hq hi _ (S:=fun k=>if k<i then sum len (fun j=>mulN (w j) (pw 2 (k*(len-1-j)))) else 0) (fun k=>lt_ite1 (sum_lt fun j _=>mul_lt (hw j))) (if_neg (by omega)) _ rfl];refine congrArg (fun l=>j (((i+1:Nat):Int),l)) (nb_congr fun k _=>?_);by_cases c:k=i
  ·rw [if_pos c,if_pos (show k<i+1 by omega),c]
  ·rw [if_neg c];by_cases g:k<i
   ·rw [if_pos g,if_pos (show k<i+1 by omega)]
   ·rw [if_neg g,if_neg (show ¬ k<i+1 by omega)]
 ·intro j;unfold R_Syndromes_l1;simp only;rw [Int.toNat_natCast,List.length_replicate,bif_neg (by omega)];exact congrArg (fun l=>some (l,())) (nb_congr fun k hk=>if_pos hk)
end
end Gf
end Go.Proofs.Ytedjnjgnadbkaaa
/- Residual programs of functions (printed by a program out of the code),checked by the kernel,and the contracts that follow. -/
namespace Go.Proofs.Ytedjnjgnadbkaaa
open Go Go.RowKit
set_option linter.unusedVariables false
noncomputable section
def reedsolomon_Valid_r (fu:Nat) (a:List Int×Int×Unit):Option (Bool×Int×Unit) :=
 bindO (reedsolomon_check_r fu ((a.1,(a.2.1,())))) fun v0 =>
 let v1:Int:=v0.1
 bif (decide (v1≠(0:Int))) then
  some ((false,(v1,())))
 else
 bindO (reedsolomon_syndromes_r fu ((a.1,(a.2.1,())))) fun v2 =>
 let v3:List Int:=v2.1
 let v4:Bool:=v2.2.1
 some ((v4,((0:Int),())))
def reedsolomon_Valid_an:An:=(.n none .z (.n none (.n none .z (.n none .z (.n none (.n none .z .z) .z))) (.n none .z (.n none .z .z))))
noncomputable def reedsolomon_Valid_dc:List (Nat×Ctr):=[(72,reedsolomon_check_ctr),(74,reedsolomon_syndromes_ctr)]
def reedsolomon_Valid_ctr:Ctr:=⟨(.pair (.list (.int .u8)) (.pair (.int .i64) .unit)),(.pair .bool (.pair (.int .i64) .unit)),reedsolomon_Valid_r,25⟩
theorem reedsolomon_Valid_ok:CtrOk Try.prog 25 reedsolomon_Valid_ctr:=ctr_ok (l:=reedsolomon_Valid_dc) (f:=12) (an:=reedsolomon_Valid_an) ⟨reedsolomon_check_ok,⟨reedsolomon_syndromes_ok,trivial⟩⟩ fun fu x=>by kernel_rfl
end
end Go.Proofs.Ytedjnjgnadbkaaa
/- What Valid returns. -/
set_option maxRecDepth 100000
namespace Go.Proofs.Ytedjnjgnadbkaaa
open Go Go.RowKit
set_option linter.unusedSimpArgs false
set_option linter.unusedSectionVars false
set_option linter.unusedVariables false
namespace Gf
def clean (f:Nat→Nat):Nat→Bool
 | 0=>true
 | i+1=>clean f i&&decide (f i=0)
theorem horner_syn {w:Nat→Nat} (hw:∀ k,w k<256) (len i:Nat):horner w (pw 2 i) len=sum len (fun j=>mulN (w j) (pw 2 (i*(len-1-j)))):=by
 rw [horner_sum hw (p2 i)];exact sum_congr fun j _=>by rw [pw_mul (by decide)]
section
variable {fu:Nat} (hf:18446744073709551616≤fu)
include hf
theorem hn_row {len q:Nat} {w:Nat→Nat} (hw:∀ k,w k<256) (hl:len≤400) {i:Nat} (hi:i<q) (hq:q≤64) (n':Int) (c:Bool) {S:Nat→Nat} (j1:(Int×Bool×List Int)→Option (List Int×Bool×Unit)) :
  loopF (reedsolomon_syndromes_l3 fu (nb len w,(n',())) (c,((i:Int),nb q S)) (i:Int) (pw 2 i:Int) j1) fu ((0:Int),(0:Int))=j1 ((i:Int),(c&&decide (horner w (pw 2 i) len=0),nb q fun k=>if k=i then horner w (pw 2 i) len else S k)):=by
 have hx:=p2 i;refine stLoop (n:=len) (st:=fun t=>((horner w (pw 2 i) t:Int),(t:Int))) (by omega) rfl ?_ ?_
 ·intro j t ht;have hh:=horner_lt hw hx t;unfold reedsolomon_syndromes_l3;simp only;rw [nb_len,bif_pos (by omega),bf2 (by omega) (by omega),Int.toNat_natCast,nb_getD ht,mul_r hf hh hx,bindO_some];simp only;rw [xor_c hf (mul_lt hh) (hw t),s_wr (by omega) (by omega)];rfl
 ·intro j;unfold reedsolomon_syndromes_l3;simp only;rw [nb_len,nb_len,bif_neg (by omega),bf2 (by omega) (by omega),Int.toNat_natCast,nb_set]
  have e:decide ((horner w (pw 2 i) len:Int)=0)=decide (horner w (pw 2 i) len=0):=by
   by_cases h:horner w (pw 2 i) len=0
   ·rw [decide_eq_true h,decide_eq_true (by omega)]
   ·rw [decide_eq_false h,decide_eq_false (by omega)]
  cases c with
  | true=>rw [cond_true,e,Bool.true_and]
  | false=>rw [cond_false,Bool.false_and]
theorem syndromes_r {len q:Nat} {w:Nat→Nat} (hw:∀ k,w k<256) (hl:len≤400) (hq:q≤64):reedsolomon_syndromes_r fu (nb len w,((q:Int),()))=some (nb q (fun i=>horner w (pw 2 i) len),(clean (fun i=>horner w (pw 2 i) len) q,())):=by
 unfold reedsolomon_syndromes_r;simp only;rw [bf2 (by omega) (by omega),Int.toNat_natCast,nb_rep];refine stLoop (n:=q) (st:=fun i=>(clean (fun i=>horner w (pw 2 i) len) i,((i:Int),nb q fun k=>if k<i then horner w (pw 2 k) len else 0))) (by omega) (congrArg (fun l=>(true,((0:Int),l))) (nb_congr fun k _=>if_neg (by omega))) ?_ ?_
 ·intro j i hi;unfold reedsolomon_syndromes_l1 reedsolomon_syndromes_j2;simp only [joinF_eq];rw [Int.toNat_natCast,List.length_replicate,bif_pos (by omega),power2 hf (by omega),bindO_some];simp only;rw [hn_row hf hw hl hi hq];simp only;rw [s_wr (by omega) (by omega)];refine congrArg (fun l=>j (clean (fun i=>horner w (pw 2 i) len) (i+1),(((i+1:Nat):Int),l))) (nb_congr fun k _=>?_);by_cases c:k=i
  ·rw [if_pos c,if_pos (show k<i+1 by omega),c]
  ·rw [if_neg c];by_cases g:k<i
   ·rw [if_pos g,if_pos (show k<i+1 by omega)]
   ·rw [if_neg g,if_neg (show ¬ k<i+1 by omega)]
 ·intro j;unfold reedsolomon_syndromes_l1;simp only [joinF_eq];rw [Int.toNat_natCast,List.length_replicate,bif_neg (by omega)];exact congrArg (fun l=>some (l,(clean (fun i=>horner w (pw 2 i) len) q,()))) (nb_congr fun k hk=>if_pos hk)
def vE (len:Nat) (q:Int):Int:=if q<1∨64<q then 3 else if 255<len then 2 else if (len:Int)≤q then 12 else 0
theorem check_r (l:List Int) (q:Int):reedsolomon_check_r fu (l,(q,()))=some (vE l.length q,()):=by
 unfold reedsolomon_check_r reedsolomon_check_j1 vE;simp only [joinF_eq];by_cases c1:q<1
 ·rw [bif_pos c1,if_pos (.inl c1)];rfl
 rw [bif_neg c1];by_cases c2:64<q
 ·rw [decide_eq_true c2,if_pos (.inr c2)];rfl
 rw [decide_eq_false c2,cond_false,if_neg (by omega)];by_cases c3:255<l.length
 ·rw [bif_pos (by omega),if_pos c3]
 rw [bif_neg (by omega),if_neg c3];by_cases c4:(l.length:Int)≤q
 ·rw [bif_pos c4,if_pos c4]
 ·rw [bif_neg c4,if_neg c4]
end
end Gf
end Go.Proofs.Ytedjnjgnadbkaaa
/- Valid;lists of bytes as lists of small numbers;when the syndromes are zero. -/
set_option maxRecDepth 100000
namespace Go.Proofs.Ytedjnjgnadbkaaa
open Go Go.RowKit
set_option linter.unusedSimpArgs false
set_option linter.unusedSectionVars false
set_option linter.unusedVariables false
namespace Gf
def byt (ds:List Int) (k:Nat):Nat:=(ds.getD k 0).toNat
theorem byt_lt {ds:List Int} (h:∀ d ∈ ds,0≤d∧d≤255) (k:Nat):byt ds k<256:=by
 unfold byt;rw [List.getD_eq_getElem?_getD];by_cases c:k<ds.length
 ·rw [List.getElem?_eq_getElem c,Option.getD_some];have:=h _ (List.getElem_mem c);omega
 ·rw [List.getElem?_eq_none (by omega)];decide
theorem nb_byt {ds:List Int} (h:∀ d ∈ ds,0≤d∧d≤255):nb ds.length (byt ds)=ds:=by
 refine List.ext_getElem (nb_len _ _) fun i h1 h2=>?_
 rw [nb_getElem];unfold byt;rw [List.getD_eq_getElem?_getD,List.getElem?_eq_getElem h2,Option.getD_some];have:=h _ (List.getElem_mem h2);omega
section
variable {fu:Nat} (hf:18446744073709551616≤fu)
include hf
theorem valid_r {len:Nat} {q:Int} {w:Nat→Nat} (hw:∀ k,w k<256):reedsolomon_Valid_r fu (nb len w,(q,()))=some (if vE len q=0 then (clean (fun i=>horner w (pw 2 i) len) q.toNat,(0,())) else (false,(vE len q,()))):=by
 unfold reedsolomon_Valid_r;simp only;rw [check_r hf,nb_len,bindO_some];simp only;by_cases c:vE len q=0
 ·rw [bif_neg (fun g=>g c),if_pos c]
  have hb:(1≤q∧q≤64)∧len≤255:=by
   unfold vE at c;split at c
   ·omega
   ·split at c <;> omega
  obtain ⟨n,rfl⟩:=Int.eq_ofNat_of_zero_le (a:=q) (by omega);have h:=syndromes_r hf (q:=n) hw (show len≤400 by omega) (by omega);rw [h,bindO_some];rfl
 ·rw [bif_pos c,if_neg c]
end
end Gf
end Go.Proofs.Ytedjnjgnadbkaaa
/- Residual programs of functions (printed by a program out of the code),checked by the kernel,and the contracts that follow. -/
namespace Go.Proofs.Ytedjnjgnadbkaaa
open Go Go.RowKit
set_option linter.unusedVariables false
noncomputable section
def R_Corrected_j3 (fu:Nat) (j4:(Int×List (List Int)×List (Int×Int))→Option (List Int×Bool×Unit)) (v5:Int×List (List Int)×List (Int×Int)):Option (List Int×Bool×Unit) :=
 j4 (((IntKind.i64.wrap (v5.1+(1:Int))),v5.2))
def R_Corrected_l2 (fu:Nat) (a:List Int×Int×List Int×Unit) (v2:Int×List (List Int)×List (Int×Int)) (v3:Int) (j2:(Int×List (List Int)×List (Int×Int))→Option (List Int×Bool×Unit)) (j4:(Int×List (List Int)×List (Int×Int))→Option (List Int×Bool×Unit)) (v4:Int×List (List Int)×List (Int×Int)):Option (List Int×Bool×Unit) :=
 bif (decide (v4.1<(List.length a.2.2.1:Int))) then
  joinF (R_Corrected_j3 fu j4) fun j5 =>
  bif ((decide ((0:Int)≤v4.1))&&(decide (v4.1<(List.length a.2.2.1:Int)))) then
  let v6:Int:=(List.getD a.2.2.1 (Int.toNat v4.1) 0)
  bif ((decide ((0:Int)≤v3))&&(decide (v3<(List.length v4.2.2:Int)))) then
  bindO (R_Exp_r fu (((IntKind.i64.wrap (v3*(IntKind.i64.wrap ((IntKind.i64.wrap ((List.length a.1:Int)-(1:Int)))-v6)))),()))) fun v7 =>
  bif ((decide ((0:Int)≤(List.getD v4.2.2 (Int.toNat v3) (-1,0)).1))&&(decide ((List.getD v4.2.2 (Int.toNat v3) (-1,0)).1<(4294967296:Int)))) then
   bif ((((decide ((0:Int)≤(List.getD v4.2.2 (Int.toNat v3) (-1,0)).1))&&((decide ((List.getD v4.2.2 (Int.toNat v3) (-1,0)).1<(4294967296:Int)))&&(decide ((List.getD v4.2.2 (Int.toNat v3) (-1,0)).2=(List.length (List.getD v4.2.1 (Int.toNat (List.getD v4.2.2 (Int.toNat v3) (-1,0)).1) []):Int)))))&&(decide ((List.getD v4.2.2 (Int.toNat v3) (-1,0)).1<(List.length v4.2.1:Int))))&&(decide ((((List.length (List.getD v4.2.1 (Int.toNat (List.getD v4.2.2 (Int.toNat v3) (-1,0)).1) []):Int)+(List.length ([v7.1]:List Int):Int))*(1:Int))≤(140737488355328:Int)))) then
   let v8:List (List Int):=(List.set v4.2.1 (Int.toNat (List.getD v4.2.2 (Int.toNat v3) (-1,0)).1) ((List.getD v4.2.1 (Int.toNat (List.getD v4.2.2 (Int.toNat v3) (-1,0)).1) [])++([v7.1]:List Int)))
   bif ((decide ((0:Int)≤v3))&&(decide (v3<(List.length v4.2.2:Int)))) then
   j5 ((v4.1,(v8,(List.set v4.2.2 (Int.toNat v3) ((List.getD v4.2.2 (Int.toNat v3) (-1,0)).1,((List.getD v4.2.2 (Int.toNat v3) (-1,0)).2+(List.length ([v7.1]:List Int):Int)))))))
   else none
   else none
  else
  bif (decide (((List.length ([v7.1]:List Int):Int)*(1:Int))≤(140737488355328:Int))) then
  let v8:List (List Int):=v4.2.1
  bif ((decide ((0:Int)≤v3))&&(decide (v3<(List.length v4.2.2:Int)))) then
  bif ((decide ((0:Int)<(List.length ([v7.1]:List Int):Int)))&&(decide ((List.length v8:Int)<(4294967296:Int)))) then
  let v9:List (List Int):=(v8++([([v7.1]:List Int)]:List (List Int)))
  j5 ((v4.1,(v9,(List.set v4.2.2 (Int.toNat v3) ((List.length v8:Int),(List.length ([v7.1]:List Int):Int))))))
  else none
  else none
  else none
  else none
  else none
 else
 j2 (((IntKind.i64.wrap (v2.1+(1:Int))),v4.2))
def R_Corrected_l5 (fu:Nat) (a:List Int×Int×List Int×Unit) (v3:Bool×List (List Int)×List Int) (j5:(Int×List Int)→Option (List Int×Bool×Unit)) (v5:Int×List Int):Option (List Int×Bool×Unit) :=
 bif (decide (v5.1<(List.length a.2.2.1:Int))) then
  bif ((decide ((0:Int)≤v5.1))&&(decide (v5.1<(List.length a.2.2.1:Int)))) then
  let v6:Int:=(List.getD a.2.2.1 (Int.toNat v5.1) 0)
  let v7:Int:=v5.1
  bif ((decide ((0:Int)≤v6))&&(decide (v6<(List.length v5.2:Int)))) then
  bif ((decide ((0:Int)≤v7))&&(decide (v7<(List.length v3.2.2:Int)))) then
  bif ((decide ((0:Int)≤v6))&&(decide (v6<(List.length v5.2:Int)))) then
  j5 (((IntKind.i64.wrap (v5.1+(1:Int))),(List.set v5.2 (Int.toNat v6) (bits BinOp.xor IntKind.u8 (List.getD v5.2 (Int.toNat v6) 0) (List.getD v3.2.2 (Int.toNat v7) 0)))))
  else none
  else none
  else none
  else none
 else
 some ((v5.2,(true,())))
def R_Corrected_j4 (fu:Nat) (a:List Int×Int×List Int×Unit) (v3:Bool×List (List Int)×List Int):Option (List Int×Bool×Unit) :=
 bif (!v3.1) then
  some ((([]:List (Int)),(false,())))
 else
 let v4:List (List Int):=v3.2.1
 bif (decide ((((List.length ([]:List (Int)):Int)+(List.length a.1:Int))*(1:Int))≤(140737488355328:Int))) then
 loopF (R_Corrected_l5 fu a v3) fu (((0:Int),(([]:List (Int))++a.1)))
 else none
def R_Corrected_j12 (fu:Nat) (j13:(Int×List (List Int))→Option (List Int×Bool×Unit)) (v14:Int×List (List Int)):Option (List Int×Bool×Unit) :=
 j13 (((IntKind.i64.wrap (v14.1+(1:Int))),v14.2))
def R_Corrected_l14 (fu:Nat) (v5:Int×List (List Int)×List (Int×Int)) (v6:Int) (v7:Int) (v13:Int×List (List Int)) (v15:Int) (v16:Int) (v17:Bool×List (List Int)) (j14:(Int×List (List Int))→Option (List Int×Bool×Unit)) (j18:(Int×List (List Int))→Option (List Int×Bool×Unit)) (v18:Int×List (List Int)):Option (List Int×Bool×Unit) :=
 bif (decide (v18.1<(List.length (List.getD v17.2 (Int.toNat (List.getD (List.set (List.set v5.2.2 (Int.toNat v6) (List.getD v5.2.2 (Int.toNat v7) (-1,0))) (Int.toNat v7) (List.getD v5.2.2 (Int.toNat v6) (-1,0))) (Int.toNat v15) (-1,0)).1) []):Int))) then
  let v19:Int:=v18.1
  bif ((decide ((0:Int)≤v15))&&(decide (v15<(List.length (List.set (List.set v5.2.2 (Int.toNat v6) (List.getD v5.2.2 (Int.toNat v7) (-1,0))) (Int.toNat v7) (List.getD v5.2.2 (Int.toNat v6) (-1,0))):Int)))) then
  bif (((decide ((0:Int)≤(List.getD (List.set (List.set v5.2.2 (Int.toNat v6) (List.getD v5.2.2 (Int.toNat v7) (-1,0))) (Int.toNat v7) (List.getD v5.2.2 (Int.toNat v6) (-1,0))) (Int.toNat v15) (-1,0)).1))&&((decide ((List.getD (List.set (List.set v5.2.2 (Int.toNat v6) (List.getD v5.2.2 (Int.toNat v7) (-1,0))) (Int.toNat v7) (List.getD v5.2.2 (Int.toNat v6) (-1,0))) (Int.toNat v15) (-1,0)).1<(4294967296:Int)))&&(decide ((List.getD (List.set (List.set v5.2.2 (Int.toNat v6) (List.getD v5.2.2 (Int.toNat v7) (-1,0))) (Int.toNat v7) (List.getD v5.2.2 (Int.toNat v6) (-1,0))) (Int.toNat v15) (-1,0)).2=(List.length (List.getD v18.2 (Int.toNat (List.getD (List.set (List.set v5.2.2 (Int.toNat v6) (List.getD v5.2.2 (Int.toNat v7) (-1,0))) (Int.toNat v7) (List.getD v5.2.2 (Int.toNat v6) (-1,0))) (Int.toNat v15) (-1,0)).1) []):Int)))))&&((decide ((0:Int)≤v19))&&(decide (v19<(List.length (List.getD v18.2 (Int.toNat (List.getD (List.set (List.set v5.2.2 (Int.toNat v6) (List.getD v5.2.2 (Int.toNat v7) (-1,0))) (Int.toNat v7) (List.getD v5.2.2 (Int.toNat v6) (-1,0))) (Int.toNat v15) (-1,0)).1) []):Int))))) then
  bif ((decide ((0:Int)≤(List.getD (List.set (List.set v5.2.2 (Int.toNat v6) (List.getD v5.2.2 (Int.toNat v7) (-1,0))) (Int.toNat v7) (List.getD v5.2.2 (Int.toNat v6) (-1,0))) (Int.toNat v15) (-1,0)).1))&&((decide ((List.getD (List.set (List.set v5.2.2 (Int.toNat v6) (List.getD v5.2.2 (Int.toNat v7) (-1,0))) (Int.toNat v7) (List.getD v5.2.2 (Int.toNat v6) (-1,0))) (Int.toNat v15) (-1,0)).1<(4294967296:Int)))&&(decide ((List.getD (List.set (List.set v5.2.2 (Int.toNat v6) (List.getD v5.2.2 (Int.toNat v7) (-1,0))) (Int.toNat v7) (List.getD v5.2.2 (Int.toNat v6) (-1,0))) (Int.toNat v15) (-1,0)).2=(List.length (List.getD v18.2 (Int.toNat (List.getD (List.set (List.set v5.2.2 (Int.toNat v6) (List.getD v5.2.2 (Int.toNat v7) (-1,0))) (Int.toNat v7) (List.getD v5.2.2 (Int.toNat v6) (-1,0))) (Int.toNat v15) (-1,0)).1) []):Int))))) then
  bif ((decide ((0:Int)≤v6))&&(decide (v6<(List.length (List.set (List.set v5.2.2 (Int.toNat v6) (List.getD v5.2.2 (Int.toNat v7) (-1,0))) (Int.toNat v7) (List.getD v5.2.2 (Int.toNat v6) (-1,0))):Int)))) then
  bif (((decide ((0:Int)≤(List.getD (List.set (List.set v5.2.2 (Int.toNat v6) (List.getD v5.2.2 (Int.toNat v7) (-1,0))) (Int.toNat v7) (List.getD v5.2.2 (Int.toNat v6) (-1,0))) (Int.toNat v6) (-1,0)).1))&&((decide ((List.getD (List.set (List.set v5.2.2 (Int.toNat v6) (List.getD v5.2.2 (Int.toNat v7) (-1,0))) (Int.toNat v7) (List.getD v5.2.2 (Int.toNat v6) (-1,0))) (Int.toNat v6) (-1,0)).1<(4294967296:Int)))&&(decide ((List.getD (List.set (List.set v5.2.2 (Int.toNat v6) (List.getD v5.2.2 (Int.toNat v7) (-1,0))) (Int.toNat v7) (List.getD v5.2.2 (Int.toNat v6) (-1,0))) (Int.toNat v6) (-1,0)).2=(List.length (List.getD v18.2 (Int.toNat (List.getD (List.set (List.set v5.2.2 (Int.toNat v6) (List.getD v5.2.2 (Int.toNat v7) (-1,0))) (Int.toNat v7) (List.getD v5.2.2 (Int.toNat v6) (-1,0))) (Int.toNat v6) (-1,0)).1) []):Int)))))&&((decide ((0:Int)≤v19))&&(decide (v19<(List.length (List.getD v18.2 (Int.toNat (List.getD (List.set (List.set v5.2.2 (Int.toNat v6) (List.getD v5.2.2 (Int.toNat v7) (-1,0))) (Int.toNat v7) (List.getD v5.2.2 (Int.toNat v6) (-1,0))) (Int.toNat v6) (-1,0)).1) []):Int))))) then
  bif ((decide ((0:Int)≤(List.getD (List.set (List.set v5.2.2 (Int.toNat v6) (List.getD v5.2.2 (Int.toNat v7) (-1,0))) (Int.toNat v7) (List.getD v5.2.2 (Int.toNat v6) (-1,0))) (Int.toNat v6) (-1,0)).1))&&((decide ((List.getD (List.set (List.set v5.2.2 (Int.toNat v6) (List.getD v5.2.2 (Int.toNat v7) (-1,0))) (Int.toNat v7) (List.getD v5.2.2 (Int.toNat v6) (-1,0))) (Int.toNat v6) (-1,0)).1<(4294967296:Int)))&&(decide ((List.getD (List.set (List.set v5.2.2 (Int.toNat v6) (List.getD v5.2.2 (Int.toNat v7) (-1,0))) (Int.toNat v7) (List.getD v5.2.2 (Int.toNat v6) (-1,0))) (Int.toNat v6) (-1,0)).2=(List.length (List.getD v18.2 (Int.toNat (List.getD (List.set (List.set v5.2.2 (Int.toNat v6) (List.getD v5.2.2 (Int.toNat v7) (-1,0))) (Int.toNat v7) (List.getD v5.2.2 (Int.toNat v6) (-1,0))) (Int.toNat v6) (-1,0)).1) []):Int))))) then
  bindO (R_Times_r fu ((v16,((List.getD (List.getD v18.2 (Int.toNat (List.getD (List.set (List.set v5.2.2 (Int.toNat v6) (List.getD v5.2.2 (Int.toNat v7) (-1,0))) (Int.toNat v7) (List.getD v5.2.2 (Int.toNat v6) (-1,0))) (Int.toNat v6) (-1,0)).1) []) (Int.toNat v19) 0),())))) fun v20 =>
  bif (((decide ((0:Int)≤(List.getD (List.set (List.set v5.2.2 (Int.toNat v6) (List.getD v5.2.2 (Int.toNat v7) (-1,0))) (Int.toNat v7) (List.getD v5.2.2 (Int.toNat v6) (-1,0))) (Int.toNat v15) (-1,0)).1))&&((decide ((List.getD (List.set (List.set v5.2.2 (Int.toNat v6) (List.getD v5.2.2 (Int.toNat v7) (-1,0))) (Int.toNat v7) (List.getD v5.2.2 (Int.toNat v6) (-1,0))) (Int.toNat v15) (-1,0)).1<(4294967296:Int)))&&(decide ((List.getD (List.set (List.set v5.2.2 (Int.toNat v6) (List.getD v5.2.2 (Int.toNat v7) (-1,0))) (Int.toNat v7) (List.getD v5.2.2 (Int.toNat v6) (-1,0))) (Int.toNat v15) (-1,0)).2=(List.length (List.getD v18.2 (Int.toNat (List.getD (List.set (List.set v5.2.2 (Int.toNat v6) (List.getD v5.2.2 (Int.toNat v7) (-1,0))) (Int.toNat v7) (List.getD v5.2.2 (Int.toNat v6) (-1,0))) (Int.toNat v15) (-1,0)).1) []):Int)))))&&((decide ((0:Int)≤v19))&&(decide (v19<(List.length (List.getD v18.2 (Int.toNat (List.getD (List.set (List.set v5.2.2 (Int.toNat v6) (List.getD v5.2.2 (Int.toNat v7) (-1,0))) (Int.toNat v7) (List.getD v5.2.2 (Int.toNat v6) (-1,0))) (Int.toNat v15) (-1,0)).1) []):Int))))) then
  bif ((decide ((0:Int)≤(List.getD (List.set (List.set v5.2.2 (Int.toNat v6) (List.getD v5.2.2 (Int.toNat v7) (-1,0))) (Int.toNat v7) (List.getD v5.2.2 (Int.toNat v6) (-1,0))) (Int.toNat v15) (-1,0)).1))&&((decide ((List.getD (List.set (List.set v5.2.2 (Int.toNat v6) (List.getD v5.2.2 (Int.toNat v7) (-1,0))) (Int.toNat v7) (List.getD v5.2.2 (Int.toNat v6) (-1,0))) (Int.toNat v15) (-1,0)).1<(4294967296:Int)))&&(decide ((List.getD (List.set (List.set v5.2.2 (Int.toNat v6) (List.getD v5.2.2 (Int.toNat v7) (-1,0))) (Int.toNat v7) (List.getD v5.2.2 (Int.toNat v6) (-1,0))) (Int.toNat v15) (-1,0)).2=(List.length (List.getD v18.2 (Int.toNat (List.getD (List.set (List.set v5.2.2 (Int.toNat v6) (List.getD v5.2.2 (Int.toNat v7) (-1,0))) (Int.toNat v7) (List.getD v5.2.2 (Int.toNat v6) (-1,0))) (Int.toNat v15) (-1,0)).1) []):Int))))) then
  let v21:List (List Int):=(List.set v18.2 (Int.toNat (List.getD (List.set (List.set v5.2.2 (Int.toNat v6) (List.getD v5.2.2 (Int.toNat v7) (-1,0))) (Int.toNat v7) (List.getD v5.2.2 (Int.toNat v6) (-1,0))) (Int.toNat v15) (-1,0)).1) (List.set (List.getD v18.2 (Int.toNat (List.getD (List.set (List.set v5.2.2 (Int.toNat v6) (List.getD v5.2.2 (Int.toNat v7) (-1,0))) (Int.toNat v7) (List.getD v5.2.2 (Int.toNat v6) (-1,0))) (Int.toNat v15) (-1,0)).1) []) (Int.toNat v19) (bits BinOp.xor IntKind.u8 (List.getD (List.getD v18.2 (Int.toNat (List.getD (List.set (List.set v5.2.2 (Int.toNat v6) (List.getD v5.2.2 (Int.toNat v7) (-1,0))) (Int.toNat v7) (List.getD v5.2.2 (Int.toNat v6) (-1,0))) (Int.toNat v15) (-1,0)).1) []) (Int.toNat v19) 0) v20.1)))
  j18 (((IntKind.i64.wrap (v18.1+(1:Int))),v21))
  else none
  else none
  else none
  else none
  else none
  else none
  else none
  else none
 else
 j14 ((v13.1,v18.2))
def R_Corrected_j13 (fu:Nat) (v5:Int×List (List Int)×List (Int×Int)) (v6:Int) (v7:Int) (v13:Int×List (List Int)) (v15:Int) (v16:Int) (j14:(Int×List (List Int))→Option (List Int×Bool×Unit)) (v17:Bool×List (List Int)):Option (List Int×Bool×Unit) :=
 bif v17.1 then
  bif ((decide ((0:Int)≤v15))&&(decide (v15<(List.length (List.set (List.set v5.2.2 (Int.toNat v6) (List.getD v5.2.2 (Int.toNat v7) (-1,0))) (Int.toNat v7) (List.getD v5.2.2 (Int.toNat v6) (-1,0))):Int)))) then
  bif ((decide ((0:Int)≤(List.getD (List.set (List.set v5.2.2 (Int.toNat v6) (List.getD v5.2.2 (Int.toNat v7) (-1,0))) (Int.toNat v7) (List.getD v5.2.2 (Int.toNat v6) (-1,0))) (Int.toNat v15) (-1,0)).1))&&((decide ((List.getD (List.set (List.set v5.2.2 (Int.toNat v6) (List.getD v5.2.2 (Int.toNat v7) (-1,0))) (Int.toNat v7) (List.getD v5.2.2 (Int.toNat v6) (-1,0))) (Int.toNat v15) (-1,0)).1<(4294967296:Int)))&&(decide ((List.getD (List.set (List.set v5.2.2 (Int.toNat v6) (List.getD v5.2.2 (Int.toNat v7) (-1,0))) (Int.toNat v7) (List.getD v5.2.2 (Int.toNat v6) (-1,0))) (Int.toNat v15) (-1,0)).2=(List.length (List.getD v17.2 (Int.toNat (List.getD (List.set (List.set v5.2.2 (Int.toNat v6) (List.getD v5.2.2 (Int.toNat v7) (-1,0))) (Int.toNat v7) (List.getD v5.2.2 (Int.toNat v6) (-1,0))) (Int.toNat v15) (-1,0)).1) []):Int))))) then
  loopF (R_Corrected_l14 fu v5 v6 v7 v13 v15 v16 v17 j14) fu (((0:Int),v17.2))
  else none
  else none
 else
 j14 ((v13.1,v17.2))
def R_Corrected_l11 (fu:Nat) (v5:Int×List (List Int)×List (Int×Int)) (v6:Int) (v7:Int) (j5:(Int×List (List Int)×List (Int×Int))→Option (List Int×Bool×Unit)) (j13:(Int×List (List Int))→Option (List Int×Bool×Unit)) (v13:Int×List (List Int)):Option (List Int×Bool×Unit) :=
 bif (decide (v13.1<(List.length (List.set (List.set v5.2.2 (Int.toNat v6) (List.getD v5.2.2 (Int.toNat v7) (-1,0))) (Int.toNat v7) (List.getD v5.2.2 (Int.toNat v6) (-1,0))):Int))) then
  joinF (R_Corrected_j12 fu j13) fun j14 =>
  let v15:Int:=v13.1
  bif ((decide ((0:Int)≤v15))&&(decide (v15<(List.length (List.set (List.set v5.2.2 (Int.toNat v6) (List.getD v5.2.2 (Int.toNat v7) (-1,0))) (Int.toNat v7) (List.getD v5.2.2 (Int.toNat v6) (-1,0))):Int)))) then
  bif (((decide ((0:Int)≤(List.getD (List.set (List.set v5.2.2 (Int.toNat v6) (List.getD v5.2.2 (Int.toNat v7) (-1,0))) (Int.toNat v7) (List.getD v5.2.2 (Int.toNat v6) (-1,0))) (Int.toNat v15) (-1,0)).1))&&((decide ((List.getD (List.set (List.set v5.2.2 (Int.toNat v6) (List.getD v5.2.2 (Int.toNat v7) (-1,0))) (Int.toNat v7) (List.getD v5.2.2 (Int.toNat v6) (-1,0))) (Int.toNat v15) (-1,0)).1<(4294967296:Int)))&&(decide ((List.getD (List.set (List.set v5.2.2 (Int.toNat v6) (List.getD v5.2.2 (Int.toNat v7) (-1,0))) (Int.toNat v7) (List.getD v5.2.2 (Int.toNat v6) (-1,0))) (Int.toNat v15) (-1,0)).2=(List.length (List.getD v13.2 (Int.toNat (List.getD (List.set (List.set v5.2.2 (Int.toNat v6) (List.getD v5.2.2 (Int.toNat v7) (-1,0))) (Int.toNat v7) (List.getD v5.2.2 (Int.toNat v6) (-1,0))) (Int.toNat v15) (-1,0)).1) []):Int)))))&&((decide ((0:Int)≤v6))&&(decide (v6<(List.length (List.getD v13.2 (Int.toNat (List.getD (List.set (List.set v5.2.2 (Int.toNat v6) (List.getD v5.2.2 (Int.toNat v7) (-1,0))) (Int.toNat v7) (List.getD v5.2.2 (Int.toNat v6) (-1,0))) (Int.toNat v15) (-1,0)).1) []):Int))))) then
  bif ((decide ((0:Int)≤(List.getD (List.set (List.set v5.2.2 (Int.toNat v6) (List.getD v5.2.2 (Int.toNat v7) (-1,0))) (Int.toNat v7) (List.getD v5.2.2 (Int.toNat v6) (-1,0))) (Int.toNat v15) (-1,0)).1))&&((decide ((List.getD (List.set (List.set v5.2.2 (Int.toNat v6) (List.getD v5.2.2 (Int.toNat v7) (-1,0))) (Int.toNat v7) (List.getD v5.2.2 (Int.toNat v6) (-1,0))) (Int.toNat v15) (-1,0)).1<(4294967296:Int)))&&(decide ((List.getD (List.set (List.set v5.2.2 (Int.toNat v6) (List.getD v5.2.2 (Int.toNat v7) (-1,0))) (Int.toNat v7) (List.getD v5.2.2 (Int.toNat v6) (-1,0))) (Int.toNat v15) (-1,0)).2=(List.length (List.getD v13.2 (Int.toNat (List.getD (List.set (List.set v5.2.2 (Int.toNat v6) (List.getD v5.2.2 (Int.toNat v7) (-1,0))) (Int.toNat v7) (List.getD v5.2.2 (Int.toNat v6) (-1,0))) (Int.toNat v15) (-1,0)).1) []):Int))))) then
  let v16:Int:=(List.getD (List.getD v13.2 (Int.toNat (List.getD (List.set (List.set v5.2.2 (Int.toNat v6) (List.getD v5.2.2 (Int.toNat v7) (-1,0))) (Int.toNat v7) (List.getD v5.2.2 (Int.toNat v6) (-1,0))) (Int.toNat v15) (-1,0)).1) []) (Int.toNat v6) 0)
  joinF (R_Corrected_j13 fu v5 v6 v7 v13 v15 v16 j14) fun j17 =>
  bif (decide (v15≠v6)) then
   j17 (((decide (v16≠(0:Int))),v13.2))
  else
  j17 ((false,v13.2))
  else none
  else none
  else none
 else
 j5 (((IntKind.i64.wrap (v5.1+(1:Int))),(v13.2,(List.set (List.set v5.2.2 (Int.toNat v6) (List.getD v5.2.2 (Int.toNat v7) (-1,0))) (Int.toNat v7) (List.getD v5.2.2 (Int.toNat v6) (-1,0))))))
def R_Corrected_l10 (fu:Nat) (v5:Int×List (List Int)×List (Int×Int)) (v6:Int) (v7:Int) (v9:List (List Int)) (v11:Int) (j5:(Int×List (List Int)×List (Int×Int))→Option (List Int×Bool×Unit)) (j12:(Int×List (List Int))→Option (List Int×Bool×Unit)) (v12:Int×List (List Int)):Option (List Int×Bool×Unit) :=
 bif (decide (v12.1<(List.length (List.getD v9 (Int.toNat (List.getD (List.set (List.set v5.2.2 (Int.toNat v6) (List.getD v5.2.2 (Int.toNat v7) (-1,0))) (Int.toNat v7) (List.getD v5.2.2 (Int.toNat v6) (-1,0))) (Int.toNat v6) (-1,0)).1) []):Int))) then
  let v13:Int:=v12.1
  bif ((decide ((0:Int)≤v6))&&(decide (v6<(List.length (List.set (List.set v5.2.2 (Int.toNat v6) (List.getD v5.2.2 (Int.toNat v7) (-1,0))) (Int.toNat v7) (List.getD v5.2.2 (Int.toNat v6) (-1,0))):Int)))) then
  bif ((decide ((0:Int)≤v6))&&(decide (v6<(List.length (List.set (List.set v5.2.2 (Int.toNat v6) (List.getD v5.2.2 (Int.toNat v7) (-1,0))) (Int.toNat v7) (List.getD v5.2.2 (Int.toNat v6) (-1,0))):Int)))) then
  bif (((decide ((0:Int)≤(List.getD (List.set (List.set v5.2.2 (Int.toNat v6) (List.getD v5.2.2 (Int.toNat v7) (-1,0))) (Int.toNat v7) (List.getD v5.2.2 (Int.toNat v6) (-1,0))) (Int.toNat v6) (-1,0)).1))&&((decide ((List.getD (List.set (List.set v5.2.2 (Int.toNat v6) (List.getD v5.2.2 (Int.toNat v7) (-1,0))) (Int.toNat v7) (List.getD v5.2.2 (Int.toNat v6) (-1,0))) (Int.toNat v6) (-1,0)).1<(4294967296:Int)))&&(decide ((List.getD (List.set (List.set v5.2.2 (Int.toNat v6) (List.getD v5.2.2 (Int.toNat v7) (-1,0))) (Int.toNat v7) (List.getD v5.2.2 (Int.toNat v6) (-1,0))) (Int.toNat v6) (-1,0)).2=(List.length (List.getD v12.2 (Int.toNat (List.getD (List.set (List.set v5.2.2 (Int.toNat v6) (List.getD v5.2.2 (Int.toNat v7) (-1,0))) (Int.toNat v7) (List.getD v5.2.2 (Int.toNat v6) (-1,0))) (Int.toNat v6) (-1,0)).1) []):Int)))))&&((decide ((0:Int)≤v13))&&(decide (v13<(List.length (List.getD v12.2 (Int.toNat (List.getD (List.set (List.set v5.2.2 (Int.toNat v6) (List.getD v5.2.2 (Int.toNat v7) (-1,0))) (Int.toNat v7) (List.getD v5.2.2 (Int.toNat v6) (-1,0))) (Int.toNat v6) (-1,0)).1) []):Int))))) then
  bif ((decide ((0:Int)≤(List.getD (List.set (List.set v5.2.2 (Int.toNat v6) (List.getD v5.2.2 (Int.toNat v7) (-1,0))) (Int.toNat v7) (List.getD v5.2.2 (Int.toNat v6) (-1,0))) (Int.toNat v6) (-1,0)).1))&&((decide ((List.getD (List.set (List.set v5.2.2 (Int.toNat v6) (List.getD v5.2.2 (Int.toNat v7) (-1,0))) (Int.toNat v7) (List.getD v5.2.2 (Int.toNat v6) (-1,0))) (Int.toNat v6) (-1,0)).1<(4294967296:Int)))&&(decide ((List.getD (List.set (List.set v5.2.2 (Int.toNat v6) (List.getD v5.2.2 (Int.toNat v7) (-1,0))) (Int.toNat v7) (List.getD v5.2.2 (Int.toNat v6) (-1,0))) (Int.toNat v6) (-1,0)).2=(List.length (List.getD v12.2 (Int.toNat (List.getD (List.set (List.set v5.2.2 (Int.toNat v6) (List.getD v5.2.2 (Int.toNat v7) (-1,0))) (Int.toNat v7) (List.getD v5.2.2 (Int.toNat v6) (-1,0))) (Int.toNat v6) (-1,0)).1) []):Int))))) then
  bindO (R_Times_r fu (((List.getD (List.getD v12.2 (Int.toNat (List.getD (List.set (List.set v5.2.2 (Int.toNat v6) (List.getD v5.2.2 (Int.toNat v7) (-1,0))) (Int.toNat v7) (List.getD v5.2.2 (Int.toNat v6) (-1,0))) (Int.toNat v6) (-1,0)).1) []) (Int.toNat v13) 0),(v11,())))) fun v14 =>
  bif (((decide ((0:Int)≤(List.getD (List.set (List.set v5.2.2 (Int.toNat v6) (List.getD v5.2.2 (Int.toNat v7) (-1,0))) (Int.toNat v7) (List.getD v5.2.2 (Int.toNat v6) (-1,0))) (Int.toNat v6) (-1,0)).1))&&((decide ((List.getD (List.set (List.set v5.2.2 (Int.toNat v6) (List.getD v5.2.2 (Int.toNat v7) (-1,0))) (Int.toNat v7) (List.getD v5.2.2 (Int.toNat v6) (-1,0))) (Int.toNat v6) (-1,0)).1<(4294967296:Int)))&&(decide ((List.getD (List.set (List.set v5.2.2 (Int.toNat v6) (List.getD v5.2.2 (Int.toNat v7) (-1,0))) (Int.toNat v7) (List.getD v5.2.2 (Int.toNat v6) (-1,0))) (Int.toNat v6) (-1,0)).2=(List.length (List.getD v12.2 (Int.toNat (List.getD (List.set (List.set v5.2.2 (Int.toNat v6) (List.getD v5.2.2 (Int.toNat v7) (-1,0))) (Int.toNat v7) (List.getD v5.2.2 (Int.toNat v6) (-1,0))) (Int.toNat v6) (-1,0)).1) []):Int)))))&&((decide ((0:Int)≤v13))&&(decide (v13<(List.length (List.getD v12.2 (Int.toNat (List.getD (List.set (List.set v5.2.2 (Int.toNat v6) (List.getD v5.2.2 (Int.toNat v7) (-1,0))) (Int.toNat v7) (List.getD v5.2.2 (Int.toNat v6) (-1,0))) (Int.toNat v6) (-1,0)).1) []):Int))))) then
  bif ((decide ((0:Int)≤(List.getD (List.set (List.set v5.2.2 (Int.toNat v6) (List.getD v5.2.2 (Int.toNat v7) (-1,0))) (Int.toNat v7) (List.getD v5.2.2 (Int.toNat v6) (-1,0))) (Int.toNat v6) (-1,0)).1))&&((decide ((List.getD (List.set (List.set v5.2.2 (Int.toNat v6) (List.getD v5.2.2 (Int.toNat v7) (-1,0))) (Int.toNat v7) (List.getD v5.2.2 (Int.toNat v6) (-1,0))) (Int.toNat v6) (-1,0)).1<(4294967296:Int)))&&(decide ((List.getD (List.set (List.set v5.2.2 (Int.toNat v6) (List.getD v5.2.2 (Int.toNat v7) (-1,0))) (Int.toNat v7) (List.getD v5.2.2 (Int.toNat v6) (-1,0))) (Int.toNat v6) (-1,0)).2=(List.length (List.getD v12.2 (Int.toNat (List.getD (List.set (List.set v5.2.2 (Int.toNat v6) (List.getD v5.2.2 (Int.toNat v7) (-1,0))) (Int.toNat v7) (List.getD v5.2.2 (Int.toNat v6) (-1,0))) (Int.toNat v6) (-1,0)).1) []):Int))))) then
  let v15:List (List Int):=(List.set v12.2 (Int.toNat (List.getD (List.set (List.set v5.2.2 (Int.toNat v6) (List.getD v5.2.2 (Int.toNat v7) (-1,0))) (Int.toNat v7) (List.getD v5.2.2 (Int.toNat v6) (-1,0))) (Int.toNat v6) (-1,0)).1) (List.set (List.getD v12.2 (Int.toNat (List.getD (List.set (List.set v5.2.2 (Int.toNat v6) (List.getD v5.2.2 (Int.toNat v7) (-1,0))) (Int.toNat v7) (List.getD v5.2.2 (Int.toNat v6) (-1,0))) (Int.toNat v6) (-1,0)).1) []) (Int.toNat v13) v14.1))
  j12 (((IntKind.i64.wrap (v12.1+(1:Int))),v15))
  else none
  else none
  else none
  else none
  else none
  else none
 else
 loopF (R_Corrected_l11 fu v5 v6 v7 j5) fu (((0:Int),v12.2))
def R_Corrected_j9 (fu:Nat) (v5:Int×List (List Int)×List (Int×Int)) (v6:Int) (v7:Int) (j3:(Bool×List (List Int)×List Int)→Option (List Int×Bool×Unit)) (j5:(Int×List (List Int)×List (Int×Int))→Option (List Int×Bool×Unit)) (j7:(Int)→Option (List Int×Bool×Unit)) (v8:Bool):Option (List Int×Bool×Unit) :=
 bif v8 then
  let v9:Int:=(IntKind.i64.wrap (v7+(1:Int)))
  j7 (v9)
 else
 bif (decide (v7=(List.length v5.2.2:Int))) then
  j3 ((false,(v5.2.1,([]:List (Int)))))
 else
 bif ((decide ((0:Int)≤v7))&&(decide (v7<(List.length v5.2.2:Int)))) then
 bif ((decide ((0:Int)≤v6))&&(decide (v6<(List.length v5.2.2:Int)))) then
 bif ((decide ((0:Int)≤v6))&&(decide (v6<(List.length v5.2.2:Int)))) then
 bif ((decide ((0:Int)≤v7))&&(decide (v7<(List.length (List.set v5.2.2 (Int.toNat v6) (List.getD v5.2.2 (Int.toNat v7) (-1,0))):Int)))) then
 let v9:List (List Int):=v5.2.1
 bif ((decide ((0:Int)≤v6))&&(decide (v6<(List.length (List.set (List.set v5.2.2 (Int.toNat v6) (List.getD v5.2.2 (Int.toNat v7) (-1,0))) (Int.toNat v7) (List.getD v5.2.2 (Int.toNat v6) (-1,0))):Int)))) then
 bif (((decide ((0:Int)≤(List.getD (List.set (List.set v5.2.2 (Int.toNat v6) (List.getD v5.2.2 (Int.toNat v7) (-1,0))) (Int.toNat v7) (List.getD v5.2.2 (Int.toNat v6) (-1,0))) (Int.toNat v6) (-1,0)).1))&&((decide ((List.getD (List.set (List.set v5.2.2 (Int.toNat v6) (List.getD v5.2.2 (Int.toNat v7) (-1,0))) (Int.toNat v7) (List.getD v5.2.2 (Int.toNat v6) (-1,0))) (Int.toNat v6) (-1,0)).1<(4294967296:Int)))&&(decide ((List.getD (List.set (List.set v5.2.2 (Int.toNat v6) (List.getD v5.2.2 (Int.toNat v7) (-1,0))) (Int.toNat v7) (List.getD v5.2.2 (Int.toNat v6) (-1,0))) (Int.toNat v6) (-1,0)).2=(List.length (List.getD v9 (Int.toNat (List.getD (List.set (List.set v5.2.2 (Int.toNat v6) (List.getD v5.2.2 (Int.toNat v7) (-1,0))) (Int.toNat v7) (List.getD v5.2.2 (Int.toNat v6) (-1,0))) (Int.toNat v6) (-1,0)).1) []):Int)))))&&((decide ((0:Int)≤v6))&&(decide (v6<(List.length (List.getD v9 (Int.toNat (List.getD (List.set (List.set v5.2.2 (Int.toNat v6) (List.getD v5.2.2 (Int.toNat v7) (-1,0))) (Int.toNat v7) (List.getD v5.2.2 (Int.toNat v6) (-1,0))) (Int.toNat v6) (-1,0)).1) []):Int))))) then
 bif ((decide ((0:Int)≤(List.getD (List.set (List.set v5.2.2 (Int.toNat v6) (List.getD v5.2.2 (Int.toNat v7) (-1,0))) (Int.toNat v7) (List.getD v5.2.2 (Int.toNat v6) (-1,0))) (Int.toNat v6) (-1,0)).1))&&((decide ((List.getD (List.set (List.set v5.2.2 (Int.toNat v6) (List.getD v5.2.2 (Int.toNat v7) (-1,0))) (Int.toNat v7) (List.getD v5.2.2 (Int.toNat v6) (-1,0))) (Int.toNat v6) (-1,0)).1<(4294967296:Int)))&&(decide ((List.getD (List.set (List.set v5.2.2 (Int.toNat v6) (List.getD v5.2.2 (Int.toNat v7) (-1,0))) (Int.toNat v7) (List.getD v5.2.2 (Int.toNat v6) (-1,0))) (Int.toNat v6) (-1,0)).2=(List.length (List.getD v9 (Int.toNat (List.getD (List.set (List.set v5.2.2 (Int.toNat v6) (List.getD v5.2.2 (Int.toNat v7) (-1,0))) (Int.toNat v7) (List.getD v5.2.2 (Int.toNat v6) (-1,0))) (Int.toNat v6) (-1,0)).1) []):Int))))) then
 bindO (R_Inverse_r fu (((List.getD (List.getD v9 (Int.toNat (List.getD (List.set (List.set v5.2.2 (Int.toNat v6) (List.getD v5.2.2 (Int.toNat v7) (-1,0))) (Int.toNat v7) (List.getD v5.2.2 (Int.toNat v6) (-1,0))) (Int.toNat v6) (-1,0)).1) []) (Int.toNat v6) 0),()))) fun v10 =>
 let v11:Int:=v10.1
 bif ((decide ((0:Int)≤v6))&&(decide (v6<(List.length (List.set (List.set v5.2.2 (Int.toNat v6) (List.getD v5.2.2 (Int.toNat v7) (-1,0))) (Int.toNat v7) (List.getD v5.2.2 (Int.toNat v6) (-1,0))):Int)))) then
 bif ((decide ((0:Int)≤(List.getD (List.set (List.set v5.2.2 (Int.toNat v6) (List.getD v5.2.2 (Int.toNat v7) (-1,0))) (Int.toNat v7) (List.getD v5.2.2 (Int.toNat v6) (-1,0))) (Int.toNat v6) (-1,0)).1))&&((decide ((List.getD (List.set (List.set v5.2.2 (Int.toNat v6) (List.getD v5.2.2 (Int.toNat v7) (-1,0))) (Int.toNat v7) (List.getD v5.2.2 (Int.toNat v6) (-1,0))) (Int.toNat v6) (-1,0)).1<(4294967296:Int)))&&(decide ((List.getD (List.set (List.set v5.2.2 (Int.toNat v6) (List.getD v5.2.2 (Int.toNat v7) (-1,0))) (Int.toNat v7) (List.getD v5.2.2 (Int.toNat v6) (-1,0))) (Int.toNat v6) (-1,0)).2=(List.length (List.getD v9 (Int.toNat (List.getD (List.set (List.set v5.2.2 (Int.toNat v6) (List.getD v5.2.2 (Int.toNat v7) (-1,0))) (Int.toNat v7) (List.getD v5.2.2 (Int.toNat v6) (-1,0))) (Int.toNat v6) (-1,0)).1) []):Int))))) then
 loopF (R_Corrected_l10 fu v5 v6 v7 v9 v11 j5) fu (((0:Int),v9))
 else none
 else none
 else none
 else none
 else none
 else none
 else none
 else none
 else none
def R_Corrected_l8 (fu:Nat) (v5:Int×List (List Int)×List (Int×Int)) (v6:Int) (j3:(Bool×List (List Int)×List Int)→Option (List Int×Bool×Unit)) (j5:(Int×List (List Int)×List (Int×Int))→Option (List Int×Bool×Unit)) (j7:(Int)→Option (List Int×Bool×Unit)) (v7:Int):Option (List Int×Bool×Unit) :=
 joinF (R_Corrected_j9 fu v5 v6 v7 j3 j5 j7) fun j8 =>
 bif (decide (v7<(List.length v5.2.2:Int))) then
  bif ((decide ((0:Int)≤v7))&&(decide (v7<(List.length v5.2.2:Int)))) then
  bif (((decide ((0:Int)≤(List.getD v5.2.2 (Int.toNat v7) (-1,0)).1))&&((decide ((List.getD v5.2.2 (Int.toNat v7) (-1,0)).1<(4294967296:Int)))&&(decide ((List.getD v5.2.2 (Int.toNat v7) (-1,0)).2=(List.length (List.getD v5.2.1 (Int.toNat (List.getD v5.2.2 (Int.toNat v7) (-1,0)).1) []):Int)))))&&((decide ((0:Int)≤v6))&&(decide (v6<(List.length (List.getD v5.2.1 (Int.toNat (List.getD v5.2.2 (Int.toNat v7) (-1,0)).1) []):Int))))) then
  bif ((decide ((0:Int)≤(List.getD v5.2.2 (Int.toNat v7) (-1,0)).1))&&((decide ((List.getD v5.2.2 (Int.toNat v7) (-1,0)).1<(4294967296:Int)))&&(decide ((List.getD v5.2.2 (Int.toNat v7) (-1,0)).2=(List.length (List.getD v5.2.1 (Int.toNat (List.getD v5.2.2 (Int.toNat v7) (-1,0)).1) []):Int))))) then
  j8 ((decide ((List.getD (List.getD v5.2.1 (Int.toNat (List.getD v5.2.2 (Int.toNat v7) (-1,0)).1) []) (Int.toNat v6) 0)=(0:Int))))
  else none
  else none
  else none
 else
 j8 (false)
def R_Corrected_j16 (fu:Nat) (j7:(Int×List Int)→Option (List Int×Bool×Unit)) (v8:Int×List Int):Option (List Int×Bool×Unit) :=
 j7 (((IntKind.i64.wrap (v8.1+(1:Int))),v8.2))
def R_Corrected_l15 (fu:Nat) (a:List Int×Int×List Int×Unit) (v5:Int×List (List Int)×List (Int×Int)) (v6:List (List Int)) (j3:(Bool×List (List Int)×List Int)→Option (List Int×Bool×Unit)) (j7:(Int×List Int)→Option (List Int×Bool×Unit)) (v7:Int×List Int):Option (List Int×Bool×Unit) :=
 bif (decide (v7.1<(List.length v5.2.2:Int))) then
  joinF (R_Corrected_j16 fu j7) fun j8 =>
  let v9:Int:=v7.1
  bif (decide (v9<(List.length a.2.2.1:Int))) then
   bif ((decide ((0:Int)≤v9))&&(decide (v9<(List.length v5.2.2:Int)))) then
   bif (((decide ((0:Int)≤(List.getD v5.2.2 (Int.toNat v9) (-1,0)).1))&&((decide ((List.getD v5.2.2 (Int.toNat v9) (-1,0)).1<(4294967296:Int)))&&(decide ((List.getD v5.2.2 (Int.toNat v9) (-1,0)).2=(List.length (List.getD v6 (Int.toNat (List.getD v5.2.2 (Int.toNat v9) (-1,0)).1) []):Int)))))&&((decide ((0:Int)≤(List.length a.2.2.1:Int)))&&(decide ((List.length a.2.2.1:Int)<(List.length (List.getD v6 (Int.toNat (List.getD v5.2.2 (Int.toNat v9) (-1,0)).1) []):Int))))) then
   bif ((decide ((0:Int)≤(List.getD v5.2.2 (Int.toNat v9) (-1,0)).1))&&((decide ((List.getD v5.2.2 (Int.toNat v9) (-1,0)).1<(4294967296:Int)))&&(decide ((List.getD v5.2.2 (Int.toNat v9) (-1,0)).2=(List.length (List.getD v6 (Int.toNat (List.getD v5.2.2 (Int.toNat v9) (-1,0)).1) []):Int))))) then
   bif ((decide ((0:Int)≤v9))&&(decide (v9<(List.length v7.2:Int)))) then
   j8 ((v7.1,(List.set v7.2 (Int.toNat v9) (List.getD (List.getD v6 (Int.toNat (List.getD v5.2.2 (Int.toNat v9) (-1,0)).1) []) (Int.toNat (List.length a.2.2.1:Int)) 0))))
   else none
   else none
   else none
   else none
  else
  bif ((decide ((0:Int)≤v9))&&(decide (v9<(List.length v5.2.2:Int)))) then
  bif (((decide ((0:Int)≤(List.getD v5.2.2 (Int.toNat v9) (-1,0)).1))&&((decide ((List.getD v5.2.2 (Int.toNat v9) (-1,0)).1<(4294967296:Int)))&&(decide ((List.getD v5.2.2 (Int.toNat v9) (-1,0)).2=(List.length (List.getD v6 (Int.toNat (List.getD v5.2.2 (Int.toNat v9) (-1,0)).1) []):Int)))))&&((decide ((0:Int)≤(List.length a.2.2.1:Int)))&&(decide ((List.length a.2.2.1:Int)<(List.length (List.getD v6 (Int.toNat (List.getD v5.2.2 (Int.toNat v9) (-1,0)).1) []):Int))))) then
  bif ((decide ((0:Int)≤(List.getD v5.2.2 (Int.toNat v9) (-1,0)).1))&&((decide ((List.getD v5.2.2 (Int.toNat v9) (-1,0)).1<(4294967296:Int)))&&(decide ((List.getD v5.2.2 (Int.toNat v9) (-1,0)).2=(List.length (List.getD v6 (Int.toNat (List.getD v5.2.2 (Int.toNat v9) (-1,0)).1) []):Int))))) then
  bif (decide ((List.getD (List.getD v6 (Int.toNat (List.getD v5.2.2 (Int.toNat v9) (-1,0)).1) []) (Int.toNat (List.length a.2.2.1:Int)) 0)≠(0:Int))) then
   j3 ((false,(v6,([]:List (Int)))))
  else
  j8 (v7)
  else none
  else none
  else none
 else
 j3 ((true,(v6,v7.2)))
def R_Corrected_l7 (fu:Nat) (a:List Int×Int×List Int×Unit) (j3:(Bool×List (List Int)×List Int)→Option (List Int×Bool×Unit)) (j5:(Int×List (List Int)×List (Int×Int))→Option (List Int×Bool×Unit)) (v5:Int×List (List Int)×List (Int×Int)):Option (List Int×Bool×Unit) :=
 bif (decide (v5.1<(List.length a.2.2.1:Int))) then
  let v6:Int:=v5.1
  loopF (R_Corrected_l8 fu v5 v6 j3 j5) fu (v6)
 else
 bif ((decide ((0:Int)≤(List.length a.2.2.1:Int)))&&(decide (((1:Int)*(List.length a.2.2.1:Int))≤(281474976710656:Int)))) then
 let v6:List (List Int):=v5.2.1
 loopF (R_Corrected_l15 fu a v5 v6 j3) fu (((0:Int),(List.replicate (Int.toNat (List.length a.2.2.1:Int)) (0:Int))))
 else none
def R_Corrected_l6 (fu:Nat) (a:List Int×Int×List Int×Unit) (v1:List Int) (v2:Int×List (List Int)×List (Int×Int)) (j3:(Bool×List (List Int)×List Int)→Option (List Int×Bool×Unit)) (j4:(Int×List (List Int)×List (Int×Int))→Option (List Int×Bool×Unit)) (v4:Int×List (List Int)×List (Int×Int)):Option (List Int×Bool×Unit) :=
 bif (decide (v4.1<(List.length v2.2.2:Int))) then
  let v5:Int:=v4.1
  bif ((decide ((0:Int)≤v5))&&(decide (v5<(List.length v2.2.2:Int)))) then
  bif (((decide ((0:Int)≤(List.getD v2.2.2 (Int.toNat v5) (-1,0)).1))&&((decide ((List.getD v2.2.2 (Int.toNat v5) (-1,0)).1<(4294967296:Int)))&&(decide ((List.getD v2.2.2 (Int.toNat v5) (-1,0)).2=(List.length (List.getD v4.2.1 (Int.toNat (List.getD v2.2.2 (Int.toNat v5) (-1,0)).1) []):Int)))))&&(decide ((((List.length ([]:List (Int)):Int)+(List.length (List.getD v4.2.1 (Int.toNat (List.getD v2.2.2 (Int.toNat v5) (-1,0)).1) []):Int))*(1:Int))≤(140737488355328:Int)))) then
  bif ((decide ((0:Int)≤v5))&&(decide (v5<(List.length v1:Int)))) then
  let v6:Int:=(List.getD v1 (Int.toNat v5) 0)
  bif (decide ((((List.length (([]:List (Int))++(List.getD v4.2.1 (Int.toNat (List.getD v2.2.2 (Int.toNat v5) (-1,0)).1) [])):Int)+(List.length ([v6]:List Int):Int))*(1:Int))≤(140737488355328:Int))) then
  bif ((decide ((0:Int)≤v5))&&(decide (v5<(List.length v4.2.2:Int)))) then
  bif ((decide ((0:Int)<(List.length ((([]:List (Int))++(List.getD v4.2.1 (Int.toNat (List.getD v2.2.2 (Int.toNat v5) (-1,0)).1) []))++([v6]:List Int)):Int)))&&(decide ((List.length v4.2.1:Int)<(4294967296:Int)))) then
  let v7:List (List Int):=(v4.2.1++([((([]:List (Int))++(List.getD v4.2.1 (Int.toNat (List.getD v2.2.2 (Int.toNat v5) (-1,0)).1) []))++([v6]:List Int))]:List (List Int)))
  j4 (((IntKind.i64.wrap (v4.1+(1:Int))),(v7,(List.set v4.2.2 (Int.toNat v5) ((List.length v4.2.1:Int),(List.length ((([]:List (Int))++(List.getD v4.2.1 (Int.toNat (List.getD v2.2.2 (Int.toNat v5) (-1,0)).1) []))++([v6]:List Int)):Int))))))
  else none
  else none
  else none
  else none
  else none
  else none
 else
 loopF (R_Corrected_l7 fu a j3) fu (((0:Int),v4.2))
def R_Corrected_l1 (fu:Nat) (a:List Int×Int×List Int×Unit) (v1:List Int) (j2:(Int×List (List Int)×List (Int×Int))→Option (List Int×Bool×Unit)) (v2:Int×List (List Int)×List (Int×Int)):Option (List Int×Bool×Unit) :=
 bif (decide (v2.1<(List.length (List.replicate (Int.toNat a.2.1) ((-1:Int),(0:Int))):Int))) then
  let v3:Int:=v2.1
  loopF (R_Corrected_l2 fu a v2 v3 j2) fu (((0:Int),v2.2))
 else
 bif (decide (a.2.1<(List.length a.2.2.1:Int))) then
  some ((([]:List (Int)),(false,())))
 else
 joinF (R_Corrected_j4 fu a) fun j3 =>
 bif ((decide ((0:Int)≤(List.length v2.2.2:Int)))&&(decide (((24:Int)*(List.length v2.2.2:Int))≤(281474976710656:Int)))) then
 loopF (R_Corrected_l6 fu a v1 v2 j3) fu (((0:Int),(v2.2.1,(List.replicate (Int.toNat (List.length v2.2.2:Int)) ((-1:Int),(0:Int))))))
 else none
def R_Corrected_r (fu:Nat) (a:List Int×Int×List Int×Unit):Option (List Int×Bool×Unit) :=
 bindO (R_Syndromes_r fu ((a.1,(a.2.1,())))) fun v0 =>
 let v1:List Int:=v0.1
 bif ((decide ((0:Int)≤a.2.1))&&(decide (((24:Int)*a.2.1)≤(281474976710656:Int)))) then
 loopF (R_Corrected_l1 fu a v1) fu (((0:Int),(([]:List (List (Int))),(List.replicate (Int.toNat a.2.1) ((-1:Int),(0:Int))))))
 else none
def R_Corrected_an:An:=(.n (some ⟨[999999],[],[],[.arn (.int .u8) 5],0,[]⟩) (.n none .z (.n none .z (.n none (.ops [(1,(.dr [] []))]) (.n none (.n none .z (.n none (.n (some ⟨[2,0,8,9,1,24,6,7],[],[],[.reg 25 (.int .i64),.arn (.int .u8) 5,.row 1 true .aix 28 0],0,[]⟩) (.n none .z (.n none .z (.n none (.n none (.n none .z (.n none .z (.n none (.n (some ⟨[25,28,10,29],[],[],[.reg 30 (.int .i64),.arn (.int .u8) 5,.row 1 true .aix 28 0],0,[]⟩) (.n none .z (.n none .z (.n (some ⟨[],[],[],[.reg 30 (.int .i64),.arn (.int .u8) 5,.row 1 true .aix 28 0],0,[]⟩) (.n none (.n none .z (.dr [(888888,15),(16,0),(0,0),(1,0)] [(15,(.ops [(999998,.z)]))])) .z) .z))) .z) .z))) .z) .z))) .z) .z)) (.n none (.n none .z (.n none (.n none .z .z) .z)) (.n (some ⟨[0,2],[1],[(13,(.osl 2 0))],[.reg 14 .bool,.arn (.int .u8) 5,.row 2 true (.int .u8) 5 0],1,[(13,(.int .u8),5)]⟩) (.ops [(4,(.n none (.n none .z (.n none (.ops [(2,(.dr [] []))]) (.n none (.n none .z (.n none (.n (some ⟨[8,2,0,1,23,6,7],[],[],[.reg 24 (.int .i64),.arn (.int .u8) 5,.row 2 true .aix 28 0],0,[]⟩) (.n none .z (.n none .z (.n none (.n none (.n none .z (.dr [] [])) .z) .z))) .z) .z)) (.n none (.n none .z (.n none (.n (some ⟨[2,8,43],[],[],[.reg 44 (.int .i64),.arn (.int .u8) 5,.row 2 true .aix 28 0],0,[]⟩) (.n none .z (.n none .z (.n none (.n none (.n none .z (.n none .z (.n none (.n none (.n (some ⟨[44,10],[0,2],[],[.reg 11 (.int .i64)],0,[]⟩) (.n none (.n (some ⟨[11],[],[],[.reg 61 .bool],0,[]⟩) .z .z) (.n none .z .z)) .z) .z) (.n none (.n none .z (.n none (.n none .z .z) .z)) (.n none (.dr [] []) (.n none .z (.n none (.n none .z (.n none (.n (some ⟨[10,44,12,94],[2],[],[.reg 95 (.int .i64),.arn (.int .u8) 5],0,[]⟩) (.n none .z (.n none .z (.n none (.n none (.n none .z (.dr [] [])) .z) .z))) .z) .z)) (.n none .z (.n none (.n (some ⟨[44,10,115],[2],[],[.reg 116 (.int .i64),.arn (.int .u8) 5],0,[]⟩) (.n none .z (.n none .z (.n (some ⟨[],[],[],[.reg 116 (.int .i64),.arn (.int .u8) 5],0,[]⟩) (.n none (.n none .z (.n none .z (.n (some ⟨[15,14,116],[],[],[.reg 132 .bool,.arn (.int .u8) 5],0,[]⟩) .z (.n none (.n none .z (.n none (.n (some ⟨[137],[],[],[.reg 138 (.int .i64),.arn (.int .u8) 5],0,[]⟩) (.n none .z (.n none .z (.n none (.n none (.n none .z (.dr [] [])) .z) .z))) .z) .z)) .z)))) .z) .z))) .z) .z))))))))) .z) .z))) .z) .z)) (.n none .z (.n none (.n none .z (.n none (.n (some ⟨[17,8,2,165],[0,2],[],[.reg 166 (.int .i64),.row 3 true (.int .u8) 5 0],0,[]⟩) (.n none .z (.n none .z (.n (some ⟨[],[],[],[.reg 166 (.int .i64),.row 3 true (.int .u8) 5 0],0,[]⟩) (.n none (.n none .z (.n none .z (.n none .z (.n none .z (.n none (.n none .z .z) .z))))) .z) .z))) .z) .z)) (.n none .z .z))))))) .z))]) (.n none (.n none .z (.n none (.n none .z .z) .z)) (.n none .z (.n none (.n none .z (.n none (.n (some ⟨[15,70,13,71],[0,2],[],[.reg 72 (.int .i64),.row 3 false (.int .u8) 5 1],0,[]⟩) (.n none .z (.n none .z (.n none (.n none (.n none .z (.dr [] [])) .z) .z))) .z) .z)) (.n none .z .z)))))))))) .z)
noncomputable def R_Corrected_dc:List (Nat×Ctr):=[(16,R_Times_ctr),(26,R_Syndromes_ctr),(78,R_Exp_ctr),(118,R_Inverse_ctr)]
def R_Corrected_ctr:Ctr:=⟨(.pair (.list (.int .u8)) (.pair (.int .i64) (.pair (.list (.int .i64)) .unit))),(.pair (.list (.int .u8)) (.pair .bool .unit)),R_Corrected_r,77⟩
theorem R_Corrected_ok:CtrOk Try.prog 77 R_Corrected_ctr:=ctr_ok (l:=R_Corrected_dc) (f:=12) (an:=R_Corrected_an) ⟨R_Times_ok,⟨R_Syndromes_ok,⟨R_Exp_ok,⟨R_Inverse_ok,trivial⟩⟩⟩⟩ fun fu x=>by kernel_rfl
end
end Go.Proofs.Ytedjnjgnadbkaaa
/- R.Corrected: the rows of its matrix. -/
set_option maxRecDepth 100000
namespace Go.Proofs.Ytedjnjgnadbkaaa
open Go Go.RowKit
set_option linter.unusedSimpArgs false
set_option linter.unusedSectionVars false
set_option linter.unusedVariables false
namespace Gf
def tab {α:Type} (n:Nat) (f:Nat→α):List α:=(List.range n).map f
section
variable {α:Type} {n:Nat} {f g:Nat→α}
theorem tab_len:(tab n f).length=n:=by unfold tab;rw [List.length_map,List.length_range]
theorem tab_getElem {i:Nat} (h:i<(tab n f).length):(tab n f)[i]=f i:=by simp only [tab,List.getElem_map,List.getElem_range]
theorem tab_getD {i:Nat} {d:α} (h:i<n):(tab n f).getD i d=f i:=by
 rw [List.getD_eq_getElem?_getD,List.getElem?_eq_getElem (by rw [tab_len];exact h),Option.getD_some,tab_getElem]
theorem tab_congr (h:∀ i,i<n→f i=g i):tab n f=tab n g:=List.map_congr_left fun i hi=>by rw [h i (List.mem_range.1 hi)]
theorem tab_set {k:Nat} {v:α}:(tab n f).set k v=tab n fun i=>if i=k then v else f i:=by
 refine List.ext_getElem (by rw [List.length_set,tab_len,tab_len]) fun i h1 h2=>?_
 rw [List.getElem_set];by_cases e:k=i
 ·rw [if_pos e,tab_getElem,if_pos e.symm]
 ·rw [if_neg e,tab_getElem,tab_getElem,if_neg (Ne.symm e)]
theorem tab_app {v:α}:tab n f++[v]=tab (n+1) fun i=>if i=n then v else f i:=by
 unfold tab;rw [List.range_succ,List.map_append,List.map_singleton,if_pos rfl];congr 1;refine List.map_congr_left fun i hi=>?_
 have:=List.mem_range.1 hi;rw [if_neg (by omega)]
theorem tab_rep (v:α):List.replicate n v=tab n fun _=>v:=by
 refine List.ext_getElem (by rw [List.length_replicate,tab_len]) fun i h1 h2=>?_
 rw [List.getElem_replicate,tab_getElem]
end
def AR (xs:List (List Int)) (p:Nat) (A:Nat→Nat→Nat):List (List Int):=xs++tab p fun j=>nb (p+1) (A j)
def RW (p:Nat) (π:Nat→Nat):List (Int×Int):=tab p fun i=>(((p+π i:Nat):Int),((p+1:Nat):Int))
section
variable {p:Nat} {xs:List (List Int)} {A:Nat→Nat→Nat} {π:Nat→Nat}
theorem AR_get (hx:xs.length=p) {j:Nat} (hj:j<p):(AR xs p A).getD (p+j) []=nb (p+1) (A j):=by
 unfold AR;rw [List.getD_eq_getElem?_getD,List.getElem?_append_right (by omega),show p+j-xs.length=j by omega,←List.getD_eq_getElem?_getD,tab_getD hj]
theorem AR_set (hx:xs.length=p) {j:Nat} (hj:j<p) {g:Nat→Nat}:(AR xs p A).set (p+j) (nb (p+1) g)=AR xs p fun i=>if i=j then g else A i:=by
 unfold AR;rw [List.set_append_right _ _ (by omega),show p+j-xs.length=j by omega,tab_set];congr 1
 exact tab_congr fun i _=>by
  dsimp only;by_cases e:i=j
  ·rw [if_pos e,if_pos e]
  ·rw [if_neg e,if_neg e]
theorem AR_congr {B:Nat→Nat→Nat} (h:∀ j,j<p→∀ k,k≤p→A j k=B j k):AR xs p A=AR xs p B:=by
 unfold AR;rw [tab_congr fun j hj=>nb_congr fun k hk=>h j hj k (by omega)]
theorem RW_len:(RW p π).length=p:=tab_len
theorem RW_get {i:Nat} {d:Int×Int} (hi:i<p):(RW p π).getD i d=(((p+π i:Nat):Int),((p+1:Nat):Int)):=tab_getD hi
theorem RW_sw {c q:Nat} (hc:c<p) (hq:q<p):(((RW p π).set c ((RW p π).getD q (-1,0))).set q ((RW p π).getD c (-1,0)))=RW p fun i=>π (sw c q i):=by
 rw [RW_get hc,RW_get hq];unfold RW;rw [tab_set,tab_set];refine tab_congr fun i hi=>?_
 unfold sw;dsimp only;by_cases e:i=q
 ·rw [if_pos e];by_cases e':i=c
  ·rw [if_pos e',←e,e']
  ·rw [if_neg e',if_pos e]
 ·rw [if_neg e];by_cases e':i=c
  ·rw [if_pos e',if_pos e']
  ·rw [if_neg e',if_neg e',if_neg e]
end
abbrev RR:=Option (List Int×Bool×Unit)
section
variable {fu:Nat} (hf:18446744073709551616≤fu)
variable {p:Nat} {xs:List (List Int)} {A:Nat→Nat→Nat} {π:Nat→Nat}
include hf
theorem l14_r (hp:p≤16) (hx:xs.length=p) (hπ:∀ i,i<p→π i<p) (hA:∀ i,i<p→∀ k,k≤p→A i k<256) {i c f:Nat} (hi:i<p) (hc:c<p) (hne:π i≠π c) (hf1:f<256)
  {v5:Int×List (List Int)×List (Int×Int)} {v6 v7 v15 v16:Int} {v13:Int×List (List Int)} {v17:Bool×List (List Int)} (hS:List.set (List.set v5.2.2 (Int.toNat v6) (List.getD v5.2.2 (Int.toNat v7) (-1,0))) (Int.toNat v7) (List.getD v5.2.2 (Int.toNat v6) (-1,0))=RW p π) (e6:v6=c) (e15:v15=i) (e16:v16=f) (e17:v17.2=AR xs p A) (j14:(Int×List (List Int))→RR) :
  loopF (R_Corrected_l14 fu v5 v6 v7 v13 v15 v16 v17 j14) fu ((0:Int),v17.2)=j14 (v13.1,AR xs p fun j k=>if j=π i then A j k ^^^ mulN f (A (π c) k) else A j k):=by
 have hpi:=hπ i hi;have hpc:=hπ c hc;refine stLoop (n:=p+1) (st:=fun t=>((t:Int),AR xs p fun j k=>if j=π i∧k<t then A j k ^^^ mulN f (A (π c) k) else A j k)) (by omega) ?_ ?_ ?_
 ·rw [e17];exact congrArg (Prod.mk (0:Int)) (AR_congr fun j _ k _=>if_neg (by omega))
 ·intro j t ht;unfold R_Corrected_l14;simp only;rw [hS];subst e6 e15 e16;have hb1:(if True∧t<t then A (π i) t ^^^ mulN f (A (π c) t) else A (π i) t)=A (π i) t:=if_neg (by omega);have hb2:(if π c=π i∧t<t then A (π c) t ^^^ mulN f (A (π c) t) else A (π c) t)=A (π c) t:=if_neg (by omega);have ha1:=hA (π i) hpi t (by omega);have ha2:=hA (π c) hpc t (by omega);simp only [e17,Int.toNat_natCast,RW_len,RW_get hi,RW_get hc,AR_get hx hpi,AR_get hx hpc,nb_len,nb_getD ht,hb1,hb2,times_m hf hf1 ha2];simp (disch:=omega) only [joinF_eq,bindO_some,s_wr,s_td,s_tm,s_pos,s_neg,cond_true,cond_false,Bool.not_true,Bool.not_false,Bool.true_and,Bool.and_true,Bool.false_and,Bool.and_false,bne_self_eq_false,decide_true,decide_false,Int.toNat_natCast];rw [xor_c hf ha1 (mul_lt hf1),nb_set,AR_set hx hpi,show ((t:Int)+1)=((t+1:Nat):Int) by omega];refine congrArg (fun l=>j (((t+1:Nat):Int),l)) (AR_congr fun j' _ k hk=>?_);by_cases e:j'=π i
  ·rw [if_pos e];by_cases e2:k=t
   ·rw [if_pos e2,if_pos ⟨e,by omega⟩,e,e2]
   ·rw [if_neg e2];by_cases e3:k<t
    ·rw [if_pos ⟨trivial,e3⟩,if_pos ⟨e,by omega⟩,e]
    ·rw [if_neg (fun h=>e3 h.2),if_neg (fun h=>e3 (by omega)),e]
  ·rw [if_neg e,if_neg (fun h=>e h.1),if_neg (fun h=>e h.1)]
 ·intro j;unfold R_Corrected_l14;simp only;rw [hS];subst e6 e15 e16;simp only [e17,Int.toNat_natCast,RW_len,RW_get hi,RW_get hc,AR_get hx hpi,AR_get hx hpc,nb_len];rw [bif_neg (by omega)]
  exact congrArg (fun l=>j14 (v13.1,l)) (AR_congr fun j _ k hk=>by
   by_cases e:j=π i
   ·rw [if_pos ⟨e,by omega⟩,if_pos e]
   ·rw [if_neg (fun h=>e h.1),if_neg e])
theorem l10_r (hp:p≤16) (hx:xs.length=p) (hπ:∀ i,i<p→π i<p) (hA:∀ i,i<p→∀ k,k≤p→A i k<256) {c f:Nat} (hc:c<p) (hf1:f<256)
  {v5:Int×List (List Int)×List (Int×Int)} {v6 v7 v11:Int} {v9:List (List Int)} (hS:List.set (List.set v5.2.2 (Int.toNat v6) (List.getD v5.2.2 (Int.toNat v7) (-1,0))) (Int.toNat v7) (List.getD v5.2.2 (Int.toNat v6) (-1,0))=RW p π) (e6:v6=c) (e11:v11=f) (e9:v9=AR xs p A) (j5:(Int×List (List Int)×List (Int×Int))→RR) :
  loopF (R_Corrected_l10 fu v5 v6 v7 v9 v11 j5) fu ((0:Int),v9)=loopF (R_Corrected_l11 fu v5 v6 v7 j5) fu ((0:Int),AR xs p fun j k=>if j=π c then mulN (A j k) f else A j k):=by
 have hpc:=hπ c hc;refine stLoop (n:=p+1) (st:=fun t=>((t:Int),AR xs p fun j k=>if j=π c∧k<t then mulN (A j k) f else A j k)) (by omega) ?_ ?_ ?_
 ·rw [e9];exact congrArg (Prod.mk (0:Int)) (AR_congr fun j _ k _=>if_neg (by omega))
 ·intro j t ht;unfold R_Corrected_l10;simp only;rw [hS];subst e6 e11;have hb1:(if True∧t<t then mulN (A (π c) t) f else A (π c) t)=A (π c) t:=if_neg (by omega);have ha2:=hA (π c) hpc t (by omega);simp only [e9,Int.toNat_natCast,RW_len,RW_get hc,AR_get hx hpc,nb_len,nb_getD ht,hb1,times_m hf ha2 hf1];simp (disch:=omega) only [joinF_eq,bindO_some,s_wr,s_td,s_tm,s_pos,s_neg,cond_true,cond_false,Bool.not_true,Bool.not_false,Bool.true_and,Bool.and_true,Bool.false_and,Bool.and_false,bne_self_eq_false,decide_true,decide_false,Int.toNat_natCast];rw [nb_set,AR_set hx hpc,show ((t:Int)+1)=((t+1:Nat):Int) by omega];refine congrArg (fun l=>j (((t+1:Nat):Int),l)) (AR_congr fun j' _ k hk=>?_);by_cases e:j'=π c
  ·rw [if_pos e];by_cases e2:k=t
   ·rw [if_pos e2,if_pos ⟨e,by omega⟩,e,e2]
   ·rw [if_neg e2];by_cases e3:k<t
    ·rw [if_pos ⟨trivial,e3⟩,if_pos ⟨e,by omega⟩,e]
    ·rw [if_neg (fun h=>e3 h.2),if_neg (fun h=>e3 (by omega)),e]
  ·rw [if_neg e,if_neg (fun h=>e h.1),if_neg (fun h=>e h.1)]
 ·intro j;unfold R_Corrected_l10;simp only;rw [hS];subst e6 e11;simp only [e9,Int.toNat_natCast,RW_len,RW_get hc,AR_get hx hpc,nb_len];rw [bif_neg (by omega)]
  exact congrArg (fun l=>loopF (R_Corrected_l11 fu v5 (c:Int) v7 j5) fu ((0:Int),l)) (AR_congr fun j _ k hk=>by
   by_cases e:j=π c
   ·rw [if_pos ⟨e,by omega⟩,if_pos e]
   ·rw [if_neg (fun h=>e h.1),if_neg e])
def Rep (p:Nat) (A:Nat→Nat→Nat) (π:Nat→Nat) (M:Nat→Nat→Nat):Prop:=∀ i,i<p→∀ k,k≤p→A (π i) k=M i k
structure Prm (p:Nat) (π:Nat→Nat):Prop where
 lt:∀ i,i<p→π i<p
 inj:∀ i j,i<p→j<p→π i=π j→i=j
 sur:∀ j,j<p→∃ i,i<p∧π i=j
theorem Rep.lt {M:Nat→Nat→Nat} (h:Rep p A π M) (hπ:Prm p π) (hM:∀ i,i<p→∀ k,k≤p→M i k<256):∀ j,j<p→∀ k,k≤p→A j k<256:=by
 intro j hj k hk;obtain ⟨i,hi,rfl⟩:=hπ.sur j hj;rw [h i hi k hk];exact hM i hi k hk
theorem l11_r (hp:p≤16) (hx:xs.length=p) (hπ:Prm p π) {M:Nat→Nat→Nat} (hM:∀ i,i<p→∀ k,k≤p→M i k<256) (hR:Rep p A π M) {c:Nat} (hc:c<p)
  {v5:Int×List (List Int)×List (Int×Int)} {v6 v7:Int} (hS:List.set (List.set v5.2.2 (Int.toNat v6) (List.getD v5.2.2 (Int.toNat v7) (-1,0))) (Int.toNat v7) (List.getD v5.2.2 (Int.toNat v6) (-1,0))=RW p π) (e6:v6=c) (e5:v5.1=c) (j5:(Int×List (List Int)×List (Int×Int))→RR) :
  ∃ B,Rep p B π (fun i k=>if i=c then M i k else M i k ^^^ mulN (M i c) (M c k))∧loopF (R_Corrected_l11 fu v5 v6 v7 j5) fu ((0:Int),AR xs p A)=j5 (((c+1:Nat):Int),(AR xs p B,RW p π)):=by
 refine (foldLoop (f:=R_Corrected_l11 fu v5 v6 v7 j5) (n:=p) (fu:=fu) (by omega) (fun t s=>∃ B,Rep p B π (fun i k=>if i<t∧i≠c then M i k ^^^ mulN (M i c) (M c k) else M i k)∧s=AR xs p B)
  (fin:=fun s=>j5 (((c+1:Nat):Int),(s,RW p π))) (s0:=AR xs p A) ⟨A,fun i hi k hk=>(hR i hi k hk).trans (if_neg (by omega)).symm,rfl⟩ ?_ ?_).elim fun s ⟨⟨B,hB,hs⟩,hl⟩=>?_
 ·rintro j i s hi ⟨B,hB,rfl⟩
  have hpi:=hπ.lt i hi;have hpc:=hπ.lt c hc
  have hBl:∀ j,j<p→∀ k,k≤p→B j k<256:=Rep.lt hf hB hπ fun i hi k hk=>by
   split
   ·exact xlt (hM i hi k hk) (mul_lt (hM i hi c (by omega)))
   ·exact hM i hi k hk
  have hval:B (π i) c=M i c:=(hB i hi c (by omega)).trans (if_neg (by omega));have e51:IntKind.i64.wrap (((i:Nat):Int)+1)=((i+1:Nat):Int):=by rw [s_wr (by omega) (by omega)];omega
  have hcc:∀ k,k≤p→B (π c) k=M c k:=fun k hk=>(hB c hc k hk).trans (if_neg (fun h=>h.2 rfl))
  have keep:(i=c∨M i c=0)→Rep p B π (fun i' k=>if i'<i+1∧i'≠c then M i' k ^^^ mulN (M i' c) (M c k) else M i' k):=by
   intro h i' hi' k hk;refine (hB i' hi' k hk).trans ?_;dsimp only;by_cases e:i'=i
   ·subst e;rw [if_neg (by omega)];rcases h with h | h
    ·rw [if_neg (fun g=>g.2 h)]
    ·by_cases e2:i'=c
     ·rw [if_neg (fun g=>g.2 e2)]
     ·rw [if_pos ⟨by omega,e2⟩,h,zero_mul (hM c hc k hk),Nat.xor_zero]
   ·by_cases e2:i'<i∧i'≠c
    ·rw [if_pos e2,if_pos ⟨by omega,e2.2⟩]
    ·rw [if_neg e2,if_neg (fun g=>e2 ⟨by omega,g.2⟩)]
  unfold R_Corrected_l11;simp only;rw [hS];simp only [e6,Int.toNat_natCast,RW_len,RW_get hi,RW_get hc,AR_get hx hpi,AR_get hx hpc,nb_len];simp (disch:=omega) only [joinF_eq,bindO_some,s_wr,s_td,s_tm,s_pos,s_neg,cond_true,cond_false,Bool.not_true,Bool.not_false,Bool.true_and,Bool.and_true,Bool.false_and,Bool.and_false,bne_self_eq_false,decide_true,decide_false,Int.toNat_natCast];rw [nb_getD (show c<p+1 by omega),hval];have e50:IntKind.i64.wrap (((i:Nat):Int)+1)=(i:Int)+1:=s_wr (by omega) (by omega);by_cases e:i=c
  ·refine ⟨_,⟨B,keep (.inl e),rfl⟩,?_⟩;rw [bif_neg (by omega)];unfold R_Corrected_j13 R_Corrected_j12;simp only [cond_false,e50]
  rw [bif_pos (by omega)];by_cases e0:M i c=0
  ·refine ⟨_,⟨B,keep (.inr e0),rfl⟩,?_⟩;rw [show decide ((M i c:Int)≠0)=false from decide_eq_false (by omega)];unfold R_Corrected_j13 R_Corrected_j12;simp only [cond_false,e50]
  have hne:π i≠π c:=fun h=>e (hπ.inj i c hi hc h)
  refine ⟨AR xs p (fun j k=>if j=π i then B j k ^^^ mulN (M i c) (B (π c) k) else B j k),⟨_,?_,rfl⟩,?_⟩
  rotate_left
  ·have h14:=l14_r hf hp hx hπ.lt hBl hi hc hne (hM i hi c (by omega)) (v5:=v5) (v6:=(c:Int)) (v7:=v7) (v13:=((i:Int),AR xs p B)) (v15:=(i:Int)) (v16:=(M i c:Int)) (v17:=(decide ((M i c:Int)≠0),AR xs p B)) (by rw [e6] at hS;exact hS) rfl rfl rfl rfl (R_Corrected_j12 fu j);unfold R_Corrected_j13;simp only;rw [e6] at hS;rw [hS];simp only [Int.toNat_natCast,RW_len,RW_get hi,AR_get hx hpi,nb_len];have hz:((M i c:Nat):Int)≠0:=by omega
   rw [decide_eq_true hz] at h14 ⊢;rw [cond_true];simp (disch:=omega) only [joinF_eq,bindO_some,s_wr,s_td,s_tm,s_pos,s_neg,cond_true,cond_false,Bool.not_true,Bool.not_false,Bool.true_and,Bool.and_true,Bool.false_and,Bool.and_false,bne_self_eq_false,decide_true,decide_false,Int.toNat_natCast];simp only [h14];unfold R_Corrected_j12;simp only [e50]
  ·intro i' hi' k hk;dsimp only;by_cases e2:i'=i
   ·subst e2;rw [if_pos rfl,if_pos ⟨by omega,e⟩,hcc k hk,(hB i' hi' k hk).trans (if_neg (by omega))]
   ·have:π i'≠π i:=fun h=>e2 (hπ.inj i' i hi' hi h)
    rw [if_neg this,hB i' hi' k hk];dsimp only;by_cases e3:i'<i∧i'≠c
    ·rw [if_pos e3,if_pos ⟨by omega,e3.2⟩]
    ·rw [if_neg e3,if_neg (fun g=>e3 ⟨by omega,g.2⟩)]
 ·rintro j s ⟨B,hB,rfl⟩
  unfold R_Corrected_l11;simp only;rw [hS,RW_len,bif_neg (by omega),e5,s_wr (by omega) (by omega),show ((c:Int)+1)=((c+1:Nat):Int) by omega]
 ·refine ⟨B,fun i hi k hk=>?_,hl.trans (by rw [hs])⟩;rw [hB i hi k hk];dsimp only;by_cases e:i=c
  ·rw [if_pos e,if_neg (fun h=>h.2 e)]
  ·rw [if_neg e,if_pos ⟨hi,e⟩]
theorem Prm.sw (hπ:Prm p π) {c q:Nat} (hc:c<p) (hq:q<p):Prm p fun i=>π (sw c q i):=by
 refine ⟨fun i hi=>hπ.lt _ (sw_lt hc hq hi),fun i j hi hj h=>?_,fun j hj=>?_⟩
 ·have:=hπ.inj _ _ (sw_lt hc hq hi) (sw_lt hc hq hj) h;have h2:=congrArg (Gf.sw c q) this;rwa [sw_sw,sw_sw] at h2
 ·obtain ⟨i,hi,e⟩:=hπ.sur j hj;exact ⟨Gf.sw c q i,sw_lt hc hq hi,by rw [sw_sw];exact e⟩
theorem l8_r (hp:p≤16) (hx:xs.length=p) (hπ:Prm p π) {M:Nat→Nat→Nat} {y:Nat→Nat} (hy:∀ k,k<p→y k<256) {c:Nat} (hG:GI p c M y) (hR:Rep p A π M) (hc:c<p)
  {v5:Int×List (List Int)×List (Int×Int)} (e5:v5=((c:Int),(AR xs p A,RW p π))) (j3:(Bool×List (List Int)×List Int)→RR) (j5:(Int×List (List Int)×List (Int×Int))→RR) :
  ∃ B ρ N,Prm p ρ∧GI p (c+1) N y∧Rep p B ρ N∧loopF (R_Corrected_l8 fu v5 (c:Int) j3 j5) fu (c:Int)=j5 (((c+1:Nat):Int),(AR xs p B,RW p ρ)):=by
 obtain ⟨q0,hq0,hq1,hq2⟩:=hG.pivot hc;refine postLoop (f:=R_Corrected_l8 fu v5 (c:Int) j3 j5) (fun v:Int=>((p:Int)-v).toNat) (fun v=>∃ q:Nat,v=q∧c≤q∧q≤q0) (fun r=>∃ B ρ N,Prm p ρ∧GI p (c+1) N y∧Rep p B ρ N∧r=j5 (((c+1:Nat):Int),(AR xs p B,RW p ρ))) ?_ fu (c:Int) ⟨c,rfl,Nat.le_refl _,hq0⟩ (by omega)
 rintro j _ ⟨q,rfl,h1,h2⟩
 have hqp:q<p:=by omega
 have hpq:=hπ.lt q hqp;have hpc:=hπ.lt c hc;have hval:A (π q) c=M q c:=hR q hqp c (by omega);by_cases e0:M q c=0
 ·left
  have hne:q≠q0:=fun e=>hq2 (e ▸ e0)
  refine ⟨((q+1:Nat):Int),⟨q+1,rfl,by omega,by omega⟩,by omega,?_⟩;unfold R_Corrected_l8 R_Corrected_j9;subst e5;simp only [Int.toNat_natCast,RW_len,RW_get hqp,AR_get hx hpq,nb_len,nb_getD (show c<p+1 by omega),hval];simp (disch:=omega) only [joinF_eq,bindO_some,s_wr,s_td,s_tm,s_pos,s_neg,cond_true,cond_false,Bool.not_true,Bool.not_false,Bool.true_and,Bool.and_true,Bool.false_and,Bool.and_false,bne_self_eq_false,decide_true,decide_false,Int.toNat_natCast];rw [show ((q:Int)+1)=((q+1:Nat):Int) by omega]
 ·right
  obtain ⟨ρ,hρ⟩:∃ ρ:Nat→Nat,ρ=fun i=>π (sw c q i):=⟨_,rfl⟩
  have hS:List.set (List.set v5.2.2 (Int.toNat (c:Int)) (List.getD v5.2.2 (Int.toNat (q:Int)) (-1,0))) (Int.toNat (q:Int)) (List.getD v5.2.2 (Int.toNat (c:Int)) (-1,0))=RW p ρ:=by
   rw [e5];simp only [Int.toNat_natCast];rw [hρ];exact RW_sw hc hqp
  have hPr:Prm p ρ:=by rw [hρ];exact Prm.sw hf hπ hc hqp
  have hG1:=hG.swap hc h1 hqp;obtain ⟨M1,hM1⟩:∃ M1:Nat→Nat→Nat,M1=fun i=>M (sw c q i):=⟨_,rfl⟩
  have hG1:GI p c M1 y:=by rw [hM1];exact hG1
  have hR1:Rep p A ρ M1:=by rw [hρ,hM1];exact fun i hi k hk=>hR _ (sw_lt hc hqp hi) k hk
  have hswc:sw c q c=q:=if_pos rfl;have hMcc:M1 c c=M q c:=by rw [hM1];show M (sw c q c) c=_;rw [hswc]
  have hb:=hG1.b c hc c (by omega);obtain ⟨f,hf1,hf2,hinv⟩:=inverse_r hf hb (by rw [hMcc];exact e0);have hG2:=hG1.scale hy hc hf1 hf2;have hρc:=hPr.lt c hc;have hv2:A (ρ c) c=M1 c c:=hR1 c hc c (by omega);have hA:∀ j,j<p→∀ k,k≤p→A j k<256:=Rep.lt hf hR1 hPr hG1.b;have h10:=l10_r hf hp hx hPr.lt hA hc hf1 (v5:=v5) (v6:=(c:Int)) (v7:=(q:Int)) (v11:=(f:Int)) (v9:=AR xs p A) hS rfl rfl rfl j5
  have hR2:Rep p (fun j k=>if j=ρ c then mulN (A j k) f else A j k) ρ (fun i k=>if i=c then mulN (M1 i k) f else M1 i k):=by
   intro i hi k hk;dsimp only;by_cases e:i=c
   ·rw [e,if_pos rfl,if_pos rfl,hR1 c hc k hk]
   ·rw [if_neg (fun h=>e (hPr.inj i c hi hc h)),if_neg e,hR1 i hi k hk]
  obtain ⟨B,hB,h11⟩:=l11_r hf hp hx hPr hG2.b hR2 hc (v5:=v5) (v6:=(c:Int)) (v7:=(q:Int)) hS rfl (by rw [e5]) j5;refine ⟨B,ρ,_,hPr,hG2.elim hy hc (by show (if c=c then mulN (M1 c c) f else M1 c c)=1;rw [if_pos rfl];exact hf2),hB,?_⟩;rw [←h11,←h10];unfold R_Corrected_l8 R_Corrected_j9;simp only;rw [hS];have hlen:(List.set v5.2.2 (Int.toNat (c:Int)) (List.getD v5.2.2 (Int.toNat (q:Int)) (-1,0))).length=p:=by rw [List.length_set,e5];exact RW_len
  have hl2:v5.2.2.length=p:=by rw [e5];exact RW_len
  have hg2:v5.2.2.getD q (-1,0)=(((p+π q:Nat):Int),((p+1:Nat):Int)):=by rw [e5];exact RW_get hqp
  have ha2:v5.2.1=AR xs p A:=by rw [e5]
  rw [hlen];simp only [hl2,ha2,Int.toNat_natCast,hg2,RW_len,RW_get hc,AR_get hx hpq,AR_get hx hρc,nb_len,nb_getD (show c<p+1 by omega),hval,hv2,hinv];simp (disch:=omega) only [joinF_eq,bindO_some,s_wr,s_td,s_tm,s_pos,s_neg,cond_true,cond_false,Bool.not_true,Bool.not_false,Bool.true_and,Bool.and_true,Bool.false_and,Bool.and_false,bne_self_eq_false,decide_true,decide_false,Int.toNat_natCast]
end
end Gf
end Go.Proofs.Ytedjnjgnadbkaaa
/- R.Corrected at the places of the check bytes. -/
set_option maxRecDepth 100000
namespace Go.Proofs.Ytedjnjgnadbkaaa
open Go Go.RowKit
set_option linter.unusedSimpArgs false
set_option linter.unusedSectionVars false
set_option linter.unusedVariables false
namespace Gf
theorem bif5 {α:Type} {a b c d e:Prop} [Decidable a] [Decidable b] [Decidable c] [Decidable d] [Decidable e] {x y:α} (ha:a) (hb:b) (hc:c) (hd:d) (he:e):(bif (((decide a&&(decide b&&decide c))&&decide d)&&decide e) then x else y)=x:=by
 rw [decide_eq_true ha,decide_eq_true hb,decide_eq_true hc,decide_eq_true hd,decide_eq_true he];rfl
theorem nb_snoc {n:Nat} {f:Nat→Nat}:nb n f++[((f n:Nat):Int)]=nb (n+1) f:=by
 have:=nb_app (n:=n) (f:=f) (m:=1) (g:=fun _=>f n);rw [←nb_one] at this;rw [this];refine nb_congr fun k hk=>?_
 by_cases c:k<n
 ·rw [if_pos c]
 ·rw [if_neg c,show k=n by omega]
section
variable {fu:Nat} (hf:18446744073709551616≤fu)
variable {p d:Nat} {xs:List (List Int)} {A:Nat→Nat→Nat} {π:Nat→Nat} {dt y:Nat→Nat}
include hf
theorem l15_r (hp:p≤16) (hx:xs.length=p) (hπ:Prm p π) {N:Nat→Nat→Nat} (hR:Rep p A π N) (hN:∀ i,i<p→N i p=y i)
  {word places:List Int} (hpl:places.length=p) {v5:Int×List (List Int)×List (Int×Int)} {v6:List (List Int)} (e5:v5.2.2=RW p π) (e6:v6=AR xs p A) (j3:(Bool×List (List Int)×List Int)→RR) :
  loopF (R_Corrected_l15 fu (word,((p:Int),(places,()))) v5 v6 j3) fu ((0:Int),List.replicate p (0:Int))=j3 (true,(v6,nb p y)):=by
 refine stLoop (n:=p) (st:=fun t=>((t:Int),nb p fun k=>if k<t then y k else 0)) (by omega) ?_ ?_ ?_
 ·rw [nb_rep];exact congrArg (Prod.mk (0:Int)) (nb_congr fun k _=>if_neg (by omega))
 ·intro j i hi;have hpi:=hπ.lt i hi;have hval:A (π i) p=y i:=(hR i hi p (Nat.le_refl _)).trans (hN i hi);unfold R_Corrected_l15;simp only [e5,e6,hpl,Int.toNat_natCast,RW_len,RW_get hi,AR_get hx hpi,nb_len,nb_getD (show p<p+1 by omega),hval];simp (disch:=omega) only [joinF_eq,bindO_some,s_wr,s_td,s_tm,s_pos,s_neg,cond_true,cond_false,Bool.not_true,Bool.not_false,Bool.true_and,Bool.and_true,Bool.false_and,Bool.and_false,bne_self_eq_false,decide_true,decide_false,Int.toNat_natCast];unfold R_Corrected_j16;simp (disch:=omega) only [joinF_eq,bindO_some,s_wr,s_td,s_tm,s_pos,s_neg,cond_true,cond_false,Bool.not_true,Bool.not_false,Bool.true_and,Bool.and_true,Bool.false_and,Bool.and_false,bne_self_eq_false,decide_true,decide_false,Int.toNat_natCast];rw [nb_set,show ((i:Int)+1)=((i+1:Nat):Int) by omega];refine congrArg (fun l=>j (((i+1:Nat):Int),l)) (nb_congr fun k hk=>?_);by_cases e:k=i
  ·rw [if_pos e,if_pos (by omega),e]
  ·rw [if_neg e];by_cases e2:k<i
   ·rw [if_pos e2,if_pos (by omega)]
   ·rw [if_neg e2,if_neg (by omega)]
 ·intro j;unfold R_Corrected_l15;simp only [e5,RW_len];rw [bif_neg (by omega)];exact congrArg (fun l=>j3 (true,(v6,l))) (nb_congr fun k hk=>if_pos hk)
theorem l7_r (hp:p≤16) (hx:xs.length=p) {M:Nat→Nat→Nat} (hy:∀ k,k<p→y k<256) (hG:GI p 0 M y) (hR:Rep p A id M) {word places:List Int} (hpl:places.length=p) (j3:(Bool×List (List Int)×List Int)→RR) :
  ∃ ar,loopF (R_Corrected_l7 fu (word,((p:Int),(places,()))) j3) fu ((0:Int),(AR xs p A,RW p id))=j3 (true,(ar,nb p y)):=by
 refine (foldLoop (f:=R_Corrected_l7 fu (word,((p:Int),(places,()))) j3) (n:=p) (fu:=fu) (by omega) (fun c (s:List (List Int)×List (Int×Int))=>∃ B ρ N,Prm p ρ∧GI p c N y∧Rep p B ρ N∧s=(AR xs p B,RW p ρ))
  (fin:=fun s=>j3 (true,(s.1,nb p y))) (s0:=(AR xs p A,RW p id)) ⟨A,id,M,⟨fun _ h=>h,fun _ _ _ _ h=>h,fun j hj=>⟨j,hj,rfl⟩⟩,hG,hR,rfl⟩ ?_ ?_).elim fun s ⟨_,hl⟩=>⟨s.1,hl⟩
 ·rintro j c s hc ⟨B,ρ,N,h1,h2,h3,rfl⟩
  obtain ⟨B',ρ',N',g1,g2,g3,g4⟩:=l8_r hf hp hx h1 hy h2 h3 hc (v5:=((c:Int),(AR xs p B,RW p ρ))) rfl j3 j;refine ⟨(AR xs p B',RW p ρ'),⟨B',ρ',N',g1,g2,g3,rfl⟩,?_⟩;unfold R_Corrected_l7;simp only [hpl];rw [bif_pos (by omega),g4];rfl
 ·rintro j s ⟨B,ρ,N,h1,h2,h3,rfl⟩
  unfold R_Corrected_l7;simp only [hpl];rw [bif_neg (by omega),bif_and (by omega) (by omega),Int.toNat_natCast];exact l15_r hf hp hx h1 h3 (fun i hi=>h2.last hy hi) hpl rfl rfl j3
theorem l6_r (hp0:0<p) (hp:p≤16) {M:Nat→Nat→Nat} {word places:List Int} (hpl:places.length=p) {v1:List Int} (e1:v1=nb p fun i=>M i p) {v2:Int×List (List Int)×List (Int×Int)}
  (e2:v2.2=(tab p (fun i=>nb p (M i)),tab p fun i=>(((i:Nat):Int),(p:Int)))) (j3:(Bool×List (List Int)×List Int)→RR) :
  loopF (R_Corrected_l6 fu (word,((p:Int),(places,()))) v1 v2 j3) fu ((0:Int),(v2.2.1,List.replicate p ((-1:Int),(0:Int))))=loopF (R_Corrected_l7 fu (word,((p:Int),(places,()))) j3) fu ((0:Int),(AR (tab p fun i=>nb p (M i)) p M,RW p id)):=by
 have hx:(tab p fun i=>nb p (M i)).length=p:=tab_len;refine stLoop (n:=p) (st:=fun t=>((t:Int),((tab p (fun i=>nb p (M i)))++tab t (fun j=>nb (p+1) (M j)),tab p fun i=>if i<t then (((p+i:Nat):Int),((p+1:Nat):Int)) else ((-1:Int),(0:Int))))) (by omega) ?_ ?_ ?_
 ·rw [e2,tab_rep];show ((0:Int),(_++[],_))=_;rw [List.append_nil];exact congrArg (fun l=>((0:Int),(tab p (fun i=>nb p (M i)),l))) (tab_congr fun i _=>if_neg (by omega))
 ·intro j i hi
  have hg:(tab p (fun i=>nb p (M i))++tab i (fun j=>nb (p+1) (M j))).getD i []=nb p (M i):=by
   rw [List.getD_eq_getElem?_getD,List.getElem?_append_left (by rw [hx];exact hi),←List.getD_eq_getElem?_getD,tab_getD hi]
  have hl2:(tab p (fun i=>nb p (M i))++tab i (fun j=>nb (p+1) (M j))).length=p+i:=by rw [List.length_append,hx,tab_len]
  unfold R_Corrected_l6;simp only [e2,e1,Int.toNat_natCast,tab_len,tab_getD hi,hg,nb_len,List.nil_append,nb_getD hi,List.length_nil,List.length_append,List.length_singleton,List.length_cons,hx];simp (disch:=omega) only [joinF_eq,bindO_some,s_wr,s_td,s_tm,s_pos,s_neg,cond_true,cond_false,Bool.not_true,Bool.not_false,Bool.true_and,Bool.and_true,Bool.false_and,Bool.and_false,bne_self_eq_false,decide_true,decide_false,Int.toNat_natCast];rw [nb_snoc,tab_set,List.append_assoc,tab_app,show ((i:Int)+1)=((i+1:Nat):Int) by omega]
  have hA:(tab (i+1) fun k=>if k=i then nb (p+1) (M i) else nb (p+1) (M k))=tab (i+1) fun k=>nb (p+1) (M k):=tab_congr fun k _=>by
   by_cases e:k=i
   ·rw [if_pos e,e]
   ·rw [if_neg e]
  rw [hA];refine congrArg (fun (r:List (Int×Int))=>j (((i+1:Nat):Int),((tab p fun i=>nb p (M i))++tab (i+1) (fun k=>nb (p+1) (M k)),r))) (tab_congr fun k _=>?_)
  ·by_cases e:k=i
   ·rw [if_pos e,if_pos (by omega),e,Nat.zero_add]
   ·rw [if_neg e];by_cases e2:k<i
    ·rw [if_pos e2,if_pos (by omega)]
    ·rw [if_neg e2,if_neg (by omega)]
 ·intro j;unfold R_Corrected_l6;simp only [e2,tab_len];rw [bif_neg (by omega)];exact congrArg (fun (r:List (Int×Int))=>loopF (R_Corrected_l7 fu (word,((p:Int),(places,()))) j3) fu ((0:Int),(AR (tab p fun i=>nb p (M i)) p M,r))) (tab_congr fun k hk=>if_pos hk)
theorem l2_r (hp0:0<p) (hp:p≤16) {M:Nat→Nat→Nat} (hM:∀ i,i<p→∀ k,k<p→M i k=pw 2 (i*(p-1-k))) {word places:List Int} (hw:word.length=d+p) (hd:d≤255) (hpl:places=tab p fun k=>((d+k:Nat):Int)) {i:Nat} (hi:i<p) {v2:Int×List (List Int)×List (Int×Int)}
  (e1:v2.1=i) (e2:v2.2=(tab i (fun i=>nb p (M i)),tab p fun j=>if j<i then (((j:Nat):Int),(p:Int)) else ((-1:Int),(0:Int)))) (j2:(Int×List (List Int)×List (Int×Int))→RR) :
  loopF (R_Corrected_l2 fu (word,((p:Int),(places,()))) v2 (i:Int) j2) fu ((0:Int),v2.2)=j2 (((i+1:Nat):Int),(tab (i+1) (fun i=>nb p (M i)),tab p fun j=>if j<i+1 then (((j:Nat):Int),(p:Int)) else ((-1:Int),(0:Int)))):=by
 have hlp:places.length=p:=by rw [hpl];exact tab_len
 refine stLoop (n:=p) (st:=fun u=>((u:Int),(tab i (fun i=>nb p (M i))++(if u=0 then [] else [nb u (M i)]),tab p fun j=>if j<i then (((j:Nat):Int),(p:Int)) else if j=i∧0<u then (((i:Nat):Int),(u:Int)) else ((-1:Int),(0:Int))))) (by omega) ?_ ?_ ?_
 ·rw [e2];show ((0:Int),(_++[],_))=_;rw [List.append_nil];refine congrArg (fun l=>((0:Int),(tab i (fun i=>nb p (M i)),l))) (tab_congr fun k _=>?_);by_cases e:k<i
  ·rw [if_pos e,if_pos e]
  ·rw [if_neg e,if_neg e,if_neg (by omega)]
 ·intro j u hu;have hgp:places.getD u 0=((d+u:Nat):Int):=by rw [hpl];exact tab_getD hu
  have hb:i*(p-1-u)≤16*16:=Nat.mul_le_mul (by omega) (by omega)
  have ex:IntKind.i64.wrap ((i:Int)*IntKind.i64.wrap (IntKind.i64.wrap (((d+p:Nat):Int)-1)-((d+u:Nat):Int)))=((i*(p-1-u):Nat):Int):=by
   rw [s_wr (x:=((d+p:Nat):Int)-1) (by omega) (by omega),s_wr (x:=((d+p:Nat):Int)-1-((d+u:Nat):Int)) (by omega) (by omega),show ((d+p:Nat):Int)-1-((d+u:Nat):Int)=((p-1-u:Nat):Int) by omega,←Int.natCast_mul];generalize i*(p-1-u)=z at hb;exact s_wr (by omega) (by omega)
  have hex:R_Exp_r fu (((i*(p-1-u):Nat):Int),())=some (((M i u:Nat):Int),()):=by rw [hM i hi u hu];exact exp_r hf (by omega)
  have hgr:(tab p fun j=>if j<i then (((j:Nat):Int),(p:Int)) else if j=i∧0<u then (((i:Nat):Int),(u:Int)) else ((-1:Int),(0:Int))).getD i (-1,0)=if 0<u then (((i:Nat):Int),(u:Int)) else ((-1:Int),(0:Int)):=by
   rw [tab_getD hi,if_neg (by omega)];by_cases c:0<u
   ·rw [if_pos ⟨rfl,c⟩,if_pos c]
   ·rw [if_neg (fun h=>c h.2),if_neg c]
  have hlt:(tab i fun i=>nb p (M i)).length=i:=tab_len;unfold R_Corrected_l2 R_Corrected_j3;generalize hX:(140737488355328:Int)=X;generalize hY:(4294967296:Int)=Y;simp only [hlp,hw,Int.toNat_natCast,hgp,tab_len,ex,hgr];by_cases c:0<u
  ·simp only [if_pos c,if_neg (show ¬ u=0 by omega),Int.toNat_natCast]
   have hga:(tab i (fun i=>nb p (M i))++[nb u (M i)]).getD i []=nb u (M i):=by
    rw [List.getD_eq_getElem?_getD,List.getElem?_append_right (by omega),hlt,Nat.sub_self];rfl
   have hla:(tab i (fun i=>nb p (M i))++[nb u (M i)]).length=i+1:=by rw [List.length_append,hlt];rfl
   rw [bif_pos (by omega),joinF_eq,bif_and (by omega) (by omega),bif_and (by omega) (by omega),hex,bindO_some,bif_and (by omega) (by omega),bif5 (by omega) (by omega) (by rw [hga,nb_len]) (by rw [hla];omega) (by rw [hga,nb_len];simp only [List.length_cons,List.length_nil];omega),bif_and (by omega) (by omega)];simp only [hga];rw [s_wr (by omega) (by omega)]
   have hsa:((tab i fun i=>nb p (M i))++[nb u (M i)]).set i (nb (u+1) (M i))=(tab i fun i=>nb p (M i))++[nb (u+1) (M i)]:=by
    rw [List.set_append_right _ _ (by omega),hlt,Nat.sub_self];rfl
   rw [nb_snoc,hsa,tab_set,if_neg (show ¬ u+1=0 by omega),show ((u:Int)+1)=((u+1:Nat):Int) by omega];refine congrArg (fun (r:List (Int×Int))=>j (((u+1:Nat):Int),((tab i fun i=>nb p (M i))++[nb (u+1) (M i)],r))) (tab_congr fun k _=>?_);by_cases e:k=i
   ·rw [if_pos e,if_neg (by omega),if_pos ⟨e,by omega⟩];exact congrArg (Prod.mk _) (by simp only [List.length_cons,List.length_nil];omega)
   ·rw [if_neg e];by_cases e2:k<i
    ·rw [if_pos e2,if_pos e2]
    ·rw [if_neg e2,if_neg (fun h=>e h.1),if_neg e2,if_neg (fun h=>e h.1)]
  ·simp only [if_neg c,if_pos (show u=0 by omega)];rw [bif_pos (by omega),joinF_eq,bif_and (by omega) (by omega),bif_and (by omega) (by omega),hex,bindO_some,bif_nand (by omega),bif_pos (by simp only [List.length_cons,List.length_nil];omega),bif_and (by omega) (by omega),bif_and (by simp only [List.length_cons,List.length_nil];omega) (by rw [List.append_nil,hlt];omega)];simp only [List.append_nil,hlt,List.length_cons,List.length_nil];rw [s_wr (by omega) (by omega)];have hu0:u=0:=by omega
   subst hu0;have h1:nb (0+1) (M i)=[((M i 0:Nat):Int)]:=rfl;rw [tab_set,if_neg (show ¬ 0+1=0 by omega),h1];refine congrArg (fun (r:List (Int×Int))=>j (((0+1:Nat):Int),((tab i fun i=>nb p (M i))++[[((M i 0:Nat):Int)]],r))) (tab_congr fun k _=>?_);by_cases e:k=i
   ·rw [if_pos e,if_neg (by omega),if_pos ⟨e,by omega⟩]
   ·rw [if_neg e];by_cases e2:k<i
    ·rw [if_pos e2,if_pos e2]
    ·rw [if_neg e2,if_neg (fun h=>e h.1),if_neg e2,if_neg (fun h=>e h.1)]
 ·intro j;unfold R_Corrected_l2;simp only [hlp,e1]
  have hA:(tab p fun j=>if j<i then (((j:Nat):Int),(p:Int)) else if j=i∧0<p then (((i:Nat):Int),(p:Int)) else ((-1:Int),(0:Int)))=tab p fun j=>if j<i+1 then (((j:Nat):Int),(p:Int)) else ((-1:Int),(0:Int)):=tab_congr fun k _=>by
   by_cases e:k=i
   ·rw [if_neg (by omega),if_pos ⟨e,hp0⟩,if_pos (by omega),e]
   ·by_cases e2:k<i
    ·rw [if_pos e2,if_pos (by omega)]
    ·rw [if_neg e2,if_neg (fun h=>e h.1),if_neg (by omega)]
  have hB:(tab i fun i=>nb p (M i))++[nb p (M i)]=tab (i+1) fun i=>nb p (M i):=by
   rw [tab_app]
   exact tab_congr fun k _=>by
    by_cases e:k=i
    ·rw [if_pos e,e]
    ·rw [if_neg e]
  rw [bif_neg (by omega),s_wr (by omega) (by omega),if_neg (by omega),hA,hB];rfl
end
end Gf
end Go.Proofs.Ytedjnjgnadbkaaa
/- Residual programs of functions (printed by a program out of the code),checked by the kernel,and the contracts that follow. -/
namespace Go.Proofs.Ytedjnjgnadbkaaa
open Go Go.RowKit
set_option linter.unusedVariables false
noncomputable section
def R_Checks_l1 (fu:Nat) (a:List Int×Int×Unit) (j0:(Int×List Int)→Option (List Int×Unit)) (v0:Int×List Int):Option (List Int×Unit) :=
 bif (decide (v0.1<a.2.1)) then
  let v1:Int:=v0.1
  bif (decide ((((List.length v0.2:Int)+(List.length ([(IntKind.i64.wrap ((List.length a.1:Int)+v1))]:List Int):Int))*(8:Int))≤(140737488355328:Int))) then
  j0 (((IntKind.i64.wrap (v0.1+(1:Int))),(v0.2++([(IntKind.i64.wrap ((List.length a.1:Int)+v1))]:List Int))))
  else none
 else
 bindO (R_Corrected_r fu ((((([]:List (Int))++a.1)++(List.replicate (Int.toNat a.2.1) (0:Int))),(a.2.1,(v0.2,()))))) fun v1 =>
 let v2:List Int:=v1.1
 let v3:Bool:=v1.2.1
 bif (decide ((List.length v2:Int)<(List.length a.1:Int))) then
  some ((([]:List (Int)),()))
 else
 bif ((decide ((0:Int)≤(List.length a.1:Int)))&&(decide ((List.length a.1:Int)≤(List.length v2:Int)))) then
 let v4:List Int:=(List.drop (Int.toNat (List.length a.1:Int)) (List.take (Int.toNat (List.length v2:Int)) v2))
 some ((v4,()))
 else none
def R_Checks_r (fu:Nat) (a:List Int×Int×Unit):Option (List Int×Unit) :=
 bif (decide ((((List.length ([]:List (Int)):Int)+(List.length a.1:Int))*(1:Int))≤(140737488355328:Int))) then
 bif ((decide ((0:Int)≤a.2.1))&&((decide ((List.length (([]:List (Int))++a.1):Int)≤(500000:Int)))&&(decide (a.2.1≤(500000:Int))))) then
 loopF (R_Checks_l1 fu a) fu (((0:Int),([]:List (Int))))
 else none
 else none
def R_Checks_an:An:=(.n none .z (.n none .z (.n none .z (.n none (.n none .z (.n none (.n (some ⟨[0,1,5,15,4],[0],[(6,(.osl 1 0))],[.reg 16 (.int .i64),.row 1 true (.int .i64) 3 0],1,[(6,(.int .i64),3)]⟩) (.n none .z (.n none .z (.n none (.n none (.n none .z .z) .z) .z))) .z) .z)) (.n none .z (.n none (.n none .z (.n none (.n none .z .z) .z)) (.n none .z .z)))))))
noncomputable def R_Checks_dc:List (Nat×Ctr):=[(77,R_Corrected_ctr)]
def R_Checks_ctr:Ctr:=⟨(.pair (.list (.int .u8)) (.pair (.int .i64) .unit)),(.pair (.list (.int .u8)) .unit),R_Checks_r,27⟩
theorem R_Checks_ok:CtrOk Try.prog 27 R_Checks_ctr:=ctr_ok (l:=R_Checks_dc) (f:=12) (an:=R_Checks_an) ⟨R_Corrected_ok,trivial⟩ fun fu x=>by kernel_rfl
def law_none_r (fu:Nat) (a:Bool×Int×Int×Unit):Option (Bool×Unit) :=
 bif a.1 then
  let v0:Bool:=(decide (a.2.1=a.2.2.1))
  some ((v0,()))
 else
 some ((false,()))
def law_none_an:An:=(.n none .z (.n none .z .z))
noncomputable def law_none_dc:List (Nat×Ctr):=[]
def law_none_ctr:Ctr:=⟨(.pair .bool (.pair (.int .i64) (.pair (.int .i64) .unit))),(.pair .bool .unit),law_none_r,21⟩
theorem law_none_ok:CtrOk Try.prog 21 law_none_ctr:=ctr_ok (l:=law_none_dc) (f:=12) (an:=law_none_an) trivial fun fu x=>by kernel_rfl
def R_Within_r (fu:Nat) (a:Int×Int×Int×Unit):Option (Bool×Unit) :=
 bif (decide (a.2.1≤a.1)) then
  let v0:Bool:=(decide (a.1≤a.2.2.1))
  some ((v0,()))
 else
 some ((false,()))
def R_Within_an:An:=(.n none .z (.n none .z .z))
noncomputable def R_Within_dc:List (Nat×Ctr):=[]
def R_Within_ctr:Ctr:=⟨(.pair (.int .i64) (.pair (.int .i64) (.pair (.int .i64) .unit))),(.pair .bool .unit),R_Within_r,20⟩
theorem R_Within_ok:CtrOk Try.prog 20 R_Within_ctr:=ctr_ok (l:=R_Within_dc) (f:=12) (an:=R_Within_an) trivial fun fu x=>by kernel_rfl
def law_ReedsolomonChecks_j4 (fu:Nat) (a:List Int×Int×Unit) (v2:List Int) (v3:Int) (v13:Unit):Option (Bool×Unit) :=
 bif (decide (v3=(0:Int))) then
  bif (decide ((((List.length ([]:List (Int)):Int)+(List.length a.1:Int))*(1:Int))≤(140737488355328:Int))) then
  bindO (R_Checks_r fu ((a.1,(a.2.1,())))) fun v14 =>
  bif (decide ((((List.length (([]:List (Int))++a.1):Int)+(List.length v14.1:Int))*(1:Int))≤(140737488355328:Int))) then
  bindO (R_SameBytes_r fu ((v2,(((([]:List (Int))++a.1)++v14.1),())))) fun v15 =>
  let v16:Bool:=v15.1
  some ((v16,()))
  else none
  else none
 else
 some ((false,()))
def law_ReedsolomonChecks_j6 (fu:Nat) (j15:(Bool×Int)→Option (Bool×Unit)) (v16:Int×Bool):Option (Bool×Unit) :=
 j15 ((v16.2,(IntKind.i64.wrap (v16.1+(1:Int)))))
def law_ReedsolomonChecks_j7 (fu:Nat) (j13:(Unit)→Option (Bool×Unit)) (v16:Bool):Option (Bool×Unit) :=
 bif v16 then
  some ((false,()))
 else
 j13 (())
def law_ReedsolomonChecks_l5 (fu:Nat) (v5:Bool) (v6:Int) (v14:List Int×Unit) (j13:(Unit)→Option (Bool×Unit)) (j15:(Bool×Int)→Option (Bool×Unit)) (v15:Bool×Int):Option (Bool×Unit) :=
 bif (decide (v15.2<(List.length v14.1:Int))) then
  joinF (law_ReedsolomonChecks_j6 fu j15) fun j16 =>
  bif ((decide ((0:Int)≤v15.2))&&(decide (v15.2<(List.length v14.1:Int)))) then
  let v17:Int:=(List.getD v14.1 (Int.toNat v15.2) 0)
  bif v15.1 then
   let v18:Bool:=(decide (v17=(0:Int)))
   j16 ((v15.2,v18))
  else
  j16 ((v15.2,false))
  else none
 else
 joinF (law_ReedsolomonChecks_j7 fu j13) fun j16 =>
 bif (decide (v6≠(0:Int))) then
  j16 (true)
 else
 j16 ((v5 != v15.1))
def law_ReedsolomonChecks_j3 (fu:Nat) (a:List Int×Int×Unit) (v2:List Int) (v3:Int) (v5:Bool) (v6:Int) (v8:Int) (v12:Bool):Option (Bool×Unit) :=
 bif v12 then
  bif (decide (v3=(0:Int))) then
   let v13:Bool:=(decide ((List.length v2:Int)=(IntKind.i64.wrap ((List.length a.1:Int)+a.2.1))))
   some ((v13,()))
  else
  some ((false,()))
 else
 joinF (law_ReedsolomonChecks_j4 fu a v2 v3) fun j13 =>
 bif (decide (v8=(0:Int))) then
  bindO (R_Syndromes_r fu ((a.1,(a.2.1,())))) fun v14 =>
  loopF (law_ReedsolomonChecks_l5 fu v5 v6 v14 j13) fu ((true,(0:Int)))
 else
 j13 (())
def law_ReedsolomonChecks_j2 (fu:Nat) (a:List Int×Int×Unit) (v2:List Int) (v3:Int) (v5:Bool) (v6:Int) (v8:Int) (v9:Bool):Option (Bool×Unit) :=
 bif v9 then
  some ((false,()))
 else
 let v10:Bool:=(decide ((List.length a.1:Int)=(0:Int)))
 bif v10 then
  bindO (law_none_r fu (((decide ((List.length v2:Int)=(0:Int))),(v3,((1:Int),()))))) fun v11 =>
  let v12:Bool:=v11.1
  some ((v12,()))
 else
 let v11:Bool:=(decide ((255:Int)<(IntKind.i64.wrap ((List.length a.1:Int)+a.2.1))))
 bif v11 then
  bindO (law_none_r fu (((decide ((List.length v2:Int)=(0:Int))),(v3,((2:Int),()))))) fun v12 =>
  let v13:Bool:=v12.1
  some ((v13,()))
 else
 joinF (law_ReedsolomonChecks_j3 fu a v2 v3 v5 v6 v8) fun j12 =>
 let v13:Bool:=(decide ((8:Int)<a.2.1))
 bif v13 then
  j12 (v13)
 else
 let v14:Bool:=(decide ((40:Int)<(List.length a.1:Int)))
 j12 (v14)
def law_ReedsolomonChecks_j1 (fu:Nat) (a:List Int×Int×Unit) (v2:List Int) (v3:Int) (v5:Bool) (v6:Int) (v8:Int):Option (Bool×Unit) :=
 joinF (law_ReedsolomonChecks_j2 fu a v2 v3 v5 v6 v8) fun j9 =>
 bif (decide (v8≠(0:Int))) then
  bindO (law_none_r fu (((!v5),(v6,(v8,()))))) fun v10 =>
  j9 ((!v10.1))
 else
 j9 (false)
def law_ReedsolomonChecks_r (fu:Nat) (a:List Int×Int×Unit):Option (Bool×Unit) :=
 bindO (law_reedsolomonWorks_r fu (())) fun v0 =>
 bif (!v0.1) then
  some ((false,()))
 else
 bindO (reedsolomon_Encode_r fu ((a.1,(a.2.1,())))) fun v1 =>
 let v2:List Int:=v1.1
 let v3:Int:=v1.2.1
 bindO (reedsolomon_Valid_r fu ((a.1,(a.2.1,())))) fun v4 =>
 let v5:Bool:=v4.1
 let v6:Int:=v4.2.1
 bindO (R_Within_r fu ((a.2.1,((1:Int),((64:Int),()))))) fun v7 =>
 bif (!v7.1) then
  bindO (law_none_r fu (((decide ((List.length v2:Int)=(0:Int))),(v3,((3:Int),()))))) fun v8 =>
  bif v8.1 then
   bindO (law_none_r fu (((!v5),(v6,((3:Int),()))))) fun v9 =>
   let v10:Bool:=v9.1
   some ((v10,()))
  else
  some ((false,()))
 else
 joinF (law_ReedsolomonChecks_j1 fu a v2 v3 v5 v6) fun j8 =>
 let v9:Bool:=(decide ((255:Int)<(List.length a.1:Int)))
 bif v9 then
  j8 ((2:Int))
 else
 let v10:Bool:=(decide ((List.length a.1:Int)≤a.2.1))
 bif v10 then
  j8 ((12:Int))
 else
 j8 ((0:Int))
def law_ReedsolomonChecks_an:An:=(.n none .z (.n none (.n none .z (.n none (.n none .z .z) .z)) (.n none .z (.n none .z (.n none (.n none .z (.n none (.n none .z .z) .z)) (.n none .z (.n (some ⟨[8,7,6,5,0,1],[],[],[.reg 9 (.int .i64)],0,[]⟩) (.n none (.n none .z (.n none .z (.n none .z (.n none .z .z)))) .z) (.n none (.n (some ⟨[9],[],[],[.reg 59 .bool],0,[]⟩) .z (.n none (.n none .z .z) .z)) (.n none (.n none (.n none .z (.n none (.n none .z .z) (.n none .z (.n none (.n none .z .z) (.n (some ⟨[9],[],[],[.reg 80 .bool],0,[]⟩) (.n none .z (.n none .z .z)) (.n none (.n none .z .z) .z)))))) .z) (.n (some ⟨[],[],[],[],0,[]⟩) (.n none .z (.n none (.n none .z (.n none (.n none .z (.n none (.n (some ⟨[101,102],[],[],[.reg 10 .bool,.reg 103 (.int .i64)],0,[]⟩) (.n none .z (.n none .z (.n (some ⟨[],[],[],[.reg 103 (.int .i64),.reg 10 .bool],0,[]⟩) (.n none (.n none .z .z) .z) .z))) .z) .z)) (.n (some ⟨[],[],[],[.reg 119 .bool],0,[]⟩) .z (.n none (.n none .z .z) .z)))) .z)) (.n none .z .z)))))))))))
noncomputable def law_ReedsolomonChecks_dc:List (Nat×Ctr):=[(14,law_reedsolomonWorks_ctr),(20,R_Within_ctr),(21,law_none_ctr),(23,R_SameBytes_ctr),(24,reedsolomon_Encode_ctr),(25,reedsolomon_Valid_ctr),(26,R_Syndromes_ctr),(27,R_Checks_ctr)]
def law_ReedsolomonChecks_ctr:Ctr:=⟨(.pair (.list (.int .u8)) (.pair (.int .i64) .unit)),(.pair .bool .unit),law_ReedsolomonChecks_r,5⟩
theorem law_ReedsolomonChecks_ok:CtrOk Try.prog 5 law_ReedsolomonChecks_ctr:=ctr_ok (l:=law_ReedsolomonChecks_dc) (f:=12) (an:=law_ReedsolomonChecks_an) ⟨law_reedsolomonWorks_ok,⟨R_Within_ok,⟨law_none_ok,⟨R_SameBytes_ok,⟨reedsolomon_Encode_ok,⟨reedsolomon_Valid_ok,⟨R_Syndromes_ok,⟨R_Checks_ok,trivial⟩⟩⟩⟩⟩⟩⟩⟩ fun fu x=>by kernel_rfl
end
end Go.Proofs.Ytedjnjgnadbkaaa
/- What R.Corrected and R.Checks return. -/
set_option maxRecDepth 100000
namespace Go.Proofs.Ytedjnjgnadbkaaa
open Go Go.RowKit
set_option linter.unusedSimpArgs false
set_option linter.unusedSectionVars false
set_option linter.unusedVariables false
namespace Gf
theorem sum_tail {d:Nat} {f:Nat→Nat}:∀ {p:Nat},(∀ j,d≤j→j<d+p→f j=0)→sum (d+p) f=sum d f
 | 0,_=>rfl
 | p+1,h=>by
  rw [show d+(p+1)=(d+p)+1 by omega,sum_succ,h (d+p) (by omega) (by omega),Nat.xor_zero];exact sum_tail fun j h1 h2=>h j h1 (by omega)
def mat (p d:Nat) (dt:Nat→Nat) (i k:Nat):Nat:=if k<p then pw 2 (i*(p-1-k)) else sum d (fun j=>mulN (dt j) (pw 2 (i*(d+p-1-j))))
def wz (d:Nat) (dt:Nat→Nat) (j:Nat):Nat:=if j<d then dt j else 0
def wc (d:Nat) (dt y:Nat→Nat) (j:Nat):Nat:=if j<d then dt j else y (j-d)
section
variable {fu:Nat} (hf:18446744073709551616≤fu)
variable {p d:Nat} {dt y:Nat→Nat}
include hf
theorem l1_r (hp0:0<p) (hp:p≤16) (hd0:d≤255) {v1:List Int} {word places:List Int} (hw:word.length=d+p) (hpl:places=tab p fun k=>((d+k:Nat):Int)) {M:Nat→Nat→Nat} (hM:∀ i,i<p→∀ k,k<p→M i k=pw 2 (i*(p-1-k))) (hy:∀ k,k<p→y k<256) (hG:GI p 0 M y) (e1:v1=nb p fun i=>M i p) :
  ∃ ar,loopF (R_Corrected_l1 fu (word,((p:Int),(places,()))) v1) fu ((0:Int),(([]:List (List Int)),List.replicate p ((-1:Int),(0:Int))))=R_Corrected_j4 fu (word,((p:Int),(places,()))) (true,(ar,nb p y)):=by
 have hlp:places.length=p:=by rw [hpl];exact tab_len
 have hx:(tab p fun i=>nb p (M i)).length=p:=tab_len;obtain ⟨ar,h7⟩:=l7_r hf hp hx hy hG (A:=M) (fun _ _ _ _=>rfl) hlp (R_Corrected_j4 fu (word,((p:Int),(places,()))));refine ⟨ar,?_⟩;rw [←h7];refine stLoop (n:=p) (st:=fun t=>((t:Int),(tab t (fun i=>nb p (M i)),tab p fun j=>if j<t then (((j:Nat):Int),(p:Int)) else ((-1:Int),(0:Int))))) (by omega) ?_ ?_ ?_
 ·rw [tab_rep];exact congrArg (fun l=>((0:Int),(([]:List (List Int)),l))) (tab_congr fun i _=>if_neg (by omega))
 ·intro j i hi;unfold R_Corrected_l1;simp only [Int.toNat_natCast,List.length_replicate];rw [bif_pos (by omega),l2_r hf hp0 hp hM hw hd0 hpl hi rfl rfl]
 ·intro j;unfold R_Corrected_l1;simp only [Int.toNat_natCast,List.length_replicate,hlp,tab_len];rw [bif_neg (by omega),bif_neg (by omega),joinF_eq,bif_and (by omega) (by omega)];exact l6_r hf hp0 hp hlp e1 (v2:=((p:Int),(tab p (fun i=>nb p (M i)),tab p fun j=>if j<p then (((j:Nat):Int),(p:Int)) else ((-1:Int),(0:Int))))) (congrArg (Prod.mk _) (tab_congr fun k hk=>if_pos hk)) _
theorem j4_r (hp:p≤16) (hd0:d≤255) (hd:∀ k,dt k<256) (hy:∀ k,k<p→y k<256) {places:List Int} (hpl:places=tab p fun k=>((d+k:Nat):Int)) (n:Int) (ar:List (List Int)) :
  R_Corrected_j4 fu (nb (d+p) (wz d dt),(n,(places,()))) (true,(ar,nb p y))=some (nb (d+p) (wc d dt y),(true,())):=by
 have hlp:places.length=p:=by rw [hpl];exact tab_len
 unfold R_Corrected_j4;simp only [Bool.not_true,cond_false,List.nil_append];rw [bif_pos (by rw [nb_len];simp only [List.length_nil];omega)];refine stLoop (n:=p) (st:=fun t=>((t:Int),nb (d+p) fun j=>if j<d then dt j else if j-d<t then y (j-d) else 0)) (by omega) ?_ ?_ ?_
 ·refine congrArg (Prod.mk (0:Int)) (nb_congr fun k hk=>?_);unfold wz;by_cases c:k<d
  ·rw [if_pos c,if_pos c]
  ·rw [if_neg c,if_neg c,if_neg (by omega)]
 ·intro j t ht;have hgp:places.getD t 0=((d+t:Nat):Int):=by rw [hpl];exact tab_getD ht
  have hv:(nb (d+p) fun j=>if j<d then dt j else if j-d<t then y (j-d) else 0).getD (d+t) 0=((0:Nat):Int):=by
   rw [nb_getD (by omega),if_neg (by omega),if_neg (by omega)]
  unfold R_Corrected_l5;simp only [hlp,Int.toNat_natCast,hgp,nb_len,nb_getD ht,hv];rw [bif_pos (by omega),bif_and (by omega) (by omega),bif_and (by omega) (by omega),bif_and (by omega) (by omega),bif_and (by omega) (by omega),s_wr (by omega) (by omega),xor_c hf (by omega) (hy t ht),Nat.zero_xor,nb_set,show ((t:Int)+1)=((t+1:Nat):Int) by omega];refine congrArg (fun l=>j (((t+1:Nat):Int),l)) (nb_congr fun k hk=>?_);by_cases e:k=d+t
  ·rw [if_pos e,if_neg (by omega),if_pos (by omega),e,Nat.add_sub_cancel_left]
  ·rw [if_neg e];by_cases c:k<d
   ·rw [if_pos c,if_pos c]
   ·rw [if_neg c,if_neg c];by_cases c2:k-d<t
    ·rw [if_pos c2,if_pos (by omega)]
    ·rw [if_neg c2,if_neg (by omega)]
 ·intro j;unfold R_Corrected_l5;simp only [hlp];rw [bif_neg (by omega)];refine congrArg (fun l=>some (l,(true,()))) (nb_congr fun k hk=>?_);unfold wc;by_cases c:k<d
  ·rw [if_pos c,if_pos c]
  ·rw [if_neg c,if_neg c,if_pos (by omega)]
theorem corr_r (hp0:0<p) (hp:p≤16) (hd0:d≤255) (hd:∀ k,dt k<256) {places:List Int} (hpl:places=tab p fun k=>((d+k:Nat):Int)) :
  R_Corrected_r fu (nb (d+p) (wz d dt),((p:Int),(places,())))=some (nb (d+p) (wc d dt (rest p d dt)),(true,())):=by
 have hwz:∀ k,wz d dt k<256:=fun k=>by
  unfold wz;split
  ·exact hd k
  ·decide
 have hG:GI p 0 (mat p d dt) (rest p d dt):=start hp0 hp hd (fun i hi k hk=>if_pos hk) (fun i hi=>if_neg (by omega))
 have hs:(nb p fun i=>sum (d+p) fun j=>mulN (wz d dt j) (pw 2 (i*(d+p-1-j))))=nb p fun i=>mat p d dt i p:=nb_congr fun i hi=>by
  have e1:sum (d+p) (fun j=>mulN (wz d dt j) (pw 2 (i*(d+p-1-j))))=sum d (fun j=>mulN (wz d dt j) (pw 2 (i*(d+p-1-j)))):=sum_tail fun j h1 h2=>by
   unfold wz;rw [if_neg (by omega),zero_mul (pw_lt (by decide) _)]
  rw [e1];unfold mat;rw [if_neg (by omega)];exact sum_congr fun j hj=>by unfold wz;rw [if_pos hj]
 obtain ⟨ar,h1⟩:=l1_r hf hp0 hp hd0 (word:=nb (d+p) (wz d dt)) (nb_len _ _) hpl (M:=mat p d dt) (fun i hi k hk=>if_pos hk) (fun k _=>rest_lt hd k) hG hs;unfold R_Corrected_r;simp only;rw [syn_r hf hwz (by omega) (by omega),bindO_some,bif_and (by omega) (by omega),Int.toNat_natCast];rw [h1];exact j4_r hf hp hd0 hd (fun k _=>rest_lt hd k) hpl _ ar
theorem checks_r (hp0:0<p) (hp:p≤16) (hd0:d≤255) (hd:∀ k,dt k<256):R_Checks_r fu (nb d dt,((p:Int),()))=some (nb p (rest p d dt),()):=by
 have hw:([]++nb d dt)++List.replicate p (0:Int)=nb (d+p) (wz d dt):=by
  rw [List.nil_append,nb_rep,nb_app];exact nb_congr fun k _=>rfl
 unfold R_Checks_r;simp only [List.nil_append,nb_len];rw [bif_pos (by simp only [List.length_nil];omega)]
 have hg:((decide ((0:Int)≤(p:Int)))&&((decide ((d:Int)≤(500000:Int)))&&(decide ((p:Int)≤(500000:Int)))))=true:=by
  rw [s_pos (by omega),s_pos (by omega),s_pos (by omega)];rfl
 rw [hg,cond_true];refine stLoop (n:=p) (st:=fun t=>((t:Int),tab t fun k=>((d+k:Nat):Int))) (by omega) rfl ?_ ?_
 ·intro j t ht;unfold R_Checks_l1;simp only [nb_len,tab_len];rw [bif_pos (by omega),bif_pos (by simp only [List.length_cons,List.length_nil];omega),s_wr (by omega) (by omega),s_wr (by omega) (by omega),show ((t:Int)+1)=((t+1:Nat):Int) by omega,show ((d:Int)+(t:Int))=((d+t:Nat):Int) by omega,tab_app];refine congrArg (fun l=>j (((t+1:Nat):Int),l)) (tab_congr fun k _=>?_);by_cases e:k=t
  ·rw [if_pos e,e]
  ·rw [if_neg e]
 ·intro j;unfold R_Checks_l1;simp only [nb_len,Int.toNat_natCast,List.nil_append];rw [List.nil_append] at hw;rw [bif_neg (by omega),hw,corr_r hf hp0 hp hd0 hd rfl,bindO_some];simp only [nb_len];rw [bif_neg (by omega),bif_and (by omega) (by omega)];refine congrArg (fun l=>some (l,())) (List.ext_getElem (by rw [List.length_drop,List.length_take,nb_len,nb_len];omega) fun i h1 h2=>?_);rw [List.getElem_drop,List.getElem_take,nb_getElem,nb_getElem];unfold wc;rw [if_neg (by omega),Nat.add_sub_cancel_left]
end
end Gf
end Go.Proofs.Ytedjnjgnadbkaaa
/- ReedsolomonChecks: the law in plain words. -/
set_option maxRecDepth 100000
namespace Go.Proofs.Ytedjnjgnadbkaaa
open Go Go.RowKit
set_option linter.unusedSimpArgs false
set_option linter.unusedSectionVars false
set_option linter.unusedVariables false
namespace Gf
section
variable {fu:Nat} (hf:18446744073709551616≤fu)
include hf
theorem encode_e {l:List Int} {q:Int} (hl:(l.length:Int)≤1000000000000000000):(q<1∨64<q→reedsolomon_Encode_r fu (l,(q,()))=some ([],(3,()))) ∧
  (1≤q→q≤64→l.length=0→reedsolomon_Encode_r fu (l,(q,()))=some ([],(1,()))) ∧
  (1≤q→q≤64→l.length≠0→255<(l.length:Int)+q→reedsolomon_Encode_r fu (l,(q,()))=some ([],(2,()))):=by
 refine ⟨fun h=>?_,fun h1 h2 h3=>?_,fun h1 h2 h3 h4=>?_⟩
 ·unfold reedsolomon_Encode_r reedsolomon_Encode_j1;simp only [joinF_eq];by_cases c:q<1
  ·rw [bif_pos c];rfl
  ·rw [bif_neg c,decide_eq_true (show (64:Int)<q by omega)];rfl
 ·unfold reedsolomon_Encode_r reedsolomon_Encode_j1;simp only [joinF_eq];rw [bif_neg (by omega),decide_eq_false (show ¬ (64:Int)<q by omega),cond_false,bif_pos (by omega)]
 ·unfold reedsolomon_Encode_r reedsolomon_Encode_j1;simp only [joinF_eq];rw [bif_neg (by omega),decide_eq_false (show ¬ (64:Int)<q by omega),cond_false,bif_neg (by omega),s_wr (by omega) (by omega),bif_pos (by omega)]
theorem none_t (e:Int):law_none_r fu (true,(e,(e,())))=some (true,()):=by
 unfold law_none_r;simp only [cond_true,decide_true]
theorem within_r (q:Int):R_Within_r fu (q,(1,(64,())))=some (decide (1≤q∧q≤64),()):=by
 unfold R_Within_r;simp only;by_cases c:1≤q
 ·rw [bif_pos c];by_cases c2:q≤64
  ·rw [decide_eq_true c2,decide_eq_true ⟨c,c2⟩]
  ·rw [decide_eq_false c2,decide_eq_false fun h=>c2 h.2]
 ·rw [bif_neg c,decide_eq_false fun h=>c h.1]
theorem sameB (l:List Int):R_SameBytes_r fu (l,(l,()))=some (true,()):=by
 unfold R_SameBytes_r;simp only [decide_true]
theorem clean_l {p:Nat} (hp:p≤64) {S:Nat→Nat} (j13:Unit→Option (Bool×Unit)):loopF (law_ReedsolomonChecks_l5 fu (clean S p) 0 (nb p S,()) j13) fu (true,(0:Int))=j13 ():=by
 refine stLoop (n:=p) (st:=fun t=>(clean S t,(t:Int))) (by omega) rfl ?_ ?_
 ·intro j t ht;unfold law_ReedsolomonChecks_l5 law_ReedsolomonChecks_j6;simp only [nb_len,joinF_eq];rw [bif_pos (by omega),bif_and (by omega) (by omega),Int.toNat_natCast,nb_getD ht,s_wr (by omega) (by omega),show ((t:Int)+1)=((t+1:Nat):Int) by omega]
  cases hc:clean S t with
  | false=>rw [clean,hc];rfl
  | true =>
   rw [clean,hc,cond_true];refine congrArg (fun b=>j (b,((t+1:Nat):Int))) ?_;by_cases h0:S t=0
   ·rw [h0];rfl
   ·rw [decide_eq_false (by omega),decide_eq_false h0];rfl
 ·intro j;unfold law_ReedsolomonChecks_l5 law_ReedsolomonChecks_j7;simp only [nb_len,joinF_eq];rw [bif_neg (by omega)]
  cases clean S p <;> rfl
theorem checks_law (hW:law_reedsolomonWorks_r fu ()=some (true,())) {data:List Int} {q:Int} (hl:(data.length:Int)≤1000000000000000000) (hb:∀ x ∈ data,0≤x∧x≤255):law_ReedsolomonChecks_r fu (data,(q,()))=some (true,()):=by
 obtain ⟨d,hd⟩:∃ d,d=data.length:=⟨_,rfl⟩;obtain ⟨dt,hdt⟩:∃ dt,dt=byt data:=⟨_,rfl⟩;have hdl:∀ k,dt k<256:=fun k=>by rw [hdt];exact byt_lt hb k
 have hdat:data=nb d dt:=by rw [hd,hdt];exact (nb_byt hb).symm
 obtain ⟨E1,E2,E3⟩:=encode_e hf (q:=q) hl;have hV:=valid_r hf (len:=d) (q:=q) hdl;rw [←hdat] at hV;unfold law_ReedsolomonChecks_r;simp only;rw [hW,bindO_some];simp only [Bool.not_true,cond_false];by_cases hq:q<1∨64<q
 ·have hv:vE d q=3:=if_pos hq;rw [E1 hq,bindO_some];simp only;rw [hV,hv,if_neg (by decide),bindO_some];simp only;rw [within_r hf,bindO_some,decide_eq_false (show ¬ (1≤q∧q≤64) by omega)];simp only [Bool.not_false,cond_true];rw [show decide ((List.length ([]:List Int):Int)=0)=true from rfl,none_t hf,bindO_some];simp only [cond_true];rw [bindO_some]
 have hq1:1≤q:=by omega
 have hq2:q≤64:=by omega
 obtain ⟨p,rfl⟩:∃ p:Nat,q=p:=Int.eq_ofNat_of_zero_le (by omega);obtain ⟨w,hw⟩:∃ w:Int,w=vE d p:=⟨_,rfl⟩
 have hv2:∃ is:Bool,reedsolomon_Valid_r fu (data,((p:Int),()))=some (is,(w,()))∧(w≠0→is=false)∧(w=0→is=clean (fun i=>horner dt (pw 2 i) d) p):=by
  rw [hV,←hw];by_cases c:w=0
  ·rw [if_pos c,c];exact ⟨_,rfl,fun h=>absurd rfl h,fun _=>by rw [Int.toNat_natCast]⟩
  ·rw [if_neg c];exact ⟨false,rfl,fun _=>rfl,fun h=>absurd h c⟩
 obtain ⟨is,hV2,hi1,hi2⟩:=hv2
 have hwE:w=if 255<d then 2 else if d≤p then 12 else 0:=by
  rw [hw];unfold vE;rw [if_neg hq];by_cases c:255<d
  ·rw [if_pos c,if_pos c]
  ·rw [if_neg c,if_neg c];by_cases c2:d≤p
   ·rw [if_pos c2,if_pos (by omega)]
   ·rw [if_neg c2,if_neg (by omega)]
 obtain ⟨out,er,hE,hE1,hE2,hE3⟩:∃ out er,reedsolomon_Encode_r fu (data,((p:Int),()))=some (out,(er,()))∧(d=0→out=[]∧er=1)∧(d≠0→255<d+p→out=[]∧er=2)∧(d≠0→d+p≤255→out=nb d dt++nb p (rest p d dt)∧er=0):=by
  by_cases c:d=0
  ·exact ⟨[],1,E2 hq1 hq2 (by omega),fun _=>⟨rfl,rfl⟩,fun h=>absurd c h,fun h=>absurd c h⟩
  ·by_cases c2:255<d+p
   ·exact ⟨[],2,E3 hq1 hq2 (by omega) (by omega),fun h=>absurd h c,fun _ _=>⟨rfl,rfl⟩,fun _ h=>by omega⟩
   ·refine ⟨nb d dt++nb p (rest p d dt),0,?_,fun h=>absurd h c,fun _ h=>by omega,fun _ _=>⟨rfl,rfl⟩⟩;rw [hdat];exact encode_r hf (by omega) (by omega) (by omega) (by omega) hdl
 rw [hE,bindO_some];simp only;rw [hV2,bindO_some];simp only;rw [within_r hf,bindO_some,decide_eq_true (show 1≤(p:Int)∧(p:Int)≤64 from ⟨hq1,hq2⟩)];simp only [Bool.not_true,cond_false,joinF_eq]

 have key:law_ReedsolomonChecks_j1 fu (data,((p:Int),())) out er is w w=some (true,()):=by
  unfold law_ReedsolomonChecks_j1
  have hj2:law_ReedsolomonChecks_j2 fu (data,((p:Int),())) out er is w w false=some (true,()):=by
   unfold law_ReedsolomonChecks_j2;simp only [cond_false,←hd];by_cases c:d=0
   ·obtain ⟨rfl,rfl⟩:=hE1 c;rw [decide_eq_true (show (d:Int)=0 by omega),cond_true,show decide ((List.length ([]:List Int):Int)=0)=true from rfl,none_t hf,bindO_some]
   ·rw [decide_eq_false (show ¬ (d:Int)=0 by omega),cond_false,s_wr (by omega) (by omega)];by_cases c2:255<d+p
    ·obtain ⟨rfl,rfl⟩:=hE2 c c2;rw [decide_eq_true (show (255:Int)<(d:Int)+(p:Int) by omega),cond_true,show decide ((List.length ([]:List Int):Int)=0)=true from rfl,none_t hf,bindO_some]
    ·obtain ⟨ho,rfl⟩:=hE3 c (by omega);rw [decide_eq_false (show ¬ (255:Int)<(d:Int)+(p:Int) by omega),cond_false,joinF_eq];have hlo:(out.length:Int)=(d:Int)+(p:Int):=by rw [ho,List.length_append,nb_len,nb_len];omega
     have big:law_ReedsolomonChecks_j3 fu (data,((p:Int),())) out 0 is w w true=some (true,()):=by
      unfold law_ReedsolomonChecks_j3;simp only [cond_true,decide_true,←hd];rw [s_wr (by omega) (by omega),decide_eq_true hlo]
     by_cases c3:(8:Int)<p
     ·rw [decide_eq_true c3,cond_true];exact big
     ·rw [decide_eq_false c3,cond_false];by_cases c4:(40:Int)<d
      ·rw [decide_eq_true c4];exact big
      ·rw [decide_eq_false c4]
       have h4:law_ReedsolomonChecks_j4 fu (data,((p:Int),())) out 0 ()=some (true,()):=by
        unfold law_ReedsolomonChecks_j4;simp only [decide_true,cond_true,List.nil_append];rw [bif_pos (by rw [←hd];simp only [List.length_nil];omega)];have hck:=checks_r hf (p:=p) (d:=d) (dt:=dt) (by omega) (by omega) (by omega) hdl;rw [←hdat] at hck;rw [hck,bindO_some,bif_pos (by rw [←hd,nb_len];omega),ho,←hdat,sameB hf,bindO_some]
       unfold law_ReedsolomonChecks_j3;simp only [cond_false,joinF_eq];by_cases c5:w=0
       ·rw [bif_pos c5];have hsy:=syn_r hf (len:=d) (q:=p) (w:=dt) hdl (by omega) (by omega);rw [←hdat] at hsy;have e1:(nb p fun i=>sum d fun j=>mulN (dt j) (pw 2 (i*(d-1-j))))=nb p fun i=>horner dt (pw 2 i) d:=nb_congr fun i _=>(horner_syn hdl d i).symm
        rw [hsy,bindO_some,e1,hi2 c5,c5,clean_l hf (by omega)];exact h4
       ·rw [bif_neg c5];exact h4
  by_cases c:w=0
  ·rw [joinF_eq,bif_neg (by omega)];exact hj2
  ·rw [joinF_eq,bif_pos c,hi1 c];rw [hi1 c] at hj2;rw [show (!false)=true from rfl,none_t hf,bindO_some];exact hj2
 by_cases c:255<d
 ·rw [decide_eq_true (show (255:Int)<(data.length:Int) by omega),cond_true];rw [hwE,if_pos c] at key;rw [hwE,if_pos c];exact key
 ·rw [decide_eq_false (show ¬ (255:Int)<(data.length:Int) by omega),cond_false];by_cases c2:d≤p
  ·rw [decide_eq_true (show (data.length:Int)≤(p:Int) by omega),cond_true];rw [hwE,if_neg c,if_pos c2] at key;rw [hwE,if_neg c,if_pos c2];exact key
  ·rw [decide_eq_false (show ¬ (data.length:Int)≤(p:Int) by omega),cond_false];rw [hwE,if_neg c,if_neg c2] at key;rw [hwE,if_neg c,if_neg c2];exact key
end
end Gf
end Go.Proofs.Ytedjnjgnadbkaaa
/- The step from a walk to a law's row,once for all laws of the seat: a law that returns true and leaves all that was there as it was. -/
namespace Go.Proofs.Ytedjnjgnadbkaaa
open Go.ChangeShapes Go.WideShapes Go.ChangeAt Go.RowKit

theorem own:ownKnob Try.prog.godebug=none:=by kernel_rfl
theorem laidOut:laidOutB Try.prog=true:=by kernel_rfl
theorem boolT:Try.prog.underlying 4=some .bool:=Try.underlying4

theorem trodAll_stays {H:Type} {enc:TypeId×Value→H} {P:Program} (hl:laidOutB P=true) {W W':World} (hb:Below W.heap.size W W') :
  ∀ {ts:List TypeId} {vs:List Value} {ds:List (DataW H)} {ps:List MemPlace},(∀ t ∈ ts,P.readableRec t=true∧t<P.types.size)→DataW.TrodAll enc P W 0 (fun _=>true) true ts vs ds ps →
   (∀ x ∈ ps,x.block<W.heap.size)→DataW.TrodAll enc P W' 0 (fun b=>decide (b<W.heap.size)) true ts vs ds ps
 | [],[],[],_,_,h,_=>h
 | t::ts,v::vs,d::ds,_,hr,⟨p,q,h1,h2,e⟩,hlt =>
  ⟨p,q,Below.trod hl (hr t (by simp)).1 (hr t (by simp)).2 h1 hb (fun x hx=>hlt x (by rw [e];simp [hx])),
   trodAll_stays hl hb (fun t' ht=>hr t' (by simp [ht])) h2 (fun x hx=>hlt x (by rw [e];simp [hx])),e⟩
 | [],[],_::_,_,_,h,_=>h.elim
 | [],_::_,_,_,_,h,_=>h.elim
 | _::_,[],_,_,_,h,_=>h.elim
 | _::_,_::_,[],_,_,h,_=>h.elim

def readsAll (P:Program) (ts:List TypeId):Bool:=ts.all fun t=>P.readableRec t&&decide (t<P.types.size)
theorem readsAll_all {P:Program} {ts:List TypeId} (h:readsAll P ts=true):∀ t ∈ ts,P.readableRec t=true∧t<P.types.size:=by
 intro t ht;have:=List.all_eq_true.1 h t ht;simpa using this

theorem trodAll_length {H:Type} {enc:TypeId×Value→H} {P:Program} {W:World} {base:Nat} {spare:Nat→Bool} {held:Bool} :
  ∀ {ts:List TypeId} {vs:List Value} {ds:List (DataW H)} {ps:List MemPlace},DataW.TrodAll enc P W base spare held ts vs ds ps→ds.length=ts.length
 | [],[],[],_,_=>rfl
 | _::_,_::_,_::_,_,⟨_,_,_,h2,_⟩=>by simp [trodAll_length h2]
 | [],[],_::_,_,h=>h.elim
 | [],_::_,_,_,h=>h.elim
 | _::_,[],_,_,h=>h.elim
 | _::_,_::_,[],_,h=>h.elim

set_option maxRecDepth 100000 in
theorem law_lifted {os:Os} (started:os.Started) {H:Type} {enc:TypeId×Value→H} {f:FuncId} {fn:Func} {s:ChangeSpec}
  (noInit:Try.checked.prog.inits.idxOf? f=none) (hfn:Try.checked.prog.funcs[f]?=some fn)
  (witness:∃ (w:World) (tape:Tape) (i:Input),w.os=os∧(w.forCall tape i).Shaped Try.checked.prog∧i.vars=[]∧Input.okWide Try.checked.prog (w.forCall tape i) .any w.heap.size f i ∧
   s.pre6 enc Try.checked.prog fn [] false (w.forCall tape i).memory i.args∧({}:Assume).holds Try.checked.prog (lone (Frame.enter Try.checked.prog f i.args .normal) [] (w.forCall tape i)))
  (hvars:s.vars=[]) (hres:fn.resultTypes=#[4]) (hread:readsAll Try.prog fn.params.toList=true)
  (hspec:∀ ds:List (DataW H),ds.length=fn.params.toList.length→s.fn H ds={ results:=[.lit (.bool true)],args:=ds })
  (walk:∀ (W:World) (base:Nat) (args:List Value) (ds:List (DataW H)) (ps:List MemPlace),
   (∀ (j:Nat) t v,fn.params[j]?=some t→args[j]?=some v→Value.okWide Try.prog W .any base t v)→DataW.TrodAll enc Try.prog W 0 (fun _=>true) true fn.params.toList args ds ps →
   (DataW.weightsEach Try.prog fn.params.toList ds).all (·≤reachBytes)=true→(∀ x ∈ ps,x.block<W.heap.size) →
   Calls Try.prog f args.toArray W fun e W'=>e=.returned (.bool true)∧Below W.heap.size W W') :
  ReturnsInHanded {} Try.checked os f .any (s.pre6 enc Try.checked.prog fn [] false) (s.post enc Try.checked.prog fn false true false false):=by
 refine returnsInHanded_of_change_sized (C:=Try.checked) own started noInit hfn witness ?_;intro W base args ds gs before hval hW _ hsz _;have hW':=hW;obtain ⟨p,q,hA0,hV,rfl,hfz,hnd⟩:=hW;rw [hvars] at hV;obtain ⟨rfl,rfl⟩:=trodVars_none hV;have hA:DataW.TrodAll enc Try.prog W 0 (fun _=>true) true fn.params.toList args.toList ds p:=hA0;have hlen:ds.length=fn.params.toList.length:=trodAll_length hA;have hlt:∀ x ∈ p,x.block<W.heap.size:=fun x hx=>hW'.lt x (by simpa using hx)
 have hargs:args.toList.toArray=args:=by simp
 have hsz':(DataW.weightsEach Try.prog fn.params.toList ds).all (·≤reachBytes)=true:=by
  have h:=hsz;have hvt:s.plain.varTypes Try.checked.prog=[]:=by simp [DataSpec.varTypes,ChangeSpec.plain,hvars]
  rw [hvt] at h;simp only [List.append_nil] at h;exact h
 have hw:=walk W base args.toList ds p (fun j t v ht hv=>hval j t v ht (by simpa using hv)) hA hsz' hlt;rw [hargs] at hw;refine hw.mono fun e W' ⟨he,hb⟩=>⟨.bool true,he,?_⟩
 have hsf:s.fn H (ds++[])={ results:=[.lit (.bool true)],args:=ds }:=by rw [List.append_nil];exact hspec ds hlen
 refine ⟨ds,[],p++[],[],p,[],hW',?_,?_,?_,hb.frame _,fun h=>by cases h⟩
 ·rw [hsf,hres];exact trodAll_mk1 (shut_bool boolT true)
 ·rw [hsf];exact trodAll_stays laidOut hb (readsAll_all hread) hA hlt
 ·rw [hsf,hvars];rfl
end Go.Proofs.Ytedjnjgnadbkaaa
/- Arguments opened: what slices and structs of numbers read as. -/
set_option maxRecDepth 100000
namespace Go.Proofs.Ytedjnjgnadbkaaa
open Go.ChangeShapes Go.WideShapes Go.ChangeAt Go.RowKit Go.Deep

theorem choose_list {α:Type} {n:Nat} {Q:Nat→α→Prop} (h:∀ i,i<n→∃ p,Q i p):∃ l:List α,l.length=n∧∀ i p,l[i]?=some p→Q i p:=by
 induction n with
 | zero=>exact ⟨[],rfl,by intro i p hi;simp at hi⟩
 | succ n ih =>
  obtain ⟨l,hl,hq⟩:=ih (fun i hi=>h i (by omega));obtain ⟨p,hp⟩:=h n (by omega);refine ⟨l++[p],by simp [hl],fun i q hi=>?_⟩;rcases Nat.lt_trichotomy i n with hlt | rfl | hgt
  ·rw [List.getElem?_append_left (by omega)] at hi;exact hq i q hi
  ·rw [List.getElem?_append_right (by omega),hl] at hi;simp at hi;subst hi;exact hp
  ·rw [List.getElem?_eq_none (by simp;omega)] at hi;cases hi

section
variable {H:Type} {enc:TypeId×Value→H} {P:Program} {w:World} {base:Nat} {spare:Nat→Bool} {held:Bool}
theorem rd_slice {t e:TypeId} {fuel:Nat} {v:Value} {x:DataW H×List MemPlace} (ht:P.underlying t=some (.slice e)) (hc:0<P.cellsOf e) (h:DataW.trod enc P w base spare held fuel t [v]=some x) :
  ∃ A n c,v=.slice A n c∧n≤c∧c≤maxLen∧∀ i,i<n→∃ b o cs n' x',A=some ⟨b,o,none⟩∧cs.length=P.cellsOf e∧(∀ j u,cs[j]?=some u→w.cell? ⟨b,o+i*P.cellsOf e+j,none⟩=some u) ∧
   DataW.trod enc P w base spare held n' e cs=some x':=by
 rcases open_slice ht h with ⟨h0,_⟩ | ⟨a,len,cap,m,n',D,Pl,hcs,_,hl,hm,hmm,_,hi⟩
 ·simp at h0;subst h0;exact ⟨none,0,0,rfl,by omega,by unfold maxLen;omega,by intro i hi;omega⟩
 ·simp at hcs;subst hcs;refine ⟨some a,len,cap,rfl,hl,hm,fun i hil=>?_⟩
  have hlm:len≤m:=by rw [hmm];split <;> omega
  obtain ⟨cs,h1,h2⟩:=hi i (by omega);obtain ⟨hb,hlen,hat⟩:=World.cells?_some h1;obtain ⟨b,o,spot⟩:=a;have h00:=hat 0 (by omega)
  have hsp:spot=none:=by
   obtain ⟨cs0,g1,_⟩:=hi 0 (by omega);obtain ⟨_,gl,gat⟩:=World.cells?_some g1;have hx:=gat 0 (by omega);rw [List.getElem?_eq_getElem (by omega)] at hx;simpa [Addr.add] using World.cell?_spot hx
  subst hsp;refine ⟨b,o,cs,n',_,rfl,hlen,?_,h2⟩;intro j u hu;have hjl:j<P.cellsOf e:=by rw [←hlen];exact (List.getElem?_eq_some_iff.1 hu).1
  have:=hat j hjl;rw [hu,Addr.add_lit,Addr.add_lit] at this;exact this
end

end Go.Proofs.Ytedjnjgnadbkaaa
/- Arguments opened,as abstract values. -/
set_option maxRecDepth 100000
namespace Go.Proofs.Ytedjnjgnadbkaaa
open Go Go.ChangeShapes Go.WideShapes Go.ChangeAt Go.RowKit Go.Deep

section
variable {H:Type} {enc:TypeId×Value→H} {P:Program} {w:World} {base:Nat} {spare:Nat→Bool} {held:Bool}
abbrev RelC (w:World):AV→Value→Prop:=RelD w (fun _=>False) w.heap.size
def Reads {α:Type} (w:World) (sz:Nat) (ec:α→List AV) (Q:α→Prop) (cs:List Value):Prop :=
 ∃ p,Q p∧(ec p).length=sz∧∀ (j:Nat) (a:AV) (u:Value),(ec p)[j]?=some a→cs[j]?=some u→RelC w a u
theorem ro_slice {α:Type} (ec:α→List AV) (Q:α→Prop) {t e:TypeId} {sz fuel:Nat} {v:Value} {x:DataW H×List MemPlace} (ht:P.underlying t=some (.slice e)) (hz:P.cellsOf e=sz) (hc:0<sz)
  (hel:∀ (fuel:Nat) (cs:List Value) (x:DataW H×List MemPlace),cs.length=sz→DataW.trod enc P w base spare held fuel e cs=some x→Reads w sz ec Q cs) (h:DataW.trod enc P w base spare held fuel t [v]=some x) :
  ∃ xs:List α,(∀ p ∈ xs,Q p)∧RelC w (.ro false sz (xs.map ec)) v:=by
 subst hz;obtain ⟨A,n,c,rfl,hn,hm,hi⟩:=rd_slice ht hc h
 obtain ⟨xs,hl,hq⟩:=choose_list (Q:=fun i (p:α)=>Q p∧∃ (b o:Nat) (cs:List Value),A=some ⟨b,o,none⟩∧cs.length=P.cellsOf e∧(∀ (j:Nat) (u:Value),cs[j]?=some u→w.cell? ⟨b,o+i*P.cellsOf e+j,none⟩=some u)∧(ec p).length=P.cellsOf e∧∀ (j:Nat) (a:AV) (u:Value),(ec p)[j]?=some a→cs[j]?=some u→RelC w a u) (n:=n) (by
  intro i hil;obtain ⟨b,o,cs,n',x',hA,hlen,hat,htr⟩:=hi i hil;obtain ⟨p,h1,h2,h3⟩:=hel n' cs x' hlen htr
  exact ⟨p,h1,b,o,cs,hA,hlen,hat,h2,h3⟩)
 subst hl;refine ⟨xs,fun p hp=>?_,?_⟩
 ·obtain ⟨i,hi⟩:=List.mem_iff_getElem?.1 hp;exact (hq i p hi).1
 have key:∀ (i:Nat) (row:List AV) (j:Nat) (a:AV),(xs.map ec)[i]?=some row→row[j]?=some a→∃ b o u,A=some ⟨b,o,none⟩∧w.cell? ⟨b,o+i*P.cellsOf e+j,none⟩=some u∧RelC w a u:=by
  intro i row j a hr ha;rw [List.getElem?_map] at hr;obtain ⟨p,hp,rfl⟩:=Option.map_eq_some_iff.1 hr;obtain ⟨_,b,o,cs,hA,hlen,hat,hel,hrel⟩:=hq i p hp;have hj:j<cs.length:=by rw [hlen,←hel];exact (List.getElem?_eq_some_iff.1 ha).1
  have hu:cs[j]?=some cs[j]:=List.getElem?_eq_getElem hj;exact ⟨b,o,cs[j],hA,hat j _ hu,hrel j a _ ha hu⟩
 have hcon:=RelD.ro (w:=w) (own:=fun _=>False) (bs:=w.heap.size) false (P.cellsOf e) (xs.map ec) A c (fun i j=>match A with
  | some ⟨b,o,_⟩=>(w.cell? ⟨b,o+i*P.cellsOf e+j,none⟩).getD undef
  | none=>undef) (by simpa using hn) hm (fun i hi hA=>by
   have hi:i<xs.length:=by simpa using hi
   obtain ⟨_,b,o,_,h1,_⟩:=hq i xs[i] (List.getElem?_eq_getElem hi)
   rw [hA] at h1;cases h1) (fun i row j a hr ha=>by
   obtain ⟨b,o,u,hA,hu,_⟩:=key i row j a hr ha;subst hA
   exact ⟨b,o,rfl,fun h=>h.elim,(fun h=>by cases h),by simp [hu]⟩) (fun i row j a hr ha=>by
   obtain ⟨b,o,u,hA,hu,hr⟩:=key i row j a hr ha;subst hA
   simpa [hu] using hr)
 rw [List.length_map] at hcon;exact hcon
end
theorem AF.yes {P:Program} {F:FuncId} {xs:List AV} {vs:Array Value} {w:World} (h:AF P F xs (.bool true)) (ha:ArgsV w (Gh.none w.heap.size) xs vs):Calls P F vs w fun e w'=>e=.returned (.bool true)∧Below w.heap.size w w' :=
 (h.out w vs ha).mono fun e w' ⟨v,he,hb,hv⟩=>⟨by rw [he,hv.bool'],hb⟩
end Go.Proofs.Ytedjnjgnadbkaaa
/- Arguments of any type,opened by one theorem;the last step of a law that a residual program answers. -/
set_option maxRecDepth 100000
namespace Go.Proofs.Ytedjnjgnadbkaaa
open Go Go.ChangeShapes Go.WideShapes Go.ChangeAt Go.RowKit Go.Deep

def Ty.wf:(t:Ty)→t.den→Prop
 | .int k,n=>(Lit.int k n).wf=true
 | .bool,_=>True
 | .str,s=>List.length s≤maxLen
 | .list t,xs=>List.length xs≤maxLen∧∀ x ∈ (xs:List t.den),t.wf x
 | .unit,_=>True
 | .pair a b,x=>a.wf x.1∧b.wf x.2
 | .agg t,x=>t.wf x
 | .aix,_=>False
 | .ptr _,_=>False
def prB (t:Ty) (f:Ty→Ty→Bool):Bool:=match t with
 | .pair x y=>f x y
 | _=>false
def unB (t:Ty):Bool:=match t with
 | .unit=>true
 | _=>false
theorem prB_ok {t:Ty} {f:Ty→Ty→Bool} (h:prB t f=true):∃ x y,t=.pair x y∧f x y=true:=by
 unfold prB at h;split at h
 ·exact ⟨_,_,rfl,h⟩
 ·cases h
theorem unB_ok {t:Ty} (h:unB t=true):t=.unit:=by
 unfold unB at h;split at h
 ·rfl
 ·cases h
def fsB (g:TypeId→Ty→Bool):List Field→Nat→Ty→Bool
 | [],_,t=>unB t
 | [a],o,t=>Nat.beq a.offset o&&g a.type t
 | a::b::l,o,t=>prB t fun x y=>Nat.beq a.offset o&&g a.type x&&fsB g (b::l) (o+x.size) y
def arB (g:Ty→Bool):Nat→Ty→Bool
 | 0,t=>unB t
 | 1,t=>g t
 | n+2,t=>prB t fun x y=>g x&&arB g (n+1) y
def intB (k:IntKind) (t:Ty):Bool:=match t with
 | .int k'=>decide (k'=k)
 | _=>false
def boolB (t:Ty):Bool:=match t with
 | .bool=>true
 | _=>false
def strB (t:Ty):Bool:=match t with
 | .str=>true
 | _=>false
def sliceB (g:Ty→Bool) (t:Ty):Bool:=match t with
 | .list t'=>g t'&&Nat.blt 0 t'.size
 | _=>false
def tyB (P:Program):Nat→TypeId→Ty→Bool
 | 0,_,_=>false
 | f+1,tid,t=>Nat.beq (P.cellsOf tid) t.size&&(match P.underlying tid with
  | some (.int k)=>intB k t
  | some .bool=>boolB t
  | some .string=>strB t
  | some (.slice e)=>sliceB (tyB P f e) t
  | some (.struct ⟨fs⟩)=>fsB (tyB P f) fs 0 t
  | some (.array n e)=>arB (tyB P f e) n t
  | _=>false)
section
variable {H:Type} {enc:TypeId×Value→H} {P:Program} {w:World} {base:Nat} {spare:Nat→Bool} {held:Bool}
abbrev ReadsT (w:World) (t:Ty) (cs:List Value):Prop:=Reads w t.size (t.cells false) t.wf cs
theorem tyB_size {f:Nat} {tid:TypeId} {t:Ty} (h:tyB P f tid t=true):P.cellsOf tid=t.size:=by
 cases f with
 | zero=>cases h
 | succ f=>rw [tyB,Bool.and_eq_true] at h;exact Nat.eq_of_beq_eq_true h.1
theorem ReadsT.pair {a b:Ty} {c d:List Value} (h:ReadsT w a c) (k:ReadsT w b d) (hl:c.length=a.size):ReadsT w (.pair a b) (c++d):=by
 obtain ⟨x,x1,x2,x3⟩:=h;obtain ⟨y,y1,y2,y3⟩:=k;refine ⟨(x,y),⟨x1,y1⟩,Ty.cells_length _ _ _,fun j v u hv hu=>?_⟩;rw [Ty.cells] at hv;by_cases hj:j<a.size
 ·rw [List.getElem?_append_left (by rw [x2];exact hj)] at hv;rw [List.getElem?_append_left (by omega)] at hu;exact x3 j v u hv hu
 ·rw [List.getElem?_append_right (by rw [x2];omega),x2] at hv;rw [List.getElem?_append_right (by omega),hl] at hu;exact y3 _ v u hv hu
theorem ReadsT.unit:ReadsT w .unit []:=⟨(),trivial,rfl,fun j a u h _=>by simp [Ty.cells] at h⟩
theorem fs_reads {g:TypeId→Ty→Bool} (hg:∀ (tid:TypeId) (t:Ty) (n:Nat) (cs:List Value) (x:DataW H×List MemPlace),g tid t=true→cs.length=t.size→DataW.trod enc P w base spare held n tid cs=some x→ReadsT w t cs) (hsz:∀ tid t,g tid t=true→P.cellsOf tid=t.size) {cs:List Value} :
  ∀ (l:List Field) (o:Nat) (t:Ty),fsB g l o t=true→(∀ a ∈ l,∃ n y,DataW.trod enc P w base spare held n a.type ((cs.drop a.offset).take (P.cellsOf a.type))=some y)→o+t.size≤cs.length→ReadsT w t ((cs.drop o).take t.size)
 | [],o,t,h,_,_=>by
  rw [unB_ok h,show Ty.unit.size=0 from rfl,List.take_zero];exact .unit
 | [a],o,t,h,hr,hl=>by
  rw [fsB,Bool.and_eq_true] at h;obtain ⟨n,y,hy⟩:=hr a (by simp);rw [Nat.eq_of_beq_eq_true h.1,hsz _ _ h.2] at hy;exact hg _ _ n _ y h.2 (by rw [List.length_take,List.length_drop];omega) hy
 | a::b::l,o,t,h,hr,hl=>by
  obtain ⟨x,y,rfl,h'⟩:=prB_ok h;clear h;have h:=h';clear h';rw [Bool.and_eq_true,Bool.and_eq_true] at h;obtain ⟨n,z,hz⟩:=hr a (by simp);rw [Nat.eq_of_beq_eq_true h.1.1,hsz _ _ h.1.2] at hz;have hs:(Ty.pair x y).size=x.size+y.size:=rfl;rw [hs] at hl;have h1:=hg _ _ n _ z h.1.2 (by rw [List.length_take,List.length_drop];omega) hz;have h2:=fs_reads hg hsz (b::l) (o+x.size) y h.2 (fun a ha=>hr a (List.mem_cons_of_mem _ ha)) (by omega);rw [hs,List.take_add,List.drop_drop];exact h1.pair h2 (by rw [List.length_take,List.length_drop];omega)
theorem ar_reads {g:Ty→Bool} {e:TypeId} (hg:∀ (t:Ty) (n:Nat) (cs:List Value) (x:DataW H×List MemPlace),g t=true→cs.length=t.size→DataW.trod enc P w base spare held n e cs=some x→ReadsT w t cs) (hsz:∀ t,g t=true→P.cellsOf e=t.size) {cs:List Value} :
  ∀ (k o:Nat) (t:Ty),arB g k t=true→(∀ i,i<k→∃ n y,DataW.trod enc P w base spare held n e ((cs.drop (o+i*P.cellsOf e)).take (P.cellsOf e))=some y)→o+t.size≤cs.length→ReadsT w t ((cs.drop o).take t.size)
 | 0,o,t,h,_,_=>by
  rw [unB_ok h,show Ty.unit.size=0 from rfl,List.take_zero];exact .unit
 | 1,o,t,h,hr,hl=>by
  rw [arB] at h;obtain ⟨n,y,hy⟩:=hr 0 (by omega);rw [hsz _ h,Nat.zero_mul,Nat.add_zero] at hy;exact hg _ n _ y h (by rw [List.length_take,List.length_drop];omega) hy
 | k+2,o,t,h,hr,hl=>by
  obtain ⟨x,y,rfl,h'⟩:=prB_ok h;clear h;have h:=h';clear h';rw [Bool.and_eq_true] at h;obtain ⟨n,z,hz⟩:=hr 0 (by omega);rw [hsz _ h.1,Nat.zero_mul,Nat.add_zero] at hz;have hs:(Ty.pair x y).size=x.size+y.size:=rfl;rw [hs] at hl;have h1:=hg _ n _ z h.1 (by rw [List.length_take,List.length_drop];omega) hz
  have h2:=ar_reads hg hsz (k+1) (o+x.size) y h.2 (fun i hi=>by
   obtain ⟨n,z,hz⟩:=hr (i+1) (by omega);refine ⟨n,z,?_⟩
   rw [←hz,←hsz _ h.1,Nat.add_mul,Nat.one_mul,Nat.add_assoc,Nat.add_comm (P.cellsOf e)]) (by omega)
  rw [hs,List.take_add,List.drop_drop];exact h1.pair h2 (by rw [List.length_take,List.length_drop];omega)
theorem ro_len {own:Nat→Prop} {bs sz:Nat} {fr:Bool} {rows:List (List AV)} {v:Value} (h:RelD w own bs (.ro fr sz rows) v):rows.length≤maxLen:=by
 cases h with
 | ro fr sz rows A c f hc hm h0 h1 h2=>omega
theorem one_cell {cs:List Value} (h:cs.length=1):∃ u,cs=[u]:=by match cs,h with | [u],_=>exact ⟨u,rfl⟩
theorem reads_ty:∀ (f:Nat) (tid:TypeId) (t:Ty) (n:Nat) (cs:List Value) (x:DataW H×List MemPlace),tyB P f tid t=true→cs.length=t.size→DataW.trod enc P w base spare held n tid cs=some x→ReadsT w t cs
 | 0,_,_,_,_,_,h,_,_=>by cases h
 | f+1,tid,t,n,cs,x,h,hl,hx=>by
  have hsize:=tyB_size h;rw [tyB,Bool.and_eq_true] at h;obtain ⟨_,h⟩:=h;split at h
  ·rename_i k hu;unfold intB at h;split at h
   ·have hk:=of_decide_eq_true h;subst hk;obtain ⟨m,rfl,_,hwf⟩:=DataW.trod_int hu hx;refine ⟨m,hwf,rfl,fun j a u ha hu=>?_⟩
    match j with
    | 0=>simp [Ty.cells] at ha hu;subst ha;subst hu;exact .int _ _
    | j+1=>simp [Ty.cells] at ha
   ·cases h
  ·rename_i hu;unfold boolB at h;split at h
   ·obtain ⟨m,rfl,_⟩:=DataW.trod_bool hu hx;refine ⟨m,trivial,rfl,fun j a u ha hu=>?_⟩
    match j with
    | 0=>simp [Ty.cells] at ha hu;subst ha;subst hu;exact .bool _
    | j+1=>simp [Ty.cells] at ha
   ·cases h
  ·rename_i hu;unfold strB at h;split at h
   ·obtain ⟨s,rfl,_,hs⟩:=DataW.trod_string hu hx;refine ⟨s.data.toList,by rw [Ty.wf,Array.length_toList];exact hs,rfl,fun j a u ha hu=>?_⟩
    match j with
    | 0=>simp [Ty.cells] at ha hu;subst ha;subst hu;exact .str _
    | j+1=>simp [Ty.cells] at ha
   ·cases h
  ·rename_i e hu;unfold sliceB at h;split at h
   ·rename_i _ t' _;rw [Bool.and_eq_true] at h;have hpos:0<t'.size:=Nat.le_of_ble_eq_true h.2;obtain ⟨v,rfl⟩:=one_cell hl;obtain ⟨xs,hw,hr⟩:=ro_slice (t'.cells false) t'.wf hu (tyB_size h.1) hpos (fun m cs x hl hx=>reads_ty f e t' m cs x h.1 hl hx) hx;refine ⟨xs,⟨?_,hw⟩,rfl,fun j a u ha hu=>?_⟩
    ·have:=ro_len hr;rw [List.length_map] at this;exact this
    match j with
    | 0=>simp [Ty.cells] at ha hu;subst ha;subst hu;exact hr
    | j+1=>simp [Ty.cells] at ha
   ·cases h
  ·rename_i fs hu;obtain ⟨xs,m,_,_,_,hxl,hat⟩:=DataW.trod_struct hu hx
   have:=fs_reads (cs:=cs) (fun tid t n cs x h1 h2 h3=>reads_ty f tid t n cs x h1 h2 h3) (fun tid t h=>tyB_size h) fs 0 t h (fun a ha=>by
    obtain ⟨i,hi⟩:=List.mem_iff_getElem?.1 ha;have hi':i<xs.length:=by rw [hxl];exact (List.getElem?_eq_some_iff.1 hi).1
    exact ⟨m,_,by rw [hat i a (by simpa using hi),List.getElem?_eq_getElem hi']⟩) (by omega)
   rw [List.drop_zero,List.take_of_length_le (by omega)] at this;exact this
  ·rename_i k e hu;obtain ⟨xs,m,_,_,_,hxl,hat⟩:=DataW.trod_array hu hx
   have:=ar_reads (cs:=cs) (e:=e) (fun t n cs x h1 h2 h3=>reads_ty f e t n cs x h1 h2 h3) (fun t h=>tyB_size h) k 0 t h (fun i hi=>by
    have hi':i<xs.length:=by rw [hxl];exact hi
    exact ⟨m,_,by rw [Nat.zero_add,hat i hi,List.getElem?_eq_getElem hi']⟩) (by omega)
   rw [List.drop_zero,List.take_of_length_le (by omega)] at this;exact this
  ·cases h
def aggP (P:Program) (tid:TypeId):Bool:=match P.underlying tid with
 | some (.struct _)=>true
 | some (.array _ _)=>true
 | _=>false
def cellP (P:Program) (tid:TypeId):Bool:=match P.underlying tid with
 | some (.int _)=>true
 | some .bool=>true
 | some .string=>true
 | some (.slice _)=>true
 | _=>false
def argB (P:Program) (tid:TypeId) (a:Ty):Bool:=match a with
 | .agg t=>tyB P 9 tid t&&aggP P tid
 | .int k=>tyB P 9 tid (.int k)&&cellP P tid
 | .bool=>tyB P 9 tid .bool&&cellP P tid
 | .str=>tyB P 9 tid .str&&cellP P tid
 | .list t=>tyB P 9 tid (.list t)&&cellP P tid
 | _=>false
def argsB (P:Program):List TypeId→Ty→Bool
 | [],t=>unB t
 | tid::l,t=>prB t fun a b=>argB P tid a&&argsB P l b
theorem okWide_arr {n b:Nat} {r:Go.Reach} {t e:TypeId} {v:Value} (ht:P.underlying t=some (.array n e)) (h:Value.okWide P w r b t v):∃ cs,v=.agg cs∧cs.size=P.cellsOf t:=by
 simp only [Value.okWide,ht] at h;obtain ⟨cs,h1,h2,_⟩:=h;exact ⟨cs,h1,h2⟩
theorem arg_agg {tid:TypeId} {t:Ty} {v:Value} {d:DataW H} {p:List MemPlace} {b:Nat} (h:tyB P 9 tid t=true) (ha:aggP P tid=true) (hv:Value.okWide P w .any b tid v) (hd:DataW.Trod enc P w base spare held tid v d p):∃ x:t.den,t.wf x∧RelV w (Gh.none w.heap.size) (.agg (t.cells false x)) v:=by
 obtain ⟨cs,rfl,hs⟩:∃ cs,v=.agg cs∧cs.size=P.cellsOf tid:=by
  unfold aggP at ha;split at ha
  ·rename_i h1;exact okWide_struct h1 hv
  ·rename_i h1;exact okWide_arr h1 hv
  ·cases ha
 obtain ⟨n,hd⟩:=hd;have hl:cs.toList.length=t.size:=by rw [←tyB_size h,←hs];simp
 obtain ⟨x,x1,x2,x3⟩:=reads_ty 9 tid t n cs.toList _ h hl hd;exact ⟨x,x1,.agg _ _ (by rw [x2,←hl];simp) fun i a u ha hu=>.dat (x3 i a u ha (by simpa using hu))⟩
theorem arg_cell {tid:TypeId} {t:Ty} {v:Value} {d:DataW H} {p:List MemPlace} {b:Nat} (h:tyB P 9 tid t=true) (hc:cellP P tid=true) (h1:t.size=1) (hv:Value.okWide P w .any b tid v) (hd:DataW.Trod enc P w base spare held tid v d p):∃ x:t.den,t.wf x∧∀ a,(t.cells false x)[0]?=some a→RelV w (Gh.none w.heap.size) a v:=by
 have hd:∃ n,DataW.trod enc P w base spare held n tid [v]=some (d,p):=by
  unfold cellP at hc;split at hc
  ·rename_i hu;obtain ⟨m,rfl⟩:=okWide_int hu hv;exact hd
  ·rename_i hu;obtain ⟨m,rfl⟩:=okWide_bool hu hv;exact hd
  ·rename_i hu;obtain ⟨m,rfl⟩:=okWide_string hu hv;exact hd
  ·rename_i hu;obtain ⟨a,n,c,rfl⟩:=okWide_slice hu hv;exact hd
  ·cases hc
 obtain ⟨n,hd⟩:=hd;obtain ⟨x,x1,x2,x3⟩:=reads_ty 9 tid t n [v] _ h (by rw [h1];rfl) hd;exact ⟨x,x1,fun a ha=>.dat (x3 0 a v ha rfl)⟩
theorem arg_ty {tid:TypeId} {v:Value} {d:DataW H} {p:List MemPlace} {b:Nat}:∀ {a:Ty},argB P tid a=true→Value.okWide P w .any b tid v→DataW.Trod enc P w base spare held tid v d p→∃ x:a.den,a.wf x∧RelV w (Gh.none w.heap.size) (a.av false x) v
 | .agg t,h,hv,hd=>by
  rw [argB,Bool.and_eq_true] at h;obtain ⟨x,h1,h2⟩:=arg_agg h.1 h.2 hv hd;exact ⟨x,h1,by rw [Ty.av];exact h2⟩
 | .int k,h,hv,hd=>by
  rw [argB,Bool.and_eq_true] at h;obtain ⟨x,h1,h2⟩:=arg_cell h.1 h.2 rfl hv hd;exact ⟨x,h1,h2 _ rfl⟩
 | .bool,h,hv,hd=>by
  rw [argB,Bool.and_eq_true] at h;obtain ⟨x,h1,h2⟩:=arg_cell h.1 h.2 rfl hv hd;exact ⟨x,h1,h2 _ rfl⟩
 | .str,h,hv,hd=>by
  rw [argB,Bool.and_eq_true] at h;obtain ⟨x,h1,h2⟩:=arg_cell h.1 h.2 rfl hv hd;exact ⟨x,h1,h2 _ rfl⟩
 | .list t,h,hv,hd=>by
  rw [argB,Bool.and_eq_true] at h;obtain ⟨x,h1,h2⟩:=arg_cell h.1 h.2 rfl hv hd;exact ⟨x,h1,h2 _ rfl⟩
 | .unit,h,_,_=>by cases h
 | .pair _ _,h,_,_=>by cases h
 | .ptr _,h,_,_=>by cases h
inductive RelsV (w:World) (G:Gh):List AV→List Value→Prop
 | nil:RelsV w G [] []
 | cons {a:AV} {v:Value} {l:List AV} {m:List Value} (h:RelV w G a v) (k:RelsV w G l m):RelsV w G (a::l) (v::m)
theorem RelsV.args {G:Gh} {l:List AV} {m:List Value} (h:RelsV w G l m):ArgsV w G l m.toArray:=by
 induction h with
 | nil=>exact ⟨rfl,fun i a v ha hv=>by simp at ha⟩
 | cons h k ih =>
  refine ⟨by have:=ih.size;simp at this ⊢;exact this,fun i a v ha hv=>?_⟩
  cases i with
  | zero=>simp at ha hv;subst ha;subst hv;exact h
  | succ i=>exact ih.rel i a v (by simpa using ha) (by simpa using hv)
end
theorem fu_le:18446744073709551616≤FU:=Nat.le_refl _
end Go.Proofs.Ytedjnjgnadbkaaa
/- The examples of the corrections hold. -/
namespace Go.Proofs.Ytedjnjgnadbkaaa
open Go Go.RowKit
set_option maxRecDepth 100000
theorem reedsolomonWorks_true:law_reedsolomonWorks_r FU ()=some (true,()):=by kernel_rfl
theorem wf_u8 {x:Int} (h:(Lit.int .u8 x).wf=true):0≤x∧x≤255:=by
 unfold Lit.wf at h;simpa [IntKind.min,IntKind.max,IntKind.signed,IntKind.bits] using h
end Go.Proofs.Ytedjnjgnadbkaaa
/- Arguments opened,with the sizes of those that are slices. -/
set_option maxRecDepth 100000
namespace Go.Proofs.Ytedjnjgnadbkaaa
open Go Go.RowKit Go.ChangeShapes Go.WideShapes Go.ChangeAt Go.Deep
set_option linter.unusedSimpArgs false
set_option linter.unusedSectionVars false
set_option linter.unusedVariables false
def Ty.len:(a:Ty)→a.den→Nat
 | .list _,xs=>List.length xs
 | _,_=>0
def Ty.fit (P:Program):List TypeId→(σ:Ty)→σ.den→Prop
 | tid::l,.pair a b,x=>(∀ e,P.underlying tid=some (.slice e)→a.len x.1*P.bytesOf e≤reachBytes)∧Ty.fit P l b x.2
 | _,_,_=>True
section
variable {H:Type} {enc:TypeId×Value→H} {P:Program} {w:World} {base:Nat} {spare:Nat→Bool} {held:Bool}
theorem trod_len {tid e:TypeId} {A:Option Addr} {n c:Nat} {d:DataW H} {p:List MemPlace} (hu:P.underlying tid=some (.slice e)) (hd:DataW.Trod enc P w base spare held tid (.slice A n c) d p)
  (hs:∀ elems rest,d=.slice elems rest→(elems.length+rest.length)*P.bytesOf e≤reachBytes):n*P.bytesOf e≤reachBytes:=by
 obtain ⟨k,hd⟩:=hd;have hd:DataW.trod enc P w base spare held k tid [.slice A n c]=some (d,p):=hd;rcases open_slice hu hd with ⟨h0,_⟩ | ⟨a,len,cap,m,n',D,Pl,hcs,_,hl,hm,hmm,hx,hi⟩
 ·simp only [List.cons.injEq,and_true,Value.slice.injEq] at h0;rw [h0.2.1,Nat.zero_mul];exact Nat.zero_le _
 ·simp only [List.cons.injEq,and_true,Value.slice.injEq] at hcs;rw [Prod.mk.injEq] at hx;have:=hs _ _ hx.1;rw [List.length_map,List.length_range,List.length_map,List.length_range] at this;rw [hcs.2.1];exact Nat.le_trans (Nat.mul_le_mul_right _ (Nat.le_add_right _ _)) this
theorem arg_fit {tid e:TypeId} {v:Value} {d:DataW H} {p:List MemPlace} {G:Gh} (hu:P.underlying tid=some (.slice e)) (hd:DataW.Trod enc P w base spare held tid v d p)
  (hs:∀ elems rest,d=.slice elems rest→(elems.length+rest.length)*P.bytesOf e≤reachBytes):∀ {a:Ty} (x:a.den),RelV w G (a.av false x) v→a.len x*P.bytesOf e≤reachBytes
 | .list t,x,h=>by
  rw [Ty.av] at h
  cases h with
  | dat h =>
   cases h with
   | ro fr sz rows A c f hc hm h0 h1 h2 =>
    rw [List.length_map] at hd;exact trod_len hu hd hs
 | .int _,_,_=>by show 0*_≤_;rw [Nat.zero_mul];exact Nat.zero_le _
 | .bool,_,_=>by show 0*_≤_;rw [Nat.zero_mul];exact Nat.zero_le _
 | .str,_,_=>by show 0*_≤_;rw [Nat.zero_mul];exact Nat.zero_le _
 | .agg _,_,_=>by show 0*_≤_;rw [Nat.zero_mul];exact Nat.zero_le _
 | .aix,_,_=>by show 0*_≤_;rw [Nat.zero_mul];exact Nat.zero_le _
 | .ptr _,_,_=>by show 0*_≤_;rw [Nat.zero_mul];exact Nat.zero_le _
 | .unit,_,_=>by show 0*_≤_;rw [Nat.zero_mul];exact Nat.zero_le _
 | .pair _ _,_,_=>by show 0*_≤_;rw [Nat.zero_mul];exact Nat.zero_le _
theorem args_tyS {b:Nat}:∀ {ts:List TypeId} {σ:Ty} {vs:List Value} {ds:List (DataW H)} {ps:List MemPlace},argsB P ts σ=true→(∀ (j:Nat) t v,ts[j]?=some t→vs[j]?=some v→Value.okWide P w .any b t v)→DataW.TrodAll enc P w base spare held ts vs ds ps →
  (∀ (j:Nat) (t e:TypeId) (elems rest:List (DataW H)),ts[j]?=some t→ds[j]?=some (.slice elems rest)→P.underlying t=some (.slice e)→(elems.length+rest.length)*P.bytesOf e≤reachBytes)→∃ x:σ.den,σ.wf x∧Ty.fit P ts σ x∧RelsV w (Gh.none w.heap.size) (σ.avs false x) vs
 | [],σ,vs,ds,ps,h,_,hA,_=>by
  obtain ⟨rfl,rfl,rfl⟩:=trodAll_nil hA;have e:=unB_ok h;subst e;exact ⟨(),trivial,trivial,.nil⟩
 | tid::l,σ,vs,ds,ps,h,hv,hA,hs=>by
  obtain ⟨v,vs,d,ds,p,q,rfl,rfl,rfl,h0,r0⟩:=trodAll_cons hA;obtain ⟨a,c,rfl,h'⟩:=prB_ok h;clear h;have h:=h';clear h';rw [Bool.and_eq_true] at h;obtain ⟨x,x1,x2⟩:=arg_ty h.1 (hv 0 tid v rfl rfl) h0;obtain ⟨y,y1,y2,y3⟩:=args_tyS h.2 (fun j t u ht hu=>hv (j+1) t u (by simpa using ht) (by simpa using hu)) r0 (fun j t e elems rest ht hd hu=>hs (j+1) t e elems rest (by simpa using ht) (by simpa using hd) hu);exact ⟨(x,y),⟨x1,y1⟩,⟨fun e he=>arg_fit he h0 (fun elems rest hd=>hs 0 tid e elems rest rfl (by rw [hd];rfl) he) x x2,y2⟩,by rw [Ty.avs];exact .cons x2 y3⟩
end
theorem law_anyS {H:Type} {enc:TypeId×Value→H} {F:Nat} {ts:List TypeId} {σ:Ty} {f:Nat→σ.den→Option (Bool×Unit)} {nm:Nat} (hc:CtrOk Try.prog F ⟨σ,.pair .bool .unit,f,nm⟩) (hB:argsB Try.prog ts σ=true) (hp:∀ x:σ.den,σ.wf x→Ty.fit Try.prog ts σ x→f FU x=some (true,())) {W:World} {b:Nat} {args:List Value} {ds:List (DataW H)} {ps:List MemPlace}
  (hv:∀ (j:Nat) t v,ts[j]?=some t→args[j]?=some v→Value.okWide Try.prog W .any b t v) (hA:DataW.TrodAll enc Try.prog W 0 (fun _=>true) true ts args ds ps) (hsz:(DataW.weightsEach Try.prog ts ds).all (·≤reachBytes)=true) :
  Calls Try.prog F args.toArray W fun e W'=>e=.returned (.bool true)∧Below W.heap.size W W':=by
 obtain ⟨x,hx,hf,hr⟩:=args_tyS hB hv hA (fun j t e elems rest ht hd hu=>sized_slice (P:=Try.prog) (ts:=ts) (ds:=ds) hsz ht hd hu);exact AF.yes (hc FU x (true,()) (hp x hx hf)) hr.args
end Go.Proofs.Ytedjnjgnadbkaaa
/- ReedsolomonChecks: for every input this law returns true and leaves its arguments as they were. -/
namespace Go.Proofs.Ytedjnjgnadbkaaa
open Go.ChangeShapes Go.WideShapes Go.ChangeAt Go.RowKit

theorem len_le {l:List Int} (h:l.length*1≤reachBytes):(l.length:Int)≤1000000000000000000:=by
 have e:reachBytes=140737488351232:=rfl;rw [e] at h;omega
set_option maxRecDepth 100000 in
theorem reedsolomonChecks_lifted (os:Os) (started:os.Started) (H:Type) (enc:TypeId×Value→H) :
  ReturnsInHanded {} Try.checked os 5 .any (Rows.reedsolomonChecksSpec.pre6 enc Try.prog Try.f5 Rows.reedsolomonChecksRow.domain false) (Rows.reedsolomonChecksSpec.post enc Try.prog Try.f5 false true false false):=by
 refine law_lifted started (by kernel_rfl) Try.func5
  (ChangeSpec.witness6 (enc:=enc) (C:=Try.checked) false ⟨#[],#[.slice none 0 0,.int .i64 0],[]⟩ 8 (by kernel_rfl) (by kernel_rfl) (by kernel_rfl) (by kernel_rfl)) rfl rfl (by kernel_rfl)
  (fun ds h=>by rw [Try.params5] at h;match ds,h with | [_,_],_=>rfl) ?_
 intro W base args ds ps hval hA hsz hlt;rw [Try.params5] at hA hval hsz;exact law_anyS law_ReedsolomonChecks_ok (by kernel_rfl) (fun x hx hfit=>Gf.checks_law fu_le reedsolomonWorks_true (by have h:=hfit.1 _ Try.underlying28;rw [show Try.prog.bytesOf 5=1 from by kernel_rfl] at h;exact len_le h) (fun v hv=>⟨(wf_u8 (hx.1.2 v hv)).1,(wf_u8 (hx.1.2 v hv)).2⟩)) (fun j t v ht hv=>hval j t v (by simpa using ht) hv) hA hsz

theorem reedsolomonChecks_holds:Rows.ReedsolomonChecksSaid :=
 OpenClaim.holds_of_wide 5 Try.f5 rfl rfl rfl rfl rfl rfl rfl ⟨rfl,rfl,rfl,rfl,rfl⟩ rfl rfl rfl rfl rfl (by kernel_rfl) Try.func5 (by kernel_rfl)
  (of_decide_eq_true (by kernel_rfl)) (by unfold Func.isWrapper;first | (rw [if_pos (by decide +kernel)];kernel_rfl) | (rw [if_neg (by decide +kernel)];exact ⟨rfl,rfl⟩))
  (fun os started H enc _=>reedsolomonChecks_lifted os started H enc)
end Go.Proofs.Ytedjnjgnadbkaaa
