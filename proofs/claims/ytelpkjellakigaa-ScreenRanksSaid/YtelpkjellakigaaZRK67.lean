/- ScreenRanks: for every input this law returns true and leaves its arguments as they were. -/
import Derived.Test.YtelpkjellakigaaZRK66
import Derived.Test.YtelpkjellakigaaRows
import Derived.WalkKit
import Derived.ProofKit
import Derived.SizedLaws
import Derived.BigQuiet
import Derived.Deep.QuietTactic
import Derived.Deep.Slices
import Derived.OpenShut
import Derived.Conc.Holds
/- ScreenRanks: screen.scatter,the program. -/
namespace Go.Proofs.Ytelpkjellakigaa
open Go Go.RowKit
set_option linter.unusedSimpArgs false
set_option linter.unusedSectionVars false
set_option linter.unusedVariables false
namespace Rk
open Sc
theorem app8 {β:Type} {l:List Int} {v:Int} {a b:Option β} (h:l.length≤1048576):(bif (decide ((((List.length l:Int)+(List.length ([v]:List Int):Int))*(8:Int))≤(140737488355328:Int))) then a else b)=a:=by
 refine bif_pos ?_;rw [List.length_singleton];omega
theorem l3_exit {fu:Nat} {a:(Int×Int×Int)×(Int×Int×Int)×Unit} {v2:Int×List Int×List Int} {j2:(Int×List Int×List Int)→Option (List Int×Unit)} {j3:(Int×Int)→Option (List Int×Unit)} {v3:Int×Int} (hx:¬ v3.2<(List.length v2.2.1:Int)) (h:v2.2.2.length≤1048576) :
  screen_scatter_l3 fu a v2 j2 j3 v3=loopF (screen_scatter_l6 fu a v2 v3 j2) fu (0,v2.2.1):=by
 unfold screen_scatter_l3;rw [bif_neg hx];exact app8 h
def apL (A B N:Int) (n r k:Nat):List Int:=tabL n fun i=>if i<(k:Int) then ap A B N n (r+1) i.toNat else ap A B N n r i.toNat
theorem dist_bd {A B N:Int} (ok:ScrOk A B) (b i:Nat):0≤dist A B N b i∧dist A B N b i≤1000000:=k1_bd (du_bd ok _ _) (dv_bd ok _ _)
theorem ap_succ {A B N:Int} (ok:ScrOk A B) {n r:Nat} (i:Nat):ap A B N n (r+1) i=min (ap A B N n r i) (dist A B N (next A B N n (seq A B N n r)) i):=by
 have hd:=dist_bd (N:=N) ok (next A B N n (seq A B N n r)) i;have e1:(seq A B N n (r+1)).getD r 0=next A B N n (seq A B N n r):=seq_at (by omega);have e2:nr A B N (seq A B N n (r+1)) r i=nr A B N (seq A B N n r) r i:=nr_congr r i fun q hq=>by rw [seq_at (by omega),seq_at hq]
 unfold ap;rw [if_neg (by omega),nr,e1,e2];by_cases c:r=0
 ·rw [if_pos (.inl c),if_pos c];omega
 ·rw [if_neg c]
  split <;> omega
section
variable {fu:Nat} (hf:18446744073709551616≤fu) {A B:Int} (ok:ScrOk A B) {K N S G:Int} (f:FormOk A B N S G) (hN4:N≤400) (hG4:G≤400) {n:Nat} (hn0:0<n) (hn:n≤400) (hN:A*A+B*B=(n:Int))
include hf ok f hN4 hG4 hn hN
theorem apart_r {r:Nat} (hr:r<n) {O:List Int} {j2}:loopF (screen_scatter_l6 fu ((A,(B,K)),((N,(S,G)),())) ((r:Int),(apL A B N n r 0,O)) ((next A B N n (seq A B N n r):Int),(n:Int)) j2) fu (0,apL A B N n r 0)=j2 (((r+1:Nat):Int),(apL A B N n (r+1) 0,O++[(next A B N n (seq A B N n r):Int)])):=by
 have n0:=f.n0;have g0:=f.g0;have hb:=(next_ok (A:=A) (B:=B) (N:=N) hr).2.1;generalize hbe:next A B N n (seq A B N n r)=b at hb ⊢;have hl0:(apL A B N n r 0).length=n:=tabL_length _ _;have bb:=pq_bd n0 hn hb;refine stLoop (n:=n) (by omega) (st:=fun k=>((k:Int),apL A B N n r k)) rfl ?_ ?_
 ·intro j i hi;have ii:=pq_bd n0 hn hi;have hl:(apL A B N n r i).length=n:=tabL_length _ _
  have hget:(apL A B N n r i).getD i 0=ap A B N n r i:=by
   unfold apL;rw [tabL_getDN hi,if_neg (by omega),Int.toNat_natCast]
  have hset:(apL A B N n r i).set i (ap A B N n (r+1) i)=apL A B N n r (i+1):=by
   have:=tabL_set (n:=n) (G:=fun q:Int=>if q<(i:Int) then ap A B N n (r+1) q.toNat else ap A B N n r q.toNat) (G':=fun q:Int=>if q<((i+1:Nat):Int) then ap A B N n (r+1) q.toNat else ap A B N n r q.toNat) (k:=(i:Int)) (v:=ap A B N n (r+1) i) (Int.natCast_nonneg _) (by
    rw [if_pos (by omega),Int.toNat_natCast]) fun q q0 q1 q2=>by
     by_cases c:q<(i:Int)
     ·rw [if_pos c,if_pos (by omega)]
     ·rw [if_neg c,if_neg (by omega)]
   rw [Int.toNat_natCast] at this;exact this
  unfold screen_scatter_l6;simp only;rw [hl0,hl,bif_pos (Int.ofNat_lt.2 hi),bif_pos (show N≠0 by omega),bif_pos (show N≠0 by omega),bif_pos (show N≠0 by omega),bif_pos (show N≠0 by omega)];rw [Int.tmod_eq_emod_of_nonneg (show 0≤(i:Int) by omega),Int.tmod_eq_emod_of_nonneg (show 0≤(b:Int) by omega),Int.tdiv_eq_ediv_of_nonneg (show 0≤(i:Int) by omega),Int.tdiv_eq_ediv_of_nonneg (show 0≤(b:Int) by omega)];rw [wr64 (x:=(i:Int) / N) (by omega) (by omega),wr64 (x:=(b:Int) / N) (by omega) (by omega),wr64 (x:=(i:Int) % N-(b:Int) % N) (by omega) (by omega),wr64 (x:=(i:Int) / N-(b:Int) / N) (by omega) (by omega)];rw [(place_r hf ok K f hN4 hG4 (x:=(i:Int) % N-(b:Int) % N) (y:=(i:Int) / N-(b:Int) / N) (by omega) (by omega)).1,bindO_some];have hdd:dist A B N b i=k1 0 (du A B ((i:Int) % N-(b:Int) % N) ((i:Int) / N-(b:Int) / N)) (dv A B ((i:Int) % N-(b:Int) % N) ((i:Int) / N-(b:Int) / N)):=rfl;have hbel:=place_bel f ((i:Int) % N-(b:Int) % N) ((i:Int) / N-(b:Int) / N);obtain ⟨c1,c2⟩:=du_congr hbel;have x0:=Int.emod_nonneg (((i:Int) % N-(b:Int) % N)-(((i:Int) / N-(b:Int) / N) / G) % N*S) (show N≠0 by omega);have x1:=Int.emod_lt_of_pos (((i:Int) % N-(b:Int) % N)-(((i:Int) / N-(b:Int) / N) / G) % N*S) n0;have y0:=Int.emod_nonneg ((i:Int) / N-(b:Int) / N) (show G≠0 by omega)
  have y1:=Int.emod_lt_of_pos ((i:Int) / N-(b:Int) / N) g0;rw [c1,c2] at hdd;have hgn:=f.mul;simp only;generalize (((i:Int) % N-(b:Int) % N)-(((i:Int) / N-(b:Int) / N) / G) % N*S) % N=x' at *
  generalize ((i:Int) / N-(b:Int) / N) % G=y' at *
  have p0:0≤y'*N:=Int.mul_nonneg y0 (by omega);have p1:(y'+1)*N≤G*N:=Int.mul_le_mul_of_nonneg_right (by omega) (by omega);have p2:(y'+1)*N=y'*N+N:=by rw [Int.add_mul,Int.one_mul]
  have ed:(y'*N+x') / N=y':=by rw [Int.add_comm,Int.add_mul_ediv_right _ _ (by omega),Int.ediv_eq_zero_of_lt x0 x1,Int.zero_add]
  have em:(y'*N+x') % N=x':=by
   have:=Int.mul_ediv_add_emod (y'*N+x') N;rw [ed,Int.mul_comm] at this;omega
  rw [offset_r ok n0 (p:=y'*N+x') (by omega) (by omega),bindO_some,em,ed];simp only;have u0:=du_bd ok x' y';have v0:=dv_bd ok x' y';rw [(tail_eq ok u0 v0).2,bif_and (Int.natCast_nonneg _) (Int.ofNat_lt.2 hi),bif_and (Int.natCast_nonneg _) (Int.ofNat_lt.2 hi),Int.toNat_natCast,hget,nx (by omega)]
  have e:min (ap A B N n r i) (du A B x' y'*du A B x' y'+dv A B x' y'*dv A B x' y')=ap A B N n (r+1) i:=by
   rw [ap_succ ok,hbe,hdd];rfl
  rw [e,hset]
 ·intro j;have e1:apL A B N n r n=apL A B N n (r+1) 0:=tabL_congr fun i i0 i1=>by rw [if_pos i1,if_neg (by omega)]
  unfold screen_scatter_l6;simp only;rw [hl0,bif_neg (Int.lt_irrefl _),nx (by omega),e1]
theorem choose_r {r:Nat} (hr:r<n) {O:List Int} (hO:O.length≤1048576) {j2}:loopF (screen_scatter_l3 fu ((A,(B,K)),((N,(S,G)),())) ((r:Int),(apL A B N n r 0,O)) j2) fu (-1,0)=j2 (((r+1:Nat):Int),(apL A B N n (r+1) 0,O++[(next A B N n (seq A B N n r):Int)])):=by
 have hl0:(apL A B N n r 0).length=n:=tabL_length _ _
 have hg:∀ q:Nat,q<n→(apL A B N n r 0).getD q 0=ap A B N n r q:=fun q hq=>by
  unfold apL;rw [tabL_getDN hq,if_neg (by omega),Int.toNat_natCast]
 refine stLoop (n:=n) (by omega) (st:=fun i=>(sc (fun i=>decide (0<ap A B N n r i)) (fun i b=>decide (ap A B N n r b<ap A B N n r i)) i,(i:Int))) rfl ?_ ?_
 ·intro j i hi;have hs:=sc_succ (fun i=>decide (0<ap A B N n r i)) (fun i b=>decide (ap A B N n r b<ap A B N n r i)) i
  have hbest:sc (fun i=>decide (0<ap A B N n r i)) (fun i b=>decide (ap A B N n r b<ap A B N n r i)) i<0∨∃ b:Nat,sc (fun i=>decide (0<ap A B N n r i)) (fun i b=>decide (ap A B N n r b<ap A B N n r i)) i=(b:Int)∧b<i:=by
   unfold sc
   cases hq:scan (fun i=>decide (0<ap A B N n r i)) (fun i b=>decide (ap A B N n r b<ap A B N n r i)) i with
   | none=>left;simp only;omega
   | some b=>exact .inr ⟨b,rfl,((scan_congr (U':=fun i=>decide (0<ap A B N n r i)) (bt':=fun i b=>decide (ap A B N n r b<ap A B N n r i)) i (fun _ _=>rfl) (fun _ _ _ _ _ _=>rfl)).1 b hq).2⟩
  generalize sc (fun i=>decide (0<ap A B N n r i)) (fun i b=>decide (ap A B N n r b<ap A B N n r i)) i=best at hs hbest ⊢
  have fin:∀ z:Int,(fun v4:Int×Int=>j (v4.2,IntKind.i64.wrap (v4.1+1))) ((i:Int),z)=j (z,((i+1:Nat):Int)):=fun z=>by
   show j (z,IntKind.i64.wrap ((i:Int)+1))=_;rw [nx (by omega)]
  unfold screen_scatter_l3 screen_scatter_j4 screen_scatter_j5;simp only [joinF_eq];rw [hl0,bif_pos (Int.ofNat_lt.2 hi),bif_and (Int.natCast_nonneg _) (Int.ofNat_lt.2 hi),Int.toNat_natCast,hg i hi,hs];by_cases c:0<ap A B N n r i
  ·rw [bif_pos c,if_pos (decide_eq_true c)];by_cases c1:best<0
   ·rw [bif_pos c1,if_pos c1];exact fin _
   ·obtain ⟨b,hbe,hbi⟩:=hbest.resolve_left c1;subst hbe;rw [bif_neg c1,if_neg c1,bif_and (Int.natCast_nonneg _) (by omega),Int.toNat_natCast,hg b (by omega)];by_cases c2:ap A B N n r b<ap A B N n r i
    ·rw [bif_pos c2,if_pos (decide_eq_true c2)];exact fin _
    ·rw [bif_neg c2,if_neg (by rw [decide_eq_true_eq];exact c2)];exact fin _
  ·rw [bif_neg c,if_neg (by rw [decide_eq_true_eq];exact c)];exact fin _
 ·intro j
  have e:sc (fun i=>decide (0<ap A B N n r i)) (fun i b=>decide (ap A B N n r b<ap A B N n r i)) n=(next A B N n (seq A B N n r):Int):=by
   unfold sc;rw [ap_scan f hN ok hr]
  rw [e,l3_exit (by show ¬ (n:Int)<((apL A B N n r 0).length:Int);rw [hl0];omega) hO];exact apart_r hf ok f hN4 hG4 hn hN hr
theorem scatter_r:screen_scatter_r fu ((A,(B,K)),((N,(S,G)),()))=some ((seq A B N n n).map Int.ofNat,()):=by
 unfold screen_scatter_r;simp only;rw [n_eq ok,hN,bif_and (Int.natCast_nonneg _) (by omega),Int.toNat_natCast];refine stLoop (n:=n) (by omega) (st:=fun k=>((k:Int),tabL n (fun i=>if i<(k:Int) then (1099511627776:Int) else 0))) ?_ ?_ ?_
 ·refine Prod.ext rfl ?_;show tabL n (fun i:Int=>if i<((0:Nat):Int) then (1099511627776:Int) else 0)=List.replicate n 0;exact tabL_rep fun i i0 _=>if_neg (by omega)
 ·intro j k hk;unfold screen_scatter_l1;simp only;rw [List.length_replicate,Int.toNat_natCast,bif_pos (Int.ofNat_lt.2 hk),tabL_length,bif_and (Int.natCast_nonneg _) (Int.ofNat_lt.2 hk),nx (by omega)]
  have:=tabL_set (n:=n) (G:=fun i:Int=>if i<(k:Int) then (1099511627776:Int) else 0) (G':=fun i:Int=>if i<((k+1:Nat):Int) then (1099511627776:Int) else 0) (k:=(k:Int)) (v:=1099511627776) (Int.natCast_nonneg _) (if_pos (by omega)) fun q q0 q1 q2=>by
   by_cases c:q<(k:Int)
   ·rw [if_pos c,if_pos (by omega)]
   ·rw [if_neg c,if_neg (by omega)]
  rw [this]
 ·intro j;have e1:tabL n (fun i:Int=>if i<(n:Int) then (1099511627776:Int) else 0)=apL A B N n 0 0:=tabL_congr fun i i0 i1=>by rw [if_pos i1,if_neg (by omega)];rfl
  unfold screen_scatter_l1;simp only;rw [List.length_replicate,Int.toNat_natCast,bif_neg (Int.lt_irrefl _),e1];refine stLoop (n:=n) (by omega) (st:=fun r=>((r:Int),(apL A B N n r 0,(seq A B N n r).map Int.ofNat))) rfl ?_ ?_
  ·intro j2 r hr;unfold screen_scatter_l2;simp only;rw [bif_pos (Int.ofNat_lt.2 hr),choose_r hf ok f hN4 hG4 hn hN hr (by rw [List.length_map,seq_len];omega),seq,List.map_append];rfl
  ·intro j2;unfold screen_scatter_l2;simp only;rw [bif_neg (Int.lt_irrefl _)]
end
end Rk
end Go.Proofs.Ytelpkjellakigaa
/- Numbers: what the small functions compute. -/
namespace Go.Proofs.Ytelpkjellakigaa
open Go Go.RowKit
set_option linter.unusedSimpArgs false
set_option linter.unusedSectionVars false
set_option linter.unusedVariables false

theorem floor_s (fu:Nat) {n d:Int} (hd:0<d) (h1:d≤9223372036854775807) (h2:-9223372036854775808≤n) (h3:n≤9223372036854775807):R_Floor_r fu (n,(d,()))=some (n / d,()):=by
 unfold R_Floor_r;simp only [joinF_eq];rw [bif_pos (by omega)];have hm:=Int.tmod_add_mul_tdiv n d;have hm1:=Int.natAbs_tmod n d;have h4:n.tdiv d*d=n-n.tmod d:=by rw [Int.mul_comm];omega
 have h5:(n.tmod d).natAbs≤n.natAbs:=by rw [hm1];exact Nat.mod_le _ _
 have hb:-9223372036854775808≤n.tdiv d*d∧n.tdiv d*d≤9223372036854775807:=by
  rcases Int.le_total 0 n with hn | hn
  ·have:=Int.tmod_nonneg d hn;omega
  ·have:=Int.tmod_nonneg (a:=-n) d (by omega);rw [Int.neg_tmod] at this;omega
 obtain ⟨b1,b2⟩:=hb;have hq:=Int.natAbs_tdiv n d;have hq':(n.tdiv d).natAbs≤n.natAbs:=by rw [hq];exact Nat.div_le_self _ _
 have hq3:n.tdiv d≤9223372036854775807:=by
  rcases Int.le_total 0 n with hn | hn
  ·omega
  ·have:=Int.tdiv_nonneg (a:=-n) (b:=d) (by omega) (by omega);rw [Int.neg_tdiv] at this;omega
 rw [wr64 (x:=n.tdiv d) (by omega) hq3,wr64 (x:=n.tdiv d*d) b1 b2];by_cases hc:n<n.tdiv d*d
 ·have hlow:-9223372036854775807≤n.tdiv d:=by
   rcases Int.lt_or_le d 2 with g | g
   ·obtain rfl:d=1:=by omega
    rw [Int.tdiv_one] at hc;omega
   ·have h6:(n.tdiv d).natAbs≤n.natAbs / 2:=by
     rw [hq];exact Nat.div_le_div_left (by omega) (by omega)
    omega
  rw [bif_pos hc,wr64 (x:=n.tdiv d-1) (by omega) (by omega),tdiv_over hd hc];rfl
 ·rw [bif_neg hc,tdiv_under hd (by omega)];rfl
theorem floor_mul' {n d:Int} (hd:0<d):n / d*d≤n∧n<n / d*d+d:=by
 have h1:=Int.mul_ediv_add_emod n d;have h2:=Int.emod_nonneg n (by omega:d≠0);have h3:=Int.emod_lt_of_pos n hd;rw [Int.mul_comm] at h1;omega
theorem round_s (fu:Nat) {n d:Int} (hd:0<d) (h1:d≤1000000000000000) (h2:-1000000000000000000≤n) (h3:n≤1000000000000000000):R_Round_r fu (n,(d,()))=some (rnd n d,()):=by
 unfold R_Round_r;simp only;rw [floor_s fu hd (by omega) (by omega) (by omega)];simp only [bindO_some,joinF_eq];obtain ⟨b1,b2⟩:=floor_mul' (n:=n) hd
 have hq:-1000000000000000001≤n / d∧n / d≤1000000000000000000:=by
  constructor
  ·rcases Int.lt_or_le (n / d) 0 with g | g
   ·have:n / d*d≤n / d*1:=Int.mul_le_mul_of_nonpos_left (by omega) (by omega);have h4:n / d*d-n / d*1≤0:=by omega
    have h5:(n / d+1)*d≤(n / d+1)*1:=Int.mul_le_mul_of_nonpos_left (by omega) (by omega);rw [Int.add_mul] at h5;omega
   ·omega
  ·rcases Int.lt_or_le (n / d) 1 with g | g
   ·omega
   ·have:n / d*1≤n / d*d:=Int.mul_le_mul_of_nonneg_left (by omega) (by omega);omega
 rw [wr64 (x:=n / d*d) (by omega) (by omega),wr64 (x:=n-n / d*d) (by omega) (by omega),wr64 (x:=2*(n-n / d*d)) (by omega) (by omega)];by_cases hc:d≤2*(n-n / d*d)
 ·rw [bif_pos hc,wr64 (x:=n / d+1) (by omega) (by omega),rnd_up hd hc];rfl
 ·rw [bif_neg hc,rnd_down hd (by omega)];rfl
theorem nearest_s (fu:Nat) {n d:Int} (hd:0<d) (h1:d≤1000000000000000) (h2:-1000000000000000000≤n) (h3:n≤1000000000000000000):curve_Nearest_r fu (n,(d,()))=some (rnd n d,()):=by
 obtain ⟨g1,g2⟩:=tdiv_abs (n:=2*n+d) (m:=2002000000000000000) (2*d) (by omega) (by omega);unfold curve_Nearest_r rnd;simp only [joinF_eq];rw [wr64 (x:=2*n) (by omega) (by omega),wr64 (x:=2*n+d) (by omega) (by omega),wr64 (x:=2*d) (by omega) (by omega),bif_pos (by omega),bif_pos (by omega),wr64 (x:=(2*n+d).tdiv (2*d)) (by omega) (by omega)];by_cases hc:(2*n+d).tmod (2*d)<0
 ·rw [bif_pos hc,wr64 (x:=(2*n+d).tdiv (2*d)-1) (by omega) (by omega),tdiv_neg (by omega) hc];rfl
 ·rw [bif_neg hc,tdiv_pos (by omega) (by omega)];rfl
end Go.Proofs.Ytelpkjellakigaa
/- The law ScreenRanks. -/
namespace Go.Proofs.Ytelpkjellakigaa
open Go Go.RowKit
set_option linter.unusedSimpArgs false
set_option linter.unusedSectionVars false
set_option linter.unusedVariables false
namespace Rk
open Sc
section
variable {fu:Nat} (hf:18446744073709551616≤fu)
include hf
theorem same_ints {l:List Int} (h:l.length≤1000):R_SameInts_r fu (l,(l,()))=some (true,()):=by
 unfold R_SameInts_r;simp only;rw [bif_neg (fun g=>g rfl)];refine stLoop (n:=l.length) (by omega) (st:=fun k=>(k:Int)) rfl ?_ ?_
 ·intro j k hk;unfold R_SameInts_l1;simp only;rw [bif_pos (Int.ofNat_lt.2 hk),bif_and (Int.natCast_nonneg _) (Int.ofNat_lt.2 hk),bif_neg (fun g=>g rfl),nx (by omega),bif_and (Int.natCast_nonneg _) (Int.ofNat_lt.2 hk)]
 ·intro j;unfold R_SameInts_l1;simp only;rw [bif_neg (Int.lt_irrefl _)]
theorem both_ranks {A B:Int} (ok:ScrOk A B) (K:Int):∃ L:List Int,screen_Ranks_r fu ((A,(B,K)),())=some (L,())∧R_Ranks_r fu ((A,(B,K)),())=some (L,())∧(L.length:Int)=A*A+B*B:=by
 obtain ⟨N,S,G,hO,f,hN4,hG4⟩:=form_r hf ok K;have n0:=ok.n0;have n1:=ok.n1;obtain ⟨n,hN⟩:=Int.eq_ofNat_of_zero_le (show 0≤A*A+B*B by omega);have hn0:0<n:=by omega
 have hn:n≤400:=by omega
 by_cases hK:K=3
 ·have h:=seq_ord (A:=A) (B:=B) (N:=N) (n:=n);refine ⟨rankL n (seq A B N n n) n 0,?_,?_,by rw [rankL_len,hN]⟩
  ·exact ranks_r hf ok f.n0 hn0 hn hN h hO (fun _=>scatter_r hf ok f hN4 hG4 hn hN) (fun g=>absurd hK g)
  ·rw [rankL_full h 0 (-1)];exact rranks_r hf ok f.n0 hn0 hn hN h f hG4 fun r hr=>by rw [hK];exact sel_seq r hr
 ·obtain ⟨O,h,h1,h2⟩:=sorted ok (fu:=fu) (K:=K) (S:=S) (G:=G) f.n0 hn0 hn;refine ⟨rankL n O n 0,?_,?_,by rw [rankL_len,hN]⟩
  ·exact ranks_r hf ok f.n0 hn0 hn hN h hO (fun g=>absurd g hK) (fun _=>h1)
  ·rw [rankL_full h 0 (-1)];exact rranks_r hf ok f.n0 hn0 hn hN h f hG4 fun r hr=>sel_sorted h hK h2 r hr
theorem none1 (e:Int):law_none_r fu (true,(e,(e,())))=some (true,()):=by
 rw [Sc.none_r,decide_eq_true rfl];rfl
theorem screenRanks_r (A B K t:Int) (hW:law_screenWorks_r fu ()=some (true,())):law_ScreenRanks_r fu ((A,(B,K)),(t,()))=some (true,()):=by
 unfold law_ScreenRanks_r screen_Order_r screen_Dots_r;simp only [hW,bindO_some,Bool.not_true,cond_false,check_r,err_r,joinF_eq];by_cases e:scE A B K=0
 ·have ok:=scE_ok e;have n0:=ok.n0;have n1:=ok.n1;obtain ⟨L,h1,h2,h3⟩:=both_ranks hf ok K;have hLn:L.length≤1000:=by omega
  have hj:∀ v5 v6:Int,(t<0∨255<t→v5=0∧v6=3)→(0≤t∧t≤255→v6=0∧v5=rnd (t*(L.length:Int)) 255)→law_ScreenRanks_j1 fu ((A,(B,K)),(t,())) L v5 v6 (!true)=some (true,()):=fun v5 v6 g1 g2=>by
   unfold law_ScreenRanks_j1;simp only [Bool.not_true,cond_false,within_r,bindO_some];by_cases c:0≤t∧t≤255
   ·obtain ⟨q1,q2⟩:=g2 c;have b1:0≤t*(L.length:Int):=Int.mul_nonneg c.1 (by omega);have b2:t*(L.length:Int)≤255*400:=Int.mul_le_mul c.2 (by omega) (by omega) (by omega);rw [decide_eq_true c];simp only [Bool.not_true,cond_false];rw [bif_pos q1,wr64 (x:=t*(L.length:Int)) (by omega) (by omega),round_s fu (by omega) (by omega) (by omega) (by omega),bindO_some,q2,decide_eq_true rfl]
   ·obtain ⟨q1,q2⟩:=g1 (by omega);rw [decide_eq_false c];simp only [Bool.not_false,cond_true];rw [q1,q2,decide_eq_true rfl,none1 hf,bindO_some]
  have hD:∃ v5 v6:Int,(bif decide (t<0) then screen_Dots_j1 fu ((A,(B,K)),(t,())) true else screen_Dots_j1 fu ((A,(B,K)),(t,())) (decide (255<t)))=some (v5,(v6,()))∧(t<0∨255<t→v5=0∧v6=3)∧(0≤t∧t≤255→v6=0∧v5=rnd (t*(L.length:Int)) 255):=by
   by_cases c1:t<0
   ·rw [bif_pos c1];exact ⟨0,3,rfl,fun _=>⟨rfl,rfl⟩,fun g=>by omega⟩
   ·rw [bif_neg c1];by_cases c2:255<t
    ·rw [decide_eq_true c2];exact ⟨0,3,rfl,fun _=>⟨rfl,rfl⟩,fun g=>by omega⟩
    ·rw [decide_eq_false c2];have b1:0≤t*(A*A+B*B):=Int.mul_nonneg (by omega) (by omega);have b2:t*(A*A+B*B)≤255*400:=Int.mul_le_mul (by omega) (by omega) (by omega) (by omega);refine ⟨rnd (t*(A*A+B*B)) 255,0,?_,fun g=>by omega,fun _=>⟨rfl,by rw [h3]⟩⟩;unfold screen_Dots_j1;simp only [cond_false];rw [n_eq ok,wr64 (x:=t*(A*A+B*B)) (by omega) (by omega),nearest_s fu (by omega) (by omega) (by omega) (by omega),bindO_some]
  obtain ⟨v5,v6,hD,g1,g2⟩:=hD;rw [e,h1,h2];simp only [bindO_some];rw [bif_neg (by decide),bif_neg (by decide),bindO_some,hD];simp only [bindO_some];rw [bif_neg (by decide),bif_neg (by decide),same_ints hf hLn];simp only [bindO_some];exact hj v5 v6 g1 g2
 ·rw [bif_pos e,bindO_some,bif_pos e,bindO_some];simp only;rw [bif_pos e];have hl:(decide ((List.length ([]:List Int):Int)=0))=true:=rfl;rw [hl,none1 hf,bindO_some];simp only [cond_true];rw [decide_eq_true trivial,none1 hf,bindO_some]
end
end Rk
end Go.Proofs.Ytelpkjellakigaa
/- The step from a walk to a law's row,once for all laws of the seat: a law that returns true and leaves all that was there as it was. -/
namespace Go.Proofs.Ytelpkjellakigaa
open Go.ChangeShapes Go.WideShapes Go.ChangeAt Go.RowKit

theorem own:ownKnob Try.prog.godebug=none:=by kernel_rfl
theorem laidOut:laidOutB Try.prog=true:=by kernel_rfl
theorem boolT:Try.prog.underlying 4=some .bool:=Try.underlying4

theorem trodAll_stays {H:Type} {enc:TypeId×Value→H} {P:Program} (hl:laidOutB P=true) {W W':World} (hb:Below W.heap.size W W') :
  ∀ {ts:List TypeId} {vs:List Value} {ds:List (DataW H)} {ps:List MemPlace},(∀ t ∈ ts,P.readableRec t=true∧t<P.types.size)→DataW.TrodAll enc P W 0 (fun _=>true) true ts vs ds ps →
   (∀ x ∈ ps,x.block<W.heap.size)→DataW.TrodAll enc P W' 0 (fun b=>decide (b<W.heap.size)) true ts vs ds ps
 | [],[],[],_,_,h,_=>h
 | t::ts,v::vs,d::ds,_,hr,⟨p,q,h1,h2,e⟩,hlt =>
  ⟨p,q,Below.trod hl (hr t (by simp)).1 (hr t (by simp)).2 h1 hb (fun x hx=>hlt x (by rw [e];simp [hx])),
   trodAll_stays hl hb (fun t' ht=>hr t' (by simp [ht])) h2 (fun x hx=>hlt x (by rw [e];simp [hx])),e⟩
 | [],[],_::_,_,_,h,_=>h.elim
 | [],_::_,_,_,_,h,_=>h.elim
 | _::_,[],_,_,_,h,_=>h.elim
 | _::_,_::_,[],_,_,h,_=>h.elim

def readsAll (P:Program) (ts:List TypeId):Bool:=ts.all fun t=>P.readableRec t&&decide (t<P.types.size)
theorem readsAll_all {P:Program} {ts:List TypeId} (h:readsAll P ts=true):∀ t ∈ ts,P.readableRec t=true∧t<P.types.size:=by
 intro t ht;have:=List.all_eq_true.1 h t ht;simpa using this

theorem trodAll_length {H:Type} {enc:TypeId×Value→H} {P:Program} {W:World} {base:Nat} {spare:Nat→Bool} {held:Bool} :
  ∀ {ts:List TypeId} {vs:List Value} {ds:List (DataW H)} {ps:List MemPlace},DataW.TrodAll enc P W base spare held ts vs ds ps→ds.length=ts.length
 | [],[],[],_,_=>rfl
 | _::_,_::_,_::_,_,⟨_,_,_,h2,_⟩=>by simp [trodAll_length h2]
 | [],[],_::_,_,h=>h.elim
 | [],_::_,_,_,h=>h.elim
 | _::_,[],_,_,h=>h.elim
 | _::_,_::_,[],_,h=>h.elim

set_option maxRecDepth 100000 in
theorem law_lifted {os:Os} (started:os.Started) {H:Type} {enc:TypeId×Value→H} {f:FuncId} {fn:Func} {s:ChangeSpec}
  (noInit:Try.checked.prog.inits.idxOf? f=none) (hfn:Try.checked.prog.funcs[f]?=some fn)
  (witness:∃ (w:World) (tape:Tape) (i:Input),w.os=os∧(w.forCall tape i).Shaped Try.checked.prog∧i.vars=[]∧Input.okWide Try.checked.prog (w.forCall tape i) .any w.heap.size f i ∧
   s.pre6 enc Try.checked.prog fn [] false (w.forCall tape i).memory i.args∧({}:Assume).holds Try.checked.prog (lone (Frame.enter Try.checked.prog f i.args .normal) [] (w.forCall tape i)))
  (hvars:s.vars=[]) (hres:fn.resultTypes=#[4]) (hread:readsAll Try.prog fn.params.toList=true)
  (hspec:∀ ds:List (DataW H),ds.length=fn.params.toList.length→s.fn H ds={ results:=[.lit (.bool true)],args:=ds })
  (walk:∀ (W:World) (base:Nat) (args:List Value) (ds:List (DataW H)) (ps:List MemPlace),
   (∀ (j:Nat) t v,fn.params[j]?=some t→args[j]?=some v→Value.okWide Try.prog W .any base t v)→DataW.TrodAll enc Try.prog W 0 (fun _=>true) true fn.params.toList args ds ps →
   (DataW.weightsEach Try.prog fn.params.toList ds).all (·≤reachBytes)=true→(∀ x ∈ ps,x.block<W.heap.size) →
   Calls Try.prog f args.toArray W fun e W'=>e=.returned (.bool true)∧Below W.heap.size W W') :
  ReturnsInHanded {} Try.checked os f .any (s.pre6 enc Try.checked.prog fn [] false) (s.post enc Try.checked.prog fn false true false false):=by
 refine returnsInHanded_of_change_sized (C:=Try.checked) own started noInit hfn witness ?_;intro W base args ds gs before hval hW _ hsz _;have hW':=hW;obtain ⟨p,q,hA0,hV,rfl,hfz,hnd⟩:=hW;rw [hvars] at hV;obtain ⟨rfl,rfl⟩:=trodVars_none hV;have hA:DataW.TrodAll enc Try.prog W 0 (fun _=>true) true fn.params.toList args.toList ds p:=hA0;have hlen:ds.length=fn.params.toList.length:=trodAll_length hA;have hlt:∀ x ∈ p,x.block<W.heap.size:=fun x hx=>hW'.lt x (by simpa using hx)
 have hargs:args.toList.toArray=args:=by simp
 have hsz':(DataW.weightsEach Try.prog fn.params.toList ds).all (·≤reachBytes)=true:=by
  have h:=hsz;have hvt:s.plain.varTypes Try.checked.prog=[]:=by simp [DataSpec.varTypes,ChangeSpec.plain,hvars]
  rw [hvt] at h;simp only [List.append_nil] at h;exact h
 have hw:=walk W base args.toList ds p (fun j t v ht hv=>hval j t v ht (by simpa using hv)) hA hsz' hlt;rw [hargs] at hw;refine hw.mono fun e W' ⟨he,hb⟩=>⟨.bool true,he,?_⟩
 have hsf:s.fn H (ds++[])={ results:=[.lit (.bool true)],args:=ds }:=by rw [List.append_nil];exact hspec ds hlen
 refine ⟨ds,[],p++[],[],p,[],hW',?_,?_,?_,hb.frame _,fun h=>by cases h⟩
 ·rw [hsf,hres];exact trodAll_mk1 (shut_bool boolT true)
 ·rw [hsf];exact trodAll_stays laidOut hb (readsAll_all hread) hA hlt
 ·rw [hsf,hvars];rfl
end Go.Proofs.Ytelpkjellakigaa
/- Arguments opened: what slices and structs of numbers read as. -/
set_option maxRecDepth 100000
namespace Go.Proofs.Ytelpkjellakigaa
open Go.ChangeShapes Go.WideShapes Go.ChangeAt Go.RowKit Go.Deep

theorem choose_list {α:Type} {n:Nat} {Q:Nat→α→Prop} (h:∀ i,i<n→∃ p,Q i p):∃ l:List α,l.length=n∧∀ i p,l[i]?=some p→Q i p:=by
 induction n with
 | zero=>exact ⟨[],rfl,by intro i p hi;simp at hi⟩
 | succ n ih =>
  obtain ⟨l,hl,hq⟩:=ih (fun i hi=>h i (by omega));obtain ⟨p,hp⟩:=h n (by omega);refine ⟨l++[p],by simp [hl],fun i q hi=>?_⟩;rcases Nat.lt_trichotomy i n with hlt | rfl | hgt
  ·rw [List.getElem?_append_left (by omega)] at hi;exact hq i q hi
  ·rw [List.getElem?_append_right (by omega),hl] at hi;simp at hi;subst hi;exact hp
  ·rw [List.getElem?_eq_none (by simp;omega)] at hi;cases hi

section
variable {H:Type} {enc:TypeId×Value→H} {P:Program} {w:World} {base:Nat} {spare:Nat→Bool} {held:Bool}
theorem rd_slice {t e:TypeId} {fuel:Nat} {v:Value} {x:DataW H×List MemPlace} (ht:P.underlying t=some (.slice e)) (hc:0<P.cellsOf e) (h:DataW.trod enc P w base spare held fuel t [v]=some x) :
  ∃ A n c,v=.slice A n c∧n≤c∧c≤maxLen∧∀ i,i<n→∃ b o cs n' x',A=some ⟨b,o,none⟩∧cs.length=P.cellsOf e∧(∀ j u,cs[j]?=some u→w.cell? ⟨b,o+i*P.cellsOf e+j,none⟩=some u) ∧
   DataW.trod enc P w base spare held n' e cs=some x':=by
 rcases open_slice ht h with ⟨h0,_⟩ | ⟨a,len,cap,m,n',D,Pl,hcs,_,hl,hm,hmm,_,hi⟩
 ·simp at h0;subst h0;exact ⟨none,0,0,rfl,by omega,by unfold maxLen;omega,by intro i hi;omega⟩
 ·simp at hcs;subst hcs;refine ⟨some a,len,cap,rfl,hl,hm,fun i hil=>?_⟩
  have hlm:len≤m:=by rw [hmm];split <;> omega
  obtain ⟨cs,h1,h2⟩:=hi i (by omega);obtain ⟨hb,hlen,hat⟩:=World.cells?_some h1;obtain ⟨b,o,spot⟩:=a;have h00:=hat 0 (by omega)
  have hsp:spot=none:=by
   obtain ⟨cs0,g1,_⟩:=hi 0 (by omega);obtain ⟨_,gl,gat⟩:=World.cells?_some g1;have hx:=gat 0 (by omega);rw [List.getElem?_eq_getElem (by omega)] at hx;simpa [Addr.add] using World.cell?_spot hx
  subst hsp;refine ⟨b,o,cs,n',_,rfl,hlen,?_,h2⟩;intro j u hu;have hjl:j<P.cellsOf e:=by rw [←hlen];exact (List.getElem?_eq_some_iff.1 hu).1
  have:=hat j hjl;rw [hu,Addr.add_lit,Addr.add_lit] at this;exact this
end

end Go.Proofs.Ytelpkjellakigaa
/- Arguments opened,as abstract values. -/
set_option maxRecDepth 100000
namespace Go.Proofs.Ytelpkjellakigaa
open Go Go.ChangeShapes Go.WideShapes Go.ChangeAt Go.RowKit Go.Deep

section
variable {H:Type} {enc:TypeId×Value→H} {P:Program} {w:World} {base:Nat} {spare:Nat→Bool} {held:Bool}
abbrev RelC (w:World):AV→Value→Prop:=RelD w (fun _=>False) w.heap.size
def Reads {α:Type} (w:World) (sz:Nat) (ec:α→List AV) (Q:α→Prop) (cs:List Value):Prop :=
 ∃ p,Q p∧(ec p).length=sz∧∀ (j:Nat) (a:AV) (u:Value),(ec p)[j]?=some a→cs[j]?=some u→RelC w a u
theorem ro_slice {α:Type} (ec:α→List AV) (Q:α→Prop) {t e:TypeId} {sz fuel:Nat} {v:Value} {x:DataW H×List MemPlace} (ht:P.underlying t=some (.slice e)) (hz:P.cellsOf e=sz) (hc:0<sz)
  (hel:∀ (fuel:Nat) (cs:List Value) (x:DataW H×List MemPlace),cs.length=sz→DataW.trod enc P w base spare held fuel e cs=some x→Reads w sz ec Q cs) (h:DataW.trod enc P w base spare held fuel t [v]=some x) :
  ∃ xs:List α,(∀ p ∈ xs,Q p)∧RelC w (.ro false sz (xs.map ec)) v:=by
 subst hz;obtain ⟨A,n,c,rfl,hn,hm,hi⟩:=rd_slice ht hc h
 obtain ⟨xs,hl,hq⟩:=choose_list (Q:=fun i (p:α)=>Q p∧∃ (b o:Nat) (cs:List Value),A=some ⟨b,o,none⟩∧cs.length=P.cellsOf e∧(∀ (j:Nat) (u:Value),cs[j]?=some u→w.cell? ⟨b,o+i*P.cellsOf e+j,none⟩=some u)∧(ec p).length=P.cellsOf e∧∀ (j:Nat) (a:AV) (u:Value),(ec p)[j]?=some a→cs[j]?=some u→RelC w a u) (n:=n) (by
  intro i hil;obtain ⟨b,o,cs,n',x',hA,hlen,hat,htr⟩:=hi i hil;obtain ⟨p,h1,h2,h3⟩:=hel n' cs x' hlen htr
  exact ⟨p,h1,b,o,cs,hA,hlen,hat,h2,h3⟩)
 subst hl;refine ⟨xs,fun p hp=>?_,?_⟩
 ·obtain ⟨i,hi⟩:=List.mem_iff_getElem?.1 hp;exact (hq i p hi).1
 have key:∀ (i:Nat) (row:List AV) (j:Nat) (a:AV),(xs.map ec)[i]?=some row→row[j]?=some a→∃ b o u,A=some ⟨b,o,none⟩∧w.cell? ⟨b,o+i*P.cellsOf e+j,none⟩=some u∧RelC w a u:=by
  intro i row j a hr ha;rw [List.getElem?_map] at hr;obtain ⟨p,hp,rfl⟩:=Option.map_eq_some_iff.1 hr;obtain ⟨_,b,o,cs,hA,hlen,hat,hel,hrel⟩:=hq i p hp;have hj:j<cs.length:=by rw [hlen,←hel];exact (List.getElem?_eq_some_iff.1 ha).1
  have hu:cs[j]?=some cs[j]:=List.getElem?_eq_getElem hj;exact ⟨b,o,cs[j],hA,hat j _ hu,hrel j a _ ha hu⟩
 have hcon:=RelD.ro (w:=w) (own:=fun _=>False) (bs:=w.heap.size) false (P.cellsOf e) (xs.map ec) A c (fun i j=>match A with
  | some ⟨b,o,_⟩=>(w.cell? ⟨b,o+i*P.cellsOf e+j,none⟩).getD undef
  | none=>undef) (by simpa using hn) hm (fun i hi hA=>by
   have hi:i<xs.length:=by simpa using hi
   obtain ⟨_,b,o,_,h1,_⟩:=hq i xs[i] (List.getElem?_eq_getElem hi)
   rw [hA] at h1;cases h1) (fun i row j a hr ha=>by
   obtain ⟨b,o,u,hA,hu,_⟩:=key i row j a hr ha;subst hA
   exact ⟨b,o,rfl,fun h=>h.elim,(fun h=>by cases h),by simp [hu]⟩) (fun i row j a hr ha=>by
   obtain ⟨b,o,u,hA,hu,hr⟩:=key i row j a hr ha;subst hA
   simpa [hu] using hr)
 rw [List.length_map] at hcon;exact hcon
end
theorem AF.yes {P:Program} {F:FuncId} {xs:List AV} {vs:Array Value} {w:World} (h:AF P F xs (.bool true)) (ha:ArgsV w (Gh.none w.heap.size) xs vs):Calls P F vs w fun e w'=>e=.returned (.bool true)∧Below w.heap.size w w' :=
 (h.out w vs ha).mono fun e w' ⟨v,he,hb,hv⟩=>⟨by rw [he,hv.bool'],hb⟩
end Go.Proofs.Ytelpkjellakigaa
/- Arguments of any type,opened by one theorem;the last step of a law that a residual program answers. -/
set_option maxRecDepth 100000
namespace Go.Proofs.Ytelpkjellakigaa
open Go Go.ChangeShapes Go.WideShapes Go.ChangeAt Go.RowKit Go.Deep

def Ty.wf:(t:Ty)→t.den→Prop
 | .int k,n=>(Lit.int k n).wf=true
 | .bool,_=>True
 | .str,s=>List.length s≤maxLen
 | .list t,xs=>List.length xs≤maxLen∧∀ x ∈ (xs:List t.den),t.wf x
 | .unit,_=>True
 | .pair a b,x=>a.wf x.1∧b.wf x.2
 | .agg t,x=>t.wf x
 | .ptr _,_=>False
def prB (t:Ty) (f:Ty→Ty→Bool):Bool:=match t with
 | .pair x y=>f x y
 | _=>false
def unB (t:Ty):Bool:=match t with
 | .unit=>true
 | _=>false
theorem prB_ok {t:Ty} {f:Ty→Ty→Bool} (h:prB t f=true):∃ x y,t=.pair x y∧f x y=true:=by
 unfold prB at h;split at h
 ·exact ⟨_,_,rfl,h⟩
 ·cases h
theorem unB_ok {t:Ty} (h:unB t=true):t=.unit:=by
 unfold unB at h;split at h
 ·rfl
 ·cases h
def fsB (g:TypeId→Ty→Bool):List Field→Nat→Ty→Bool
 | [],_,t=>unB t
 | [a],o,t=>Nat.beq a.offset o&&g a.type t
 | a::b::l,o,t=>prB t fun x y=>Nat.beq a.offset o&&g a.type x&&fsB g (b::l) (o+x.size) y
def arB (g:Ty→Bool):Nat→Ty→Bool
 | 0,t=>unB t
 | 1,t=>g t
 | n+2,t=>prB t fun x y=>g x&&arB g (n+1) y
def intB (k:IntKind) (t:Ty):Bool:=match t with
 | .int k'=>decide (k'=k)
 | _=>false
def boolB (t:Ty):Bool:=match t with
 | .bool=>true
 | _=>false
def strB (t:Ty):Bool:=match t with
 | .str=>true
 | _=>false
def sliceB (g:Ty→Bool) (t:Ty):Bool:=match t with
 | .list t'=>g t'&&Nat.blt 0 t'.size
 | _=>false
def tyB (P:Program):Nat→TypeId→Ty→Bool
 | 0,_,_=>false
 | f+1,tid,t=>Nat.beq (P.cellsOf tid) t.size&&(match P.underlying tid with
  | some (.int k)=>intB k t
  | some .bool=>boolB t
  | some .string=>strB t
  | some (.slice e)=>sliceB (tyB P f e) t
  | some (.struct ⟨fs⟩)=>fsB (tyB P f) fs 0 t
  | some (.array n e)=>arB (tyB P f e) n t
  | _=>false)
section
variable {H:Type} {enc:TypeId×Value→H} {P:Program} {w:World} {base:Nat} {spare:Nat→Bool} {held:Bool}
abbrev ReadsT (w:World) (t:Ty) (cs:List Value):Prop:=Reads w t.size (t.cells false) t.wf cs
theorem tyB_size {f:Nat} {tid:TypeId} {t:Ty} (h:tyB P f tid t=true):P.cellsOf tid=t.size:=by
 cases f with
 | zero=>cases h
 | succ f=>rw [tyB,Bool.and_eq_true] at h;exact Nat.eq_of_beq_eq_true h.1
theorem ReadsT.pair {a b:Ty} {c d:List Value} (h:ReadsT w a c) (k:ReadsT w b d) (hl:c.length=a.size):ReadsT w (.pair a b) (c++d):=by
 obtain ⟨x,x1,x2,x3⟩:=h;obtain ⟨y,y1,y2,y3⟩:=k;refine ⟨(x,y),⟨x1,y1⟩,Ty.cells_length _ _ _,fun j v u hv hu=>?_⟩;rw [Ty.cells] at hv;by_cases hj:j<a.size
 ·rw [List.getElem?_append_left (by rw [x2];exact hj)] at hv;rw [List.getElem?_append_left (by omega)] at hu;exact x3 j v u hv hu
 ·rw [List.getElem?_append_right (by rw [x2];omega),x2] at hv;rw [List.getElem?_append_right (by omega),hl] at hu;exact y3 _ v u hv hu
theorem ReadsT.unit:ReadsT w .unit []:=⟨(),trivial,rfl,fun j a u h _=>by simp [Ty.cells] at h⟩
theorem fs_reads {g:TypeId→Ty→Bool} (hg:∀ (tid:TypeId) (t:Ty) (n:Nat) (cs:List Value) (x:DataW H×List MemPlace),g tid t=true→cs.length=t.size→DataW.trod enc P w base spare held n tid cs=some x→ReadsT w t cs) (hsz:∀ tid t,g tid t=true→P.cellsOf tid=t.size) {cs:List Value} :
  ∀ (l:List Field) (o:Nat) (t:Ty),fsB g l o t=true→(∀ a ∈ l,∃ n y,DataW.trod enc P w base spare held n a.type ((cs.drop a.offset).take (P.cellsOf a.type))=some y)→o+t.size≤cs.length→ReadsT w t ((cs.drop o).take t.size)
 | [],o,t,h,_,_=>by
  rw [unB_ok h,show Ty.unit.size=0 from rfl,List.take_zero];exact .unit
 | [a],o,t,h,hr,hl=>by
  rw [fsB,Bool.and_eq_true] at h;obtain ⟨n,y,hy⟩:=hr a (by simp);rw [Nat.eq_of_beq_eq_true h.1,hsz _ _ h.2] at hy;exact hg _ _ n _ y h.2 (by rw [List.length_take,List.length_drop];omega) hy
 | a::b::l,o,t,h,hr,hl=>by
  obtain ⟨x,y,rfl,h'⟩:=prB_ok h;clear h;have h:=h';clear h';rw [Bool.and_eq_true,Bool.and_eq_true] at h;obtain ⟨n,z,hz⟩:=hr a (by simp);rw [Nat.eq_of_beq_eq_true h.1.1,hsz _ _ h.1.2] at hz;have hs:(Ty.pair x y).size=x.size+y.size:=rfl;rw [hs] at hl;have h1:=hg _ _ n _ z h.1.2 (by rw [List.length_take,List.length_drop];omega) hz;have h2:=fs_reads hg hsz (b::l) (o+x.size) y h.2 (fun a ha=>hr a (List.mem_cons_of_mem _ ha)) (by omega);rw [hs,List.take_add,List.drop_drop];exact h1.pair h2 (by rw [List.length_take,List.length_drop];omega)
theorem ar_reads {g:Ty→Bool} {e:TypeId} (hg:∀ (t:Ty) (n:Nat) (cs:List Value) (x:DataW H×List MemPlace),g t=true→cs.length=t.size→DataW.trod enc P w base spare held n e cs=some x→ReadsT w t cs) (hsz:∀ t,g t=true→P.cellsOf e=t.size) {cs:List Value} :
  ∀ (k o:Nat) (t:Ty),arB g k t=true→(∀ i,i<k→∃ n y,DataW.trod enc P w base spare held n e ((cs.drop (o+i*P.cellsOf e)).take (P.cellsOf e))=some y)→o+t.size≤cs.length→ReadsT w t ((cs.drop o).take t.size)
 | 0,o,t,h,_,_=>by
  rw [unB_ok h,show Ty.unit.size=0 from rfl,List.take_zero];exact .unit
 | 1,o,t,h,hr,hl=>by
  rw [arB] at h;obtain ⟨n,y,hy⟩:=hr 0 (by omega);rw [hsz _ h,Nat.zero_mul,Nat.add_zero] at hy;exact hg _ n _ y h (by rw [List.length_take,List.length_drop];omega) hy
 | k+2,o,t,h,hr,hl=>by
  obtain ⟨x,y,rfl,h'⟩:=prB_ok h;clear h;have h:=h';clear h';rw [Bool.and_eq_true] at h;obtain ⟨n,z,hz⟩:=hr 0 (by omega);rw [hsz _ h.1,Nat.zero_mul,Nat.add_zero] at hz;have hs:(Ty.pair x y).size=x.size+y.size:=rfl;rw [hs] at hl;have h1:=hg _ n _ z h.1 (by rw [List.length_take,List.length_drop];omega) hz
  have h2:=ar_reads hg hsz (k+1) (o+x.size) y h.2 (fun i hi=>by
   obtain ⟨n,z,hz⟩:=hr (i+1) (by omega);refine ⟨n,z,?_⟩
   rw [←hz,←hsz _ h.1,Nat.add_mul,Nat.one_mul,Nat.add_assoc,Nat.add_comm (P.cellsOf e)]) (by omega)
  rw [hs,List.take_add,List.drop_drop];exact h1.pair h2 (by rw [List.length_take,List.length_drop];omega)
theorem ro_len {own:Nat→Prop} {bs sz:Nat} {fr:Bool} {rows:List (List AV)} {v:Value} (h:RelD w own bs (.ro fr sz rows) v):rows.length≤maxLen:=by
 cases h with
 | ro fr sz rows A c f hc hm h0 h1 h2=>omega
theorem one_cell {cs:List Value} (h:cs.length=1):∃ u,cs=[u]:=by match cs,h with | [u],_=>exact ⟨u,rfl⟩
theorem reads_ty:∀ (f:Nat) (tid:TypeId) (t:Ty) (n:Nat) (cs:List Value) (x:DataW H×List MemPlace),tyB P f tid t=true→cs.length=t.size→DataW.trod enc P w base spare held n tid cs=some x→ReadsT w t cs
 | 0,_,_,_,_,_,h,_,_=>by cases h
 | f+1,tid,t,n,cs,x,h,hl,hx=>by
  have hsize:=tyB_size h;rw [tyB,Bool.and_eq_true] at h;obtain ⟨_,h⟩:=h;split at h
  ·rename_i k hu;unfold intB at h;split at h
   ·have hk:=of_decide_eq_true h;subst hk;obtain ⟨m,rfl,_,hwf⟩:=DataW.trod_int hu hx;refine ⟨m,hwf,rfl,fun j a u ha hu=>?_⟩
    match j with
    | 0=>simp [Ty.cells] at ha hu;subst ha;subst hu;exact .int _ _
    | j+1=>simp [Ty.cells] at ha
   ·cases h
  ·rename_i hu;unfold boolB at h;split at h
   ·obtain ⟨m,rfl,_⟩:=DataW.trod_bool hu hx;refine ⟨m,trivial,rfl,fun j a u ha hu=>?_⟩
    match j with
    | 0=>simp [Ty.cells] at ha hu;subst ha;subst hu;exact .bool _
    | j+1=>simp [Ty.cells] at ha
   ·cases h
  ·rename_i hu;unfold strB at h;split at h
   ·obtain ⟨s,rfl,_,hs⟩:=DataW.trod_string hu hx;refine ⟨s.data.toList,by rw [Ty.wf,Array.length_toList];exact hs,rfl,fun j a u ha hu=>?_⟩
    match j with
    | 0=>simp [Ty.cells] at ha hu;subst ha;subst hu;exact .str _
    | j+1=>simp [Ty.cells] at ha
   ·cases h
  ·rename_i e hu;unfold sliceB at h;split at h
   ·rename_i _ t' _;rw [Bool.and_eq_true] at h;have hpos:0<t'.size:=Nat.le_of_ble_eq_true h.2;obtain ⟨v,rfl⟩:=one_cell hl;obtain ⟨xs,hw,hr⟩:=ro_slice (t'.cells false) t'.wf hu (tyB_size h.1) hpos (fun m cs x hl hx=>reads_ty f e t' m cs x h.1 hl hx) hx;refine ⟨xs,⟨?_,hw⟩,rfl,fun j a u ha hu=>?_⟩
    ·have:=ro_len hr;rw [List.length_map] at this;exact this
    match j with
    | 0=>simp [Ty.cells] at ha hu;subst ha;subst hu;exact hr
    | j+1=>simp [Ty.cells] at ha
   ·cases h
  ·rename_i fs hu;obtain ⟨xs,m,_,_,_,hxl,hat⟩:=DataW.trod_struct hu hx
   have:=fs_reads (cs:=cs) (fun tid t n cs x h1 h2 h3=>reads_ty f tid t n cs x h1 h2 h3) (fun tid t h=>tyB_size h) fs 0 t h (fun a ha=>by
    obtain ⟨i,hi⟩:=List.mem_iff_getElem?.1 ha;have hi':i<xs.length:=by rw [hxl];exact (List.getElem?_eq_some_iff.1 hi).1
    exact ⟨m,_,by rw [hat i a (by simpa using hi),List.getElem?_eq_getElem hi']⟩) (by omega)
   rw [List.drop_zero,List.take_of_length_le (by omega)] at this;exact this
  ·rename_i k e hu;obtain ⟨xs,m,_,_,_,hxl,hat⟩:=DataW.trod_array hu hx
   have:=ar_reads (cs:=cs) (e:=e) (fun t n cs x h1 h2 h3=>reads_ty f e t n cs x h1 h2 h3) (fun t h=>tyB_size h) k 0 t h (fun i hi=>by
    have hi':i<xs.length:=by rw [hxl];exact hi
    exact ⟨m,_,by rw [Nat.zero_add,hat i hi,List.getElem?_eq_getElem hi']⟩) (by omega)
   rw [List.drop_zero,List.take_of_length_le (by omega)] at this;exact this
  ·cases h
def aggP (P:Program) (tid:TypeId):Bool:=match P.underlying tid with
 | some (.struct _)=>true
 | some (.array _ _)=>true
 | _=>false
def cellP (P:Program) (tid:TypeId):Bool:=match P.underlying tid with
 | some (.int _)=>true
 | some .bool=>true
 | some .string=>true
 | some (.slice _)=>true
 | _=>false
def argB (P:Program) (tid:TypeId) (a:Ty):Bool:=match a with
 | .agg t=>tyB P 9 tid t&&aggP P tid
 | .int k=>tyB P 9 tid (.int k)&&cellP P tid
 | .bool=>tyB P 9 tid .bool&&cellP P tid
 | .str=>tyB P 9 tid .str&&cellP P tid
 | .list t=>tyB P 9 tid (.list t)&&cellP P tid
 | _=>false
def argsB (P:Program):List TypeId→Ty→Bool
 | [],t=>unB t
 | tid::l,t=>prB t fun a b=>argB P tid a&&argsB P l b
theorem okWide_arr {n b:Nat} {r:Go.Reach} {t e:TypeId} {v:Value} (ht:P.underlying t=some (.array n e)) (h:Value.okWide P w r b t v):∃ cs,v=.agg cs∧cs.size=P.cellsOf t:=by
 simp only [Value.okWide,ht] at h;obtain ⟨cs,h1,h2,_⟩:=h;exact ⟨cs,h1,h2⟩
theorem arg_agg {tid:TypeId} {t:Ty} {v:Value} {d:DataW H} {p:List MemPlace} {b:Nat} (h:tyB P 9 tid t=true) (ha:aggP P tid=true) (hv:Value.okWide P w .any b tid v) (hd:DataW.Trod enc P w base spare held tid v d p):∃ x:t.den,t.wf x∧RelV w (Gh.none w.heap.size) (.agg (t.cells false x)) v:=by
 obtain ⟨cs,rfl,hs⟩:∃ cs,v=.agg cs∧cs.size=P.cellsOf tid:=by
  unfold aggP at ha;split at ha
  ·rename_i h1;exact okWide_struct h1 hv
  ·rename_i h1;exact okWide_arr h1 hv
  ·cases ha
 obtain ⟨n,hd⟩:=hd;have hl:cs.toList.length=t.size:=by rw [←tyB_size h,←hs];simp
 obtain ⟨x,x1,x2,x3⟩:=reads_ty 9 tid t n cs.toList _ h hl hd;exact ⟨x,x1,.agg _ _ (by rw [x2,←hl];simp) fun i a u ha hu=>.dat (x3 i a u ha (by simpa using hu))⟩
theorem arg_cell {tid:TypeId} {t:Ty} {v:Value} {d:DataW H} {p:List MemPlace} {b:Nat} (h:tyB P 9 tid t=true) (hc:cellP P tid=true) (h1:t.size=1) (hv:Value.okWide P w .any b tid v) (hd:DataW.Trod enc P w base spare held tid v d p):∃ x:t.den,t.wf x∧∀ a,(t.cells false x)[0]?=some a→RelV w (Gh.none w.heap.size) a v:=by
 have hd:∃ n,DataW.trod enc P w base spare held n tid [v]=some (d,p):=by
  unfold cellP at hc;split at hc
  ·rename_i hu;obtain ⟨m,rfl⟩:=okWide_int hu hv;exact hd
  ·rename_i hu;obtain ⟨m,rfl⟩:=okWide_bool hu hv;exact hd
  ·rename_i hu;obtain ⟨m,rfl⟩:=okWide_string hu hv;exact hd
  ·rename_i hu;obtain ⟨a,n,c,rfl⟩:=okWide_slice hu hv;exact hd
  ·cases hc
 obtain ⟨n,hd⟩:=hd;obtain ⟨x,x1,x2,x3⟩:=reads_ty 9 tid t n [v] _ h (by rw [h1];rfl) hd;exact ⟨x,x1,fun a ha=>.dat (x3 0 a v ha rfl)⟩
theorem arg_ty {tid:TypeId} {v:Value} {d:DataW H} {p:List MemPlace} {b:Nat}:∀ {a:Ty},argB P tid a=true→Value.okWide P w .any b tid v→DataW.Trod enc P w base spare held tid v d p→∃ x:a.den,a.wf x∧RelV w (Gh.none w.heap.size) (a.av false x) v
 | .agg t,h,hv,hd=>by
  rw [argB,Bool.and_eq_true] at h;obtain ⟨x,h1,h2⟩:=arg_agg h.1 h.2 hv hd;exact ⟨x,h1,by rw [Ty.av];exact h2⟩
 | .int k,h,hv,hd=>by
  rw [argB,Bool.and_eq_true] at h;obtain ⟨x,h1,h2⟩:=arg_cell h.1 h.2 rfl hv hd;exact ⟨x,h1,h2 _ rfl⟩
 | .bool,h,hv,hd=>by
  rw [argB,Bool.and_eq_true] at h;obtain ⟨x,h1,h2⟩:=arg_cell h.1 h.2 rfl hv hd;exact ⟨x,h1,h2 _ rfl⟩
 | .str,h,hv,hd=>by
  rw [argB,Bool.and_eq_true] at h;obtain ⟨x,h1,h2⟩:=arg_cell h.1 h.2 rfl hv hd;exact ⟨x,h1,h2 _ rfl⟩
 | .list t,h,hv,hd=>by
  rw [argB,Bool.and_eq_true] at h;obtain ⟨x,h1,h2⟩:=arg_cell h.1 h.2 rfl hv hd;exact ⟨x,h1,h2 _ rfl⟩
 | .unit,h,_,_=>by cases h
 | .pair _ _,h,_,_=>by cases h
 | .ptr _,h,_,_=>by cases h
inductive RelsV (w:World) (G:Gh):List AV→List Value→Prop
 | nil:RelsV w G [] []
 | cons {a:AV} {v:Value} {l:List AV} {m:List Value} (h:RelV w G a v) (k:RelsV w G l m):RelsV w G (a::l) (v::m)
theorem RelsV.args {G:Gh} {l:List AV} {m:List Value} (h:RelsV w G l m):ArgsV w G l m.toArray:=by
 induction h with
 | nil=>exact ⟨rfl,fun i a v ha hv=>by simp at ha⟩
 | cons h k ih =>
  refine ⟨by have:=ih.size;simp at this ⊢;exact this,fun i a v ha hv=>?_⟩
  cases i with
  | zero=>simp at ha hv;subst ha;subst hv;exact h
  | succ i=>exact ih.rel i a v (by simpa using ha) (by simpa using hv)
theorem args_ty {b:Nat}:∀ {ts:List TypeId} {σ:Ty} {vs:List Value} {ds:List (DataW H)} {ps:List MemPlace},argsB P ts σ=true→(∀ (j:Nat) t v,ts[j]?=some t→vs[j]?=some v→Value.okWide P w .any b t v)→DataW.TrodAll enc P w base spare held ts vs ds ps→∃ x:σ.den,σ.wf x∧RelsV w (Gh.none w.heap.size) (σ.avs false x) vs
 | [],σ,vs,ds,ps,h,_,hA=>by
  obtain ⟨rfl,rfl,rfl⟩:=trodAll_nil hA;have e:=unB_ok h;subst e;exact ⟨(),trivial,.nil⟩
 | tid::l,σ,vs,ds,ps,h,hv,hA=>by
  obtain ⟨v,vs,d,ds,p,q,rfl,rfl,rfl,h0,r0⟩:=trodAll_cons hA;obtain ⟨a,c,rfl,h'⟩:=prB_ok h;clear h;have h:=h';clear h';rw [Bool.and_eq_true] at h;obtain ⟨x,x1,x2⟩:=arg_ty h.1 (hv 0 tid v rfl rfl) h0;obtain ⟨y,y1,y2⟩:=args_ty h.2 (fun j t u ht hu=>hv (j+1) t u (by simpa using ht) (by simpa using hu)) r0;exact ⟨(x,y),⟨x1,y1⟩,by rw [Ty.avs];exact .cons x2 y2⟩
end
theorem law_any {H:Type} {enc:TypeId×Value→H} {F:Nat} {ts:List TypeId} {σ:Ty} {f:Nat→σ.den→Option (Bool×Unit)} {nm:Nat} (hc:CtrOk Try.prog F ⟨σ,.pair .bool .unit,f,nm⟩) (hB:argsB Try.prog ts σ=true) (hp:∀ x:σ.den,σ.wf x→f FU x=some (true,())) {W:World} {b:Nat} {args:List Value} {ds:List (DataW H)} {ps:List MemPlace}
  (hv:∀ (j:Nat) t v,ts[j]?=some t→args[j]?=some v→Value.okWide Try.prog W .any b t v) (hA:DataW.TrodAll enc Try.prog W 0 (fun _=>true) true ts args ds ps) :
  Calls Try.prog F args.toArray W fun e W'=>e=.returned (.bool true)∧Below W.heap.size W W':=by
 obtain ⟨x,hx,hr⟩:=args_ty hB hv hA;exact AF.yes (hc FU x (true,()) (hp x hx)) hr.args
end Go.Proofs.Ytelpkjellakigaa
/- A call that leaves no other goroutine: the sentence about those that are only leaving. No program in sight. -/
namespace Go.Proofs.Ytelpkjellakigaa
open Go
theorem quiet_leaving {P:Program} {m:Machine} (h:m.quiet):m.OnlyLeaving P:=by
 obtain ⟨h1,h2⟩:=h;refine ⟨fun g hg=>⟨0,?_⟩,h2⟩;unfold Machine.othersDone at h1;have h3:=List.all_eq_true.1 h1 g hg;exact eq_of_beq h3
theorem leaving_of_handed {a:Go.Assume} {C:Go.Checked} {os:Go.Os} {f:FuncId} {r:Go.Reach} {Pre:World→Array Value→Prop} {Post:World→Array Value→Value→World→Prop}
  (h:ReturnsInHanded a C os f r Pre Post):ReturnsInLeavingWide a C os f r Pre Post:=fun enter=>by
 obtain ⟨e1,own,started,wit,runs⟩:=h enter;refine ⟨e1,own,started,wit,fun w tape i hi=>?_⟩;obtain ⟨N,v,w',h1,h2,h3,h4,⟨M,last,g1,g2,q,ho,eh⟩,h6⟩:=runs w tape i hi;exact ⟨N,v,w',h1,h2,h3,h4,⟨M,last,g1,g2,ho,quiet_leaving q,eh⟩,h6⟩
end Go.Proofs.Ytelpkjellakigaa
/- ScreenRanks: for every input this law returns true and leaves its arguments as they were. -/
namespace Go.Proofs.Ytelpkjellakigaa
open Go.ChangeShapes Go.WideShapes Go.ChangeAt Go.RowKit

set_option maxRecDepth 100000 in
theorem screenRanks_lifted (os:Os) (started:os.Started) (H:Type) (enc:TypeId×Value→H) :
  ReturnsInHanded {} Try.checked os 3 .any (Rows.screenRanksSpec.pre6 enc Try.prog Try.f3 Rows.screenRanksRow.domain false) (Rows.screenRanksSpec.post enc Try.prog Try.f3 false true false false):=by
 refine law_lifted started (by kernel_rfl) Try.func3
  (ChangeSpec.witness6 (enc:=enc) (C:=Try.checked) false ⟨#[],#[.agg #[.int .i64 0,.int .i64 0,.int .i64 0],.int .i64 0],[]⟩ 8 (by kernel_rfl) (by kernel_rfl) (by kernel_rfl) (by kernel_rfl)) rfl rfl (by kernel_rfl)
  (fun ds h=>by rw [Try.params3] at h;match ds,h with | [_,_],_=>rfl) ?_
 intro W base args ds ps hval hA hsz hlt;rw [Try.params3] at hA hval;exact law_any law_ScreenRanks_ok (by kernel_rfl) ((fun x hx=>Rk.screenRanks_r (Nat.le_of_eq FU_val.symm) x.1.1 x.1.2.1 x.1.2.2 x.2.1 rfl)) (fun j t v ht hv=>hval j t v (by simpa using ht) hv) hA

theorem screenRanks_holds:Rows.ScreenRanksSaid :=
 OpenClaim.holds_of_wide_leaving 3 Try.f3 rfl rfl rfl rfl rfl rfl rfl ⟨rfl,rfl,rfl,rfl,rfl⟩ rfl rfl rfl rfl rfl (by kernel_rfl) Try.func3 (by kernel_rfl)
  (of_decide_eq_true (by kernel_rfl)) (by unfold Func.isWrapper;first | (rw [if_pos (by decide +kernel)];kernel_rfl) | (rw [if_neg (by decide +kernel)];exact ⟨rfl,rfl⟩))
  (fun os started H enc _=>leaving_of_handed (screenRanks_lifted os started H enc))
end Go.Proofs.Ytelpkjellakigaa
