/- ScreenRanks: screen.scatter, the program. -/
import Derived.Test.YtelpkjellakigaaZHT66
import Derived.WalkKit
import Derived.WalkSpells
import Derived.Test.YtelpkjellakigaaRows
import Derived.ProofKit
import Derived.SizedLaws
import Derived.BigQuiet
import Derived.Deep.QuietTactic
import Derived.Deep.Slices
import Derived.OpenShut
import Derived.Conc.Holds
/- ScreenRanks: screen.scatter,the program. -/
namespace Go.Proofs.Ytelpkjellakigaa
open Go Go.RowKit
set_option linter.unusedSimpArgs false
set_option linter.unusedSectionVars false
set_option linter.unusedVariables false
namespace Rk
open Sc
theorem app8 {β:Type} {l:List Int} {v:Int} {a b:Option β} (h:l.length≤1048576):(bif (decide ((((List.length l:Int)+(List.length ([v]:List Int):Int))*(8:Int))≤(140737488355328:Int))) then a else b)=a:=by
 refine bif_pos ?_;rw [List.length_singleton];omega
theorem l3_exit {fu:Nat} {a:(Int×Int×Int)×(Int×Int×Int)×Unit} {v2:Int×List Int×List Int} {j2:(Int×List Int×List Int)→Option (List Int×Unit)} {j3:(Int×Int)→Option (List Int×Unit)} {v3:Int×Int} (hx:¬ v3.2<(List.length v2.2.1:Int)) (h:v2.2.2.length≤1048576) :
  screen_scatter_l3 fu a v2 j2 j3 v3=loopF (screen_scatter_l6 fu a v2 v3 j2) fu (0,v2.2.1):=by
 unfold screen_scatter_l3;rw [bif_neg hx];exact app8 h
def apL (A B N:Int) (n r k:Nat):List Int:=tabL n fun i=>if i<(k:Int) then ap A B N n (r+1) i.toNat else ap A B N n r i.toNat
theorem dist_bd {A B N:Int} (ok:ScrOk A B) (b i:Nat):0≤dist A B N b i∧dist A B N b i≤1000000:=k1_bd (du_bd ok _ _) (dv_bd ok _ _)
theorem ap_succ {A B N:Int} (ok:ScrOk A B) {n r:Nat} (i:Nat):ap A B N n (r+1) i=min (ap A B N n r i) (dist A B N (next A B N n (seq A B N n r)) i):=by
 have hd:=dist_bd (N:=N) ok (next A B N n (seq A B N n r)) i;have e1:(seq A B N n (r+1)).getD r 0=next A B N n (seq A B N n r):=seq_at (by omega);have e2:nr A B N (seq A B N n (r+1)) r i=nr A B N (seq A B N n r) r i:=nr_congr r i fun q hq=>by rw [seq_at (by omega),seq_at hq]
 unfold ap;rw [if_neg (by omega),nr,e1,e2];by_cases c:r=0
 ·rw [if_pos (.inl c),if_pos c];omega
 ·rw [if_neg c]
  split <;> omega
section
variable {fu:Nat} (hf:18446744073709551616≤fu) {A B:Int} (ok:ScrOk A B) {K N S G:Int} (f:FormOk A B N S G) (hN4:N≤400) (hG4:G≤400) {n:Nat} (hn0:0<n) (hn:n≤400) (hN:A*A+B*B=(n:Int))
include hf ok f hN4 hG4 hn hN
theorem apart_r {r:Nat} (hr:r<n) {O:List Int} {j2}:loopF (screen_scatter_l6 fu ((A,(B,K)),((N,(S,G)),())) ((r:Int),(apL A B N n r 0,O)) ((next A B N n (seq A B N n r):Int),(n:Int)) j2) fu (0,apL A B N n r 0)=j2 (((r+1:Nat):Int),(apL A B N n (r+1) 0,O++[(next A B N n (seq A B N n r):Int)])):=by
 have n0:=f.n0;have g0:=f.g0;have hb:=(next_ok (A:=A) (B:=B) (N:=N) hr).2.1;generalize hbe:next A B N n (seq A B N n r)=b at hb ⊢;have hl0:(apL A B N n r 0).length=n:=tabL_length _ _;have bb:=pq_bd n0 hn hb;refine stLoop (n:=n) (by omega) (st:=fun k=>((k:Int),apL A B N n r k)) rfl ?_ ?_
 ·intro j i hi;have ii:=pq_bd n0 hn hi;have hl:(apL A B N n r i).length=n:=tabL_length _ _
  have hget:(apL A B N n r i).getD i 0=ap A B N n r i:=by
   unfold apL;rw [tabL_getDN hi,if_neg (by omega),Int.toNat_natCast]
  have hset:(apL A B N n r i).set i (ap A B N n (r+1) i)=apL A B N n r (i+1):=by
   have:=tabL_set (n:=n) (G:=fun q:Int=>if q<(i:Int) then ap A B N n (r+1) q.toNat else ap A B N n r q.toNat) (G':=fun q:Int=>if q<((i+1:Nat):Int) then ap A B N n (r+1) q.toNat else ap A B N n r q.toNat) (k:=(i:Int)) (v:=ap A B N n (r+1) i) (Int.natCast_nonneg _) (by
    rw [if_pos (by omega),Int.toNat_natCast]) fun q q0 q1 q2=>by
     by_cases c:q<(i:Int)
     ·rw [if_pos c,if_pos (by omega)]
     ·rw [if_neg c,if_neg (by omega)]
   rw [Int.toNat_natCast] at this;exact this
  unfold screen_scatter_l6;simp only;rw [hl0,hl,bif_pos (Int.ofNat_lt.2 hi),bif_pos (show N≠0 by omega),bif_pos (show N≠0 by omega),bif_pos (show N≠0 by omega),bif_pos (show N≠0 by omega)];rw [Int.tmod_eq_emod_of_nonneg (show 0≤(i:Int) by omega),Int.tmod_eq_emod_of_nonneg (show 0≤(b:Int) by omega),Int.tdiv_eq_ediv_of_nonneg (show 0≤(i:Int) by omega),Int.tdiv_eq_ediv_of_nonneg (show 0≤(b:Int) by omega)];rw [wr64 (x:=(i:Int) / N) (by omega) (by omega),wr64 (x:=(b:Int) / N) (by omega) (by omega),wr64 (x:=(i:Int) % N-(b:Int) % N) (by omega) (by omega),wr64 (x:=(i:Int) / N-(b:Int) / N) (by omega) (by omega)];rw [(place_r hf ok K f hN4 hG4 (x:=(i:Int) % N-(b:Int) % N) (y:=(i:Int) / N-(b:Int) / N) (by omega) (by omega)).1,bindO_some];have hdd:dist A B N b i=k1 0 (du A B ((i:Int) % N-(b:Int) % N) ((i:Int) / N-(b:Int) / N)) (dv A B ((i:Int) % N-(b:Int) % N) ((i:Int) / N-(b:Int) / N)):=rfl;have hbel:=place_bel f ((i:Int) % N-(b:Int) % N) ((i:Int) / N-(b:Int) / N);obtain ⟨c1,c2⟩:=du_congr hbel;have x0:=Int.emod_nonneg (((i:Int) % N-(b:Int) % N)-(((i:Int) / N-(b:Int) / N) / G) % N*S) (show N≠0 by omega);have x1:=Int.emod_lt_of_pos (((i:Int) % N-(b:Int) % N)-(((i:Int) / N-(b:Int) / N) / G) % N*S) n0;have y0:=Int.emod_nonneg ((i:Int) / N-(b:Int) / N) (show G≠0 by omega)
  have y1:=Int.emod_lt_of_pos ((i:Int) / N-(b:Int) / N) g0;rw [c1,c2] at hdd;have hgn:=f.mul;simp only;generalize (((i:Int) % N-(b:Int) % N)-(((i:Int) / N-(b:Int) / N) / G) % N*S) % N=x' at *
  generalize ((i:Int) / N-(b:Int) / N) % G=y' at *
  have p0:0≤y'*N:=Int.mul_nonneg y0 (by omega);have p1:(y'+1)*N≤G*N:=Int.mul_le_mul_of_nonneg_right (by omega) (by omega);have p2:(y'+1)*N=y'*N+N:=by rw [Int.add_mul,Int.one_mul]
  have ed:(y'*N+x') / N=y':=by rw [Int.add_comm,Int.add_mul_ediv_right _ _ (by omega),Int.ediv_eq_zero_of_lt x0 x1,Int.zero_add]
  have em:(y'*N+x') % N=x':=by
   have:=Int.mul_ediv_add_emod (y'*N+x') N;rw [ed,Int.mul_comm] at this;omega
  rw [offset_r ok n0 (p:=y'*N+x') (by omega) (by omega),bindO_some,em,ed];simp only;have u0:=du_bd ok x' y';have v0:=dv_bd ok x' y';rw [(tail_eq ok u0 v0).2,bif_and (Int.natCast_nonneg _) (Int.ofNat_lt.2 hi),bif_and (Int.natCast_nonneg _) (Int.ofNat_lt.2 hi),Int.toNat_natCast,hget,nx (by omega)]
  have e:min (ap A B N n r i) (du A B x' y'*du A B x' y'+dv A B x' y'*dv A B x' y')=ap A B N n (r+1) i:=by
   rw [ap_succ ok,hbe,hdd];rfl
  rw [e,hset]
 ·intro j;have e1:apL A B N n r n=apL A B N n (r+1) 0:=tabL_congr fun i i0 i1=>by rw [if_pos i1,if_neg (by omega)]
  unfold screen_scatter_l6;simp only;rw [hl0,bif_neg (Int.lt_irrefl _),nx (by omega),e1]
theorem choose_r {r:Nat} (hr:r<n) {O:List Int} (hO:O.length≤1048576) {j2}:loopF (screen_scatter_l3 fu ((A,(B,K)),((N,(S,G)),())) ((r:Int),(apL A B N n r 0,O)) j2) fu (-1,0)=j2 (((r+1:Nat):Int),(apL A B N n (r+1) 0,O++[(next A B N n (seq A B N n r):Int)])):=by
 have hl0:(apL A B N n r 0).length=n:=tabL_length _ _
 have hg:∀ q:Nat,q<n→(apL A B N n r 0).getD q 0=ap A B N n r q:=fun q hq=>by
  unfold apL;rw [tabL_getDN hq,if_neg (by omega),Int.toNat_natCast]
 refine stLoop (n:=n) (by omega) (st:=fun i=>(sc (fun i=>decide (0<ap A B N n r i)) (fun i b=>decide (ap A B N n r b<ap A B N n r i)) i,(i:Int))) rfl ?_ ?_
 ·intro j i hi;have hs:=sc_succ (fun i=>decide (0<ap A B N n r i)) (fun i b=>decide (ap A B N n r b<ap A B N n r i)) i
  have hbest:sc (fun i=>decide (0<ap A B N n r i)) (fun i b=>decide (ap A B N n r b<ap A B N n r i)) i<0∨∃ b:Nat,sc (fun i=>decide (0<ap A B N n r i)) (fun i b=>decide (ap A B N n r b<ap A B N n r i)) i=(b:Int)∧b<i:=by
   unfold sc
   cases hq:scan (fun i=>decide (0<ap A B N n r i)) (fun i b=>decide (ap A B N n r b<ap A B N n r i)) i with
   | none=>left;simp only;omega
   | some b=>exact .inr ⟨b,rfl,((scan_congr (U':=fun i=>decide (0<ap A B N n r i)) (bt':=fun i b=>decide (ap A B N n r b<ap A B N n r i)) i (fun _ _=>rfl) (fun _ _ _ _ _ _=>rfl)).1 b hq).2⟩
  generalize sc (fun i=>decide (0<ap A B N n r i)) (fun i b=>decide (ap A B N n r b<ap A B N n r i)) i=best at hs hbest ⊢
  have fin:∀ z:Int,(fun v4:Int×Int=>j (v4.2,IntKind.i64.wrap (v4.1+1))) ((i:Int),z)=j (z,((i+1:Nat):Int)):=fun z=>by
   show j (z,IntKind.i64.wrap ((i:Int)+1))=_;rw [nx (by omega)]
  unfold screen_scatter_l3 screen_scatter_j4 screen_scatter_j5;simp only [joinF_eq];rw [hl0,bif_pos (Int.ofNat_lt.2 hi),bif_and (Int.natCast_nonneg _) (Int.ofNat_lt.2 hi),Int.toNat_natCast,hg i hi,hs];by_cases c:0<ap A B N n r i
  ·rw [bif_pos c,if_pos (decide_eq_true c)];by_cases c1:best<0
   ·rw [bif_pos c1,if_pos c1];exact fin _
   ·obtain ⟨b,hbe,hbi⟩:=hbest.resolve_left c1;subst hbe;rw [bif_neg c1,if_neg c1,bif_and (Int.natCast_nonneg _) (by omega),Int.toNat_natCast,hg b (by omega)];by_cases c2:ap A B N n r b<ap A B N n r i
    ·rw [bif_pos c2,if_pos (decide_eq_true c2)];exact fin _
    ·rw [bif_neg c2,if_neg (by rw [decide_eq_true_eq];exact c2)];exact fin _
  ·rw [bif_neg c,if_neg (by rw [decide_eq_true_eq];exact c)];exact fin _
 ·intro j
  have e:sc (fun i=>decide (0<ap A B N n r i)) (fun i b=>decide (ap A B N n r b<ap A B N n r i)) n=(next A B N n (seq A B N n r):Int):=by
   unfold sc;rw [ap_scan f hN ok hr]
  rw [e,l3_exit (by show ¬ (n:Int)<((apL A B N n r 0).length:Int);rw [hl0];omega) hO];exact apart_r hf ok f hN4 hG4 hn hN hr
theorem scatter_r:screen_scatter_r fu ((A,(B,K)),((N,(S,G)),()))=some ((seq A B N n n).map Int.ofNat,()):=by
 unfold screen_scatter_r;simp only;rw [n_eq ok,hN,bif_and (Int.natCast_nonneg _) (by omega),Int.toNat_natCast];refine stLoop (n:=n) (by omega) (st:=fun k=>((k:Int),tabL n (fun i=>if i<(k:Int) then (1099511627776:Int) else 0))) ?_ ?_ ?_
 ·refine Prod.ext rfl ?_;show tabL n (fun i:Int=>if i<((0:Nat):Int) then (1099511627776:Int) else 0)=List.replicate n 0;exact tabL_rep fun i i0 _=>if_neg (by omega)
 ·intro j k hk;unfold screen_scatter_l1;simp only;rw [List.length_replicate,Int.toNat_natCast,bif_pos (Int.ofNat_lt.2 hk),tabL_length,bif_and (Int.natCast_nonneg _) (Int.ofNat_lt.2 hk),nx (by omega)]
  have:=tabL_set (n:=n) (G:=fun i:Int=>if i<(k:Int) then (1099511627776:Int) else 0) (G':=fun i:Int=>if i<((k+1:Nat):Int) then (1099511627776:Int) else 0) (k:=(k:Int)) (v:=1099511627776) (Int.natCast_nonneg _) (if_pos (by omega)) fun q q0 q1 q2=>by
   by_cases c:q<(k:Int)
   ·rw [if_pos c,if_pos (by omega)]
   ·rw [if_neg c,if_neg (by omega)]
  rw [this]
 ·intro j;have e1:tabL n (fun i:Int=>if i<(n:Int) then (1099511627776:Int) else 0)=apL A B N n 0 0:=tabL_congr fun i i0 i1=>by rw [if_pos i1,if_neg (by omega)];rfl
  unfold screen_scatter_l1;simp only;rw [List.length_replicate,Int.toNat_natCast,bif_neg (Int.lt_irrefl _),e1];refine stLoop (n:=n) (by omega) (st:=fun r=>((r:Int),(apL A B N n r 0,(seq A B N n r).map Int.ofNat))) rfl ?_ ?_
  ·intro j2 r hr;unfold screen_scatter_l2;simp only;rw [bif_pos (Int.ofNat_lt.2 hr),choose_r hf ok f hN4 hG4 hn hN hr (by rw [List.length_map,seq_len];omega),seq,List.map_append];rfl
  ·intro j2;unfold screen_scatter_l2;simp only;rw [bif_neg (Int.lt_irrefl _)]
end
end Rk
end Go.Proofs.Ytelpkjellakigaa
/- Numbers: what the small functions compute. -/
namespace Go.Proofs.Ytelpkjellakigaa
open Go Go.RowKit
set_option linter.unusedSimpArgs false
set_option linter.unusedSectionVars false
set_option linter.unusedVariables false

theorem floor_s (fu:Nat) {n d:Int} (hd:0<d) (h1:d≤9223372036854775807) (h2:-9223372036854775808≤n) (h3:n≤9223372036854775807):R_Floor_r fu (n,(d,()))=some (n / d,()):=by
 unfold R_Floor_r;simp only [joinF_eq];rw [bif_pos (by omega)];have hm:=Int.tmod_add_mul_tdiv n d;have hm1:=Int.natAbs_tmod n d;have h4:n.tdiv d*d=n-n.tmod d:=by rw [Int.mul_comm];omega
 have h5:(n.tmod d).natAbs≤n.natAbs:=by rw [hm1];exact Nat.mod_le _ _
 have hb:-9223372036854775808≤n.tdiv d*d∧n.tdiv d*d≤9223372036854775807:=by
  rcases Int.le_total 0 n with hn | hn
  ·have:=Int.tmod_nonneg d hn;omega
  ·have:=Int.tmod_nonneg (a:=-n) d (by omega);rw [Int.neg_tmod] at this;omega
 obtain ⟨b1,b2⟩:=hb;have hq:=Int.natAbs_tdiv n d;have hq':(n.tdiv d).natAbs≤n.natAbs:=by rw [hq];exact Nat.div_le_self _ _
 have hq3:n.tdiv d≤9223372036854775807:=by
  rcases Int.le_total 0 n with hn | hn
  ·omega
  ·have:=Int.tdiv_nonneg (a:=-n) (b:=d) (by omega) (by omega);rw [Int.neg_tdiv] at this;omega
 rw [wr64 (x:=n.tdiv d) (by omega) hq3,wr64 (x:=n.tdiv d*d) b1 b2];by_cases hc:n<n.tdiv d*d
 ·have hlow:-9223372036854775807≤n.tdiv d:=by
   rcases Int.lt_or_le d 2 with g | g
   ·obtain rfl:d=1:=by omega
    rw [Int.tdiv_one] at hc;omega
   ·have h6:(n.tdiv d).natAbs≤n.natAbs / 2:=by
     rw [hq];exact Nat.div_le_div_left (by omega) (by omega)
    omega
  rw [bif_pos hc,wr64 (x:=n.tdiv d-1) (by omega) (by omega),tdiv_over hd hc];rfl
 ·rw [bif_neg hc,tdiv_under hd (by omega)];rfl
theorem floor_mul' {n d:Int} (hd:0<d):n / d*d≤n∧n<n / d*d+d:=by
 have h1:=Int.mul_ediv_add_emod n d;have h2:=Int.emod_nonneg n (by omega:d≠0);have h3:=Int.emod_lt_of_pos n hd;rw [Int.mul_comm] at h1;omega
theorem round_s (fu:Nat) {n d:Int} (hd:0<d) (h1:d≤1000000000000000) (h2:-1000000000000000000≤n) (h3:n≤1000000000000000000):R_Round_r fu (n,(d,()))=some (rnd n d,()):=by
 unfold R_Round_r;simp only;rw [floor_s fu hd (by omega) (by omega) (by omega)];simp only [bindO_some,joinF_eq];obtain ⟨b1,b2⟩:=floor_mul' (n:=n) hd
 have hq:-1000000000000000001≤n / d∧n / d≤1000000000000000000:=by
  constructor
  ·rcases Int.lt_or_le (n / d) 0 with g | g
   ·have:n / d*d≤n / d*1:=Int.mul_le_mul_of_nonpos_left (by omega) (by omega);have h4:n / d*d-n / d*1≤0:=by omega
    have h5:(n / d+1)*d≤(n / d+1)*1:=Int.mul_le_mul_of_nonpos_left (by omega) (by omega);rw [Int.add_mul] at h5;omega
   ·omega
  ·rcases Int.lt_or_le (n / d) 1 with g | g
   ·omega
   ·have:n / d*1≤n / d*d:=Int.mul_le_mul_of_nonneg_left (by omega) (by omega);omega
 rw [wr64 (x:=n / d*d) (by omega) (by omega),wr64 (x:=n-n / d*d) (by omega) (by omega),wr64 (x:=2*(n-n / d*d)) (by omega) (by omega)];by_cases hc:d≤2*(n-n / d*d)
 ·rw [bif_pos hc,wr64 (x:=n / d+1) (by omega) (by omega),rnd_up hd hc];rfl
 ·rw [bif_neg hc,rnd_down hd (by omega)];rfl
theorem nearest_s (fu:Nat) {n d:Int} (hd:0<d) (h1:d≤1000000000000000) (h2:-1000000000000000000≤n) (h3:n≤1000000000000000000):curve_Nearest_r fu (n,(d,()))=some (rnd n d,()):=by
 obtain ⟨g1,g2⟩:=tdiv_abs (n:=2*n+d) (m:=2002000000000000000) (2*d) (by omega) (by omega);unfold curve_Nearest_r rnd;simp only [joinF_eq];rw [wr64 (x:=2*n) (by omega) (by omega),wr64 (x:=2*n+d) (by omega) (by omega),wr64 (x:=2*d) (by omega) (by omega),bif_pos (by omega),bif_pos (by omega),wr64 (x:=(2*n+d).tdiv (2*d)) (by omega) (by omega)];by_cases hc:(2*n+d).tmod (2*d)<0
 ·rw [bif_pos hc,wr64 (x:=(2*n+d).tdiv (2*d)-1) (by omega) (by omega),tdiv_neg (by omega) hc];rfl
 ·rw [bif_neg hc,tdiv_pos (by omega) (by omega)];rfl
end Go.Proofs.Ytelpkjellakigaa
/- Ranks: the program's are the reference's. -/
namespace Go.Proofs.Ytelpkjellakigaa
open Go Go.RowKit
set_option linter.unusedSimpArgs false
set_option linter.unusedSectionVars false
set_option linter.unusedVariables false
namespace Rk
open Sc
section
variable {fu:Nat} (hf:18446744073709551616≤fu)
include hf
theorem both_ranks {A B:Int} (ok:ScrOk A B) (K:Int):∃ L:List Int,screen_Ranks_r fu ((A,(B,K)),())=some (L,())∧R_Ranks_r fu ((A,(B,K)),())=some (L,())∧(L.length:Int)=A*A+B*B:=by
 obtain ⟨N,S,G,hO,f,hN4,hG4⟩:=form_r hf ok K;have n0:=ok.n0;have n1:=ok.n1;obtain ⟨n,hN⟩:=Int.eq_ofNat_of_zero_le (show 0≤A*A+B*B by omega);have hn0:0<n:=by omega
 have hn:n≤400:=by omega
 by_cases hK:K=3
 ·have h:=seq_ord (A:=A) (B:=B) (N:=N) (n:=n);refine ⟨rankL n (seq A B N n n) n 0,?_,?_,by rw [rankL_len,hN]⟩
  ·exact ranks_r hf ok f.n0 hn0 hn hN h hO (fun _=>scatter_r hf ok f hN4 hG4 hn hN) (fun g=>absurd hK g)
  ·rw [rankL_full h 0 (-1)];exact rranks_r hf ok f.n0 hn0 hn hN h f hG4 fun r hr=>by rw [hK];exact sel_seq r hr
 ·obtain ⟨O,h,h1,h2⟩:=sorted ok (fu:=fu) (K:=K) (S:=S) (G:=G) f.n0 hn0 hn;refine ⟨rankL n O n 0,?_,?_,by rw [rankL_len,hN]⟩
  ·exact ranks_r hf ok f.n0 hn0 hn hN h hO (fun g=>absurd g hK) (fun _=>h1)
  ·rw [rankL_full h 0 (-1)];exact rranks_r hf ok f.n0 hn0 hn hN h f hG4 fun r hr=>sel_sorted h hK h2 r hr
end
end Rk
end Go.Proofs.Ytelpkjellakigaa
/- Runs that answer some calls by residual programs. No program in sight. -/
namespace Go.Proofs.Ytelpkjellakigaa.Rn
open Go Go.RowKit Go.Proofs.Ytelpkjellakigaa
set_option linter.unusedSimpArgs false
set_option linter.unusedSectionVars false
set_option linter.unusedVariables false
def rowsD {α:Type} (f:List AV→Option (α×List AV)):List (List AV)→Option (List α)
 | []=>some []
 | row::l=>match f row with
  | some (x,[])=>match rowsD f l with
   | some xs=>some (x::xs)
   | none=>none
  | _=>none
def kindE (k k':IntKind):Bool:=decide (k=k')
def decC:(t:Ty)→List AV→Option (t.den×List AV)
 | .int k,l=>match l with
  | .int k' n::l=>bif kindE k' k then some (n,l) else none
  | _=>none
 | .bool,l=>match l with
  | .bool b::l=>some (b,l)
  | _=>none
 | .str,l=>match l with
  | .str s::l=>some (s.data.toList,l)
  | _=>none
 | .list t,l=>match l with
  | .ro _ sz rows::l=>bif Nat.beq sz t.size then (match rowsD (decC t) rows with
   | some xs=>some (xs,l)
   | none=>none) else none
  | _=>none
 | .unit,l=>some ((),l)
 | .pair a b,l=>match decC a l with
  | some (x,l')=>match decC b l' with
   | some (y,l'')=>some ((x,y),l'')
   | none=>none
  | none=>none
 | .agg t,l=>decC t l
 | .ptr _,_=>none
def allD (l:List (List AV)):Bool:=l.all fun row=>row.all isD
def fzC (hp:List (Nat×AB)):(t:Ty)→List AV→Option (t.den×List AV)
 | .int k,l=>match l with
  | .int k' n::l=>bif kindE k' k then some (n,l) else none
  | _=>none
 | .bool,l=>match l with
  | .bool b::l=>some (b,l)
  | _=>none
 | .str,l=>match l with
  | .str s::l=>some (s.data.toList,l)
  | _=>none
 | .list t,l=>match l with
  | a::l=>(match a with
   | .nils=>some ([],l)
   | .ro _ sz rows=>bif Nat.beq sz t.size then (match rowsD (decC t) rows with
    | some xs=>some (xs,l)
    | none=>none) else none
   | .osl id n=>(match look .dead hp id with
    | .row sz rows _=>bif Nat.beq sz t.size&&Nat.beq n rows.length&&t.flat then (match rowsD (fzC hp t) rows with
     | some xs=>some (xs,l)
     | none=>none) else none
    | _=>none)
   | .vsl id n lo len=>(match look .dead hp id with
    | .row sz rows _=>bif Nat.beq sz t.size&&Nat.beq n rows.length&&allD rows then (match rowsD (decC t) ((rows.drop lo).take len) with
     | some xs=>some (xs,l)
     | none=>none) else none
    | _=>none)
   | _=>none)
  | []=>none
 | .unit,l=>some ((),l)
 | .pair a b,l=>match fzC hp a l with
  | some (x,l')=>match fzC hp b l' with
   | some (y,l'')=>some ((x,y),l'')
   | none=>none
  | none=>none
 | .agg t,l=>fzC hp t l
 | .ptr _,_=>none
def fzV (hp:List (Nat×AB)):(t:Ty)→AV→Option t.den
 | .agg t,a=>match a with
  | .agg cs=>match fzC hp t cs with
   | some (x,[])=>some x
   | _=>none
  | _=>none
 | .ptr t,a=>match a with
  | .box id 0=>match look .dead hp id with
   | .box cs _=>match fzC hp t cs with
    | some (x,[])=>bif Nat.blt 0 t.size then some x else none
    | _=>none
   | _=>none
  | _=>none
 | .int k,a=>match fzC hp (.int k) [a] with
  | some (x,[])=>some x
  | _=>none
 | .bool,a=>match fzC hp .bool [a] with
  | some (x,[])=>some x
  | _=>none
 | .str,a=>match fzC hp .str [a] with
  | some (x,[])=>some x
  | _=>none
 | .list t,a=>match fzC hp (.list t) [a] with
  | some (x,[])=>some x
  | _=>none
 | .unit,_=>none
 | .pair _ _,_=>none
def fzA (hp:List (Nat×AB)):(t:Ty)→List AV→Option t.den
 | .pair a b,l=>match l with
  | x::l=>match fzV hp a x,fzA hp b l with
   | some u,some v=>some (u,v)
   | _,_=>none
  | []=>none
 | .unit,l=>match l with
  | []=>some ()
  | _=>none
 | _,_=>none
section
variable {hp:List (Nat×AB)}
theorem rowsD_at {α:Type} {f:List AV→Option (α×List AV)}:∀ {rows:List (List AV)} {xs:List α},rowsD f rows=some xs→rows.length=xs.length∧∀ (i:Nat) (row:List AV) (x:α),rows[i]?=some row→xs[i]?=some x→f row=some (x,[])
 | [],xs,h=>by injection h with h;subst h;exact ⟨rfl,fun i row x h=>by simp at h⟩
 | r::l,xs,h=>by
  rw [rowsD] at h;split at h
  ·rename_i x h1;split at h
   ·rename_i ys h2;injection h with h
    subst h;obtain ⟨e1,e2⟩:=rowsD_at h2;refine ⟨by simp [e1],fun i row y hr hy=>?_⟩
    cases i with
    | zero=>simp at hr hy;subst hr;subst hy;exact h1
    | succ i=>exact e2 i row y (by simpa using hr) (by simpa using hy)
   ·cases h
  ·cases h
theorem oldR_app (l m:List AV):oldR (l++m)=oldR l++oldR m:=oldR_append l m
theorem old_rows {t:Ty} {rows:List (List AV)} {xs:List t.den} (hl:rows.length=xs.length) (h:∀ (i:Nat) (row:List AV) (x:t.den),rows[i]?=some row→xs[i]?=some x→oldR row=t.cells false x):oldRR rows=xs.map (t.cells false):=by
 rw [oldRR_map];apply List.ext_getElem?;intro i;rw [List.getElem?_map,List.getElem?_map];by_cases hi:i<rows.length
 ·have h1:rows[i]?=some rows[i]:=List.getElem?_eq_getElem hi;have h2:xs[i]?=some xs[i]:=List.getElem?_eq_getElem (by omega);rw [h1,h2];exact congrArg some (h i _ _ h1 h2)
 ·rw [List.getElem?_eq_none (by omega),List.getElem?_eq_none (by omega)];rfl
theorem decC_ok:∀ (t:Ty) (l:List AV) (x:t.den) (r:List AV),decC t l=some (x,r)→∃ pre,l=pre++r∧oldR pre=t.cells false x∧∀ a ∈ pre,isD a=true
 | .int k,l,x,r,h=>by
  rw [decC.eq_def] at h;simp only at h;split at h
  ·rename_i k' n l'
   cases hc:kindE k' k with
   | false=>rw [hc] at h;cases h
   | true =>
    rw [hc] at h;simp only [cond_true,Option.some.injEq,Prod.mk.injEq] at h;obtain ⟨rfl,rfl⟩:=h;have:=of_decide_eq_true hc;subst this;exact ⟨[.int k' n],rfl,by simp [oldR,AV.old,Ty.cells],by simp [isD]⟩
  ·cases h
 | .bool,l,x,r,h=>by
  rw [decC.eq_def] at h;simp only at h;split at h
  ·rename_i b l';simp only [Option.some.injEq,Prod.mk.injEq] at h;obtain ⟨rfl,rfl⟩:=h;exact ⟨[.bool b],rfl,by simp [oldR,AV.old,Ty.cells],by simp [isD]⟩
  ·cases h
 | .str,l,x,r,h=>by
  rw [decC.eq_def] at h;simp only at h;split at h
  ·rename_i b l';simp only [Option.some.injEq,Prod.mk.injEq] at h;obtain ⟨rfl,rfl⟩:=h;exact ⟨[.str b],rfl,by simp [oldR,AV.old,Ty.cells],by simp [isD]⟩
  ·cases h
 | .list t,l,x,r,h=>by
  rw [decC.eq_def] at h;simp only at h;split at h
  ·rename_i fr sz rows l'
   cases hc:Nat.beq sz t.size with
   | false=>rw [hc] at h;cases h
   | true =>
    rw [hc] at h;simp only [cond_true] at h;split at h
    ·rename_i xs h1;simp only [Option.some.injEq,Prod.mk.injEq] at h;obtain ⟨rfl,rfl⟩:=h;obtain ⟨e1,e2⟩:=rowsD_at h1;refine ⟨[.ro fr sz rows],rfl,?_,by simp [isD]⟩
     have hr:oldRR rows=xs.map (t.cells false):=old_rows e1 fun i row y hr hy=>by
      obtain ⟨pre,g1,g2,_⟩:=decC_ok t row y [] (e2 i row y hr hy);rw [g1,List.append_nil];exact g2
     simp only [oldR,AV.old,Ty.cells,hr,Nat.eq_of_beq_eq_true hc]
    ·cases h
  ·cases h
 | .unit,l,x,r,h=>by
  rw [decC] at h;simp only [Option.some.injEq,Prod.mk.injEq] at h;obtain ⟨_,rfl⟩:=h;exact ⟨[],rfl,by simp [oldR,Ty.cells],by simp⟩
 | .pair a b,l,x,r,h=>by
  rw [decC] at h;split at h
  ·rename_i u l1 h1;split at h
   ·rename_i v l2 h2;simp only [Option.some.injEq,Prod.mk.injEq] at h;obtain ⟨rfl,rfl⟩:=h;obtain ⟨p1,q1,q2,q3⟩:=decC_ok a l u l1 h1;obtain ⟨p2,q4,q5,q6⟩:=decC_ok b l1 v l2 h2;refine ⟨p1++p2,by rw [q1,q4,List.append_assoc],by rw [oldR_app,q2,q5,Ty.cells],fun c hc=>?_⟩;rcases List.mem_append.1 hc with hc | hc
    ·exact q3 c hc
    ·exact q6 c hc
   ·cases h
  ·cases h
 | .agg t,l,x,r,h=>by
  rw [decC] at h;obtain ⟨pre,g1,g2,g3⟩:=decC_ok t l x r h;exact ⟨pre,g1,by rw [g2,Ty.cells],g3⟩
 | .ptr _,l,x,r,h=>by rw [decC] at h;cases h
theorem one_frz {a b:AV} (h:FrzA hp a b):FrzL hp [a] [b]:=.cons h .nil
theorem fzC_ok:∀ (t:Ty) (l:List AV) (x:t.den) (r:List AV),fzC hp t l=some (x,r)→∃ pre,l=pre++r∧FrzL hp pre (t.cells false x)
 | .int k,l,x,r,h=>by
  rw [fzC.eq_def] at h;simp only at h;split at h
  ·rename_i k' n l'
   cases hc:kindE k' k with
   | false=>rw [hc] at h;cases h
   | true =>
    rw [hc] at h;simp only [cond_true,Option.some.injEq,Prod.mk.injEq] at h;obtain ⟨rfl,rfl⟩:=h;have:=of_decide_eq_true hc;subst this;exact ⟨[.int k' n],rfl,by rw [Ty.cells];exact one_frz (.dat _ rfl _ (by rw [AV.old]))⟩
  ·cases h
 | .bool,l,x,r,h=>by
  rw [fzC.eq_def] at h;simp only at h;split at h
  ·rename_i b l';simp only [Option.some.injEq,Prod.mk.injEq] at h;obtain ⟨rfl,rfl⟩:=h;exact ⟨[.bool b],rfl,by rw [Ty.cells];exact one_frz (.dat _ rfl _ (by rw [AV.old]))⟩
  ·cases h
 | .str,l,x,r,h=>by
  rw [fzC.eq_def] at h;simp only at h;split at h
  ·rename_i b l';simp only [Option.some.injEq,Prod.mk.injEq] at h;obtain ⟨rfl,rfl⟩:=h;exact ⟨[.str b],rfl,by rw [Ty.cells];exact one_frz (.dat _ rfl _ (by rw [AV.old]))⟩
  ·cases h
 | .list t,l,x,r,h=>by
  rw [fzC.eq_def] at h;simp only at h;split at h
  ·rename_i a l';split at h
   ·simp only [Option.some.injEq,Prod.mk.injEq] at h;obtain ⟨rfl,rfl⟩:=h;exact ⟨[.nils],rfl,by rw [Ty.cells];exact one_frz (.nilro _)⟩
   ·rename_i fr sz rows
    cases hc:Nat.beq sz t.size with
    | false=>rw [hc] at h;cases h
    | true =>
     rw [hc] at h;simp only [cond_true] at h;split at h
     ·rename_i xs h1;simp only [Option.some.injEq,Prod.mk.injEq] at h;obtain ⟨rfl,rfl⟩:=h;obtain ⟨e1,e2⟩:=rowsD_at h1
      have hr:oldRR rows=xs.map (t.cells false):=old_rows e1 fun i row y hr hy=>by
       obtain ⟨pre,g1,g2,_⟩:=decC_ok t row y [] (e2 i row y hr hy);rw [g1,List.append_nil];exact g2
      exact ⟨[.ro fr sz rows],rfl,by rw [Ty.cells];exact one_frz (.dat _ rfl _ (by rw [AV.old,hr,Nat.eq_of_beq_eq_true hc]))⟩
     ·cases h
   ·rename_i id n;split at h
    ·rename_i sz rows e hb
     cases hc:(Nat.beq sz t.size&&Nat.beq n rows.length&&t.flat) with
     | false=>rw [hc] at h;cases h
     | true =>
      rw [hc] at h;simp only [cond_true] at h;simp only [Bool.and_eq_true] at hc;split at h
      ·rename_i xs h1;simp only [Option.some.injEq,Prod.mk.injEq] at h;obtain ⟨rfl,rfl⟩:=h;obtain ⟨e1,e2⟩:=rowsD_at h1;have c1:=Nat.eq_of_beq_eq_true hc.1.1;subst c1
       have key:∀ (i:Nat) (row row':List AV),rows[i]?=some row→(xs.map (t.cells false))[i]?=some row'→FrzL hp row row':=fun i row row' hr hr'=>by
        rw [List.getElem?_map] at hr';obtain ⟨y,hy,rfl⟩:=Option.map_eq_some_iff.1 hr';obtain ⟨pre,g1,g2⟩:=fzC_ok t row y [] (e2 i row y hr hy);rw [g1,List.append_nil];exact g2
       refine ⟨[.osl id n],rfl,by
        rw [Ty.cells];refine one_frz (.oslN id n t.size rows _ e hb (Nat.eq_of_beq_eq_true hc.1.2) (by simpa using e1) (fun i row row' hr hr'=>(key i row row' hr hr').len) (fun i row row' j a a' hr hr' ha ha'=>(key i row row' hr hr').at j a a' ha ha') (fun row hr a ha=>?_));obtain ⟨y,_,rfl⟩:=List.mem_map.1 hr
        exact t.cells_isD _ _ a ha⟩
      ·cases h
    ·cases h
   ·rename_i id n lo len;split at h
    ·rename_i sz rows e hb
     cases hc:(Nat.beq sz t.size&&Nat.beq n rows.length&&allD rows) with
     | false=>rw [hc] at h;cases h
     | true =>
      rw [hc] at h;simp only [cond_true] at h;simp only [Bool.and_eq_true] at hc;split at h
      ·rename_i xs h1;simp only [Option.some.injEq,Prod.mk.injEq] at h;obtain ⟨rfl,rfl⟩:=h;obtain ⟨e1,e2⟩:=rowsD_at h1;have c1:=Nat.eq_of_beq_eq_true hc.1.1;subst c1
       have hr:oldRR ((rows.drop lo).take len)=xs.map (t.cells false):=old_rows e1 fun i row y hr hy=>by
        obtain ⟨pre,g1,g2,_⟩:=decC_ok t row y [] (e2 i row y hr hy);rw [g1,List.append_nil];exact g2
       exact ⟨[.vsl id n lo len],rfl,by
        rw [Ty.cells]
        exact one_frz (.vsl id n lo len t.size rows _ e hb (Nat.eq_of_beq_eq_true hc.1.2) (fun row hr a ha=>List.all_eq_true.1 (List.all_eq_true.1 hc.2 row hr) a ha) hr)⟩
      ·cases h
    ·cases h
   ·cases h
  ·cases h
 | .unit,l,x,r,h=>by
  rw [fzC] at h;simp only [Option.some.injEq,Prod.mk.injEq] at h;obtain ⟨_,rfl⟩:=h;exact ⟨[],rfl,by rw [Ty.cells];exact .nil⟩
 | .pair a b,l,x,r,h=>by
  rw [fzC] at h;split at h
  ·rename_i u l1 h1;split at h
   ·rename_i v l2 h2;simp only [Option.some.injEq,Prod.mk.injEq] at h;obtain ⟨rfl,rfl⟩:=h;obtain ⟨p1,q1,q2⟩:=fzC_ok a l u l1 h1;obtain ⟨p2,q4,q5⟩:=fzC_ok b l1 v l2 h2;exact ⟨p1++p2,by rw [q1,q4,List.append_assoc],by rw [Ty.cells];exact q2.append q5⟩
   ·cases h
  ·cases h
 | .agg t,l,x,r,h=>by
  rw [fzC] at h;obtain ⟨pre,g1,g2⟩:=fzC_ok t l x r h;exact ⟨pre,g1,by rw [Ty.cells];exact g2⟩
 | .ptr _,l,x,r,h=>by rw [fzC] at h;cases h
theorem fzC_one {t:Ty} {a b:AV} {x:t.den} (h:fzC hp t [a]=some (x,[])) (hb:t.cells false x=[b]):FrzA hp a b:=by
 obtain ⟨pre,g1,g2⟩:=fzC_ok t [a] x [] h;rw [List.append_nil] at g1;subst g1;rw [hb] at g2;exact g2.at 0 a b rfl rfl
theorem fzV_ok (t:Ty) (a:AV) (x:t.den) (h:fzV hp t a=some x):FrzA hp a (t.av false x):=by
 cases t with
 | agg t =>
  rw [fzV.eq_def] at h;simp only at h;split at h
  ·rename_i cs;split at h
   ·rename_i y h1;injection h with h
    subst h;obtain ⟨pre,g1,g2⟩:=fzC_ok t cs y [] h1;rw [List.append_nil] at g1;subst g1;rw [Ty.av];exact .agg _ _ g2.len g2.at
   ·cases h
  ·cases h
 | ptr t =>
  rw [fzV.eq_def] at h;simp only at h;split at h
  ·rename_i id;split at h
   ·rename_i cs e hb;split at h
    ·rename_i y h1
     cases hc:Nat.blt 0 t.size with
     | false=>rw [hc] at h;cases h
     | true =>
      rw [hc] at h;injection h with h
      subst h;obtain ⟨pre,g1,g2⟩:=fzC_ok t cs y [] h1;rw [List.append_nil] at g1;subst g1;rw [Ty.av];refine .peekBox id _ _ e hb g2.len g2.at (t.cells_isD _ _) (fun e1=>?_);have:=t.cells_length false y;rw [e1] at this;simp at hc;simp at this;omega
    ·cases h
   ·cases h
  ·cases h
 | int k =>
  rw [fzV.eq_def] at h;simp only at h;split at h
  ·rename_i y h1;injection h with h
   subst h;exact fzC_one h1 (by rw [Ty.cells,Ty.av])
  ·cases h
 | bool =>
  rw [fzV.eq_def] at h;simp only at h;split at h
  ·rename_i y h1;injection h with h
   subst h;exact fzC_one h1 (by rw [Ty.cells,Ty.av])
  ·cases h
 | str =>
  rw [fzV.eq_def] at h;simp only at h;split at h
  ·rename_i y h1;injection h with h
   subst h;exact fzC_one h1 (by rw [Ty.cells,Ty.av])
  ·cases h
 | list t =>
  rw [fzV.eq_def] at h;simp only at h;split at h
  ·rename_i y h1;injection h with h
   subst h;exact fzC_one h1 (by rw [Ty.cells,Ty.av])
  ·cases h
 | unit=>rw [fzV.eq_def] at h;cases h
 | pair a b=>rw [fzV.eq_def] at h;cases h
theorem fzA_ok:∀ (t:Ty) (l:List AV) (x:t.den),fzA hp t l=some x→FrzL hp l (t.avs false x)
 | .pair a b,l,x,h=>by
  rw [fzA.eq_def] at h;simp only at h;split at h
  ·rename_i c l;split at h
   ·rename_i u v h1 h2;injection h with h
    subst h;rw [Ty.avs];exact .cons (fzV_ok a c u h1) (fzA_ok b l v h2)
   ·cases h
  ·cases h
 | .unit,l,x,h=>by
  rw [fzA.eq_def] at h;simp only at h;split at h
  ·rw [Ty.avs]
   ·exact .nil
   ·simp
  ·cases h
 | .int k,l,x,h=>by rw [fzA.eq_def] at h;cases h
 | .bool,l,x,h=>by rw [fzA.eq_def] at h;cases h
 | .str,l,x,h=>by rw [fzA.eq_def] at h;cases h
 | .list t,l,x,h=>by rw [fzA.eq_def] at h;cases h
 | .agg t,l,x,h=>by rw [fzA.eq_def] at h;cases h
 | .ptr t,l,x,h=>by rw [fzA.eq_def] at h;cases h
end
def orc (fu:Nat) (l:List (Nat×Ctr)):SelfT:=fun F xs hp nx=>match lk l F with
 | some c=>match fzA hp c.a xs with
  | some x=>match c.f fu x with
   | some y=>some (oneOf (c.r.avs true y),hp,nx)
   | none=>none
  | none=>none
 | none=>none
theorem orc_ok {P:Program} {fu:Nat} {l:List (Nat×Ctr)} (hl:allP (CtrOk P) l):SelfOk P (orc fu l):=fun F xs hp nx x hp' nx' h=>by
 unfold orc at h;split at h
 ·rename_i c h1;split at h
  ·rename_i z h2;split at h
   ·rename_i y h3;simp only [Option.some.injEq,Prod.mk.injEq] at h;obtain ⟨rfl,rfl,rfl⟩:=h;have hz:=fzA_ok _ _ _ h2;exact AC.of_AF (allP_at hl h1 fu z y h3) hz.len hz.at ⟨rfl,rfl,rfl⟩
   ·cases h
  ·cases h
 ·cases h
def runO (C:Ctx) (fl:Nat) (O:SelfT):Nat→SelfT
 | 0,_,_,_,_=>none
 | f+1,F,xs,hp,nx=>match fL1 xs fun xs=>O F xs hp nx with
  | some r=>some r
  | none=>match lk C.fns F with
   | some fn=>match fn.body with
    | some c=>bif Nat.ble xs.length fn.ntmps then (match fL1 xs fun xs=>outC C fn.results.toList (runC C (runO C fl O f) fl fn.ntmps c ⟨argR 0 xs,hp,nx⟩) with
     | some (x,hp2,nx2)=>gcK hp2 nx x fun hp3=>some (x,hp3,nx2)
     | none=>none) else none
    | none=>none
   | none=>none
section
variable {P:Program}
theorem runO_ok {C:Ctx} (hC:C.ok P) (fl:Nat) {O:SelfT} (hO:SelfOk P O):∀ f,SelfOk P (runO C fl O f)
 | 0=>fun F xs hp nx x hp' nx' h=>by cases h
 | f+1=>fun F xs hp nx x hp' nx' h=>by
  rw [runO] at h;split at h
  ·rename_i r hr;injection h with h
   subst h;rw [fL1_eq] at hr;exact hO F xs hp nx x hp' nx' hr
  ·split at h
   ·rename_i fn h1;split at h
    ·rename_i c h2
     cases hb:Nat.ble xs.length fn.ntmps with
     | false=>rw [hb] at h;cases h
     | true =>
      rw [hb] at h;simp only [cond_true] at h;split at h
      ·rename_i x2 hp2 nx2 h0;obtain ⟨hp3,g1,g2⟩:=gcK_eq hp2 nx x2;rw [g2] at h;simp only [Option.some.injEq,Prod.mk.injEq] at h;obtain ⟨rfl,rfl,rfl⟩:=h;refine AC.lesH (hp1:=hp2) ?_ g1;rw [fL1_eq] at h0;exact out_ok hC (runO_ok hC fl hO f) h1 h2 hb h0
      ·cases h
    ·cases h
   ·cases h
def okRunO (C:Ctx) (fl:Nat) (O:SelfT) (f:Nat) (F:Nat) (xs:List AV):Option AV:=match runO C fl O f F xs [] 0 with
 | some (y,hp,_)=>frzRC hp 8 y
 | none=>none
theorem AF.runO {C:Ctx} (hC:C.ok P) (fl fu f:Nat) {l:List (Nat×Ctr)} (hl:allP (CtrOk P) l) {F:Nat} {xs:List AV} {y:AV} (h:okRunO C fl (orc fu l) f F xs=some y):AF P F xs y:=by
 unfold okRunO at h;split at h
 ·rename_i x hp nx h1;exact AF.of_AC ((runO_ok hC fl (orc_ok hl) f _ _ _ _ _ _ _ h1).mono (by rintro x1 hp1 nx1 ⟨rfl,rfl,rfl⟩;exact frzRC_ok 8 _ _ h))
 ·cases h
end
end Go.Proofs.Ytelpkjellakigaa.Rn
/- halftoneWorks,by a run with short tables. -/
set_option maxRecDepth 1000000
namespace Go.Proofs.Ytelpkjellakigaa
open Go Go.RowKit
def halftoneWorks_tab:Tab:={
 und:=[(3,.int .i64),
  (118,.pointer 54),
  (25,.slice 3),
  (112, .struct #[fd "N" 3 0 false "" 0, fd "S" 3 1 false "" 8, fd "G" 3 2 false "" 16]),
  (4,.bool),
  (23, .struct #[fd "A" 3 0 false "" 0, fd "B" 3 1 false "" 8, fd "Kind" 3 2 false "" 16]),
  (5,.int .u8),
  (54, .struct #[fd "W" 3 0 false "" 0, fd "H" 3 1 false "" 8, fd "Data" 52 2 false "" 16]),
  (36,.func #[3,3] #[3] false),
  (52,.slice 5),
  (130,.int .u64),
  (238,.int .i64),
  (271,.int .u64),
  (161,.array 256 3),
  (61, .struct #[fd "W" 3 0 false "" 0, fd "H" 3 1 false "" 8, fd "Pix" 52 2 false "" 16]),
  (26,.int .i64),
  (169,.int .u64),
  (172,.int .u32),
  (274,.pointer 3),
  (120,.pointer 61),
  (9,.string),
  (157,.func #[3] #[3,3] false)],
 inf:=[(3,(some (.int .i64 0),1,8)),
  (118,(some (.pointer none),1,8)),
  (25,(some (.slice none 0 0),1,24)),
  (112,(some (.agg #[.int .i64 0,.int .i64 0,.int .i64 0]),3,24)),
  (4,(some (.bool false),1,1)),
  (23,(some (.agg #[.int .i64 0,.int .i64 0,.int .i64 0]),3,24)),
  (5,(some (.int .u8 0),1,1)),
  (54,(some (.agg #[.int .i64 0,.int .i64 0,.slice none 0 0]),3,40)),
  (36,(some (.nilFunc),1,8)),
  (52,(some (.slice none 0 0),1,24)),
  (130,(some (.int .u64 0),1,8)),
  (238,(some (.int .i64 0),1,8)),
  (271,(some (.int .u64 0),1,8)),
  (61,(some (.agg #[.int .i64 0,.int .i64 0,.slice none 0 0]),3,40)),
  (161,(some (.agg (Array.replicate 256 (.int .i64 0))),256,2048)),
  (26,(some (.int .i64 0),1,8)),
  (169,(some (.int .u64 0),1,8)),
  (172,(some (.int .u32 0),1,4)),
  (274,(some (.pointer none),1,8)),
  (120,(some (.pointer none),1,8)),
  (9,(some (.string ByteArray.empty),1,16)),
  (157,(some (.nilFunc),1,8))],
 fld:=[(112,[(0,(1,false)),(1,(1,false)),(2,(1,false))]),
  (23,[(0,(1,false)),(1,(1,false)),(2,(1,false))]),
  (54,[(0,(1,false)),(1,(1,false)),(2,(1,false))]),
  (61,[(0,(1,false)),(1,(1,false)),(2,(1,false))])],
 eqs:=[(112,3),(23,3),(161,256)] }
theorem halftoneWorks_tab_ok:halftoneWorks_tab.ok Try.prog:=⟨(by unfold halftoneWorks_tab;(repeat (refine alP1 (by kernel_rfl) ?_));exact trivial),
 (by unfold halftoneWorks_tab;(repeat (refine alP1 (by kernel_rfl) ?_));exact trivial),
 (by unfold halftoneWorks_tab;(repeat (refine alP1 (by kernel_rfl) ?_));exact trivial),
 (by unfold halftoneWorks_tab;(repeat (refine alP1 ⟨by kernel_rfl,by kernel_rfl⟩ ?_));exact trivial)⟩
noncomputable def halftoneWorks_ctx:Ctx:=⟨halftoneWorks_tab,[(32,Try.f32),(37,Try.f37),(83,Try.f83),(88,Try.f88),(29,Try.f29),(84,Try.f84),(115,Try.f115),(85,Try.f85),(75,Try.f75),(76,Try.f76),(77,Try.f77),(71,Try.f71),(110,Try.f110),(111,Try.f111),(112,Try.f112),(80,Try.f80),(114,Try.f114),(113,Try.f113),(146,Try.f146),(185,Try.f185),(186,Try.f186),(145,Try.f145),(177,Try.f177),(178,Try.f178),(204,Try.f204),(179,Try.f179),(205,Try.f205),(206,Try.f206),(180,Try.f180),(207,Try.f207),(208,Try.f208),(214,Try.f214),(181,Try.f181),(182,Try.f182),(183,Try.f183),(184,Try.f184),(72,Try.f72),(116,Try.f116),(33,Try.f33),(81,Try.f81),(82,Try.f82),(43,Try.f43),(50,Try.f50),(19,Try.f19)],[(32,0),(37,0),(83,0),(88,0),(29,0),(84,0),(115,0),(85,0),(75,0),(76,0),(77,0),(71,0),(110,0),(111,0),(112,0),(80,0),(114,0),(113,0),(146,0),(185,0),(186,0),(145,0),(177,0),(178,0),(204,0),(179,0),(205,0),(206,0),(180,0),(207,0),(208,0),(214,0),(181,0),(182,0),(183,0),(184,0),(72,0),(116,0),(33,0),(81,0),(82,0),(43,0),(50,0),(19,0)]⟩
def halftoneWorks_cas:List (Nat×Nat):=[(32,0),(37,0),(83,0),(88,0),(29,0),(84,0),(115,0),(85,0),(75,0),(76,0),(77,0),(71,0),(110,0),(111,0),(112,0),(80,0),(114,0),(113,0),(146,0),(185,0),(186,0),(145,0),(177,0),(178,0),(204,0),(179,0),(205,0),(206,0),(180,0),(207,0),(208,0),(214,0),(181,0),(182,0),(183,0),(184,0),(72,0),(116,0),(33,0),(81,0),(82,0),(43,0),(50,0),(19,0)]
theorem halftoneWorks_ctx_ok:halftoneWorks_ctx.ok Try.prog:=⟨halftoneWorks_tab_ok,⟨Try.func32,⟨Try.func37,⟨Try.func83,⟨Try.func88,⟨Try.func29,⟨Try.func84,⟨Try.func115,⟨Try.func85,⟨Try.func75,⟨Try.func76,⟨Try.func77,⟨Try.func71,⟨Try.func110,⟨Try.func111,⟨Try.func112,⟨Try.func80,⟨Try.func114,⟨Try.func113,⟨Try.func146,⟨Try.func185,⟨Try.func186,⟨Try.func145,⟨Try.func177,⟨Try.func178,⟨Try.func204,⟨Try.func179,⟨Try.func205,⟨Try.func206,⟨Try.func180,⟨Try.func207,⟨Try.func208,⟨Try.func214,⟨Try.func181,⟨Try.func182,⟨Try.func183,⟨Try.func184,⟨Try.func72,⟨Try.func116,⟨Try.func33,⟨Try.func81,⟨Try.func82,⟨Try.func43,⟨Try.func50,⟨Try.func19,trivial⟩⟩⟩⟩⟩⟩⟩⟩⟩⟩⟩⟩⟩⟩⟩⟩⟩⟩⟩⟩⟩⟩⟩⟩⟩⟩⟩⟩⟩⟩⟩⟩⟩⟩⟩⟩⟩⟩⟩⟩⟩⟩⟩⟩,(by unfold halftoneWorks_cas;(repeat (refine alP1 (by kernel_rfl) ?_));exact trivial:allP (fun k _=>callable Try.prog k=true) halftoneWorks_cas),by kernel_rfl⟩
noncomputable def halftoneWorks_orc:List (Nat×Ctr):=[(curve_Nearest_ctr.nm,curve_Nearest_ctr),(halftone_Tones_ctr.nm,halftone_Tones_ctr),(bitmap_Is_ctr.nm,bitmap_Is_ctr),(screen_Of_ctr.nm,screen_Of_ctr),(screen_Check_ctr.nm,screen_Check_ctr),(_screen_Form__Place_ctr.nm,_screen_Form__Place_ctr),(screen_mod_ctr.nm,screen_mod_ctr)]
theorem halftoneWorks_orc_ok:allP (CtrOk Try.prog) halftoneWorks_orc:=⟨curve_Nearest_ok,⟨halftone_Tones_ok,⟨bitmap_Is_ok,⟨screen_Of_ok,⟨screen_Check_ok,⟨_screen_Form__Place_ok,⟨screen_mod_ok,trivial⟩⟩⟩⟩⟩⟩⟩
theorem halftoneWorks_f:AF Try.prog 32 [] (.bool true):=Rn.AF.runO halftoneWorks_ctx_ok 1000 100000 20 halftoneWorks_orc_ok (by kernel_rfl)
def law_halftoneWorks_r (_:Nat) (_:Unit):Option (Bool×Unit):=some (true,())
def law_halftoneWorks_ctr:Ctr:=⟨.unit,.pair .bool .unit,law_halftoneWorks_r,32⟩
theorem law_halftoneWorks_ok:CtrOk Try.prog 32 law_halftoneWorks_ctr:=fun _ _ y h=>by
 have h:some (true,())=some y:=h;injection h with h
 subst h;exact halftoneWorks_f
end Go.Proofs.Ytelpkjellakigaa
/- Residual programs of functions (printed by a program out of the code),checked by the kernel,and the contracts that follow. -/
namespace Go.Proofs.Ytelpkjellakigaa
open Go Go.RowKit
set_option linter.unusedVariables false
noncomputable section
def R_SameBytes_r (fu:Nat) (a:List Int×List Int×Unit):Option (Bool×Unit) :=
 let v0:Bool:=(decide ((bytesOf a.1)=(bytesOf a.2.1)))
 some ((v0,()))
def R_SameBytes_an:An:=(.n none .z (.n none .z .z))
noncomputable def R_SameBytes_dc:List (Nat×Ctr):=[]
def R_SameBytes_ctr:Ctr:=⟨(.pair (.list (.int .u8)) (.pair (.list (.int .u8)) .unit)),(.pair .bool .unit),R_SameBytes_r,50⟩
theorem R_SameBytes_ok:CtrOk Try.prog 50 R_SameBytes_ctr:=ctr_ok (l:=R_SameBytes_dc) (f:=12) (an:=R_SameBytes_an) trivial fun fu x=>by kernel_rfl
def R_SameBits_r (fu:Nat) (a:(Int×Int×List Int)×(Int×Int×List Int)×Unit):Option (Bool×Unit) :=
 bif (decide (a.1.1=a.2.1.1)) then
  bif (decide (a.1.2.1=a.2.1.2.1)) then
   bindO (R_SameBytes_r fu ((a.1.2.2,(a.2.1.2.2,())))) fun v0 =>
   let v1:Bool:=v0.1
   some ((v1,()))
  else
  some ((false,()))
 else
 some ((false,()))
def R_SameBits_an:An:=(.n none .z (.n none .z .z))
noncomputable def R_SameBits_dc:List (Nat×Ctr):=[(50,R_SameBytes_ctr)]
def R_SameBits_ctr:Ctr:=⟨(.pair (.agg (.pair (.int .i64) (.pair (.int .i64) (.list (.int .u8))))) (.pair (.agg (.pair (.int .i64) (.pair (.int .i64) (.list (.int .u8))))) .unit)),(.pair .bool .unit),R_SameBits_r,43⟩
theorem R_SameBits_ok:CtrOk Try.prog 43 R_SameBits_ctr:=ctr_ok (l:=R_SameBits_dc) (f:=12) (an:=R_SameBits_an) ⟨R_SameBytes_ok,trivial⟩ fun fu x=>by kernel_rfl
def R_Drawn_j2 (fu:Nat) (j1:(Int×List Int)→Option ((Int×Int×List Int)×Unit)) (v2:Int×List Int):Option ((Int×Int×List Int)×Unit) :=
 j1 (((IntKind.i64.wrap (v2.1+(1:Int))),v2.2))
def R_Drawn_l1 (fu:Nat) (a:Int×Int×List Bool×Unit) (v0:Int) (j1:(Int×List Int)→Option ((Int×Int×List Int)×Unit)) (v1:Int×List Int):Option ((Int×Int×List Int)×Unit) :=
 bif (decide (v1.1<(List.length a.2.2.1:Int))) then
  joinF (R_Drawn_j2 fu j1) fun j2 =>
  bif ((decide ((0:Int)≤v1.1))&&(decide (v1.1<(List.length a.2.2.1:Int)))) then
  let v3:Bool:=(List.getD a.2.2.1 (Int.toNat v1.1) false)
  let v4:Int:=v1.1
  bif v3 then
   bif (decide (a.1≠(0:Int))) then
   bif (decide (a.1≠(0:Int))) then
   bif ((decide ((0:Int)≤(IntKind.i64.wrap ((IntKind.i64.wrap ((IntKind.i64.wrap (Int.tdiv v4 a.1))*v0))+(IntKind.i64.wrap (Int.tdiv (Int.tmod v4 a.1) (8:Int)))))))&&(decide ((IntKind.i64.wrap ((IntKind.i64.wrap ((IntKind.i64.wrap (Int.tdiv v4 a.1))*v0))+(IntKind.i64.wrap (Int.tdiv (Int.tmod v4 a.1) (8:Int)))))<(List.length v1.2:Int)))) then
   bif (decide (a.1≠(0:Int))) then
   bif ((decide ((0:Int)≤(Int.tmod (Int.tmod v4 a.1) (8:Int))))&&(decide ((Int.tmod (Int.tmod v4 a.1) (8:Int))≤(8:Int)))) then
   bif ((decide ((0:Int)≤(IntKind.i64.wrap ((IntKind.i64.wrap ((IntKind.i64.wrap (Int.tdiv v4 a.1))*v0))+(IntKind.i64.wrap (Int.tdiv (Int.tmod v4 a.1) (8:Int)))))))&&(decide ((IntKind.i64.wrap ((IntKind.i64.wrap ((IntKind.i64.wrap (Int.tdiv v4 a.1))*v0))+(IntKind.i64.wrap (Int.tdiv (Int.tmod v4 a.1) (8:Int)))))<(List.length v1.2:Int)))) then
   j2 ((v1.1,(List.set v1.2 (Int.toNat (IntKind.i64.wrap ((IntKind.i64.wrap ((IntKind.i64.wrap (Int.tdiv v4 a.1))*v0))+(IntKind.i64.wrap (Int.tdiv (Int.tmod v4 a.1) (8:Int)))))) (bits BinOp.or IntKind.u8 (List.getD v1.2 (Int.toNat (IntKind.i64.wrap ((IntKind.i64.wrap ((IntKind.i64.wrap (Int.tdiv v4 a.1))*v0))+(IntKind.i64.wrap (Int.tdiv (Int.tmod v4 a.1) (8:Int)))))) 0) ((128:Int) / 2 ^ (Int.toNat (Int.tmod (Int.tmod v4 a.1) (8:Int))))))))
   else none
   else none
   else none
   else none
   else none
   else none
  else
  j2 (v1)
  else none
 else
 some (((a.1,(a.2.1,v1.2)),()))
def R_Drawn_r (fu:Nat) (a:Int×Int×List Bool×Unit):Option ((Int×Int×List Int)×Unit) :=
 let v0:Int:=(IntKind.i64.wrap (Int.tdiv (IntKind.i64.wrap (a.1+(7:Int))) (8:Int)))
 bif ((decide ((0:Int)≤(IntKind.i64.wrap (v0*a.2.1))))&&(decide (((1:Int)*(IntKind.i64.wrap (v0*a.2.1)))≤(281474976710656:Int)))) then
 loopF (R_Drawn_l1 fu a v0) fu (((0:Int),(List.replicate (Int.toNat (IntKind.i64.wrap (v0*a.2.1))) (0:Int))))
 else none
def R_Drawn_an:An:=(.n none .z (.n none .z (.n none .z (.n none (.n none .z (.n none (.n (some ⟨[6,8,21,0,7,22],[0,2],[],[.reg 23 (.int .i64),.row 1 true (.int .u8) 5 0],0,[]⟩) (.n none .z (.n none .z (.n (some ⟨[],[],[],[.reg 23 (.int .i64),.row 1 true (.int .u8) 5 0],0,[]⟩) (.n none (.n none .z (.n none .z (.n none (.dr [] []) .z))) .z) .z))) .z) .z)) (.n none .z .z)))))
noncomputable def R_Drawn_dc:List (Nat×Ctr):=[]
def R_Drawn_ctr:Ctr:=⟨(.pair (.int .i64) (.pair (.int .i64) (.pair (.list .bool) .unit))),(.pair (.agg (.pair (.int .i64) (.pair (.int .i64) (.list (.int .u8))))) .unit),R_Drawn_r,41⟩
theorem R_Drawn_ok:CtrOk Try.prog 41 R_Drawn_ctr:=ctr_ok (l:=R_Drawn_dc) (f:=12) (an:=R_Drawn_an) trivial fun fu x=>by kernel_rfl
def R_Halftone_l1 (fu:Nat) (a:(Int×Int×List Int)×(Int×Int×Int)×Unit) (v1:List Int) (j2:(Int×List Bool)→Option (List Bool×Unit)) (v2:Int×List Bool):Option (List Bool×Unit) :=
 bif (decide (v2.1<(List.length a.1.2.2:Int))) then
  bif ((decide ((0:Int)≤v2.1))&&(decide (v2.1<(List.length a.1.2.2:Int)))) then
  let v3:Int:=(List.getD a.1.2.2 (Int.toNat v2.1) 0)
  let v4:Int:=v2.1
  bif (decide (a.1.1≠(0:Int))) then
  bif (decide (a.1.1≠(0:Int))) then
  bindO (R_Place_r fu ((a.2.1,((Int.tmod v4 a.1.1),((IntKind.i64.wrap (Int.tdiv v4 a.1.1)),()))))) fun v5 =>
  bif ((decide ((0:Int)≤v5.1))&&(decide (v5.1<(List.length v1:Int)))) then
  let v6:Int:=(List.getD v1 (Int.toNat v5.1) 0)
  bindO (R_Round_r fu (((IntKind.i64.wrap ((IntKind.i64.wrap v3)*(List.length v1:Int))),((255:Int),())))) fun v7 =>
  bif ((decide ((0:Int)≤v4))&&(decide (v4<(List.length v2.2:Int)))) then
  j2 (((IntKind.i64.wrap (v2.1+(1:Int))),(List.set v2.2 (Int.toNat v4) (decide (v6<v7.1)))))
  else none
  else none
  else none
  else none
  else none
 else
 some ((v2.2,()))
def R_Halftone_r (fu:Nat) (a:(Int×Int×List Int)×(Int×Int×Int)×Unit):Option (List Bool×Unit) :=
 bindO (R_Ranks_r fu ((a.2.1,()))) fun v0 =>
 let v1:List Int:=v0.1
 bif ((decide ((0:Int)≤(List.length a.1.2.2:Int)))&&(decide (((1:Int)*(List.length a.1.2.2:Int))≤(281474976710656:Int)))) then
 loopF (R_Halftone_l1 fu a v1) fu (((0:Int),(List.replicate (Int.toNat (List.length a.1.2.2:Int)) false)))
 else none
def R_Halftone_an:An:=(.n none .z (.n none .z (.n none .z (.n none (.n none .z (.n none (.n (some ⟨[6,16,3,2,5,17,4],[1,0],[],[.reg 18 (.int .i64),.row 2 true .bool 4 0],0,[]⟩) (.n none .z (.n none .z (.n none (.n none (.n none .z (.dr [] [])) .z) .z))) .z) .z)) (.n none .z .z)))))
noncomputable def R_Halftone_dc:List (Nat×Ctr):=[(20,R_Ranks_ctr),(22,R_Round_ctr),(31,R_Place_ctr)]
def R_Halftone_ctr:Ctr:=⟨(.pair (.agg (.pair (.int .i64) (.pair (.int .i64) (.list (.int .u8))))) (.pair (.agg (.pair (.int .i64) (.pair (.int .i64) (.int .i64)))) .unit)),(.pair (.list .bool) .unit),R_Halftone_r,42⟩
theorem R_Halftone_ok:CtrOk Try.prog 42 R_Halftone_ctr:=ctr_ok (l:=R_Halftone_dc) (f:=12) (an:=R_Halftone_an) ⟨R_Ranks_ok,⟨R_Round_ok,⟨R_Place_ok,trivial⟩⟩⟩ fun fu x=>by kernel_rfl
def R_NoBits_r (fu:Nat) (a:(Int×Int×List Int)×Unit):Option (Bool×Unit) :=
 bif (decide (a.1.1=(0:Int))) then
  bif (decide (a.1.2.1=(0:Int))) then
   let v0:Bool:=(decide ((List.length a.1.2.2:Int)=(0:Int)))
   some ((v0,()))
  else
  some ((false,()))
 else
 some ((false,()))
def R_NoBits_an:An:=(.n none .z (.n none .z .z))
noncomputable def R_NoBits_dc:List (Nat×Ctr):=[]
def R_NoBits_ctr:Ctr:=⟨(.pair (.agg (.pair (.int .i64) (.pair (.int .i64) (.list (.int .u8))))) .unit),(.pair .bool .unit),R_NoBits_r,86⟩
theorem R_NoBits_ok:CtrOk Try.prog 86 R_NoBits_ctr:=ctr_ok (l:=R_NoBits_dc) (f:=12) (an:=R_NoBits_an) trivial fun fu x=>by kernel_rfl
def law_refused_r (fu:Nat) (a:(Int×Int×List Int)×Int×Int×Unit):Option (Bool×Unit) :=
 bindO (R_NoBits_r fu ((a.1,()))) fun v0 =>
 bif v0.1 then
  let v1:Bool:=(decide (a.2.1=a.2.2.1))
  some ((v1,()))
 else
 some ((false,()))
def law_refused_an:An:=(.n none .z (.n none .z .z))
noncomputable def law_refused_dc:List (Nat×Ctr):=[(86,R_NoBits_ctr)]
def law_refused_ctr:Ctr:=⟨(.pair (.agg (.pair (.int .i64) (.pair (.int .i64) (.list (.int .u8))))) (.pair (.int .i64) (.pair (.int .i64) .unit))),(.pair .bool .unit),law_refused_r,40⟩
theorem law_refused_ok:CtrOk Try.prog 40 law_refused_ctr:=ctr_ok (l:=law_refused_dc) (f:=12) (an:=law_refused_an) ⟨R_NoBits_ok,trivial⟩ fun fu x=>by kernel_rfl
def R_PlateErr_j1 (fu:Nat) (a:(Int×Int×List Int)×Unit) (v0:Bool):Option (Int×Unit) :=
 bif v0 then
  some (((3:Int),()))
 else
 bif (decide ((List.length a.1.2.2:Int)≠(IntKind.i64.wrap (a.1.1*a.1.2.1)))) then
  some (((4:Int),()))
 else
 some (((0:Int),()))
def R_PlateErr_r (fu:Nat) (a:(Int×Int×List Int)×Unit):Option (Int×Unit) :=
 joinF (R_PlateErr_j1 fu a) fun j0 =>
 bindO (R_Within_r fu ((a.1.1,((1:Int),((1024:Int),()))))) fun v1 =>
 bif (!v1.1) then
  j0 (true)
 else
 bindO (R_Within_r fu ((a.1.2.1,((1:Int),((1024:Int),()))))) fun v2 =>
 j0 ((!v2.1))
def R_PlateErr_an:An:=(.n none .z (.n none (.n (some ⟨[1],[0],[],[.reg 12 .bool],0,[]⟩) .z (.n none (.n none .z .z) .z)) (.n none (.n none .z (.n none (.n none .z .z) .z)) (.n none .z .z))))
noncomputable def R_PlateErr_dc:List (Nat×Ctr):=[(21,R_Within_ctr)]
def R_PlateErr_ctr:Ctr:=⟨(.pair (.agg (.pair (.int .i64) (.pair (.int .i64) (.list (.int .u8))))) .unit),(.pair (.int .i64) .unit),R_PlateErr_r,39⟩
theorem R_PlateErr_ok:CtrOk Try.prog 39 R_PlateErr_ctr:=ctr_ok (l:=R_PlateErr_dc) (f:=12) (an:=R_PlateErr_an) ⟨R_Within_ok,trivial⟩ fun fu x=>by kernel_rfl
def devicelink_CheckPlate_j1 (fu:Nat) (a:(Int×Int×List Int)×Unit) (v0:Bool):Option (Int×Unit) :=
 bif v0 then
  some (((3:Int),()))
 else
 bif (decide ((List.length a.1.2.2:Int)≠(IntKind.i64.wrap (a.1.1*a.1.2.1)))) then
  some (((4:Int),()))
 else
 some (((0:Int),()))
def devicelink_CheckPlate_r (fu:Nat) (a:(Int×Int×List Int)×Unit):Option (Int×Unit) :=
 joinF (devicelink_CheckPlate_j1 fu a) fun j0 =>
 bif (decide (a.1.1<(1:Int))) then
  j0 (true)
 else
 bif (decide ((1024:Int)<a.1.1)) then
  j0 (true)
 else
 bif (decide (a.1.2.1<(1:Int))) then
  j0 (true)
 else
 j0 ((decide ((1024:Int)<a.1.2.1)))
def devicelink_CheckPlate_an:An:=(.n none .z (.n none (.n (some ⟨[1],[0],[],[.reg 20 .bool],0,[]⟩) .z (.n none (.n none .z .z) .z)) (.n none (.n none .z (.n none (.n none .z .z) .z)) (.n none .z .z))))
noncomputable def devicelink_CheckPlate_dc:List (Nat×Ctr):=[]
def devicelink_CheckPlate_ctr:Ctr:=⟨(.pair (.agg (.pair (.int .i64) (.pair (.int .i64) (.list (.int .u8))))) .unit),(.pair (.int .i64) .unit),devicelink_CheckPlate_r,88⟩
theorem devicelink_CheckPlate_ok:CtrOk Try.prog 88 devicelink_CheckPlate_ctr:=ctr_ok (l:=devicelink_CheckPlate_dc) (f:=12) (an:=devicelink_CheckPlate_an) trivial fun fu x=>by kernel_rfl
def halftone_check_r (fu:Nat) (a:(Int×Int×List Int)×(Int×Int×Int)×Unit):Option (Int×Unit) :=
 bindO (devicelink_CheckPlate_r fu ((a.1,()))) fun v0 =>
 let v1:Int:=v0.1
 bif (decide (v1≠(0:Int))) then
  some ((v1,()))
 else
 bindO (screen_Check_r fu ((a.2.1,()))) fun v2 =>
 let v3:Int:=v2.1
 some ((v3,()))
def halftone_check_an:An:=(.n none .z (.n none (.n none .z (.n none .z (.n none (.n none .z .z) .z))) (.n none .z .z)))
noncomputable def halftone_check_dc:List (Nat×Ctr):=[(29,screen_Check_ctr),(88,devicelink_CheckPlate_ctr)]
def halftone_check_ctr:Ctr:=⟨(.pair (.ptr (.pair (.int .i64) (.pair (.int .i64) (.list (.int .u8))))) (.pair (.agg (.pair (.int .i64) (.pair (.int .i64) (.int .i64)))) .unit)),(.pair (.int .i64) .unit),halftone_check_r,83⟩
theorem halftone_check_ok:CtrOk Try.prog 83 halftone_check_ctr:=ctr_ok (l:=halftone_check_dc) (f:=12) (an:=halftone_check_an) ⟨screen_Check_ok,⟨devicelink_CheckPlate_ok,trivial⟩⟩ fun fu x=>by kernel_rfl
def bitmap_Blank_si:Sig:=⟨[],[],[],[.reg 0 (.int .i64),.reg 1 (.int .i64)],0,[]⟩
def bitmap_Blank_so:Sig:=⟨[],[],[],[.reg 0 (.agg [(.int .i64),(.int .i64),(.osl 0 0)]),.row 0 true (.int .u8) 5 0],1,[]⟩
def bitmap_Blank_g (fu:Nat) (a:Int×Int):Option ((Int×Int×Unit)×List Int) :=
 bindO (bitmap_stride_r fu ((a.1,()))) fun v0 =>
 bif ((decide ((0:Int)≤(IntKind.i64.wrap (v0.1*a.2))))&&(decide (((1:Int)*(IntKind.i64.wrap (v0.1*a.2)))≤(281474976710656:Int)))) then
 some (((a.1,(a.2,())),(List.replicate (Int.toNat (IntKind.i64.wrap (v0.1*a.2))) (0:Int))))
 else none
def bitmap_Blank_r (fu:Nat) (a:Int×Int):Option ((Int×Int×Unit)×List Int):=chkE bitmap_Blank_si bitmap_Blank_so 0 bitmap_Blank_g fu a
def bitmap_Blank_an:An:=(.n none .z (.n none .z .z))
noncomputable def bitmap_Blank_dc:List (Nat×Ctr):=[(115,bitmap_stride_ctr)]
def bitmap_Blank_ctr:CtrE:=⟨bitmap_Blank_si,bitmap_Blank_so,0,2,bitmap_Blank_r,84⟩
theorem bitmap_Blank_ok:CtrEOk Try.prog 84 bitmap_Blank_ctr:=ctrE_ok (l:=bitmap_Blank_dc) (le:=[]) ⟨bitmap_stride_ok,trivial⟩ trivial (f:=12) (an:=bitmap_Blank_an) (si:=bitmap_Blank_si) (so:=bitmap_Blank_so) (nb:=0) (na:=2) (g:=bitmap_Blank_g) (by kernel_rfl) fun fu x=>by kernel_rfl
def halftone_painter_si:Sig:=⟨[],[],[],[.reg 0 (.pk false (.pair (.int .i64) (.pair (.int .i64) (.list (.int .u8)))) 0),.reg 1 (.agg [(.int .i64),(.int .i64),(.int .i64)])],0,[]⟩
def halftone_painter_so:Sig:=⟨[],[],[],[.reg 0 (.fn 116 [(.box 3 0),(.box 2 0),(.box 1 0),(.arr 0 0 0)]),.row 0 true (.int .i64) 161 0,.box 1 [(.int .i64),(.int .i64),(.int .i64)] 112,.box 2 [(.ro true (.int .i64))] 25,.box 3 [(.pk false (.pair (.int .i64) (.pair (.int .i64) (.list (.int .u8)))) 0)] 120],4,[]⟩
def halftone_painter_l1 (fu:Nat) (a:(Int×Int×List Int)×Int×Int×Int) (v0:(Int×Int×Int)×Unit) (v1:List Int×Unit) (j2:(Int×List Int)→Option ((Unit×Unit×Unit×Unit)×List Int×(Int×Int×Int)×List Int×Int×Int×List Int)) (v2:Int×List Int):Option ((Unit×Unit×Unit×Unit)×List Int×(Int×Int×Int)×List Int×Int×Int×List Int) :=
 bif (decide (v2.1<(256:Int))) then
  let v3:Int:=v2.1
  bindO (curve_Nearest_r fu (((IntKind.i64.wrap (v3*(List.length v1.1:Int))),((255:Int),())))) fun v4 =>
  bif (((decide ((0:Int)≤v3))&&(decide (v3<(List.length v2.2:Int))))&&(decide (v3<(256:Int)))) then
  j2 (((IntKind.i64.wrap (v2.1+(1:Int))),(List.set v2.2 (Int.toNat v3) v4.1)))
  else none
 else
 some ((((),((),((),()))),(v2.2,(v0.1,(v1.1,a.1)))))
def halftone_painter_g (fu:Nat) (a:(Int×Int×List Int)×Int×Int×Int):Option ((Unit×Unit×Unit×Unit)×List Int×(Int×Int×Int)×List Int×Int×Int×List Int) :=
 bindO (screen_Of_r fu ((a.2,()))) fun v0 =>
 bindO (screen_Ranks_r fu ((a.2,()))) fun v1 =>
 loopF (halftone_painter_l1 fu a v0 v1) fu (((0:Int),([(0:Int),(0:Int),(0:Int),(0:Int),(0:Int),(0:Int),(0:Int),(0:Int),(0:Int),(0:Int),(0:Int),(0:Int),(0:Int),(0:Int),(0:Int),(0:Int),(0:Int),(0:Int),(0:Int),(0:Int),(0:Int),(0:Int),(0:Int),(0:Int),(0:Int),(0:Int),(0:Int),(0:Int),(0:Int),(0:Int),(0:Int),(0:Int),(0:Int),(0:Int),(0:Int),(0:Int),(0:Int),(0:Int),(0:Int),(0:Int),(0:Int),(0:Int),(0:Int),(0:Int),(0:Int),(0:Int),(0:Int),(0:Int),(0:Int),(0:Int),(0:Int),(0:Int),(0:Int),(0:Int),(0:Int),(0:Int),(0:Int),(0:Int),(0:Int),(0:Int),(0:Int),(0:Int),(0:Int),(0:Int),(0:Int),(0:Int),(0:Int),(0:Int),(0:Int),(0:Int),(0:Int),(0:Int),(0:Int),(0:Int),(0:Int),(0:Int),(0:Int),(0:Int),(0:Int),(0:Int),(0:Int),(0:Int),(0:Int),(0:Int),(0:Int),(0:Int),(0:Int),(0:Int),(0:Int),(0:Int),(0:Int),(0:Int),(0:Int),(0:Int),(0:Int),(0:Int),(0:Int),(0:Int),(0:Int),(0:Int),(0:Int),(0:Int),(0:Int),(0:Int),(0:Int),(0:Int),(0:Int),(0:Int),(0:Int),(0:Int),(0:Int),(0:Int),(0:Int),(0:Int),(0:Int),(0:Int),(0:Int),(0:Int),(0:Int),(0:Int),(0:Int),(0:Int),(0:Int),(0:Int),(0:Int),(0:Int),(0:Int),(0:Int),(0:Int),(0:Int),(0:Int),(0:Int),(0:Int),(0:Int),(0:Int),(0:Int),(0:Int),(0:Int),(0:Int),(0:Int),(0:Int),(0:Int),(0:Int),(0:Int),(0:Int),(0:Int),(0:Int),(0:Int),(0:Int),(0:Int),(0:Int),(0:Int),(0:Int),(0:Int),(0:Int),(0:Int),(0:Int),(0:Int),(0:Int),(0:Int),(0:Int),(0:Int),(0:Int),(0:Int),(0:Int),(0:Int),(0:Int),(0:Int),(0:Int),(0:Int),(0:Int),(0:Int),(0:Int),(0:Int),(0:Int),(0:Int),(0:Int),(0:Int),(0:Int),(0:Int),(0:Int),(0:Int),(0:Int),(0:Int),(0:Int),(0:Int),(0:Int),(0:Int),(0:Int),(0:Int),(0:Int),(0:Int),(0:Int),(0:Int),(0:Int),(0:Int),(0:Int),(0:Int),(0:Int),(0:Int),(0:Int),(0:Int),(0:Int),(0:Int),(0:Int),(0:Int),(0:Int),(0:Int),(0:Int),(0:Int),(0:Int),(0:Int),(0:Int),(0:Int),(0:Int),(0:Int),(0:Int),(0:Int),(0:Int),(0:Int),(0:Int),(0:Int),(0:Int),(0:Int),(0:Int),(0:Int),(0:Int),(0:Int),(0:Int),(0:Int),(0:Int),(0:Int),(0:Int),(0:Int),(0:Int),(0:Int),(0:Int),(0:Int),(0:Int),(0:Int),(0:Int),(0:Int),(0:Int),(0:Int),(0:Int),(0:Int),(0:Int),(0:Int),(0:Int),(0:Int),(0:Int),(0:Int),(0:Int),(0:Int),(0:Int),(0:Int)]:List Int)))
def halftone_painter_r (fu:Nat) (a:(Int×Int×List Int)×Int×Int×Int):Option ((Unit×Unit×Unit×Unit)×List Int×(Int×Int×Int)×List Int×Int×Int×List Int):=chkE halftone_painter_si halftone_painter_so 0 halftone_painter_g fu a
def halftone_painter_an:An:=(.n none .z (.n none (.dr [] []) (.n none .z (.n none (.n none .z (.n none (.n (some ⟨[2,6,5,7,4],[0,1,2,3],[],[.reg 13 (.int .i64),.row 4 true (.int .i64) 161 0],0,[]⟩) (.n none .z (.n none .z (.n none (.n none (.n none .z .z) .z) .z))) .z) .z)) (.n none .z .z)))))
noncomputable def halftone_painter_dc:List (Nat×Ctr):=[(71,screen_Ranks_ctr),(72,curve_Nearest_ctr),(75,screen_Of_ctr)]
def halftone_painter_ctr:CtrE:=⟨halftone_painter_si,halftone_painter_so,0,2,halftone_painter_r,85⟩
theorem halftone_painter_ok:CtrEOk Try.prog 85 halftone_painter_ctr:=ctrE_ok (l:=halftone_painter_dc) (le:=[]) ⟨screen_Ranks_ok,⟨curve_Nearest_ok,⟨screen_Of_ok,trivial⟩⟩⟩ trivial (f:=12) (an:=halftone_painter_an) (si:=halftone_painter_si) (so:=halftone_painter_so) (nb:=0) (na:=2) (g:=halftone_painter_g) (by kernel_rfl) fun fu x=>by kernel_rfl
def halftone_Apply_j3 (fu:Nat) (j7:(Int×List Int)→Option ((Int×Int×List Int)×Int×Unit)) (v8:Int×List Int):Option ((Int×Int×List Int)×Int×Unit) :=
 j7 (((IntKind.i64.wrap (v8.1+(1:Int))),v8.2))
def halftone_Apply_l2 (fu:Nat) (v3:(Unit×Unit×Unit×Unit)×List Int×(Int×Int×Int)×List Int×Int×Int×List Int) (v4:Int) (v5:Int×List Int) (v6:Int) (j5:(Int×List Int)→Option ((Int×Int×List Int)×Int×Unit)) (j7:(Int×List Int)→Option ((Int×Int×List Int)×Int×Unit)) (v7:Int×List Int):Option ((Int×Int×List Int)×Int×Unit) :=
 bif (decide (v7.1<(List.length (List.drop (Int.toNat (IntKind.i64.wrap (v6*v3.2.2.2.2.1))) (List.take (Int.toNat (IntKind.i64.wrap ((IntKind.i64.wrap (v6+(1:Int)))*v3.2.2.2.2.1))) v3.2.2.2.2.2.2)):Int))) then
  joinF (halftone_Apply_j3 fu j7) fun j8 =>
  bif ((decide ((0:Int)≤v7.1))&&(decide (v7.1<(List.length (List.drop (Int.toNat (IntKind.i64.wrap (v6*v3.2.2.2.2.1))) (List.take (Int.toNat (IntKind.i64.wrap ((IntKind.i64.wrap (v6+(1:Int)))*v3.2.2.2.2.1))) v3.2.2.2.2.2.2)):Int)))) then
  let v9:Int:=(List.getD (List.drop (Int.toNat (IntKind.i64.wrap (v6*v3.2.2.2.2.1))) (List.take (Int.toNat (IntKind.i64.wrap ((IntKind.i64.wrap (v6+(1:Int)))*v3.2.2.2.2.1))) v3.2.2.2.2.2.2)) (Int.toNat v7.1) 0)
  let v10:Int:=v7.1
  bindO (_screen_Form__Place_r fu ((v3.2.2.1,(v10,(v6,()))))) fun v11 =>
  bif ((decide ((0:Int)≤v11.1))&&(decide (v11.1<(List.length v3.2.2.2.1:Int)))) then
  let v12:Int:=(List.getD v3.2.2.2.1 (Int.toNat v11.1) 0)
  bif (((decide ((0:Int)≤v9))&&(decide (v9<(List.length v3.2.1:Int))))&&(decide (v9<(256:Int)))) then
  bif (decide (v12<(List.getD v3.2.1 (Int.toNat v9) 0))) then
   bif ((decide ((0:Int)≤(IntKind.i64.wrap (v6*v4))))&&((decide ((0:Int)≤(IntKind.i64.wrap (Int.tdiv v10 (8:Int)))))&&(decide (((IntKind.i64.wrap (v6*v4))+(IntKind.i64.wrap (Int.tdiv v10 (8:Int))))<(IntKind.i64.wrap ((IntKind.i64.wrap (v6+(1:Int)))*v4)))))) then
   bif ((decide ((0:Int)≤(Int.tmod v10 (8:Int))))&&(decide ((Int.tmod v10 (8:Int))≤(8:Int)))) then
   bif ((decide ((0:Int)≤(IntKind.i64.wrap (v6*v4))))&&((decide ((0:Int)≤(IntKind.i64.wrap (Int.tdiv v10 (8:Int)))))&&(decide (((IntKind.i64.wrap (v6*v4))+(IntKind.i64.wrap (Int.tdiv v10 (8:Int))))<(IntKind.i64.wrap ((IntKind.i64.wrap (v6+(1:Int)))*v4)))))) then
   j8 ((v7.1,(List.set v7.2 (Int.toNat ((IntKind.i64.wrap (v6*v4))+(IntKind.i64.wrap (Int.tdiv v10 (8:Int))))) (bits BinOp.or IntKind.u8 (List.getD v7.2 (Int.toNat ((IntKind.i64.wrap (v6*v4))+(IntKind.i64.wrap (Int.tdiv v10 (8:Int))))) 0) ((128:Int) / 2 ^ (Int.toNat (Int.tmod v10 (8:Int))))))))
   else none
   else none
   else none
  else
  j8 (v7)
  else none
  else none
  else none
 else
 j5 (((IntKind.i64.wrap (v5.1+(1:Int))),v7.2))
def halftone_Apply_l1 (fu:Nat) (a:(Int×Int×List Int)×(Int×Int×Int)×Unit) (v2:(Int×Int×Unit)×List Int) (v3:(Unit×Unit×Unit×Unit)×List Int×(Int×Int×Int)×List Int×Int×Int×List Int) (v4:Int) (j5:(Int×List Int)→Option ((Int×Int×List Int)×Int×Unit)) (v5:Int×List Int):Option ((Int×Int×List Int)×Int×Unit) :=
 bif (decide (v5.1<a.1.2.1)) then
  let v6:Int:=v5.1
  bif ((decide ((0:Int)≤(IntKind.i64.wrap (v6*v4))))&&((decide ((IntKind.i64.wrap (v6*v4))≤(IntKind.i64.wrap ((IntKind.i64.wrap (v6+(1:Int)))*v4))))&&(decide ((IntKind.i64.wrap ((IntKind.i64.wrap (v6+(1:Int)))*v4))≤(List.length v5.2:Int))))) then
  bif ((decide ((0:Int)≤(IntKind.i64.wrap (v6*v3.2.2.2.2.1))))&&((decide ((IntKind.i64.wrap (v6*v3.2.2.2.2.1))≤(IntKind.i64.wrap ((IntKind.i64.wrap (v6+(1:Int)))*v3.2.2.2.2.1))))&&(decide ((IntKind.i64.wrap ((IntKind.i64.wrap (v6+(1:Int)))*v3.2.2.2.2.1))≤(List.length v3.2.2.2.2.2.2:Int))))) then
  loopF (halftone_Apply_l2 fu v3 v4 v5 v6 j5) fu (((0:Int),v5.2))
  else none
  else none
 else
 some (((v2.1.1,(v2.1.2.1,v5.2)),((0:Int),())))
def halftone_Apply_r (fu:Nat) (a:(Int×Int×List Int)×(Int×Int×Int)×Unit):Option ((Int×Int×List Int)×Int×Unit) :=
 bindO (halftone_check_r fu ((a.1,(a.2.1,())))) fun v0 =>
 let v1:Int:=v0.1
 bif (decide (v1≠(0:Int))) then
  some ((((0:Int),((0:Int),([]:List (Int)))),(v1,())))
 else
 bindO (bitmap_Blank_r fu ((a.1.1,a.1.2.1))) fun v2 =>
 bindO (halftone_painter_r fu ((a.1,a.2.1))) fun v3 =>
 let v4:Int:=(IntKind.i64.wrap (Int.tdiv (IntKind.i64.wrap (a.1.1+(7:Int))) (8:Int)))
 loopF (halftone_Apply_l1 fu a v2 v3 v4) fu (((0:Int),v2.2))
def halftone_Apply_an:An:=(.n none (.ops [(0,(.dr [] [])),(1,(.dr [] []))]) (.n none (.n none .z (.n none .z (.n none (.n none .z .z) .z))) (.n none .z (.n none (.dr [] []) (.n none (.n none .z (.n none (.n (some ⟨[4,7,8,9,29,5],[0,2,6,5,4,3],[],[.reg 30 (.int .i64),.row 1 true (.int .u8) 5 0],0,[]⟩) (.n none .z (.n none .z (.n none (.n none (.n none .z (.ops [(12,(.n none (.n none (.dr [] []) (.n none (.n (some ⟨[27,3,4,0,5,1,28],[],[],[.reg 29 (.int .i64),.row 1 true (.int .u8) 5 0],0,[]⟩) (.n none .z (.n none .z (.n (some ⟨[],[],[],[.reg 29 (.int .i64),.row 1 true (.int .u8) 5 0],0,[]⟩) (.n none (.n none .z (.n none (.dr [] []) (.n none (.dr [] []) .z))) .z) .z))) .z) .z)) .z))])) .z) .z))) .z) .z)) (.n none .z .z))))))
noncomputable def halftone_Apply_dc:List (Nat×Ctr):=[(80,_screen_Form__Place_ctr),(83,halftone_check_ctr)]
noncomputable def halftone_Apply_de:List (Nat×CtrE):=[(84,bitmap_Blank_ctr),(85,halftone_painter_ctr)]
def halftone_Apply_ctr:Ctr:=⟨(.pair (.agg (.pair (.int .i64) (.pair (.int .i64) (.list (.int .u8))))) (.pair (.agg (.pair (.int .i64) (.pair (.int .i64) (.int .i64)))) .unit)),(.pair (.agg (.pair (.int .i64) (.pair (.int .i64) (.list (.int .u8))))) (.pair (.int .i64) .unit)),halftone_Apply_r,37⟩
theorem halftone_Apply_ok:CtrOk Try.prog 37 halftone_Apply_ctr:=ctr_okE (l:=halftone_Apply_dc) (le:=halftone_Apply_de) ⟨_screen_Form__Place_ok,⟨halftone_check_ok,trivial⟩⟩ ⟨bitmap_Blank_ok,⟨halftone_painter_ok,trivial⟩⟩ (f:=12) (an:=halftone_Apply_an) fun fu x=>by kernel_rfl
def halftone_All_l1 (fu:Nat) (a:List (Int×Int×List Int)×List (Int×Int×Int)×Unit) (j0:(Int×List (Int×Int×List Int))→Option (List (Int×Int×List Int)×Int×Unit)) (v0:Int×List (Int×Int×List Int)):Option (List (Int×Int×List Int)×Int×Unit) :=
 bif (decide (v0.1<(List.length a.1:Int))) then
  let v1:Int:=v0.1
  bif ((decide ((0:Int)≤v1))&&(decide (v1<(List.length a.1:Int)))) then
  let v2:Int×Int×List Int:=(List.getD a.1 (Int.toNat v1) (0,(0,[])))
  bif ((decide ((0:Int)≤v1))&&(decide (v1<(List.length a.2.1:Int)))) then
  let v3:Int×Int×Int:=(List.getD a.2.1 (Int.toNat v1) (0,(0,0)))
  bindO (halftone_Apply_r fu ((v2,(v3,())))) fun v4 =>
  bif ((decide ((0:Int)≤v1))&&(decide (v1<(List.length v0.2:Int)))) then
  let v5:Int:=v4.2.1
  bif (decide (v5≠(0:Int))) then
   some ((([]:List ((Int)×((Int)×(List (Int))))),(v5,())))
  else
  j0 (((IntKind.i64.wrap (v0.1+(1:Int))),(List.set v0.2 (Int.toNat v1) v4.1)))
  else none
  else none
  else none
 else
 some ((v0.2,((0:Int),())))
def halftone_All_r (fu:Nat) (a:List (Int×Int×List Int)×List (Int×Int×Int)×Unit):Option (List (Int×Int×List Int)×Int×Unit) :=
 bif (decide ((8:Int)<(List.length a.1:Int))) then
  some ((([]:List ((Int)×((Int)×(List (Int))))),((2:Int),())))
 else
 bif (decide ((List.length a.2.1:Int)≠(List.length a.1:Int))) then
  some ((([]:List ((Int)×((Int)×(List (Int))))),((4:Int),())))
 else
 bif ((decide ((0:Int)≤(List.length a.1:Int)))&&(decide (((40:Int)*(List.length a.1:Int))≤(281474976710656:Int)))) then
 loopF (halftone_All_l1 fu a) fu (((0:Int),(List.replicate (Int.toNat (List.length a.1:Int)) ((0:Int),((0:Int),([]:List (Int)))))))
 else none
def halftone_All_an:An:=(.n none .z (.n none (.n none .z (.n none (.n none .z .z) .z)) (.n none (.n none .z (.n none (.n none .z .z) .z)) (.n none .z (.n none (.n none .z (.n none (.n (some ⟨[6,0,1,21],[],[],[.reg 22 (.int .i64),.row 0 true (.pair (.int .i64) (.pair (.int .i64) (.list (.int .u8)))) 54 0],0,[]⟩) (.n none .z (.n none .z (.n none (.n none (.n none .z (.n none .z (.n none (.dr [] []) (.n none .z (.n none (.n none .z .z) .z))))) .z) .z))) .z) .z)) (.n none .z .z))))))
noncomputable def halftone_All_dc:List (Nat×Ctr):=[(37,halftone_Apply_ctr)]
def halftone_All_ctr:Ctr:=⟨(.pair (.list (.pair (.int .i64) (.pair (.int .i64) (.list (.int .u8))))) (.pair (.list (.pair (.int .i64) (.pair (.int .i64) (.int .i64)))) .unit)),(.pair (.list (.pair (.int .i64) (.pair (.int .i64) (.list (.int .u8))))) (.pair (.int .i64) .unit)),halftone_All_r,38⟩
theorem halftone_All_ok:CtrOk Try.prog 38 halftone_All_ctr:=ctr_ok (l:=halftone_All_dc) (f:=12) (an:=halftone_All_an) ⟨halftone_Apply_ok,trivial⟩ fun fu x=>by kernel_rfl
def law_HalftoneDots_j1 (fu:Nat) (a:(Int×Int×List Int)×(Int×Int×Int)×Unit) (v1:(Int×Int×List Int)×Int×Unit) (v2:Int) (v4:List (Int×Int×List Int)) (v5:Int) (v8:Int):Option (Bool×Unit) :=
 bif (decide (v8≠(0:Int))) then
  bindO (law_refused_r fu ((v1.1,(v2,(v8,()))))) fun v9 =>
  bif v9.1 then
   bindO (law_none_r fu (((decide ((List.length v4:Int)=(0:Int))),(v5,(v8,()))))) fun v10 =>
   let v11:Bool:=v10.1
   some ((v11,()))
  else
  some ((false,()))
 else
 bif (decide ((900:Int)<(IntKind.i64.wrap (a.1.1*a.1.2.1)))) then
  some ((true,()))
 else
 bindO (R_Halftone_r fu ((a.1,(a.2.1,())))) fun v9 =>
 bindO (R_Drawn_r fu ((a.1.1,(a.1.2.1,(v9.1,()))))) fun v10 =>
 bif (decide (v2=(0:Int))) then
  bindO (R_SameBits_r fu ((v1.1,(v10.1,())))) fun v11 =>
  bif v11.1 then
   bif (decide (v5=(0:Int))) then
    bif (decide ((List.length v4:Int)=(1:Int))) then
     bif (decide ((0:Int)<(List.length v4:Int))) then
     let v12:Int×Int×List Int:=(List.getD v4 (Int.toNat (0:Int)) (0,(0,[])))
     bindO (R_SameBits_r fu ((v12,(v10.1,())))) fun v13 =>
     let v14:Bool:=v13.1
     some ((v14,()))
     else none
    else
    some ((false,()))
   else
   some ((false,()))
  else
  some ((false,()))
 else
 some ((false,()))
def law_HalftoneDots_r (fu:Nat) (a:(Int×Int×List Int)×(Int×Int×Int)×Unit):Option (Bool×Unit) :=
 bindO (law_halftoneWorks_r fu (())) fun v0 =>
 bif (!v0.1) then
  some ((false,()))
 else
 bindO (halftone_Apply_r fu ((a.1,(a.2.1,())))) fun v1 =>
 let v2:Int:=v1.2.1
 bindO (halftone_All_r fu ((([a.1]:List (Int×Int×List Int)),(([a.2.1]:List (Int×Int×Int)),())))) fun v3 =>
 let v4:List (Int×Int×List Int):=v3.1
 let v5:Int:=v3.2.1
 bindO (R_PlateErr_r fu ((a.1,()))) fun v6 =>
 let v7:Int:=v6.1
 joinF (law_HalftoneDots_j1 fu a v1 v2 v4 v5) fun j8 =>
 bif (decide (v7=(0:Int))) then
  bindO (R_ScreenErr_r fu ((a.2.1,()))) fun v9 =>
  let v10:Int:=v9.1
  j8 (v10)
 else
 j8 (v7)
def law_HalftoneDots_an:An:=(.n none .z (.n none (.n none .z (.n none (.n none .z .z) .z)) (.n none .z (.n none .z (.n none .z (.n (some ⟨[2,3,6,5,8,7],[0,1,2,3,4],[],[.reg 9 (.int .i64)],0,[]⟩) (.n none .z (.n none .z .z)) (.n none (.n none .z (.n none (.n none .z .z) .z)) (.n none (.n none .z (.n none (.n none .z .z) .z)) (.n none (.dr [] []) (.n none (.dr [] []) .z))))))))))
noncomputable def law_HalftoneDots_dc:List (Nat×Ctr):=[(17,R_ScreenErr_ctr),(18,law_none_ctr),(32,law_halftoneWorks_ctr),(37,halftone_Apply_ctr),(38,halftone_All_ctr),(39,R_PlateErr_ctr),(40,law_refused_ctr),(41,R_Drawn_ctr),(42,R_Halftone_ctr),(43,R_SameBits_ctr)]
def law_HalftoneDots_ctr:Ctr:=⟨(.pair (.agg (.pair (.int .i64) (.pair (.int .i64) (.list (.int .u8))))) (.pair (.agg (.pair (.int .i64) (.pair (.int .i64) (.int .i64)))) .unit)),(.pair .bool .unit),law_HalftoneDots_r,7⟩
theorem law_HalftoneDots_ok:CtrOk Try.prog 7 law_HalftoneDots_ctr:=ctr_ok (l:=law_HalftoneDots_dc) (f:=12) (an:=law_HalftoneDots_an) ⟨R_ScreenErr_ok,⟨law_none_ok,⟨law_halftoneWorks_ok,⟨halftone_Apply_ok,⟨halftone_All_ok,⟨R_PlateErr_ok,⟨law_refused_ok,⟨R_Drawn_ok,⟨R_Halftone_ok,⟨R_SameBits_ok,trivial⟩⟩⟩⟩⟩⟩⟩⟩⟩⟩ fun fu x=>by kernel_rfl
end
end Go.Proofs.Ytelpkjellakigaa
/- Bits of bytes,bitmaps as lists of bytes. No program in sight. -/
namespace Go.Proofs.Ytelpkjellakigaa
open Go Go.RowKit

def bitAt (v:Int) (j:Nat):Bool:=v / 2 ^ (7-j) % 2==1
theorem fin_byte {p:Int→Prop} (h:∀ v:Fin 256,p (v.val:Int)) {v:Int} (h0:0≤v) (h1:v≤255):p v:=by
 have:=h ⟨v.toNat,by omega⟩;rwa [show ((⟨v.toNat,by omega⟩:Fin 256).val:Int)=v from Int.toNat_of_nonneg h0] at this
def Bytes (ds:List Int):Prop:=∀ d ∈ ds,0≤d∧d≤255
end Go.Proofs.Ytelpkjellakigaa
/- Strips: what the small functions compute. -/
namespace Go.Proofs.Ytelpkjellakigaa
open Go Go.RowKit

def strd (w:Int):Int:=(w+7) / 8
theorem stride_r (fu:Nat) {w:Int} (h0:0≤w) (h1:w≤1000000):bitmap_stride_r fu (w,())=some (strd w,()):=by
 unfold bitmap_stride_r strd;simp only;rw [wr64 (x:=w+7) (by omega) (by omega),Int.tdiv_eq_ediv_of_nonneg (by omega),wr64 (x:=(w+7) / 8) (by omega) (by omega)]
theorem at_ok {w h:Int} (hw:0≤w) {x y:Int} {l:Nat} (hx0:0≤x) (hx1:x<w) (hy0:0≤y) (hy1:y<h) (hl:(l:Int)=strd w*h):0≤y*strd w∧0≤y*strd w+x / 8∧y*strd w+x / 8<l:=by
 have h1:x / 8<strd w:=by unfold strd;omega
 have h2:y*strd w≤(h-1)*strd w:=Int.mul_le_mul_of_nonneg_right (by omega) (by unfold strd;omega);have h3:(h-1)*strd w=strd w*h-strd w:=by rw [Int.sub_mul,Int.one_mul,Int.mul_comm]
 have h4:0≤y*strd w:=Int.mul_nonneg hy0 (by unfold strd;omega);omega
end Go.Proofs.Ytelpkjellakigaa
/- Pictures of pixels. No program in sight. -/
set_option maxRecDepth 100000
namespace Go.Proofs.Ytelpkjellakigaa
open Go Go.RowKit

def byteB (b0 b1 b2 b3 b4 b5 b6 b7:Bool):Int:=(bif b0 then 128 else 0)+(bif b1 then 64 else 0)+(bif b2 then 32 else 0)+(bif b3 then 16 else 0)+(bif b4 then 8 else 0)+(bif b5 then 4 else 0)+(bif b6 then 2 else 0)+(bif b7 then 1 else 0)
def byteOf (p:Nat→Bool):Int:=byteB (p 0) (p 1) (p 2) (p 3) (p 4) (p 5) (p 6) (p 7)
theorem byteOf_congr {p q:Nat→Bool} (h:∀ k,k<8→p k=q k):byteOf p=byteOf q:=by
 unfold byteOf;rw [h 0 (by omega),h 1 (by omega),h 2 (by omega),h 3 (by omega),h 4 (by omega),h 5 (by omega),h 6 (by omega),h 7 (by omega)]
theorem byteOf_bd (p:Nat→Bool):0≤byteOf p∧byteOf p≤255:=by
 unfold byteOf;generalize p 0=a0;generalize p 1=a1;generalize p 2=a2;generalize p 3=a3;generalize p 4=a4;generalize p 5=a5;generalize p 6=a6;generalize p 7=a7
 revert a0 a1 a2 a3 a4 a5 a6 a7
 decide +kernel
theorem bool_fun {p:Nat→Bool} {a0 a1 a2 a3 a4 a5 a6 a7:Bool} (h0:p 0=a0) (h1:p 1=a1) (h2:p 2=a2) (h3:p 3=a3) (h4:p 4=a4) (h5:p 5=a5) (h6:p 6=a6) (h7:p 7=a7):∀ k,k<8→p k=[a0,a1,a2,a3,a4,a5,a6,a7].getD k false
 | 0,_=>h0 | 1,_=>h1 | 2,_=>h2 | 3,_=>h3 | 4,_=>h4 | 5,_=>h5 | 6,_=>h6 | 7,_=>h7
 | k+8,h=>by omega
theorem byteOf_bit (p:Nat→Bool) {k:Nat} (hk:k<8):bitAt (byteOf p) k=p k:=by
 rw [bool_fun (p:=p) rfl rfl rfl rfl rfl rfl rfl rfl k hk];unfold byteOf;generalize p 0=a0;generalize p 1=a1;generalize p 2=a2;generalize p 3=a3;generalize p 4=a4;generalize p 5=a5;generalize p 6=a6;generalize p 7=a7
 exact (show ∀ (k:Fin 8) (a0 a1 a2 a3 a4 a5 a6 a7:Bool),bitAt (byteB a0 a1 a2 a3 a4 a5 a6 a7) k.val=[a0,a1,a2,a3,a4,a5,a6,a7].getD k.val false by decide +kernel) ⟨k,hk⟩ a0 a1 a2 a3 a4 a5 a6 a7
theorem or_byte {v:Int} (h0:0≤v) (h1:v≤255) {k:Nat} (hk:k<8):bits .or .u8 v (128 / 2 ^ k)=byteOf (fun j=>bitAt v j||j==k) :=
 fin_byte (p:=fun v=>bits .or .u8 v (128 / 2 ^ k)=byteOf (fun j=>bitAt v j||j==k)) (fun v=>(show ∀ (k:Fin 8) (v:Fin 256),bits .or .u8 (v.val:Int) (128 / 2 ^ k.val)=byteOf (fun j=>bitAt (v.val:Int) j||j==k.val) by decide +kernel) ⟨k,hk⟩ v) h0 h1
theorem byteOf_or (p:Nat→Bool) {k:Nat} (hk:k<8):bits .or .u8 (byteOf p) (128 / 2 ^ k)=byteOf (fun j=>p j||j==k):=by
 rw [or_byte (byteOf_bd p).1 (byteOf_bd p).2 hk];exact byteOf_congr fun j hj=>by rw [byteOf_bit p hj]
def cbyte (w:Int) (P:Int→Int→Bool) (i:Int):Int:=byteOf fun k=>decide (8*(i % strd w)+k<w)&&P (8*(i % strd w)+k) (i / strd w)
def canon (w h:Int) (P:Int→Int→Bool):List Int:=(List.range (strd w*h).toNat).map fun i:Nat=>cbyte w P (i:Int)
theorem canon_length (w h:Int) (P:Int→Int→Bool):(canon w h P).length=(strd w*h).toNat:=by rw [canon,List.length_map,List.length_range]
theorem canon_len {w h:Int} (hw:0≤w) (hh:0≤h) (P:Int→Int→Bool):((canon w h P).length:Int)=strd w*h:=by
 rw [canon_length,Int.toNat_of_nonneg (Int.mul_nonneg (by unfold strd;omega) hh)]
theorem canon_get {w h:Int} {P:Int→Int→Bool} {i:Nat} (hi:i<(canon w h P).length):(canon w h P)[i]=cbyte w P i:=by
 simp only [canon,List.getElem_map,List.getElem_range]
theorem canon_getD {w h:Int} {P:Int→Int→Bool} {i:Nat} (hi:i<(strd w*h).toNat):(canon w h P).getD i 0=cbyte w P i:=by
 rw [←canon_length w h P] at hi;rw [List.getD_eq_getElem?_getD,List.getElem?_eq_getElem hi,Option.getD_some,canon_get]
theorem canon_congr {w h:Int} {P Q:Int→Int→Bool} (hw:0<w) (hp:∀ x y,0≤x→x<w→0≤y→y<h→P x y=Q x y):canon w h P=canon w h Q:=by
 unfold canon;refine List.map_congr_left fun i hi=>byteOf_congr fun k _=>?_
 have hi:=List.mem_range.1 hi;have hs:0<strd w:=by unfold strd;omega
 have hi':(i:Int)<strd w*h:=by omega
 have e1:0≤(i:Int) % strd w:=Int.emod_nonneg _ (by omega);have e2:(i:Int) / strd w<h:=Int.ediv_lt_of_lt_mul hs (by rw [Int.mul_comm];exact hi');have e3:0≤(i:Int) / strd w:=Int.ediv_nonneg (by omega) (by omega);by_cases g:8*((i:Int) % strd w)+k<w
 ·rw [hp _ _ (by omega) g e3 e2]
 ·rw [decide_eq_false g];rfl
theorem div_of {s a b:Int} (h0:0≤b) (h1:b<s):(a*s+b) / s=a∧(a*s+b) % s=b:=by
 have hs:s≠0:=by omega
 constructor
 ·rw [Int.add_comm,Int.add_mul_ediv_right _ _ hs,Int.ediv_eq_zero_of_lt h0 h1,Int.zero_add]
 ·rw [Int.add_comm,Int.add_mul_emod_self_right,Int.emod_eq_of_lt h0 h1]
theorem mul_div_mod (i s:Int):i / s*s+i % s=i:=by rw [Int.mul_comm];exact Int.mul_ediv_add_emod i s
section
variable {w h x y:Int} {P:Int→Int→Bool}
theorem at_lt (hx0:0≤x) (hx1:x<w) (hy0:0≤y) (hy1:y<h):(y*strd w+x / 8).toNat<(strd w*h).toNat∧((y*strd w+x / 8).toNat:Int)=y*strd w+x / 8:=by
 have h1:0≤strd w*h:=Int.mul_nonneg (by unfold strd;omega) (by omega);obtain ⟨g0,g1,g2⟩:=at_ok (w:=w) (h:=h) (x:=x) (y:=y) (l:=(strd w*h).toNat) (by omega) hx0 hx1 hy0 hy1 (by omega);omega
theorem cbyte_at (hx0:0≤x) (hx1:x<w) (hy0:0≤y):cbyte w P (y*strd w+x / 8)=byteOf fun k=>decide (8*(x / 8)+k<w)&&P (8*(x / 8)+k) y:=by
 have h1:x / 8<strd w:=by unfold strd;omega
 have:=hy0;unfold cbyte;rw [(div_of (by omega) h1).1,(div_of (by omega) h1).2]
theorem canon_upd {Q:Int→Int→Bool} {v:Int} (hx0:0≤x) (hx1:x<w) (hy0:0≤y) (hy1:y<h) (hv:v=byteOf fun k=>decide (8*(x / 8)+k<w)&&Q (8*(x / 8)+k) y)
  (hq:∀ a b,0≤a→¬ (a / 8=x / 8∧b=y)→Q a b=P a b):(canon w h P).set (y*strd w+x / 8).toNat v=canon w h Q:=by
 obtain ⟨hlt,hcast⟩:=at_lt hx0 hx1 hy0 hy1;refine List.ext_getElem (by rw [List.length_set,canon_length,canon_length]) fun i h1 h2=>?_
 rw [List.getElem_set];split
 ·rename_i e;subst e;rw [canon_get,hcast,cbyte_at hx0 hx1 hy0];exact hv
 ·rename_i e;rw [canon_get,canon_get];refine byteOf_congr fun k hk=>?_
  have hs:0<strd w:=by unfold strd;omega
  have e1:0≤(i:Int) % strd w:=Int.emod_nonneg _ (by omega);congr 1;refine (hq _ _ (by omega) ?_).symm
  rintro ⟨g1,g2⟩
  have g3:(i:Int) % strd w=x / 8:=by omega
  have:=mul_div_mod (i:Int) (strd w);rw [g2,g3] at this;omega
theorem canon_set (hx0:0≤x) (hx1:x<w) (hy0:0≤y) (hy1:y<h) :
  (canon w h P).set (y*strd w+x / 8).toNat (bits .or .u8 ((canon w h P).getD (y*strd w+x / 8).toNat 0) (128 / 2 ^ (x % 8).toNat))=canon w h (fun a b=>P a b||(decide (a=x)&&decide (b=y))):=by
 obtain ⟨hlt,hcast⟩:=at_lt hx0 hx1 hy0 hy1;refine canon_upd hx0 hx1 hy0 hy1 ?_ (fun a b ha hn=>?_)
 ·rw [canon_getD hlt,hcast,cbyte_at hx0 hx1 hy0,byteOf_or _ (by omega)];refine byteOf_congr fun k hk=>?_
  rw [decide_eq_true (rfl:y=y),Bool.and_true];by_cases e:k=(x % 8).toNat
  ·subst e;have e1:8*(x / 8)+((x % 8).toNat:Int)=x:=by omega
   rw [e1,decide_eq_true hx1,decide_eq_true (rfl:x=x)];simp
  ·rw [decide_eq_false (show ¬ 8*(x / 8)+(k:Int)=x by omega)];simp [e]
 ·have:¬ (a=x∧b=y):=fun g=>hn (by rw [g.1];exact ⟨rfl,g.2⟩)
  by_cases e:a=x
  ·rw [decide_eq_false (show ¬ b=y from fun g=>this ⟨e,g⟩)];simp
  ·rw [decide_eq_false e];simp
end
theorem strd_bd {w h:Int} (hw0:0≤w) (hw1:w≤1024) (hh0:0≤h) (hh1:h≤1024):0≤strd w∧strd w≤128∧0≤strd w*h∧strd w*h≤131072:=by
 have a1:strd w≤128:=by unfold strd;omega
 have a2:0≤strd w:=by unfold strd;omega
 have:=Int.mul_le_mul a1 hh1 hh0 (by omega:(0:Int)≤128);have:=Int.mul_nonneg a2 hh0;omega
theorem idx_bd {w h x y:Int} (hx0:0≤x) (hx1:x<w) (hw1:w≤1024) (hy0:0≤y) (hy1:y<h) (hh1:h≤1024):0≤y*strd w∧y*strd w+x / 8<strd w*h∧strd w*h≤131072:=by
 obtain ⟨b1,b2,b3,b4⟩:=strd_bd (w:=w) (h:=h) (by omega) hw1 (by omega) hh1;obtain ⟨g0,g1,g2⟩:=at_ok (w:=w) (h:=h) (x:=x) (y:=y) (l:=(strd w*h).toNat) (by omega) hx0 hx1 hy0 hy1 (by omega);omega
theorem canon_zero (w h:Int) {P:Int→Int→Bool} (hp:∀ x y,P x y=false):canon w h P=List.replicate (strd w*h).toNat 0:=by
 refine List.ext_getElem (by rw [canon_length,List.length_replicate]) fun i h1 h2=>?_
 rw [canon_get,List.getElem_replicate];show byteOf _=0;rw [byteOf_congr (q:=fun _=>false) (fun k _=>by rw [hp,Bool.and_false])];rfl
def onL (n:Nat) (G:Int→Bool):List Bool:=(List.range n).map fun i:Nat=>G (i:Int)
theorem onL_length (n:Nat) (G:Int→Bool):(onL n G).length=n:=by rw [onL,List.length_map,List.length_range]
theorem onL_getD {n:Nat} {G:Int→Bool} {i:Int} (h0:0≤i) (h1:i<n):(onL n G).getD i.toNat false=G i:=by
 have hi:i.toNat<n:=by omega
 have:(onL n G)[i.toNat]?=some (G i):=by
  unfold onL;rw [List.getElem?_map,List.getElem?_range hi,Option.map_some,Int.toNat_of_nonneg h0]
 rw [List.getD_eq_getElem?_getD,this,Option.getD_some]
end Go.Proofs.Ytelpkjellakigaa
/- Pictures: what bitmap.Mark,R.Drawn,R.SameBits compute. -/
set_option maxRecDepth 100000
namespace Go.Proofs.Ytelpkjellakigaa
open Go Go.RowKit

section
variable {β:Type}
variable {fu:Nat} (hf:18446744073709551616≤fu) {w h:Int}
include hf
theorem drawn_r {on:List Bool} (hw0:0<w) (hw1:w≤1024) (hh0:0<h) (hh1:h≤1024) (hl:(on.length:Int)=w*h) :
  R_Drawn_r fu (w,(h,(on,())))=some ((w,(h,canon w h (fun x y=>on.getD (y*w+x).toNat false))),()):=by
 obtain ⟨b1,b2,b3,b4⟩:=strd_bd (w:=w) (h:=h) (by omega) hw1 (by omega) hh1
 have hwh:w*h≤1048576:=by
  have:=Int.mul_le_mul hw1 hh1 (by omega:0≤h) (by omega:(0:Int)≤1024);omega
 unfold R_Drawn_r;simp only
 have e1:IntKind.i64.wrap (Int.tdiv (IntKind.i64.wrap (w+7)) 8)=strd w:=by
  rw [wr64 (x:=w+7) (by omega) (by omega),Int.tdiv_eq_ediv_of_nonneg (by omega),wr64 (x:=(w+7) / 8) (by omega) (by omega)];rfl
 rw [e1,wr64 (x:=strd w*h) (by omega) (by omega),bif_and (by omega) (by omega),←canon_zero w h (P:=fun _ _=>false) (fun _ _=>rfl)];refine loopF_spec (fun v=>(w*h-v.1).toNat) (fun v=>0≤v.1∧v.1≤w*h∧v.2=canon w h (fun x y=>on.getD (y*w+x).toNat false&&decide (y*w+x<v.1))) (fun _=>some ((w,(h,canon w h (fun x y=>on.getD (y*w+x).toNat false))),())) ?_ fu (0,_) ⟨by omega,by simp only;omega,?_⟩ (by simp only;omega)
 ·rintro j ⟨i,ds⟩ ⟨h0,h1,hd⟩ ih
  simp only at h0 h1 hd;unfold R_Drawn_l1 R_Drawn_j2;simp only [joinF_eq];by_cases hi:i<w*h
  ·rw [bif_pos (by omega),bif_and (by omega) (by omega),wr64 (x:=i+1) (by omega) (by omega)];have hx0:0≤i % w:=Int.emod_nonneg _ (by omega);have hx1:i % w<w:=Int.emod_lt_of_pos _ hw0;have hy0:0≤i / w:=Int.ediv_nonneg h0 (by omega);have hy1:i / w<h:=Int.ediv_lt_of_lt_mul hw0 (by rw [Int.mul_comm];exact hi);have hmd:=mul_div_mod i w
   cases hF:on.getD i.toNat false with
   | true =>
    simp only [cond_true];obtain ⟨g0,g1,g2⟩:=idx_bd hx0 hx1 hw1 hy0 hy1 hh1;have hcl:=canon_len (w:=w) (h:=h) (by omega) (by omega) (fun x y=>on.getD (y*w+x).toNat false&&decide (y*w+x<i));have hwn:w≠0:=by omega
    rw [Int.tdiv_eq_ediv_of_nonneg h0,Int.tmod_eq_emod_of_nonneg h0,Int.tdiv_eq_ediv_of_nonneg hx0,Int.tmod_eq_emod_of_nonneg hx0,wr64 (x:=i / w) (by omega) (by omega),wr64 (x:=i / w*strd w) (by omega) (by omega),wr64 (x:=i % w / 8) (by omega) (by omega),wr64 (x:=i / w*strd w+i % w / 8) (by omega) (by omega)];rw [hd,bif_pos hwn,bif_pos hwn,bif_and (by omega) (by omega),bif_pos hwn,bif_and (by omega) (by omega),bif_and (by omega) (by omega),canon_set hx0 hx1 hy0 hy1];refine ih (i+1,_) ⟨by simp only;omega,by simp only;omega,?_⟩ (by simp only;omega);simp only;refine canon_congr hw0 fun a b ha ha1 _ _=>?_
    by_cases e:a=i % w∧b=i / w
    ·obtain ⟨rfl,rfl⟩:=e;rw [hmd,hF];simp;omega
    ·have e2:(decide (a=i % w)&&decide (b=i / w))=false:=by
      rw [←Bool.not_eq_true,Bool.and_eq_true];simpa using e
     have e3:¬ b*w+a=i:=by
      intro q;have:=div_of (a:=b) ha ha1;rw [q] at this;exact e ⟨this.2.symm,this.1.symm⟩
     have g2:decide (b*w+a<i)=decide (b*w+a<i+1):=by
      by_cases q:b*w+a<i
      ·rw [decide_eq_true q,decide_eq_true (by omega)]
      ·rw [decide_eq_false q,decide_eq_false (by omega)]
     rw [e2,Bool.or_false,g2]
   | false =>
    simp only [cond_false];refine ih (i+1,ds) ⟨by simp only;omega,by simp only;omega,?_⟩ (by simp only;omega);simp only;rw [hd];refine canon_congr hw0 fun a b ha ha1 _ _=>?_
    by_cases q:b*w+a=i
    ·rw [q,hF];rfl
    ·have g2:decide (b*w+a<i)=decide (b*w+a<i+1):=by
      by_cases q:b*w+a<i
      ·rw [decide_eq_true q,decide_eq_true (by omega)]
      ·rw [decide_eq_false q,decide_eq_false (by omega)]
     rw [g2]
  ·rw [bif_neg (by omega),hd];congr 4;refine canon_congr hw0 fun a b ha ha1 hb hb1=>?_
   have:b*w≤(h-1)*w:=Int.mul_le_mul_of_nonneg_right (by omega) (by omega);have e2:(h-1)*w=w*h-w:=by rw [Int.sub_mul,Int.one_mul,Int.mul_comm]
   rw [decide_eq_true (show b*w+a<i by omega),Bool.and_true]
 ·refine canon_congr hw0 fun a b ha _ hb _=>?_
  have:=Int.mul_nonneg hb (by omega:0≤w);rw [decide_eq_false (show ¬ b*w+a<0 by omega),Bool.and_false]
end
theorem same_r (fu:Nat) (w h:Int) (ds:List Int):R_SameBits_r fu ((w,(h,ds)),((w,(h,ds)),()))=some (true,()):=by
 unfold R_SameBits_r R_SameBytes_r;simp [bindO_some]
theorem refused_r (fu:Nat) (e:Int):law_refused_r fu ((0,(0,[])),(e,(e,())))=some (true,()):=by
 unfold law_refused_r R_NoBits_r;simp [bindO_some]
theorem drawn_on {fu:Nat} (hf:18446744073709551616≤fu) {w h:Int} {F:Int→Int→Bool} (hw0:0<w) (hw1:w≤1024) (hh0:0<h) (hh1:h≤1024) :
  R_Drawn_r fu (w,(h,(onL (w*h).toNat (fun i=>F (i % w) (i / w)),())))=some ((w,(h,canon w h F)),()):=by
 have hwh:0<w*h:=Int.mul_pos hw0 hh0;rw [drawn_r hf hw0 hw1 hh0 hh1 (by rw [onL_length];omega)];congr 4;refine canon_congr hw0 fun x y hx hx1 hy hy1=>?_
 have h1:=Int.mul_nonneg hy (by omega:0≤w);have h2:y*w≤(h-1)*w:=Int.mul_le_mul_of_nonneg_right (by omega) (by omega);have e2:(h-1)*w=w*h-w:=by rw [Int.sub_mul,Int.one_mul,Int.mul_comm]
 rw [onL_getD (by omega) (by omega),(div_of hx hx1).1,(div_of hx hx1).2]
end Go.Proofs.Ytelpkjellakigaa
/- Plates screened: what halftone.Apply and R.Halftone compute. -/
set_option maxRecDepth 100000
namespace Go.Proofs.Ytelpkjellakigaa
open Go Go.RowKit
set_option linter.unusedSimpArgs false
set_option linter.unusedSectionVars false
set_option linter.unusedVariables false
namespace Ht
open Sc Rk
def peE (w h n:Int):Int:=if 1≤w∧w≤1024∧1≤h∧h≤1024 then (if n=w*h then 0 else 4) else 3
theorem wh_bd {w h:Int} (a:1≤w∧w≤1024) (b:1≤h∧h≤1024):1≤w*h∧w*h≤1048576:=by
 have h1:1*h≤w*h:=Int.mul_le_mul_of_nonneg_right (by omega) (by omega);have h2:w*h≤1024*h:=Int.mul_le_mul_of_nonneg_right (by omega) (by omega);omega
theorem cplate_r (fu:Nat) (w h:Int) (ds:List Int):devicelink_CheckPlate_r fu ((w,(h,ds)),())=some (peE w h ds.length,()):=by
 unfold devicelink_CheckPlate_r devicelink_CheckPlate_j1 peE;simp only [joinF_eq];by_cases c1:w<1
 ·rw [bif_pos c1,if_neg (by omega)];rfl
 rw [bif_neg c1];by_cases c2:1024<w
 ·rw [bif_pos c2,if_neg (by omega)];rfl
 rw [bif_neg c2];by_cases c3:h<1
 ·rw [bif_pos c3,if_neg (by omega)];rfl
 rw [bif_neg c3];by_cases c4:1024<h
 ·rw [decide_eq_true c4,if_neg (by omega)];rfl
 obtain ⟨b1,b2⟩:=wh_bd (w:=w) (h:=h) ⟨by omega,by omega⟩ ⟨by omega,by omega⟩;rw [decide_eq_false c4,cond_false,s_wr (by omega) (by omega),if_pos (by omega)];by_cases c5:(ds.length:Int)=w*h
 ·rw [bif_neg (fun g=>g c5),if_pos c5]
 ·rw [bif_pos c5,if_neg c5]
theorem rplate_r (fu:Nat) (w h:Int) (ds:List Int):R_PlateErr_r fu ((w,(h,ds)),())=some (peE w h ds.length,()):=by
 unfold R_PlateErr_r R_PlateErr_j1 peE;simp only [joinF_eq];rw [Sc.within_r,bindO_some];by_cases c1:1≤w∧w≤1024
 ·simp only [decide_eq_true c1,Bool.not_true,cond_false];rw [Sc.within_r,bindO_some];by_cases c2:1≤h∧h≤1024
  ·obtain ⟨b1,b2⟩:=wh_bd c1 c2;simp only [decide_eq_true c2,Bool.not_true,cond_false];rw [s_wr (by omega) (by omega),if_pos (by omega)];by_cases c5:(ds.length:Int)=w*h
   ·rw [bif_neg (fun g=>g c5),if_pos c5]
   ·rw [bif_pos c5,if_neg c5]
  ·simp only [decide_eq_false c2,Bool.not_false,cond_true];rw [if_neg (by omega)]
 ·simp only [decide_eq_false c1,Bool.not_false,cond_true];rw [if_neg (by omega)]
theorem bif_and3 {α:Type} {p q r:Prop} [Decidable p] [Decidable q] [Decidable r] {a b:α} (h1:p) (h2:q) (h3:r):(bif decide p&&(decide q&&decide r) then a else b)=a:=by
 rw [decide_eq_true h1,decide_eq_true h2,decide_eq_true h3];rfl
section
variable {fu:Nat} (hf:18446744073709551616≤fu)
include hf
theorem check_r {A B K w h:Int} {ds:List Int}:halftone_check_r fu ((w,(h,ds)),((A,(B,K)),()))=some (if peE w h ds.length=0 then scE A B K else peE w h ds.length,()):=by
 unfold halftone_check_r;simp only;rw [cplate_r,bindO_some];simp only;by_cases c:peE w h ds.length=0
 ·rw [bif_neg (fun g=>g c),if_pos c,Sc.check_r,bindO_some]
 ·rw [bif_pos c,if_neg c]
theorem blank_r {w h:Int} (hw:1≤w∧w≤1024) (hh:1≤h∧h≤1024):bitmap_Blank_r fu (w,h)=some ((w,(h,())),canon w h (fun _ _=>false)):=by
 have hg:bitmap_Blank_g fu (w,h)=some ((w,(h,())),canon w h (fun _ _=>false)):=by
  obtain ⟨b1,b2,b3,b4⟩:=strd_bd (w:=w) (h:=h) (by omega) hw.2 (by omega) hh.2;unfold bitmap_Blank_g;simp only;rw [stride_r fu (by omega) (by omega),bindO_some];simp only;rw [s_wr (x:=strd w*h) (by omega) (by omega),bif_and (by omega) (by omega),canon_zero w h (P:=fun _ _=>false) (fun _ _=>rfl)]
 unfold bitmap_Blank_r chkE;rw [hg];rfl
def dots (n:Int):Int→Int:=fun v=>rnd (v*n) 255
theorem painter_r {A B K N S G:Int} {L:List Int} (p:Int×Int×List Int) (hO:screen_Of_r fu ((A,(B,K)),())=some ((N,(S,G)),())) (hL:screen_Ranks_r fu ((A,(B,K)),())=some (L,())) (hl:L.length≤400) :
  halftone_painter_r fu (p,(A,(B,K)))=some (((),((),((),()))),(tabL 256 (dots L.length),((N,(S,G)),(L,p)))):=by
 have hg:halftone_painter_g fu (p,(A,(B,K)))=some (((),((),((),()))),(tabL 256 (dots L.length),((N,(S,G)),(L,p)))):=by
  unfold halftone_painter_g;simp only;rw [hO,bindO_some,hL,bindO_some];refine Rk.stLoop (n:=256) (by omega) (st:=fun k=>((k:Int),tabL 256 (fun v=>if v<k then dots L.length v else 0))) ?_ ?_ ?_
  ·show ((0:Int),tabL 256 _)=_;rw [tabL_rep (d:=(0:Int)) (fun i h0 _=>if_neg (by omega))];rfl
  ·intro j k hk;unfold halftone_painter_l1;simp only
   have hb:0≤(k:Int)*L.length∧(k:Int)*L.length≤256*400:=by
    refine ⟨Int.mul_nonneg (by omega) (by omega),?_⟩;have h1:(k:Int)*L.length≤256*L.length:=Int.mul_le_mul_of_nonneg_right (by omega) (by omega);omega
   rw [bif_pos (by omega),s_wr (x:=(k:Int)*L.length) (by omega) (by omega),nearest_s fu (by omega) (by omega) (by omega) (by omega),bindO_some,tabL_length];rw [decide_eq_true (show (0:Int)≤k by omega),decide_eq_true (show (k:Int)<((256:Nat):Int) by omega),decide_eq_true (show (k:Int)<256 by omega)];simp only [Bool.and_self,cond_true];rw [s_wr (by omega) (by omega)];congr 2;refine tabL_set (by omega) ?_ fun i h0 h1 hne=>?_
   ·show (if (k:Int)<((k+1:Nat):Int) then dots L.length k else 0)=_;rw [if_pos (by omega)];rfl
   ·by_cases c:i<k
    ·rw [if_pos c,if_pos (by omega)]
    ·rw [if_neg c,if_neg (by omega)]
  ·intro j;unfold halftone_painter_l1;simp only;rw [bif_neg (by omega),tabL_congr (n:=256) (G':=dots L.length) fun i _ h1=>if_pos h1]
 unfold halftone_painter_r chkE;rw [hg];rfl
def pl (N S G x y:Int):Int:=y % G*N+(x-(y / G) % N*S) % N
def prt (N S G w:Int) (L ds:List Int) (x y:Int):Bool:=decide (L.getD (pl N S G x y).toNat 0<dots L.length (ds.getD (y*w+x).toNat 0))
variable {A B K N S G w h:Int} {L ds:List Int}
theorem pl_bd (f:FormOk A B N S G) (hL:(L.length:Int)=A*A+B*B) (x y:Int):0≤pl N S G x y∧pl N S G x y<L.length:=by
 have g0:=f.g0;have n0:=f.n0;have m:=f.mul;have e0:=Int.emod_nonneg y (show G≠0 by omega);have e1:=Int.emod_lt_of_pos y g0;have t0:=Int.emod_nonneg (x-(y / G) % N*S) (show N≠0 by omega);have t1:=Int.emod_lt_of_pos (x-(y / G) % N*S) n0;have h1:y % G*N≤(G-1)*N:=Int.mul_le_mul_of_nonneg_right (by omega) (by omega);have h2:0≤y % G*N:=Int.mul_nonneg e0 (by omega);rw [Int.sub_mul,Int.one_mul] at h1;unfold pl;omega
theorem row_len {y:Nat} (hl:(ds.length:Int)=w*h) (hw:0≤w) (hy:(y:Int)<h):(List.drop (Int.toNat ((y:Int)*w)) (List.take (Int.toNat (((y:Int)+1)*w)) ds)).length=w.toNat:=by
 have h1:((y:Int)+1)*w≤h*w:=Int.mul_le_mul_of_nonneg_right (by omega) hw;rw [Int.mul_comm h w] at h1;have h2:0≤(y:Int)*w:=Int.mul_nonneg (by omega) hw;rw [List.length_drop,List.length_take];rw [Int.add_mul,Int.one_mul] at h1 ⊢;omega
theorem row_get {y x:Nat} (hl:(ds.length:Int)=w*h) (hw:0≤w) (hy:(y:Int)<h) (hx:(x:Int)<w):(List.drop (Int.toNat ((y:Int)*w)) (List.take (Int.toNat (((y:Int)+1)*w)) ds)).getD x 0=ds.getD ((y:Int)*w+x).toNat 0:=by
 have h2:0≤(y:Int)*w:=Int.mul_nonneg (by omega) hw;rw [List.getD_eq_getElem?_getD,List.getD_eq_getElem?_getD,List.getElem?_drop,List.getElem?_take];rw [Int.add_mul,Int.one_mul,if_pos (by omega)];congr 2;omega
theorem row_r (ok:ScrOk A B) {y:Nat} {v5:Int×List Int} (e5:v5.1=(y:Int)) (hw:1≤w∧w≤1024) (hh:1≤h∧h≤1024) (hy:(y:Int)<h) (hl:(ds.length:Int)=w*h) (hb:Bytes ds) (f:FormOk A B N S G) (hN:N≤400) (hG:G≤400) (hL:(L.length:Int)=A*A+B*B) (j5) :
  loopF (halftone_Apply_l2 fu (((),((),((),()))),(tabL 256 (dots L.length),((N,(S,G)),(L,(w,(h,ds)))))) (strd w) v5 (y:Int) j5) fu (0,canon w h (fun a b=>prt N S G w L ds a b&&decide (b<y))) =
   j5 (((y+1:Nat):Int),canon w h (fun a b=>prt N S G w L ds a b&&decide (b<((y+1:Nat):Int)))):=by
 have hy2:((y:Int)+1)*w≤h*w:=Int.mul_le_mul_of_nonneg_right (by omega) (by omega);have hy1:0≤(y:Int)*w:=Int.mul_nonneg (by omega) (by omega);rw [Int.add_mul,Int.one_mul] at hy2;obtain ⟨b1,b2⟩:=wh_bd hw hh;rw [Int.mul_comm h w] at hy2;obtain ⟨c1,c2,c3,c4⟩:=strd_bd (w:=w) (h:=h) (by omega) hw.2 (by omega) hh.2;have hs2:((y:Int)+1)*strd w≤h*strd w:=Int.mul_le_mul_of_nonneg_right (by omega) c1;have hs1:0≤(y:Int)*strd w:=Int.mul_nonneg (by omega) c1;have hs3:((y:Int)+1)*strd w=(y:Int)*strd w+strd w:=by rw [Int.add_mul,Int.one_mul]
 rw [Int.mul_comm h (strd w)] at hs2;have w1:IntKind.i64.wrap ((y:Int)*w)=(y:Int)*w:=s_wr (by omega) (by omega);have w2:IntKind.i64.wrap ((y:Int)+1)=(y:Int)+1:=s_wr (by omega) (by omega);have w3:IntKind.i64.wrap (((y:Int)+1)*w)=((y:Int)+1)*w:=s_wr (by rw [Int.add_mul,Int.one_mul];omega) (by rw [Int.add_mul,Int.one_mul];omega);have w4:IntKind.i64.wrap ((y:Int)*strd w)=(y:Int)*strd w:=s_wr (by omega) (by omega);have w5:IntKind.i64.wrap (((y:Int)+1)*strd w)=((y:Int)+1)*strd w:=s_wr (by omega) (by omega);have hrl:=row_len hf (y:=y) hl (by omega) hy;refine Rk.stLoop (n:=w.toNat) (by omega) (st:=fun x=>((x:Int),canon w h (fun a b=>prt N S G w L ds a b&&(decide (b<y)||(decide (b=y)&&decide (a<x)))))) ?_ ?_ ?_
 ·refine Prod.ext rfl (canon_congr (by omega) fun a b ha _ _ _=>?_);have:decide (a<((0:Nat):Int))=false:=decide_eq_false (by omega);simp only [this,Bool.and_false,Bool.or_false]
 ·intro j x hx;have hxw:(x:Int)<w:=by omega
  have hg:=row_get hf (y:=y) (x:=x) hl (by omega) hy hxw;obtain ⟨q1,q2⟩:=pl_bd hf f hL (x:Int) (y:Int);have hpl:=(place_r hf ok 0 f hN hG (x:=(x:Int)) (y:=(y:Int)) ⟨by omega,by omega⟩ ⟨by omega,by omega⟩).1
  have hd:0≤ds.getD ((y:Int)*w+x).toNat 0∧ds.getD ((y:Int)*w+x).toNat 0≤255:=by
   rw [List.getD_eq_getElem?_getD,List.getElem?_eq_getElem (by omega)];exact hb _ (List.getElem_mem _)
  unfold halftone_Apply_l2 halftone_Apply_j3;simp only [joinF_eq];rw [w1,w2,w3,hrl,bif_pos (by omega),bif_and (by omega) (by omega),Int.toNat_natCast,hg,hpl,bindO_some];have hpe:y % (G:Int)=y % G:=rfl;rw [show (y:Int) % G*N+((x:Int)-(y:Int) / G % N*S) % N=pl N S G x y from rfl];rw [bif_and q1 q2,tabL_length];generalize hdv:ds.getD ((y:Int)*w+x).toNat 0=dv at hd;rw [decide_eq_true hd.1,decide_eq_true (show dv<((256:Nat):Int) by omega),decide_eq_true (show dv<256 by omega)];simp only [Bool.and_self,cond_true];rw [tabL_getD hd.1 (by omega),s_wr (x:=(x:Int)+1) (by omega) (by omega)]
  have step:∀ P:Bool,prt N S G w L ds x y=P→canon w h (fun a b=>(prt N S G w L ds a b&&(decide (b<y)||(decide (b=y)&&decide (a<x))))||(P&&(decide (a=x)&&decide (b=y))))=canon w h (fun a b=>prt N S G w L ds a b&&(decide (b<y)||(decide (b=y)&&decide (a<((x+1:Nat):Int))))):=by
   intro P hP;refine canon_congr (by omega) fun a b ha _ _ _=>?_
   by_cases e1:b=y
   ·subst e1;by_cases e2:a=x
    ·subst e2;rw [hP,decide_eq_false (show ¬ (y:Int)<y by omega),decide_eq_false (show ¬ (x:Int)<x by omega),decide_eq_true (show (x:Int)<((x+1:Nat):Int) by omega)]
     cases P <;> simp
    ·rw [decide_eq_false e2]
     have:decide (a<(x:Int))=decide (a<((x+1:Nat):Int)):=by
      by_cases q:a<x
      ·rw [decide_eq_true q,decide_eq_true (by omega)]
      ·rw [decide_eq_false q,decide_eq_false (by omega)]
     rw [this];simp
   ·rw [decide_eq_false e1];simp
  by_cases hp:L.getD (pl N S G x y).toNat 0<dots L.length dv
  ·have hP:prt N S G w L ds x y=true:=by unfold prt;rw [hdv];exact decide_eq_true hp
   have hx8:(x:Int) / 8<strd w:=by unfold strd;omega
   obtain ⟨g0,g1,g2⟩:=idx_bd (w:=w) (h:=h) (x:=(x:Int)) (y:=(y:Int)) (by omega) hxw hw.2 (by omega) hy hh.2;rw [bif_pos hp,s_td (by omega),s_tm (by omega),w4,w5,s_wr (x:=(x:Int) / 8) (by omega) (by omega)];rw [bif_and3 (by omega) (by omega) (by omega),bif_and (by omega) (by omega),bif_and3 (by omega) (by omega) (by omega),canon_set (by omega) hxw (by omega) hy];have:=step true hP;simp only [Bool.true_and] at this;rw [this];rfl
  ·have hP:prt N S G w L ds x y=false:=by unfold prt;rw [hdv];exact decide_eq_false hp
   rw [bif_neg hp];have:=step false hP;simp only [Bool.false_and,Bool.or_false] at this;rw [this];rfl
 ·intro j;unfold halftone_Apply_l2;simp only;rw [w1,w2,w3,hrl,bif_neg (by omega),e5,s_wr (by omega) (by omega)];congr 2;refine canon_congr (by omega) fun a b ha ha1 _ _=>?_
  by_cases e1:b<y
  ·rw [decide_eq_true e1,decide_eq_true (show b<((y+1:Nat):Int) by omega)];simp
  ·by_cases e2:b=y
   ·subst e2;rw [decide_eq_true (show a<((w.toNat:Nat):Int) by omega),decide_eq_true (show (y:Int)<((y+1:Nat):Int) by omega)];simp
   ·rw [decide_eq_false e1,decide_eq_false e2,decide_eq_false (show ¬ b<((y+1:Nat):Int) by omega)];simp
end
end Ht
end Go.Proofs.Ytelpkjellakigaa
/- The law HalftoneDots. -/
set_option maxRecDepth 100000
namespace Go.Proofs.Ytelpkjellakigaa
open Go Go.RowKit
set_option linter.unusedSimpArgs false
set_option linter.unusedSectionVars false
set_option linter.unusedVariables false
namespace Ht
open Sc Rk
section
variable {fu:Nat} (hf:18446744073709551616≤fu) {A B K N S G w h:Int} {L ds:List Int}
include hf
theorem apply_r (hw:1≤w∧w≤1024) (hh:1≤h∧h≤1024) (hl:(ds.length:Int)=w*h) (hb:Bytes ds) (hS:scE A B K=0) (ok:ScrOk A B) (f:FormOk A B N S G) (hN:N≤400) (hG:G≤400) (hL:(L.length:Int)=A*A+B*B)
  (hO:screen_Of_r fu ((A,(B,K)),())=some ((N,(S,G)),())) (hR:screen_Ranks_r fu ((A,(B,K)),())=some (L,())) :
  halftone_Apply_r fu ((w,(h,ds)),((A,(B,K)),()))=some ((w,(h,canon w h (prt N S G w L ds))),(0,())):=by
 have n1:=ok.n1;obtain ⟨b1,b2⟩:=wh_bd hw hh;obtain ⟨c1,c2,c3,c4⟩:=strd_bd (w:=w) (h:=h) (by omega) hw.2 (by omega) hh.2
 have hpe:peE w h ds.length=0:=by
  unfold peE;rw [if_pos (by omega),if_pos hl]
 unfold halftone_Apply_r;simp only;rw [check_r hf,if_pos hpe,hS,bindO_some];simp only;rw [bif_neg (fun g=>g rfl),blank_r hf hw hh,bindO_some,painter_r hf _ hO hR (by omega),bindO_some]
 have e1:IntKind.i64.wrap (Int.tdiv (IntKind.i64.wrap (w+7)) 8)=strd w:=by
  rw [s_wr (x:=w+7) (by omega) (by omega),s_td (by omega),s_wr (x:=(w+7) / 8) (by omega) (by omega)];rfl
 rw [e1];refine Rk.stLoop (n:=h.toNat) (by omega) (st:=fun y=>((y:Int),canon w h (fun a b=>prt N S G w L ds a b&&decide (b<y)))) ?_ ?_ ?_
 ·refine Prod.ext rfl (canon_congr (by omega) fun a b _ _ hb0 _=>?_);rw [decide_eq_false (show ¬ b<((0:Nat):Int) by omega),Bool.and_false]
 ·intro j y hy;have hyh:(y:Int)<h:=by omega
  have hy2:((y:Int)+1)*w≤h*w:=Int.mul_le_mul_of_nonneg_right (by omega) (by omega);have hy1:0≤(y:Int)*w:=Int.mul_nonneg (by omega) (by omega);have hs2:((y:Int)+1)*strd w≤h*strd w:=Int.mul_le_mul_of_nonneg_right (by omega) c1;have hs1:0≤(y:Int)*strd w:=Int.mul_nonneg (by omega) c1;have hs3:((y:Int)+1)*strd w=(y:Int)*strd w+strd w:=by rw [Int.add_mul,Int.one_mul]
  have hy3:((y:Int)+1)*w=(y:Int)*w+w:=by rw [Int.add_mul,Int.one_mul]
  rw [Int.mul_comm h (strd w)] at hs2;rw [Int.mul_comm h w] at hy2;have hcl:=canon_len (w:=w) (h:=h) (by omega) (by omega) (fun a b=>prt N S G w L ds a b&&decide (b<y));unfold halftone_Apply_l1;simp only;rw [bif_pos hyh,s_wr (x:=(y:Int)+1) (by omega) (by omega),s_wr (x:=(y:Int)*strd w) (by omega) (by omega),s_wr (x:=((y:Int)+1)*strd w) (by omega) (by omega),s_wr (x:=(y:Int)*w) (by omega) (by omega),s_wr (x:=((y:Int)+1)*w) (by omega) (by omega),hcl,hl];rw [bif_and3 (by omega) (by omega) (by omega),bif_and3 (by omega) (by omega) (by omega)];exact row_r hf ok (v5:=((y:Int),_)) rfl hw hh hyh hl hb f hN hG hL j
 ·intro j;unfold halftone_Apply_l1;simp only;rw [bif_neg (by omega)];congr 4;refine canon_congr (by omega) fun a b _ _ _ hb1=>?_
  rw [decide_eq_true (show b<((h.toNat:Nat):Int) by omega),Bool.and_true]
theorem half_r (hw:1≤w∧w≤1024) (hh:1≤h∧h≤1024) (hl:(ds.length:Int)=w*h) (hb:Bytes ds) (ok:ScrOk A B) (f:FormOk A B N S G) (hN:N≤400) (hG:G≤400) (hL:(L.length:Int)=A*A+B*B)
  (hR:R_Ranks_r fu ((A,(B,K)),())=some (L,())) :
  R_Halftone_r fu ((w,(h,ds)),((A,(B,K)),()))=some (onL (w*h).toNat (fun i=>prt N S G w L ds (i % w) (i / w)),()):=by
 have n1:=ok.n1;obtain ⟨b1,b2⟩:=wh_bd hw hh;unfold R_Halftone_r;simp only;rw [hR,bindO_some];simp only;rw [bif_and (by omega) (by omega),Int.toNat_natCast];refine Rk.stLoop (n:=ds.length) (by omega) (st:=fun k=>((k:Int),tabL ds.length (fun i=>decide (i<k)&&prt N S G w L ds (i % w) (i / w)))) ?_ ?_ ?_
 ·refine congrArg (Prod.mk (0:Int)) (tabL_rep fun i h0 _=>?_);rw [decide_eq_false (show ¬ i<((0:Nat):Int) by omega),Bool.false_and]
 ·intro j k hk;have hx0:0≤(k:Int) % w:=Int.emod_nonneg _ (by omega);have hx1:(k:Int) % w<w:=Int.emod_lt_of_pos _ (by omega);have hy0:0≤(k:Int) / w:=Int.ediv_nonneg (by omega) (by omega);have hy1:(k:Int) / w<h:=Int.ediv_lt_of_lt_mul (by omega) (by rw [Int.mul_comm];omega);have hmd:=mul_div_mod (k:Int) w;have hpl:=(place_r hf ok K f hN hG (x:=(k:Int) % w) (y:=(k:Int) / w) ⟨by omega,by omega⟩ ⟨by omega,by omega⟩).2;obtain ⟨q1,q2⟩:=pl_bd hf f hL ((k:Int) % w) ((k:Int) / w)
  have hd:0≤ds.getD (Int.toNat (k:Int)) 0∧ds.getD (Int.toNat (k:Int)) 0≤255:=by
   rw [List.getD_eq_getElem?_getD,List.getElem?_eq_getElem (by omega)];exact hb _ (List.getElem_mem _)
  unfold R_Halftone_l1;simp only;rw [bif_pos (by omega),bif_and (by omega) (by omega),bif_pos (by omega),bif_pos (by omega),s_td (by omega),s_tm (by omega),s_wr (x:=(k:Int) / w) (by omega) (by omega),hpl,bindO_some];rw [show (k:Int) / w % G*N+((k:Int) % w-(k:Int) / w / G % N*S) % N=pl N S G ((k:Int) % w) ((k:Int) / w) from rfl];rw [bif_and q1 q2];generalize hdv:ds.getD (Int.toNat (k:Int)) 0=dv at hd
  have hm:0≤dv*L.length∧dv*L.length≤255*400:=by
   refine ⟨Int.mul_nonneg hd.1 (by omega),?_⟩;have h1:dv*L.length≤255*L.length:=Int.mul_le_mul_of_nonneg_right hd.2 (by omega);omega
  rw [s_wr (x:=dv) (by omega) (by omega),s_wr (x:=dv*L.length) (by omega) (by omega),round_s fu (by omega) (by omega) (by omega) (by omega),bindO_some,tabL_length,bif_and (by omega) (by omega),s_wr (x:=(k:Int)+1) (by omega) (by omega)];congr 2
  have hP:prt N S G w L ds ((k:Int) % w) ((k:Int) / w)=decide (L.getD (pl N S G ((k:Int) % w) ((k:Int) / w)).toNat 0<rnd (dv*L.length) 255):=by
   unfold prt dots;rw [hmd,hdv]
  refine tabL_set (by omega) ?_ fun i h0 h1 hne=>?_
  ·rw [hP,decide_eq_true (show (k:Int)<((k+1:Nat):Int) by omega),Bool.true_and]
  ·by_cases c:i<k
   ·rw [decide_eq_true c,decide_eq_true (show i<((k+1:Nat):Int) by omega)]
   ·rw [decide_eq_false c,decide_eq_false (show ¬ i<((k+1:Nat):Int) by omega)]
 ·intro j;unfold R_Halftone_l1;simp only;rw [bif_neg (by omega)];congr 2;rw [show (w*h).toNat=ds.length by omega];have e:onL ds.length (fun i=>prt N S G w L ds (i % w) (i / w))=tabL ds.length (fun i=>prt N S G w L ds (i % w) (i / w)):=rfl;rw [e];refine tabL_congr fun i _ h1=>?_
  rw [decide_eq_true h1,Bool.true_and]
theorem all_r {p:Int×Int×List Int} {s:Int×Int×Int} {b:Int×Int×List Int} {e:Int} (ha:halftone_Apply_r fu (p,(s,()))=some (b,(e,()))) :
  halftone_All_r fu ([p],([s],()))=some (if e=0 then [b] else [],(e,())):=by
 unfold halftone_All_r;simp only [List.length_cons,List.length_nil];rw [bif_neg (by decide),bif_neg (by decide),bif_and (by decide) (by decide)];obtain ⟨fu,rfl⟩:∃ q,fu=q+2:=⟨fu-2,by omega⟩;rw [loopF];unfold halftone_All_l1;simp only [List.length_cons,List.length_nil];rw [bif_pos (by decide),bif_and (by decide) (by decide),bif_and (by decide) (by decide)];have h1:halftone_Apply_r (fu+2) (([p].getD (Int.toNat 0) (0,(0,[]))),(([s].getD (Int.toNat 0) (0,(0,0))),()))=some (b,(e,())):=ha;rw [h1,bindO_some,bif_and (by decide) (by decide)];by_cases c:e=0
 ·subst c;rw [bif_neg (fun g=>g rfl),if_pos rfl,loopF];rfl
 ·simp only;rw [bif_pos c,if_neg c]
theorem halftoneDots_r (hb:Bytes ds) (hW:law_halftoneWorks_r fu ()=some (true,())):law_HalftoneDots_r fu ((w,(h,ds)),((A,(B,K)),()))=some (true,()):=by
 unfold law_HalftoneDots_r;simp only [joinF_eq];rw [hW,bindO_some];simp only [Bool.not_true,cond_false];by_cases hp:peE w h ds.length=0
 ·by_cases hS:scE A B K=0
  ·have hw:1≤w∧w≤1024:=by
    unfold peE at hp;split at hp
    ·omega
    ·omega
   have hh:1≤h∧h≤1024:=by
    unfold peE at hp;split at hp
    ·omega
    ·omega
   have hl:(ds.length:Int)=w*h:=by
    unfold peE at hp;rw [if_pos (by omega)] at hp;by_cases c:(ds.length:Int)=w*h
    ·exact c
    ·rw [if_neg c] at hp;omega
   have ok:=scE_ok hS;obtain ⟨N,S,G,hO,f,hN,hG⟩:=form_r hf ok K;obtain ⟨L,hR,hR2,hL⟩:=both_ranks hf ok K;have ha:=apply_r hf hw hh hl hb hS ok f hN hG hL hO hR;obtain ⟨b1,b2⟩:=wh_bd hw hh;rw [ha,bindO_some,all_r hf ha,bindO_some,if_pos rfl,rplate_r,hp,bindO_some];simp only;rw [bif_pos trivial,Sc.err_r,hS,bindO_some];unfold law_HalftoneDots_j1;simp only;rw [bif_neg (fun g=>g rfl)];by_cases c9:900<IntKind.i64.wrap (w*h)
   ·rw [bif_pos c9]
   ·rw [bif_neg c9,half_r hf hw hh hl hb ok f hN hG hL hR2,bindO_some];simp only;rw [drawn_on hf (by omega) hw.2 (by omega) hh.2,bindO_some,bif_pos trivial];simp only;rw [same_r,bindO_some];simp only [cond_true,List.length_cons,List.length_nil];rw [bif_pos trivial,bif_pos (by decide),bif_pos (by decide)];show bindO (R_SameBits_r fu ((w,(h,canon w h (prt N S G w L ds))),((w,(h,canon w h (prt N S G w L ds))),()))) _=_;rw [same_r,bindO_some]
  ·have ha:halftone_Apply_r fu ((w,(h,ds)),((A,(B,K)),()))=some ((0,(0,[])),(scE A B K,())):=by
    unfold halftone_Apply_r;simp only;rw [check_r hf,if_pos hp,bindO_some];simp only;rw [bif_pos hS]
   rw [ha,bindO_some,all_r hf ha,bindO_some,rplate_r,hp,bindO_some];simp only;rw [bif_pos trivial,Sc.err_r,bindO_some];unfold law_HalftoneDots_j1;simp only;rw [bif_pos hS,refused_r,bindO_some,if_neg hS];simp only [cond_true,List.length_nil];rw [Sc.none_r,bindO_some];simp
 ·have ha:halftone_Apply_r fu ((w,(h,ds)),((A,(B,K)),()))=some ((0,(0,[])),(peE w h ds.length,())):=by
   unfold halftone_Apply_r;simp only;rw [check_r hf,if_neg hp,bindO_some];simp only;rw [bif_pos hp]
  rw [ha,bindO_some,all_r hf ha,bindO_some,rplate_r,bindO_some];simp only;rw [bif_neg hp];unfold law_HalftoneDots_j1;simp only;rw [bif_pos hp,refused_r,bindO_some,if_neg hp];simp only [cond_true,List.length_nil];rw [Sc.none_r,bindO_some];simp
end
theorem wf_u8 {x:Int} (h:(Lit.int .u8 x).wf=true):0≤x∧x≤255:=by
 unfold Lit.wf at h;simpa [IntKind.min,IntKind.max,IntKind.signed,IntKind.bits] using h
theorem wfB {l:List Int} (h:∀ x ∈ l,(Lit.int .u8 x).wf=true):Bytes l:=fun d hd=>wf_u8 (h d hd)
end Ht
end Go.Proofs.Ytelpkjellakigaa
/- The step from a walk to a law's row,once for all laws of the seat: a law that returns true and leaves all that was there as it was. -/
namespace Go.Proofs.Ytelpkjellakigaa
open Go.ChangeShapes Go.WideShapes Go.ChangeAt Go.RowKit

theorem own:ownKnob Try.prog.godebug=none:=by kernel_rfl
theorem laidOut:laidOutB Try.prog=true:=by kernel_rfl
theorem boolT:Try.prog.underlying 4=some .bool:=Try.underlying4

theorem trodAll_stays {H:Type} {enc:TypeId×Value→H} {P:Program} (hl:laidOutB P=true) {W W':World} (hb:Below W.heap.size W W') :
  ∀ {ts:List TypeId} {vs:List Value} {ds:List (DataW H)} {ps:List MemPlace},(∀ t ∈ ts,P.readableRec t=true∧t<P.types.size)→DataW.TrodAll enc P W 0 (fun _=>true) true ts vs ds ps →
   (∀ x ∈ ps,x.block<W.heap.size)→DataW.TrodAll enc P W' 0 (fun b=>decide (b<W.heap.size)) true ts vs ds ps
 | [],[],[],_,_,h,_=>h
 | t::ts,v::vs,d::ds,_,hr,⟨p,q,h1,h2,e⟩,hlt =>
  ⟨p,q,Below.trod hl (hr t (by simp)).1 (hr t (by simp)).2 h1 hb (fun x hx=>hlt x (by rw [e];simp [hx])),
   trodAll_stays hl hb (fun t' ht=>hr t' (by simp [ht])) h2 (fun x hx=>hlt x (by rw [e];simp [hx])),e⟩
 | [],[],_::_,_,_,h,_=>h.elim
 | [],_::_,_,_,_,h,_=>h.elim
 | _::_,[],_,_,_,h,_=>h.elim
 | _::_,_::_,[],_,_,h,_=>h.elim

def readsAll (P:Program) (ts:List TypeId):Bool:=ts.all fun t=>P.readableRec t&&decide (t<P.types.size)
theorem readsAll_all {P:Program} {ts:List TypeId} (h:readsAll P ts=true):∀ t ∈ ts,P.readableRec t=true∧t<P.types.size:=by
 intro t ht;have:=List.all_eq_true.1 h t ht;simpa using this

theorem trodAll_length {H:Type} {enc:TypeId×Value→H} {P:Program} {W:World} {base:Nat} {spare:Nat→Bool} {held:Bool} :
  ∀ {ts:List TypeId} {vs:List Value} {ds:List (DataW H)} {ps:List MemPlace},DataW.TrodAll enc P W base spare held ts vs ds ps→ds.length=ts.length
 | [],[],[],_,_=>rfl
 | _::_,_::_,_::_,_,⟨_,_,_,h2,_⟩=>by simp [trodAll_length h2]
 | [],[],_::_,_,h=>h.elim
 | [],_::_,_,_,h=>h.elim
 | _::_,[],_,_,h=>h.elim
 | _::_,_::_,[],_,h=>h.elim

set_option maxRecDepth 100000 in
theorem law_lifted {os:Os} (started:os.Started) {H:Type} {enc:TypeId×Value→H} {f:FuncId} {fn:Func} {s:ChangeSpec}
  (noInit:Try.checked.prog.inits.idxOf? f=none) (hfn:Try.checked.prog.funcs[f]?=some fn)
  (witness:∃ (w:World) (tape:Tape) (i:Input),w.os=os∧(w.forCall tape i).Shaped Try.checked.prog∧i.vars=[]∧Input.okWide Try.checked.prog (w.forCall tape i) .any w.heap.size f i ∧
   s.pre6 enc Try.checked.prog fn [] false (w.forCall tape i).memory i.args∧({}:Assume).holds Try.checked.prog (lone (Frame.enter Try.checked.prog f i.args .normal) [] (w.forCall tape i)))
  (hvars:s.vars=[]) (hres:fn.resultTypes=#[4]) (hread:readsAll Try.prog fn.params.toList=true)
  (hspec:∀ ds:List (DataW H),ds.length=fn.params.toList.length→s.fn H ds={ results:=[.lit (.bool true)],args:=ds })
  (walk:∀ (W:World) (base:Nat) (args:List Value) (ds:List (DataW H)) (ps:List MemPlace),
   (∀ (j:Nat) t v,fn.params[j]?=some t→args[j]?=some v→Value.okWide Try.prog W .any base t v)→DataW.TrodAll enc Try.prog W 0 (fun _=>true) true fn.params.toList args ds ps →
   (DataW.weightsEach Try.prog fn.params.toList ds).all (·≤reachBytes)=true→(∀ x ∈ ps,x.block<W.heap.size) →
   Calls Try.prog f args.toArray W fun e W'=>e=.returned (.bool true)∧Below W.heap.size W W') :
  ReturnsInHanded {} Try.checked os f .any (s.pre6 enc Try.checked.prog fn [] false) (s.post enc Try.checked.prog fn false true false false):=by
 refine returnsInHanded_of_change_sized (C:=Try.checked) own started noInit hfn witness ?_;intro W base args ds gs before hval hW _ hsz _;have hW':=hW;obtain ⟨p,q,hA0,hV,rfl,hfz,hnd⟩:=hW;rw [hvars] at hV;obtain ⟨rfl,rfl⟩:=trodVars_none hV;have hA:DataW.TrodAll enc Try.prog W 0 (fun _=>true) true fn.params.toList args.toList ds p:=hA0;have hlen:ds.length=fn.params.toList.length:=trodAll_length hA;have hlt:∀ x ∈ p,x.block<W.heap.size:=fun x hx=>hW'.lt x (by simpa using hx)
 have hargs:args.toList.toArray=args:=by simp
 have hsz':(DataW.weightsEach Try.prog fn.params.toList ds).all (·≤reachBytes)=true:=by
  have h:=hsz;have hvt:s.plain.varTypes Try.checked.prog=[]:=by simp [DataSpec.varTypes,ChangeSpec.plain,hvars]
  rw [hvt] at h;simp only [List.append_nil] at h;exact h
 have hw:=walk W base args.toList ds p (fun j t v ht hv=>hval j t v ht (by simpa using hv)) hA hsz' hlt;rw [hargs] at hw;refine hw.mono fun e W' ⟨he,hb⟩=>⟨.bool true,he,?_⟩
 have hsf:s.fn H (ds++[])={ results:=[.lit (.bool true)],args:=ds }:=by rw [List.append_nil];exact hspec ds hlen
 refine ⟨ds,[],p++[],[],p,[],hW',?_,?_,?_,hb.frame _,fun h=>by cases h⟩
 ·rw [hsf,hres];exact trodAll_mk1 (shut_bool boolT true)
 ·rw [hsf];exact trodAll_stays laidOut hb (readsAll_all hread) hA hlt
 ·rw [hsf,hvars];rfl
end Go.Proofs.Ytelpkjellakigaa
/- Arguments opened: what slices and structs of numbers read as. -/
set_option maxRecDepth 100000
namespace Go.Proofs.Ytelpkjellakigaa
open Go.ChangeShapes Go.WideShapes Go.ChangeAt Go.RowKit Go.Deep

theorem choose_list {α:Type} {n:Nat} {Q:Nat→α→Prop} (h:∀ i,i<n→∃ p,Q i p):∃ l:List α,l.length=n∧∀ i p,l[i]?=some p→Q i p:=by
 induction n with
 | zero=>exact ⟨[],rfl,by intro i p hi;simp at hi⟩
 | succ n ih =>
  obtain ⟨l,hl,hq⟩:=ih (fun i hi=>h i (by omega));obtain ⟨p,hp⟩:=h n (by omega);refine ⟨l++[p],by simp [hl],fun i q hi=>?_⟩;rcases Nat.lt_trichotomy i n with hlt | rfl | hgt
  ·rw [List.getElem?_append_left (by omega)] at hi;exact hq i q hi
  ·rw [List.getElem?_append_right (by omega),hl] at hi;simp at hi;subst hi;exact hp
  ·rw [List.getElem?_eq_none (by simp;omega)] at hi;cases hi

section
variable {H:Type} {enc:TypeId×Value→H} {P:Program} {w:World} {base:Nat} {spare:Nat→Bool} {held:Bool}
theorem rd_slice {t e:TypeId} {fuel:Nat} {v:Value} {x:DataW H×List MemPlace} (ht:P.underlying t=some (.slice e)) (hc:0<P.cellsOf e) (h:DataW.trod enc P w base spare held fuel t [v]=some x) :
  ∃ A n c,v=.slice A n c∧n≤c∧c≤maxLen∧∀ i,i<n→∃ b o cs n' x',A=some ⟨b,o,none⟩∧cs.length=P.cellsOf e∧(∀ j u,cs[j]?=some u→w.cell? ⟨b,o+i*P.cellsOf e+j,none⟩=some u) ∧
   DataW.trod enc P w base spare held n' e cs=some x':=by
 rcases open_slice ht h with ⟨h0,_⟩ | ⟨a,len,cap,m,n',D,Pl,hcs,_,hl,hm,hmm,_,hi⟩
 ·simp at h0;subst h0;exact ⟨none,0,0,rfl,by omega,by unfold maxLen;omega,by intro i hi;omega⟩
 ·simp at hcs;subst hcs;refine ⟨some a,len,cap,rfl,hl,hm,fun i hil=>?_⟩
  have hlm:len≤m:=by rw [hmm];split <;> omega
  obtain ⟨cs,h1,h2⟩:=hi i (by omega);obtain ⟨hb,hlen,hat⟩:=World.cells?_some h1;obtain ⟨b,o,spot⟩:=a;have h00:=hat 0 (by omega)
  have hsp:spot=none:=by
   obtain ⟨cs0,g1,_⟩:=hi 0 (by omega);obtain ⟨_,gl,gat⟩:=World.cells?_some g1;have hx:=gat 0 (by omega);rw [List.getElem?_eq_getElem (by omega)] at hx;simpa [Addr.add] using World.cell?_spot hx
  subst hsp;refine ⟨b,o,cs,n',_,rfl,hlen,?_,h2⟩;intro j u hu;have hjl:j<P.cellsOf e:=by rw [←hlen];exact (List.getElem?_eq_some_iff.1 hu).1
  have:=hat j hjl;rw [hu,Addr.add_lit,Addr.add_lit] at this;exact this
end

end Go.Proofs.Ytelpkjellakigaa
/- Arguments opened,as abstract values. -/
set_option maxRecDepth 100000
namespace Go.Proofs.Ytelpkjellakigaa
open Go Go.ChangeShapes Go.WideShapes Go.ChangeAt Go.RowKit Go.Deep

section
variable {H:Type} {enc:TypeId×Value→H} {P:Program} {w:World} {base:Nat} {spare:Nat→Bool} {held:Bool}
abbrev RelC (w:World):AV→Value→Prop:=RelD w (fun _=>False) w.heap.size
def Reads {α:Type} (w:World) (sz:Nat) (ec:α→List AV) (Q:α→Prop) (cs:List Value):Prop :=
 ∃ p,Q p∧(ec p).length=sz∧∀ (j:Nat) (a:AV) (u:Value),(ec p)[j]?=some a→cs[j]?=some u→RelC w a u
theorem ro_slice {α:Type} (ec:α→List AV) (Q:α→Prop) {t e:TypeId} {sz fuel:Nat} {v:Value} {x:DataW H×List MemPlace} (ht:P.underlying t=some (.slice e)) (hz:P.cellsOf e=sz) (hc:0<sz)
  (hel:∀ (fuel:Nat) (cs:List Value) (x:DataW H×List MemPlace),cs.length=sz→DataW.trod enc P w base spare held fuel e cs=some x→Reads w sz ec Q cs) (h:DataW.trod enc P w base spare held fuel t [v]=some x) :
  ∃ xs:List α,(∀ p ∈ xs,Q p)∧RelC w (.ro false sz (xs.map ec)) v:=by
 subst hz;obtain ⟨A,n,c,rfl,hn,hm,hi⟩:=rd_slice ht hc h
 obtain ⟨xs,hl,hq⟩:=choose_list (Q:=fun i (p:α)=>Q p∧∃ (b o:Nat) (cs:List Value),A=some ⟨b,o,none⟩∧cs.length=P.cellsOf e∧(∀ (j:Nat) (u:Value),cs[j]?=some u→w.cell? ⟨b,o+i*P.cellsOf e+j,none⟩=some u)∧(ec p).length=P.cellsOf e∧∀ (j:Nat) (a:AV) (u:Value),(ec p)[j]?=some a→cs[j]?=some u→RelC w a u) (n:=n) (by
  intro i hil;obtain ⟨b,o,cs,n',x',hA,hlen,hat,htr⟩:=hi i hil;obtain ⟨p,h1,h2,h3⟩:=hel n' cs x' hlen htr
  exact ⟨p,h1,b,o,cs,hA,hlen,hat,h2,h3⟩)
 subst hl;refine ⟨xs,fun p hp=>?_,?_⟩
 ·obtain ⟨i,hi⟩:=List.mem_iff_getElem?.1 hp;exact (hq i p hi).1
 have key:∀ (i:Nat) (row:List AV) (j:Nat) (a:AV),(xs.map ec)[i]?=some row→row[j]?=some a→∃ b o u,A=some ⟨b,o,none⟩∧w.cell? ⟨b,o+i*P.cellsOf e+j,none⟩=some u∧RelC w a u:=by
  intro i row j a hr ha;rw [List.getElem?_map] at hr;obtain ⟨p,hp,rfl⟩:=Option.map_eq_some_iff.1 hr;obtain ⟨_,b,o,cs,hA,hlen,hat,hel,hrel⟩:=hq i p hp;have hj:j<cs.length:=by rw [hlen,←hel];exact (List.getElem?_eq_some_iff.1 ha).1
  have hu:cs[j]?=some cs[j]:=List.getElem?_eq_getElem hj;exact ⟨b,o,cs[j],hA,hat j _ hu,hrel j a _ ha hu⟩
 have hcon:=RelD.ro (w:=w) (own:=fun _=>False) (bs:=w.heap.size) false (P.cellsOf e) (xs.map ec) A c (fun i j=>match A with
  | some ⟨b,o,_⟩=>(w.cell? ⟨b,o+i*P.cellsOf e+j,none⟩).getD undef
  | none=>undef) (by simpa using hn) hm (fun i hi hA=>by
   have hi:i<xs.length:=by simpa using hi
   obtain ⟨_,b,o,_,h1,_⟩:=hq i xs[i] (List.getElem?_eq_getElem hi)
   rw [hA] at h1;cases h1) (fun i row j a hr ha=>by
   obtain ⟨b,o,u,hA,hu,_⟩:=key i row j a hr ha;subst hA
   exact ⟨b,o,rfl,fun h=>h.elim,(fun h=>by cases h),by simp [hu]⟩) (fun i row j a hr ha=>by
   obtain ⟨b,o,u,hA,hu,hr⟩:=key i row j a hr ha;subst hA
   simpa [hu] using hr)
 rw [List.length_map] at hcon;exact hcon
end
theorem AF.yes {P:Program} {F:FuncId} {xs:List AV} {vs:Array Value} {w:World} (h:AF P F xs (.bool true)) (ha:ArgsV w (Gh.none w.heap.size) xs vs):Calls P F vs w fun e w'=>e=.returned (.bool true)∧Below w.heap.size w w' :=
 (h.out w vs ha).mono fun e w' ⟨v,he,hb,hv⟩=>⟨by rw [he,hv.bool'],hb⟩
end Go.Proofs.Ytelpkjellakigaa
/- Arguments of any type,opened by one theorem;the last step of a law that a residual program answers. -/
set_option maxRecDepth 100000
namespace Go.Proofs.Ytelpkjellakigaa
open Go Go.ChangeShapes Go.WideShapes Go.ChangeAt Go.RowKit Go.Deep

def Ty.wf:(t:Ty)→t.den→Prop
 | .int k,n=>(Lit.int k n).wf=true
 | .bool,_=>True
 | .str,s=>List.length s≤maxLen
 | .list t,xs=>List.length xs≤maxLen∧∀ x ∈ (xs:List t.den),t.wf x
 | .unit,_=>True
 | .pair a b,x=>a.wf x.1∧b.wf x.2
 | .agg t,x=>t.wf x
 | .ptr _,_=>False
def prB (t:Ty) (f:Ty→Ty→Bool):Bool:=match t with
 | .pair x y=>f x y
 | _=>false
def unB (t:Ty):Bool:=match t with
 | .unit=>true
 | _=>false
theorem prB_ok {t:Ty} {f:Ty→Ty→Bool} (h:prB t f=true):∃ x y,t=.pair x y∧f x y=true:=by
 unfold prB at h;split at h
 ·exact ⟨_,_,rfl,h⟩
 ·cases h
theorem unB_ok {t:Ty} (h:unB t=true):t=.unit:=by
 unfold unB at h;split at h
 ·rfl
 ·cases h
def fsB (g:TypeId→Ty→Bool):List Field→Nat→Ty→Bool
 | [],_,t=>unB t
 | [a],o,t=>Nat.beq a.offset o&&g a.type t
 | a::b::l,o,t=>prB t fun x y=>Nat.beq a.offset o&&g a.type x&&fsB g (b::l) (o+x.size) y
def arB (g:Ty→Bool):Nat→Ty→Bool
 | 0,t=>unB t
 | 1,t=>g t
 | n+2,t=>prB t fun x y=>g x&&arB g (n+1) y
def intB (k:IntKind) (t:Ty):Bool:=match t with
 | .int k'=>decide (k'=k)
 | _=>false
def boolB (t:Ty):Bool:=match t with
 | .bool=>true
 | _=>false
def strB (t:Ty):Bool:=match t with
 | .str=>true
 | _=>false
def sliceB (g:Ty→Bool) (t:Ty):Bool:=match t with
 | .list t'=>g t'&&Nat.blt 0 t'.size
 | _=>false
def tyB (P:Program):Nat→TypeId→Ty→Bool
 | 0,_,_=>false
 | f+1,tid,t=>Nat.beq (P.cellsOf tid) t.size&&(match P.underlying tid with
  | some (.int k)=>intB k t
  | some .bool=>boolB t
  | some .string=>strB t
  | some (.slice e)=>sliceB (tyB P f e) t
  | some (.struct ⟨fs⟩)=>fsB (tyB P f) fs 0 t
  | some (.array n e)=>arB (tyB P f e) n t
  | _=>false)
section
variable {H:Type} {enc:TypeId×Value→H} {P:Program} {w:World} {base:Nat} {spare:Nat→Bool} {held:Bool}
abbrev ReadsT (w:World) (t:Ty) (cs:List Value):Prop:=Reads w t.size (t.cells false) t.wf cs
theorem tyB_size {f:Nat} {tid:TypeId} {t:Ty} (h:tyB P f tid t=true):P.cellsOf tid=t.size:=by
 cases f with
 | zero=>cases h
 | succ f=>rw [tyB,Bool.and_eq_true] at h;exact Nat.eq_of_beq_eq_true h.1
theorem ReadsT.pair {a b:Ty} {c d:List Value} (h:ReadsT w a c) (k:ReadsT w b d) (hl:c.length=a.size):ReadsT w (.pair a b) (c++d):=by
 obtain ⟨x,x1,x2,x3⟩:=h;obtain ⟨y,y1,y2,y3⟩:=k;refine ⟨(x,y),⟨x1,y1⟩,Ty.cells_length _ _ _,fun j v u hv hu=>?_⟩;rw [Ty.cells] at hv;by_cases hj:j<a.size
 ·rw [List.getElem?_append_left (by rw [x2];exact hj)] at hv;rw [List.getElem?_append_left (by omega)] at hu;exact x3 j v u hv hu
 ·rw [List.getElem?_append_right (by rw [x2];omega),x2] at hv;rw [List.getElem?_append_right (by omega),hl] at hu;exact y3 _ v u hv hu
theorem ReadsT.unit:ReadsT w .unit []:=⟨(),trivial,rfl,fun j a u h _=>by simp [Ty.cells] at h⟩
theorem fs_reads {g:TypeId→Ty→Bool} (hg:∀ (tid:TypeId) (t:Ty) (n:Nat) (cs:List Value) (x:DataW H×List MemPlace),g tid t=true→cs.length=t.size→DataW.trod enc P w base spare held n tid cs=some x→ReadsT w t cs) (hsz:∀ tid t,g tid t=true→P.cellsOf tid=t.size) {cs:List Value} :
  ∀ (l:List Field) (o:Nat) (t:Ty),fsB g l o t=true→(∀ a ∈ l,∃ n y,DataW.trod enc P w base spare held n a.type ((cs.drop a.offset).take (P.cellsOf a.type))=some y)→o+t.size≤cs.length→ReadsT w t ((cs.drop o).take t.size)
 | [],o,t,h,_,_=>by
  rw [unB_ok h,show Ty.unit.size=0 from rfl,List.take_zero];exact .unit
 | [a],o,t,h,hr,hl=>by
  rw [fsB,Bool.and_eq_true] at h;obtain ⟨n,y,hy⟩:=hr a (by simp);rw [Nat.eq_of_beq_eq_true h.1,hsz _ _ h.2] at hy;exact hg _ _ n _ y h.2 (by rw [List.length_take,List.length_drop];omega) hy
 | a::b::l,o,t,h,hr,hl=>by
  obtain ⟨x,y,rfl,h'⟩:=prB_ok h;clear h;have h:=h';clear h';rw [Bool.and_eq_true,Bool.and_eq_true] at h;obtain ⟨n,z,hz⟩:=hr a (by simp);rw [Nat.eq_of_beq_eq_true h.1.1,hsz _ _ h.1.2] at hz;have hs:(Ty.pair x y).size=x.size+y.size:=rfl;rw [hs] at hl;have h1:=hg _ _ n _ z h.1.2 (by rw [List.length_take,List.length_drop];omega) hz;have h2:=fs_reads hg hsz (b::l) (o+x.size) y h.2 (fun a ha=>hr a (List.mem_cons_of_mem _ ha)) (by omega);rw [hs,List.take_add,List.drop_drop];exact h1.pair h2 (by rw [List.length_take,List.length_drop];omega)
theorem ar_reads {g:Ty→Bool} {e:TypeId} (hg:∀ (t:Ty) (n:Nat) (cs:List Value) (x:DataW H×List MemPlace),g t=true→cs.length=t.size→DataW.trod enc P w base spare held n e cs=some x→ReadsT w t cs) (hsz:∀ t,g t=true→P.cellsOf e=t.size) {cs:List Value} :
  ∀ (k o:Nat) (t:Ty),arB g k t=true→(∀ i,i<k→∃ n y,DataW.trod enc P w base spare held n e ((cs.drop (o+i*P.cellsOf e)).take (P.cellsOf e))=some y)→o+t.size≤cs.length→ReadsT w t ((cs.drop o).take t.size)
 | 0,o,t,h,_,_=>by
  rw [unB_ok h,show Ty.unit.size=0 from rfl,List.take_zero];exact .unit
 | 1,o,t,h,hr,hl=>by
  rw [arB] at h;obtain ⟨n,y,hy⟩:=hr 0 (by omega);rw [hsz _ h,Nat.zero_mul,Nat.add_zero] at hy;exact hg _ n _ y h (by rw [List.length_take,List.length_drop];omega) hy
 | k+2,o,t,h,hr,hl=>by
  obtain ⟨x,y,rfl,h'⟩:=prB_ok h;clear h;have h:=h';clear h';rw [Bool.and_eq_true] at h;obtain ⟨n,z,hz⟩:=hr 0 (by omega);rw [hsz _ h.1,Nat.zero_mul,Nat.add_zero] at hz;have hs:(Ty.pair x y).size=x.size+y.size:=rfl;rw [hs] at hl;have h1:=hg _ n _ z h.1 (by rw [List.length_take,List.length_drop];omega) hz
  have h2:=ar_reads hg hsz (k+1) (o+x.size) y h.2 (fun i hi=>by
   obtain ⟨n,z,hz⟩:=hr (i+1) (by omega);refine ⟨n,z,?_⟩
   rw [←hz,←hsz _ h.1,Nat.add_mul,Nat.one_mul,Nat.add_assoc,Nat.add_comm (P.cellsOf e)]) (by omega)
  rw [hs,List.take_add,List.drop_drop];exact h1.pair h2 (by rw [List.length_take,List.length_drop];omega)
theorem ro_len {own:Nat→Prop} {bs sz:Nat} {fr:Bool} {rows:List (List AV)} {v:Value} (h:RelD w own bs (.ro fr sz rows) v):rows.length≤maxLen:=by
 cases h with
 | ro fr sz rows A c f hc hm h0 h1 h2=>omega
theorem one_cell {cs:List Value} (h:cs.length=1):∃ u,cs=[u]:=by match cs,h with | [u],_=>exact ⟨u,rfl⟩
theorem reads_ty:∀ (f:Nat) (tid:TypeId) (t:Ty) (n:Nat) (cs:List Value) (x:DataW H×List MemPlace),tyB P f tid t=true→cs.length=t.size→DataW.trod enc P w base spare held n tid cs=some x→ReadsT w t cs
 | 0,_,_,_,_,_,h,_,_=>by cases h
 | f+1,tid,t,n,cs,x,h,hl,hx=>by
  have hsize:=tyB_size h;rw [tyB,Bool.and_eq_true] at h;obtain ⟨_,h⟩:=h;split at h
  ·rename_i k hu;unfold intB at h;split at h
   ·have hk:=of_decide_eq_true h;subst hk;obtain ⟨m,rfl,_,hwf⟩:=DataW.trod_int hu hx;refine ⟨m,hwf,rfl,fun j a u ha hu=>?_⟩
    match j with
    | 0=>simp [Ty.cells] at ha hu;subst ha;subst hu;exact .int _ _
    | j+1=>simp [Ty.cells] at ha
   ·cases h
  ·rename_i hu;unfold boolB at h;split at h
   ·obtain ⟨m,rfl,_⟩:=DataW.trod_bool hu hx;refine ⟨m,trivial,rfl,fun j a u ha hu=>?_⟩
    match j with
    | 0=>simp [Ty.cells] at ha hu;subst ha;subst hu;exact .bool _
    | j+1=>simp [Ty.cells] at ha
   ·cases h
  ·rename_i hu;unfold strB at h;split at h
   ·obtain ⟨s,rfl,_,hs⟩:=DataW.trod_string hu hx;refine ⟨s.data.toList,by rw [Ty.wf,Array.length_toList];exact hs,rfl,fun j a u ha hu=>?_⟩
    match j with
    | 0=>simp [Ty.cells] at ha hu;subst ha;subst hu;exact .str _
    | j+1=>simp [Ty.cells] at ha
   ·cases h
  ·rename_i e hu;unfold sliceB at h;split at h
   ·rename_i _ t' _;rw [Bool.and_eq_true] at h;have hpos:0<t'.size:=Nat.le_of_ble_eq_true h.2;obtain ⟨v,rfl⟩:=one_cell hl;obtain ⟨xs,hw,hr⟩:=ro_slice (t'.cells false) t'.wf hu (tyB_size h.1) hpos (fun m cs x hl hx=>reads_ty f e t' m cs x h.1 hl hx) hx;refine ⟨xs,⟨?_,hw⟩,rfl,fun j a u ha hu=>?_⟩
    ·have:=ro_len hr;rw [List.length_map] at this;exact this
    match j with
    | 0=>simp [Ty.cells] at ha hu;subst ha;subst hu;exact hr
    | j+1=>simp [Ty.cells] at ha
   ·cases h
  ·rename_i fs hu;obtain ⟨xs,m,_,_,_,hxl,hat⟩:=DataW.trod_struct hu hx
   have:=fs_reads (cs:=cs) (fun tid t n cs x h1 h2 h3=>reads_ty f tid t n cs x h1 h2 h3) (fun tid t h=>tyB_size h) fs 0 t h (fun a ha=>by
    obtain ⟨i,hi⟩:=List.mem_iff_getElem?.1 ha;have hi':i<xs.length:=by rw [hxl];exact (List.getElem?_eq_some_iff.1 hi).1
    exact ⟨m,_,by rw [hat i a (by simpa using hi),List.getElem?_eq_getElem hi']⟩) (by omega)
   rw [List.drop_zero,List.take_of_length_le (by omega)] at this;exact this
  ·rename_i k e hu;obtain ⟨xs,m,_,_,_,hxl,hat⟩:=DataW.trod_array hu hx
   have:=ar_reads (cs:=cs) (e:=e) (fun t n cs x h1 h2 h3=>reads_ty f e t n cs x h1 h2 h3) (fun t h=>tyB_size h) k 0 t h (fun i hi=>by
    have hi':i<xs.length:=by rw [hxl];exact hi
    exact ⟨m,_,by rw [Nat.zero_add,hat i hi,List.getElem?_eq_getElem hi']⟩) (by omega)
   rw [List.drop_zero,List.take_of_length_le (by omega)] at this;exact this
  ·cases h
def aggP (P:Program) (tid:TypeId):Bool:=match P.underlying tid with
 | some (.struct _)=>true
 | some (.array _ _)=>true
 | _=>false
def cellP (P:Program) (tid:TypeId):Bool:=match P.underlying tid with
 | some (.int _)=>true
 | some .bool=>true
 | some .string=>true
 | some (.slice _)=>true
 | _=>false
def argB (P:Program) (tid:TypeId) (a:Ty):Bool:=match a with
 | .agg t=>tyB P 9 tid t&&aggP P tid
 | .int k=>tyB P 9 tid (.int k)&&cellP P tid
 | .bool=>tyB P 9 tid .bool&&cellP P tid
 | .str=>tyB P 9 tid .str&&cellP P tid
 | .list t=>tyB P 9 tid (.list t)&&cellP P tid
 | _=>false
def argsB (P:Program):List TypeId→Ty→Bool
 | [],t=>unB t
 | tid::l,t=>prB t fun a b=>argB P tid a&&argsB P l b
theorem okWide_arr {n b:Nat} {r:Go.Reach} {t e:TypeId} {v:Value} (ht:P.underlying t=some (.array n e)) (h:Value.okWide P w r b t v):∃ cs,v=.agg cs∧cs.size=P.cellsOf t:=by
 simp only [Value.okWide,ht] at h;obtain ⟨cs,h1,h2,_⟩:=h;exact ⟨cs,h1,h2⟩
theorem arg_agg {tid:TypeId} {t:Ty} {v:Value} {d:DataW H} {p:List MemPlace} {b:Nat} (h:tyB P 9 tid t=true) (ha:aggP P tid=true) (hv:Value.okWide P w .any b tid v) (hd:DataW.Trod enc P w base spare held tid v d p):∃ x:t.den,t.wf x∧RelV w (Gh.none w.heap.size) (.agg (t.cells false x)) v:=by
 obtain ⟨cs,rfl,hs⟩:∃ cs,v=.agg cs∧cs.size=P.cellsOf tid:=by
  unfold aggP at ha;split at ha
  ·rename_i h1;exact okWide_struct h1 hv
  ·rename_i h1;exact okWide_arr h1 hv
  ·cases ha
 obtain ⟨n,hd⟩:=hd;have hl:cs.toList.length=t.size:=by rw [←tyB_size h,←hs];simp
 obtain ⟨x,x1,x2,x3⟩:=reads_ty 9 tid t n cs.toList _ h hl hd;exact ⟨x,x1,.agg _ _ (by rw [x2,←hl];simp) fun i a u ha hu=>.dat (x3 i a u ha (by simpa using hu))⟩
theorem arg_cell {tid:TypeId} {t:Ty} {v:Value} {d:DataW H} {p:List MemPlace} {b:Nat} (h:tyB P 9 tid t=true) (hc:cellP P tid=true) (h1:t.size=1) (hv:Value.okWide P w .any b tid v) (hd:DataW.Trod enc P w base spare held tid v d p):∃ x:t.den,t.wf x∧∀ a,(t.cells false x)[0]?=some a→RelV w (Gh.none w.heap.size) a v:=by
 have hd:∃ n,DataW.trod enc P w base spare held n tid [v]=some (d,p):=by
  unfold cellP at hc;split at hc
  ·rename_i hu;obtain ⟨m,rfl⟩:=okWide_int hu hv;exact hd
  ·rename_i hu;obtain ⟨m,rfl⟩:=okWide_bool hu hv;exact hd
  ·rename_i hu;obtain ⟨m,rfl⟩:=okWide_string hu hv;exact hd
  ·rename_i hu;obtain ⟨a,n,c,rfl⟩:=okWide_slice hu hv;exact hd
  ·cases hc
 obtain ⟨n,hd⟩:=hd;obtain ⟨x,x1,x2,x3⟩:=reads_ty 9 tid t n [v] _ h (by rw [h1];rfl) hd;exact ⟨x,x1,fun a ha=>.dat (x3 0 a v ha rfl)⟩
theorem arg_ty {tid:TypeId} {v:Value} {d:DataW H} {p:List MemPlace} {b:Nat}:∀ {a:Ty},argB P tid a=true→Value.okWide P w .any b tid v→DataW.Trod enc P w base spare held tid v d p→∃ x:a.den,a.wf x∧RelV w (Gh.none w.heap.size) (a.av false x) v
 | .agg t,h,hv,hd=>by
  rw [argB,Bool.and_eq_true] at h;obtain ⟨x,h1,h2⟩:=arg_agg h.1 h.2 hv hd;exact ⟨x,h1,by rw [Ty.av];exact h2⟩
 | .int k,h,hv,hd=>by
  rw [argB,Bool.and_eq_true] at h;obtain ⟨x,h1,h2⟩:=arg_cell h.1 h.2 rfl hv hd;exact ⟨x,h1,h2 _ rfl⟩
 | .bool,h,hv,hd=>by
  rw [argB,Bool.and_eq_true] at h;obtain ⟨x,h1,h2⟩:=arg_cell h.1 h.2 rfl hv hd;exact ⟨x,h1,h2 _ rfl⟩
 | .str,h,hv,hd=>by
  rw [argB,Bool.and_eq_true] at h;obtain ⟨x,h1,h2⟩:=arg_cell h.1 h.2 rfl hv hd;exact ⟨x,h1,h2 _ rfl⟩
 | .list t,h,hv,hd=>by
  rw [argB,Bool.and_eq_true] at h;obtain ⟨x,h1,h2⟩:=arg_cell h.1 h.2 rfl hv hd;exact ⟨x,h1,h2 _ rfl⟩
 | .unit,h,_,_=>by cases h
 | .pair _ _,h,_,_=>by cases h
 | .ptr _,h,_,_=>by cases h
inductive RelsV (w:World) (G:Gh):List AV→List Value→Prop
 | nil:RelsV w G [] []
 | cons {a:AV} {v:Value} {l:List AV} {m:List Value} (h:RelV w G a v) (k:RelsV w G l m):RelsV w G (a::l) (v::m)
theorem RelsV.args {G:Gh} {l:List AV} {m:List Value} (h:RelsV w G l m):ArgsV w G l m.toArray:=by
 induction h with
 | nil=>exact ⟨rfl,fun i a v ha hv=>by simp at ha⟩
 | cons h k ih =>
  refine ⟨by have:=ih.size;simp at this ⊢;exact this,fun i a v ha hv=>?_⟩
  cases i with
  | zero=>simp at ha hv;subst ha;subst hv;exact h
  | succ i=>exact ih.rel i a v (by simpa using ha) (by simpa using hv)
theorem args_ty {b:Nat}:∀ {ts:List TypeId} {σ:Ty} {vs:List Value} {ds:List (DataW H)} {ps:List MemPlace},argsB P ts σ=true→(∀ (j:Nat) t v,ts[j]?=some t→vs[j]?=some v→Value.okWide P w .any b t v)→DataW.TrodAll enc P w base spare held ts vs ds ps→∃ x:σ.den,σ.wf x∧RelsV w (Gh.none w.heap.size) (σ.avs false x) vs
 | [],σ,vs,ds,ps,h,_,hA=>by
  obtain ⟨rfl,rfl,rfl⟩:=trodAll_nil hA;have e:=unB_ok h;subst e;exact ⟨(),trivial,.nil⟩
 | tid::l,σ,vs,ds,ps,h,hv,hA=>by
  obtain ⟨v,vs,d,ds,p,q,rfl,rfl,rfl,h0,r0⟩:=trodAll_cons hA;obtain ⟨a,c,rfl,h'⟩:=prB_ok h;clear h;have h:=h';clear h';rw [Bool.and_eq_true] at h;obtain ⟨x,x1,x2⟩:=arg_ty h.1 (hv 0 tid v rfl rfl) h0;obtain ⟨y,y1,y2⟩:=args_ty h.2 (fun j t u ht hu=>hv (j+1) t u (by simpa using ht) (by simpa using hu)) r0;exact ⟨(x,y),⟨x1,y1⟩,by rw [Ty.avs];exact .cons x2 y2⟩
end
theorem law_any {H:Type} {enc:TypeId×Value→H} {F:Nat} {ts:List TypeId} {σ:Ty} {f:Nat→σ.den→Option (Bool×Unit)} {nm:Nat} (hc:CtrOk Try.prog F ⟨σ,.pair .bool .unit,f,nm⟩) (hB:argsB Try.prog ts σ=true) (hp:∀ x:σ.den,σ.wf x→f FU x=some (true,())) {W:World} {b:Nat} {args:List Value} {ds:List (DataW H)} {ps:List MemPlace}
  (hv:∀ (j:Nat) t v,ts[j]?=some t→args[j]?=some v→Value.okWide Try.prog W .any b t v) (hA:DataW.TrodAll enc Try.prog W 0 (fun _=>true) true ts args ds ps) :
  Calls Try.prog F args.toArray W fun e W'=>e=.returned (.bool true)∧Below W.heap.size W W':=by
 obtain ⟨x,hx,hr⟩:=args_ty hB hv hA;exact AF.yes (hc FU x (true,()) (hp x hx)) hr.args
end Go.Proofs.Ytelpkjellakigaa
/- A call that leaves no other goroutine: the sentence about those that are only leaving. No program in sight. -/
namespace Go.Proofs.Ytelpkjellakigaa
open Go
theorem quiet_leaving {P:Program} {m:Machine} (h:m.quiet):m.OnlyLeaving P:=by
 obtain ⟨h1,h2⟩:=h;refine ⟨fun g hg=>⟨0,?_⟩,h2⟩;unfold Machine.othersDone at h1;have h3:=List.all_eq_true.1 h1 g hg;exact eq_of_beq h3
theorem leaving_of_handed {a:Go.Assume} {C:Go.Checked} {os:Go.Os} {f:FuncId} {r:Go.Reach} {Pre:World→Array Value→Prop} {Post:World→Array Value→Value→World→Prop}
  (h:ReturnsInHanded a C os f r Pre Post):ReturnsInLeavingWide a C os f r Pre Post:=fun enter=>by
 obtain ⟨e1,own,started,wit,runs⟩:=h enter;refine ⟨e1,own,started,wit,fun w tape i hi=>?_⟩;obtain ⟨N,v,w',h1,h2,h3,h4,⟨M,last,g1,g2,q,ho,eh⟩,h6⟩:=runs w tape i hi;exact ⟨N,v,w',h1,h2,h3,h4,⟨M,last,g1,g2,ho,quiet_leaving q,eh⟩,h6⟩
end Go.Proofs.Ytelpkjellakigaa
