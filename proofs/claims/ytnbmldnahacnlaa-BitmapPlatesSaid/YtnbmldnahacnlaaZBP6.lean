/- BitmapPlates: for every input this law returns true and leaves its arguments as they were. -/
import Derived.Test.YtnbmldnahacnlaaZBP5
import Derived.RegionIn
import Derived.Stop.RegionWithIn
import Derived.Sort.CutIn
import Derived.Laws.MakeOwn
import Derived.Deep.RegionHeld3
import Derived.Test.YtnbmldnahacnlaaRows
import Derived.WalkKit
import Derived.ProofKit
import Derived.SizedLaws
import Derived.BigQuiet
import Derived.Deep.QuietTactic
import Derived.Deep.Slices
import Derived.OpenShut
/- Pictures of pixels. No program in sight. -/
set_option maxRecDepth 100000
namespace Go.Proofs.Ytnbmldnahacnlaa
open Go Go.RowKit

def byteB (b0 b1 b2 b3 b4 b5 b6 b7:Bool):Int:=(bif b0 then 128 else 0)+(bif b1 then 64 else 0)+(bif b2 then 32 else 0)+(bif b3 then 16 else 0)+(bif b4 then 8 else 0)+(bif b5 then 4 else 0)+(bif b6 then 2 else 0)+(bif b7 then 1 else 0)
def byteOf (p:Nat→Bool):Int:=byteB (p 0) (p 1) (p 2) (p 3) (p 4) (p 5) (p 6) (p 7)
theorem byteOf_congr {p q:Nat→Bool} (h:∀ k,k<8→p k=q k):byteOf p=byteOf q:=by
 unfold byteOf;rw [h 0 (by omega),h 1 (by omega),h 2 (by omega),h 3 (by omega),h 4 (by omega),h 5 (by omega),h 6 (by omega),h 7 (by omega)]
theorem byteOf_bd (p:Nat→Bool):0≤byteOf p∧byteOf p≤255:=by
 unfold byteOf;generalize p 0=a0;generalize p 1=a1;generalize p 2=a2;generalize p 3=a3;generalize p 4=a4;generalize p 5=a5;generalize p 6=a6;generalize p 7=a7
 revert a0 a1 a2 a3 a4 a5 a6 a7
 decide +kernel
theorem bool_fun {p:Nat→Bool} {a0 a1 a2 a3 a4 a5 a6 a7:Bool} (h0:p 0=a0) (h1:p 1=a1) (h2:p 2=a2) (h3:p 3=a3) (h4:p 4=a4) (h5:p 5=a5) (h6:p 6=a6) (h7:p 7=a7):∀ k,k<8→p k=[a0,a1,a2,a3,a4,a5,a6,a7].getD k false
 | 0,_=>h0 | 1,_=>h1 | 2,_=>h2 | 3,_=>h3 | 4,_=>h4 | 5,_=>h5 | 6,_=>h6 | 7,_=>h7
 | k+8,h=>by omega
theorem byteOf_bit (p:Nat→Bool) {k:Nat} (hk:k<8):bitAt (byteOf p) k=p k:=by
 rw [bool_fun (p:=p) rfl rfl rfl rfl rfl rfl rfl rfl k hk];unfold byteOf;generalize p 0=a0;generalize p 1=a1;generalize p 2=a2;generalize p 3=a3;generalize p 4=a4;generalize p 5=a5;generalize p 6=a6;generalize p 7=a7
 exact (show ∀ (k:Fin 8) (a0 a1 a2 a3 a4 a5 a6 a7:Bool),bitAt (byteB a0 a1 a2 a3 a4 a5 a6 a7) k.val=[a0,a1,a2,a3,a4,a5,a6,a7].getD k.val false by decide +kernel) ⟨k,hk⟩ a0 a1 a2 a3 a4 a5 a6 a7
theorem or_byte {v:Int} (h0:0≤v) (h1:v≤255) {k:Nat} (hk:k<8):bits .or .u8 v (128 / 2 ^ k)=byteOf (fun j=>bitAt v j||j==k) :=
 fin_byte (p:=fun v=>bits .or .u8 v (128 / 2 ^ k)=byteOf (fun j=>bitAt v j||j==k)) (fun v=>(show ∀ (k:Fin 8) (v:Fin 256),bits .or .u8 (v.val:Int) (128 / 2 ^ k.val)=byteOf (fun j=>bitAt (v.val:Int) j||j==k.val) by decide +kernel) ⟨k,hk⟩ v) h0 h1
theorem byteOf_or (p:Nat→Bool) {k:Nat} (hk:k<8):bits .or .u8 (byteOf p) (128 / 2 ^ k)=byteOf (fun j=>p j||j==k):=by
 rw [or_byte (byteOf_bd p).1 (byteOf_bd p).2 hk];exact byteOf_congr fun j hj=>by rw [byteOf_bit p hj]
def cbyte (w:Int) (P:Int→Int→Bool) (i:Int):Int:=byteOf fun k=>decide (8*(i % strd w)+k<w)&&P (8*(i % strd w)+k) (i / strd w)
def canon (w h:Int) (P:Int→Int→Bool):List Int:=(List.range (strd w*h).toNat).map fun i:Nat=>cbyte w P (i:Int)
theorem canon_length (w h:Int) (P:Int→Int→Bool):(canon w h P).length=(strd w*h).toNat:=by rw [canon,List.length_map,List.length_range]
theorem canon_len {w h:Int} (hw:0≤w) (hh:0≤h) (P:Int→Int→Bool):((canon w h P).length:Int)=strd w*h:=by
 rw [canon_length,Int.toNat_of_nonneg (Int.mul_nonneg (by unfold strd;omega) hh)]
theorem canon_get {w h:Int} {P:Int→Int→Bool} {i:Nat} (hi:i<(canon w h P).length):(canon w h P)[i]=cbyte w P i:=by
 simp only [canon,List.getElem_map,List.getElem_range]
theorem canon_getD {w h:Int} {P:Int→Int→Bool} {i:Nat} (hi:i<(strd w*h).toNat):(canon w h P).getD i 0=cbyte w P i:=by
 rw [←canon_length w h P] at hi;rw [List.getD_eq_getElem?_getD,List.getElem?_eq_getElem hi,Option.getD_some,canon_get]
theorem canon_bytes (w h:Int) (P:Int→Int→Bool):Bytes (canon w h P):=by
 intro d hd;obtain ⟨i,_,rfl⟩:=List.mem_map.1 hd;exact byteOf_bd _
theorem canon_congr {w h:Int} {P Q:Int→Int→Bool} (hw:0<w) (hp:∀ x y,0≤x→x<w→0≤y→y<h→P x y=Q x y):canon w h P=canon w h Q:=by
 unfold canon;refine List.map_congr_left fun i hi=>byteOf_congr fun k _=>?_
 have hi:=List.mem_range.1 hi;have hs:0<strd w:=by unfold strd;omega
 have hi':(i:Int)<strd w*h:=by omega
 have e1:0≤(i:Int) % strd w:=Int.emod_nonneg _ (by omega);have e2:(i:Int) / strd w<h:=Int.ediv_lt_of_lt_mul hs (by rw [Int.mul_comm];exact hi');have e3:0≤(i:Int) / strd w:=Int.ediv_nonneg (by omega) (by omega);by_cases g:8*((i:Int) % strd w)+k<w
 ·rw [hp _ _ (by omega) g e3 e2]
 ·rw [decide_eq_false g];rfl
theorem div_of {s a b:Int} (h0:0≤b) (h1:b<s):(a*s+b) / s=a∧(a*s+b) % s=b:=by
 have hs:s≠0:=by omega
 constructor
 ·rw [Int.add_comm,Int.add_mul_ediv_right _ _ hs,Int.ediv_eq_zero_of_lt h0 h1,Int.zero_add]
 ·rw [Int.add_comm,Int.add_mul_emod_self_right,Int.emod_eq_of_lt h0 h1]
theorem mul_div_mod (i s:Int):i / s*s+i % s=i:=by rw [Int.mul_comm];exact Int.mul_ediv_add_emod i s
section
variable {w h x y:Int} {P:Int→Int→Bool}
theorem at_lt (hx0:0≤x) (hx1:x<w) (hy0:0≤y) (hy1:y<h):(y*strd w+x / 8).toNat<(strd w*h).toNat∧((y*strd w+x / 8).toNat:Int)=y*strd w+x / 8:=by
 have h1:0≤strd w*h:=Int.mul_nonneg (by unfold strd;omega) (by omega);obtain ⟨g0,g1,g2⟩:=at_ok (w:=w) (h:=h) (x:=x) (y:=y) (l:=(strd w*h).toNat) (by omega) hx0 hx1 hy0 hy1 (by omega);omega
theorem cbyte_at (hx0:0≤x) (hx1:x<w) (hy0:0≤y):cbyte w P (y*strd w+x / 8)=byteOf fun k=>decide (8*(x / 8)+k<w)&&P (8*(x / 8)+k) y:=by
 have h1:x / 8<strd w:=by unfold strd;omega
 have:=hy0;unfold cbyte;rw [(div_of (by omega) h1).1,(div_of (by omega) h1).2]
theorem canon_upd {Q:Int→Int→Bool} {v:Int} (hx0:0≤x) (hx1:x<w) (hy0:0≤y) (hy1:y<h) (hv:v=byteOf fun k=>decide (8*(x / 8)+k<w)&&Q (8*(x / 8)+k) y)
  (hq:∀ a b,0≤a→¬ (a / 8=x / 8∧b=y)→Q a b=P a b):(canon w h P).set (y*strd w+x / 8).toNat v=canon w h Q:=by
 obtain ⟨hlt,hcast⟩:=at_lt hx0 hx1 hy0 hy1;refine List.ext_getElem (by rw [List.length_set,canon_length,canon_length]) fun i h1 h2=>?_
 rw [List.getElem_set];split
 ·rename_i e;subst e;rw [canon_get,hcast,cbyte_at hx0 hx1 hy0];exact hv
 ·rename_i e;rw [canon_get,canon_get];refine byteOf_congr fun k hk=>?_
  have hs:0<strd w:=by unfold strd;omega
  have e1:0≤(i:Int) % strd w:=Int.emod_nonneg _ (by omega);congr 1;refine (hq _ _ (by omega) ?_).symm
  rintro ⟨g1,g2⟩
  have g3:(i:Int) % strd w=x / 8:=by omega
  have:=mul_div_mod (i:Int) (strd w);rw [g2,g3] at this;omega
theorem canon_set (hx0:0≤x) (hx1:x<w) (hy0:0≤y) (hy1:y<h) :
  (canon w h P).set (y*strd w+x / 8).toNat (bits .or .u8 ((canon w h P).getD (y*strd w+x / 8).toNat 0) (128 / 2 ^ (x % 8).toNat))=canon w h (fun a b=>P a b||(decide (a=x)&&decide (b=y))):=by
 obtain ⟨hlt,hcast⟩:=at_lt hx0 hx1 hy0 hy1;refine canon_upd hx0 hx1 hy0 hy1 ?_ (fun a b ha hn=>?_)
 ·rw [canon_getD hlt,hcast,cbyte_at hx0 hx1 hy0,byteOf_or _ (by omega)];refine byteOf_congr fun k hk=>?_
  rw [decide_eq_true (rfl:y=y),Bool.and_true];by_cases e:k=(x % 8).toNat
  ·subst e;have e1:8*(x / 8)+((x % 8).toNat:Int)=x:=by omega
   rw [e1,decide_eq_true hx1,decide_eq_true (rfl:x=x)];simp
  ·rw [decide_eq_false (show ¬ 8*(x / 8)+(k:Int)=x by omega)];simp [e]
 ·have:¬ (a=x∧b=y):=fun g=>hn (by rw [g.1];exact ⟨rfl,g.2⟩)
  by_cases e:a=x
  ·rw [decide_eq_false (show ¬ b=y from fun g=>this ⟨e,g⟩)];simp
  ·rw [decide_eq_false e];simp
theorem canon_pix (hw:0≤w):pixB w h (canon w h P) x y=(decide (0≤x∧x<w∧0≤y∧y<h)&&P x y):=by
 have:=hw;unfold pixB;by_cases g:0≤x∧x<w∧0≤y∧y<h
 ·obtain ⟨g1,g2,g3,g4⟩:=g;obtain ⟨hlt,hcast⟩:=at_lt g1 g2 g3 g4;rw [canon_getD hlt,hcast,cbyte_at g1 g2 g3,byteOf_bit _ (by omega)];have e1:8*(x / 8)+((x % 8).toNat:Int)=x:=by omega
  rw [e1,decide_eq_true g2,Bool.true_and]
 ·rw [decide_eq_false g];rfl
end
theorem strd_bd {w h:Int} (hw0:0≤w) (hw1:w≤1024) (hh0:0≤h) (hh1:h≤1024):0≤strd w∧strd w≤128∧0≤strd w*h∧strd w*h≤131072:=by
 have a1:strd w≤128:=by unfold strd;omega
 have a2:0≤strd w:=by unfold strd;omega
 have:=Int.mul_le_mul a1 hh1 hh0 (by omega:(0:Int)≤128);have:=Int.mul_nonneg a2 hh0;omega
theorem idx_bd {w h x y:Int} (hx0:0≤x) (hx1:x<w) (hw1:w≤1024) (hy0:0≤y) (hy1:y<h) (hh1:h≤1024):0≤y*strd w∧y*strd w+x / 8<strd w*h∧strd w*h≤131072:=by
 obtain ⟨b1,b2,b3,b4⟩:=strd_bd (w:=w) (h:=h) (by omega) hw1 (by omega) hh1;obtain ⟨g0,g1,g2⟩:=at_ok (w:=w) (h:=h) (x:=x) (y:=y) (l:=(strd w*h).toNat) (by omega) hx0 hx1 hy0 hy1 (by omega);omega
theorem canon_zero (w h:Int) {P:Int→Int→Bool} (hp:∀ x y,P x y=false):canon w h P=List.replicate (strd w*h).toNat 0:=by
 refine List.ext_getElem (by rw [canon_length,List.length_replicate]) fun i h1 h2=>?_
 rw [canon_get,List.getElem_replicate];show byteOf _=0;rw [byteOf_congr (q:=fun _=>false) (fun k _=>by rw [hp,Bool.and_false])];rfl
theorem bitsE_dim {w h:Int} {ds:List Int} (h0:bitsE w h ds=0):1≤w∧w≤1024∧1≤h∧h≤1024∧(ds.length:Int)=strd w*h:=by
 unfold bitsE at h0;split at h0
 ·rename_i hr;split at h0
  ·rename_i hl;refine ⟨hr.1,hr.2.1,hr.2.2.1,hr.2.2.2,?_⟩;rw [hl,strd_N (by omega),Int.natCast_mul,Int.toNat_of_nonneg (by omega:0≤h)]
  ·omega
 ·omega
def onL (n:Nat) (G:Int→Bool):List Bool:=(List.range n).map fun i:Nat=>G (i:Int)
theorem onL_length (n:Nat) (G:Int→Bool):(onL n G).length=n:=by rw [onL,List.length_map,List.length_range]
theorem onL_getD {n:Nat} {G:Int→Bool} {i:Int} (h0:0≤i) (h1:i<n):(onL n G).getD i.toNat false=G i:=by
 have hi:i.toNat<n:=by omega
 have:(onL n G)[i.toNat]?=some (G i):=by
  unfold onL;rw [List.getElem?_map,List.getElem?_range hi,Option.map_some,Int.toNat_of_nonneg h0]
 rw [List.getD_eq_getElem?_getD,this,Option.getD_some]
end Go.Proofs.Ytnbmldnahacnlaa
/- bitmap.ToPlate by hand. -/
namespace Go.Proofs.Ytnbmldnahacnlaa
open Go Go.RowKit Go.Shelf
attribute [local go_sem] Oper.semAt_some

theorem check_any {W:World} {A:Option Addr} {c n0:Nat} {w h:Int} {ds:List Int} (hb:Bytes ds) (h0:bitsE w h ds=0) (hA:SlD ds n0 W A c) (n:Nat) :
  CallsIn Fence.wide n Try.prog 38 #[.agg #[.int .i64 w,.int .i64 h,.slice A ds.length c]] W fun e W'=>e=.returned (.int .i64 0)∧Below W.heap.size W W':=by
 have hr:bitmap_Check_r FU ((w,(h,ds)),())=some (0,()):=by
  rw [check_r (fu:=FU) (Nat.le_refl _) hb,h0]
 have hc:=bitmap_Check_ok FU ((w,(h,ds)),()) (0,()) hr;refine callsIn_wide.2 ((hc.out W #[.agg #[.int .i64 w,.int .i64 h,.slice A ds.length c]] ⟨rfl,fun i a v ha hv=>?_⟩).mono ?_)
 ·match i,ha,hv with
  | 0,ha,hv =>
   have ha:some (AV.agg (Ty.cells false (.pair (.int .i64) (.pair (.int .i64) (.list (.int .u8)))) (w,(h,ds))))=some a:=ha;have hv:some (Value.agg #[.int .i64 w,.int .i64 h,.slice A ds.length c])=some v:=hv;injection ha with ha
   injection hv with hv
   subst ha;subst hv
   exact hA.rel w h
  | i+1,ha,hv=>simp at hv
 ·rintro e W1 ⟨v,rfl,hB,hv⟩
  have hv:RelV W1 _ (.int .i64 0) v:=hv;rw [hv.int'];exact ⟨rfl,hB⟩
theorem infoU8:(Try.prog.info? 5).map (fun i=>(i.zero,i.size,i.bytes))=some (some (.int .u8 0),1,1):=by kernel_rfl
def rowT (N:Nat) (f:Int→Int):Array Value:=((List.range N).map fun i:Nat=>Value.int .u8 (f i)).toArray
theorem rowT_size (N:Nat) (f:Int→Int):(rowT N f).size=N:=by unfold rowT;simp
theorem rowT_zero (N:Nat):madeCells (Value.int .u8 0).cells (N*1)=rowT N fun _=>0:=by
 apply Array.ext';rw [show (Value.int .u8 0).cells=#[Value.int .u8 0] from rfl,toList_madeCells_one,Nat.mul_one];unfold rowT;simp [List.map_const']
theorem rowT_congr {N:Nat} {f g:Int→Int} (h:∀ i:Nat,i<N→f i=g i):rowT N f=rowT N g:=by
 unfold rowT;exact congrArg List.toArray (List.map_congr_left fun i hi=>by rw [h i (List.mem_range.1 hi)])
theorem rowT_set {N:Nat} {f:Int→Int} {k:Nat} (v:Int):(rowT N f).setIfInBounds k (.int .u8 v)=rowT N fun i=>if i=k then v else f i:=by
 apply Array.ext';rw [Array.toList_setIfInBounds];unfold rowT;refine List.ext_getElem (by simp) fun i h1 h2=>?_
 rw [List.getElem_set];simp only [List.getElem_map,List.getElem_range];by_cases e:k=i
 ·subst e;simp
 ·have:¬ (i:Int)=(k:Int):=by omega
  simp [e,this]
structure TS (w h t:Int) (Ar:Value) (B0 Bx Bp N:Nat) (f:Int→Int) (W:World):Prop where
 b:W.heap[B0]?=some (.cells #[.int .i64 w,.int .i64 h,Ar] 24 (0,0))
 t:W.heap[B0+1]?=some (.cells #[.int .u8 t] 5 (0,0))
 r:W.heap[B0+1+1]?=some (.cells #[.int .i64 0,.int .i64 0,.slice none 0 0] 53 (0,0))
 p:W.heap[Bp]?=some (.cells #[.int .i64 w,.int .i64 h,.slice (some ⟨Bx,0,none⟩) N N] 53 (0,0))
 x:W.heap[Bx]?=some (.cells (rowT N f) 5 (0,0))
section
variable {w h t:Int} {Ar:Value} {B0 Bx Bp N:Nat} {f:Int→Int} {W W':World}
theorem TS.own {row:Option Nat} (p:TS w h t Ar B0 Bx Bp N f W) (hg:W.grownBy W' row) (hr:∀ r,row=some r→∃ o:Obj,W.heap[r]?=some o∧o.isCells=false):TS w h t Ar B0 Bx Bp N f W' :=
 ⟨cells_own p.b hg hr,cells_own p.t hg hr,cells_own p.r hg hr,cells_own p.p hg hr,cells_own p.x hg hr⟩
theorem TS.is (p:TS w h t Ar B0 Bx Bp N f W) (hb:Below W.heap.size W W'):TS w h t Ar B0 Bx Bp N f W':=p.own (grown_of_below hb) (fun r e=>by cases e)
theorem TS.set {k:Nat} (p:TS w h t Ar B0 Bx Bp N f W) (h1:B0+1+1<Bx) (h2:Bp≠Bx) (v:Int):TS w h t Ar B0 Bx Bp N (fun i=>if i=k then v else f i) (W.setCell ⟨Bx,k,none⟩ (.int .u8 v)):=by
 refine ⟨(Below.heap_setCell _ _ _ _ (show B0≠Bx by omega)).trans p.b,(Below.heap_setCell _ _ _ _ (show B0+1≠Bx by omega)).trans p.t,(Below.heap_setCell _ _ _ _ (show B0+1+1≠Bx by omega)).trans p.r,(Below.heap_setCell _ _ _ _ (show Bp≠Bx by omega)).trans p.p,?_⟩;rw [heap_setCell_same _ _ _ _ _ _ p.x,rowT_set]
end
theorem leaves_marks {W:World} {fn:Func} {tmps:Array Value} {R:Ending→World→Prop} {n B0 b1 b2:Nat} {P:Program} {c1 c2:Array Value} {t1 t2:TypeId} (hB0:W.heap.size=B0)
  (hfin:∀ w',w'.heap[b1]?=some (.cells c1 t1 (0,0))→w'.heap[b2]?=some (.cells c2 t2 (0,0))→Below B0 W w'→LeavesIn Fence.wide n P fn tmps R [] .returning w') :
  ∀ (Ds:List Nat) (w:World),Ds.Nodup→(∀ D,D ∈ Ds→B0<D∧w.heap[D]?=some (.deferred (some [])))→w.heap[b1]?=some (.cells c1 t1 (0,0))→w.heap[b2]?=some (.cells c2 t2 (0,0))→Below B0 W w →
   LeavesInM Fence.wide n P fn tmps R (Ds.map fun D=>{ target:=.collected D,args:=#[] }) .returning w
 | [],w,_,_,h1,h2,hB=>hfin w h1 h2 hB
 | D::Ds,w,hn,hD,h1,h2,hB=>by
  obtain ⟨d0,d1⟩:=hD D (List.mem_cons_self ..);have hg:=grownBy_putObj' w D (.deferred none)
  have hr:∀ r,some D=some r→∃ o:Obj,w.heap[r]?=some o∧o.isCells=false:=by
   intro r e;injection e with e
   subst e;exact ⟨_,d1,rfl⟩
  refine ⟨by simp,.inl ⟨D,w.putObj D (.deferred none),rfl,run_takeDeferred d1,?_⟩⟩;refine leaves_marks hB0 hfin Ds _ (List.nodup_cons.1 hn).2 (fun D' hD'=>?_) (cells_own h1 hg hr) (cells_own h2 hg hr) (hB.trans ?_)
  ·have q:=hD D' (List.mem_cons_of_mem _ hD');refine ⟨q.1,(hg.block D' (Array.getElem?_eq_some_iff.1 q.2).1 (fun e=>?_)).trans q.2⟩;injection e with e
   subst e;exact (List.nodup_cons.1 hn).1 hD'
  ·rw [←hB0];exact belowK_b (w:=W) (Nat.le_refl _) w D _ _ (by omega) d1 rfl rfl
def cont (w y t:Int) (P:Int→Int→Bool) (l:List (Int×Int×Int)) (i:Int):Int:=bif (decide (i / w<y)&&P (i % w) (i / w))||(decide (i / w=y)&&cov l (i % w)) then t else 0
set_option maxRecDepth 100000 in
set_option maxHeartbeats 4000000 in
theorem toPlate_calls {W:World} {A:Option Addr} {c:Nat} {w h t:Int} {ds:List Int} (hb:Bytes ds) (h0:bitsE w h ds=0) (hA:SlD ds W.heap.size W A c) :
  CallsIn Fence.wide 9 Try.prog 47 #[.agg #[.int .i64 w,.int .i64 h,.slice A ds.length c],.int .u8 t] W fun e W'=>∃ Bx,W.heap.size≤Bx∧e=.returned (.tuple #[.agg #[.int .i64 w,.int .i64 h,.slice (some ⟨Bx,0,none⟩) (w*h).toNat (w*h).toNat],.int .i64 0])∧W'.heap[Bx]?=some (.cells (rowT (w*h).toNat fun i=>bif pixB w h ds (i % w) (i / w) then t else 0) 5 (0,0))∧Below W.heap.size W W':=by
 obtain ⟨i0,hi,hz0,hz1,hz2⟩:=info_parts infoU8
 have hww:1≤w∧w≤1024∧1≤h∧h≤1024:=by unfold bitsE at h0;split at h0 <;> simp_all
 have hN:0≤w*h∧w*h≤1048576:=by
  have:=Int.mul_le_mul hww.2.1 hww.2.2.2 (by omega) (by omega:(0:Int)≤1024);have:=Int.mul_nonneg (by omega:0≤w) (by omega:0≤h);omega
 have hmk:∀ w':World,(Instr.makeSlice 22 (.int .i64 (w*h)) (.int .i64 (w*h))).run Try.prog w'=.ok (.slice (some ⟨w'.heap.size,0,none⟩) (w*h).toNat (w*h).toNat) (w'.alloc (.cells (madeCells (Value.int .u8 0).cells ((w*h).toNat*i0.size)) 5)):=fun w' =>
  run_make (w:=w') 22 5 i0 (.int .u8 0) Try.underlying22 hi hz0 .i64 .i64 (w*h) (w*h) hN.1 (Int.le_refl _) (by rw [hz2];omega) (by omega)
 obtain ⟨W1,hW1⟩:∃ W1,((W.alloc (.cells #[.int .i64 w,.int .i64 h,.slice A ds.length c] 24)).alloc (.cells #[.int .u8 t] 5)).alloc (.cells #[.int .i64 0,.int .i64 0,.slice none 0 0] 53)=W1:=⟨_,rfl⟩;have hB1:Below W.heap.size W W1:=by rw [←hW1];exact (((Below.refl _ W).alloc (Nat.le_refl _) _).alloc (by simp) _).alloc (by simp;omega) _
 have hsz1:W1.heap.size=W.heap.size+3:=by rw [←hW1];simp
 have hcell:W1.heap[W.heap.size]?=some (.cells #[.int .i64 w,.int .i64 h,.slice A ds.length c] 24 (0,0)):=by
  rw [←hW1];exact (Below.heap_alloc _ _ _ (by simp;omega)).trans ((Below.heap_alloc _ _ _ (by simp)).trans (World.alloc_heap_new W _))
 have hct:W1.heap[W.heap.size+1]?=some (.cells #[.int .u8 t] 5 (0,0)):=by
  rw [←hW1];refine (Below.heap_alloc _ _ _ (by simp)).trans ?_;have:=World.alloc_heap_new (W.alloc (.cells #[.int .i64 w,.int .i64 h,.slice A ds.length c] 24)) (.cells #[.int .u8 t] 5);rwa [World.size_alloc] at this
 have hcr:W1.heap[W.heap.size+1+1]?=some (.cells #[.int .i64 0,.int .i64 0,.slice none 0 0] 53 (0,0)):=by
  rw [←hW1];have:=World.alloc_heap_new ((W.alloc (.cells #[.int .i64 w,.int .i64 h,.slice A ds.length c] 24)).alloc (.cells #[.int .u8 t] 5)) (.cells #[.int .i64 0,.int .i64 0,.slice none 0 0] 53);rwa [World.size_alloc,World.size_alloc] at this
 have hA1:SlD ds W.heap.size W1 A c:=hA.is hB1;have g0:W1.cell? ⟨W.heap.size,0,none⟩=some (.int .i64 w):=by simp [World.cell?,hcell]
 have g1:W1.cell? ⟨W.heap.size,1,none⟩=some (.int .i64 h):=by simp [World.cell?,hcell]
 have g2:W1.cell? ⟨W.heap.size,2,none⟩=some (.slice A ds.length c):=by simp [World.cell?,hcell]
 refine callsIn_of_wp_marks Try.func47 rfl trivial ?_ rfl;simp only [Try.ntmps47,List.size_toArray,List.length_cons,List.length_nil,Nat.reduceAdd,Nat.reduceSub,Array.replicate_succ,Array.replicate_zero,List.push_toArray,List.append_toArray,List.nil_append,List.cons_append]
 gi_wp2_with (refine ⟨trivial,?_⟩;gi_at_call 38;refine (check_any hb h0 hA1 _).mono ?_;rintro e W2 ⟨rfl,hB⟩;have k0:W2.cell? ⟨W.heap.size,0,none⟩=some (.int .i64 w):=keepIs1 g0 hB;have k1:W2.cell? ⟨W.heap.size,1,none⟩=some (.int .i64 h):=keepIs1 g1 hB)
 obtain ⟨Ar,hAr⟩:∃ Ar,Ar=Value.slice A ds.length c:=⟨_,rfl⟩;obtain ⟨zs,hzs⟩:∃ zs,zs=madeCells (Value.int .u8 0).cells ((w*h).toNat*i0.size):=⟨_,rfl⟩;obtain ⟨N,hNe⟩:∃ N,N=(w*h).toNat:=⟨_,rfl⟩;obtain ⟨M,hMe⟩:∃ M,M=w*h:=⟨_,rfl⟩;have hwr:IntKind.i64.wrap (w*h)=w*h:=wr64 (by omega) (by omega);have h2:W1.heap.size≤W2.heap.size:=hB.size;obtain ⟨B0,hB0⟩:∃ B0,W.heap.size=B0:=⟨_,rfl⟩;rw [←hAr];rw [←hzs,←hNe] at hmk;rw [hB0] at k0 k1 ⊢
 gi_cut [7] from 17 (fun v7 wx=>∃ Bx Bp:Nat,v7=.pointer (some ⟨Bp,0,none⟩)∧W2.heap.size≤Bx∧W2.heap.size≤Bp∧Bx≠Bp∧wx.heap[Bx]?=some (.cells zs 5 (0,0))∧wx.heap[Bp]?=some (.cells #[.int .i64 w,.int .i64 h,.slice (some ⟨Bx,0,none⟩) N N] 53 (0,0))∧Below W2.heap.size W2 wx)
 case first =>
  rename_i J K' hJ hK';clear hA hb h0 hi hz0 hz1 hz2 hW1 hB1 hsz1 hcell hct hcr hA1 g0 g1 g2 hzs hNe hMe hAr hww hN hB h2 hB0;clear i0;refine wpIn_wide.2 ?_
  go_region_held3 (fun wz=>wz.cell? ⟨B0,0,none⟩=some (.int .i64 w)∧wz.cell? ⟨B0,1,none⟩=some (.int .i64 h)) (go_keep) (first | fail)
  ·dsimp only [Exit.then];refine hK' _ _ (Met.intro (hJ _ _ ?_))
   (repeat apply Exists.intro)
   refine ⟨?_,rfl⟩;refine ⟨W2.heap.size,W2.heap.size+1,rfl,Nat.le_refl _,by omega,by omega,?_,?_,?_⟩
   ·exact (Below.heap_alloc _ _ _ (by simp)).trans (World.alloc_heap_new W2 _)
   ·have:=World.alloc_heap_new (W2.alloc (.cells zs 5)) (.cells #[.int .i64 w,.int .i64 h,.slice (some ⟨W2.heap.size,0,none⟩) N N] 53);rwa [World.size_alloc] at this
   ·exact (((Below.refl _ W2).alloc (Nat.le_refl _) _).alloc (by simp) _).drew
  ·dsimp only [Exit.then];refine hK' _ _ (Met.intro (hJ _ _ ?_))
   (repeat apply Exists.intro)
   refine ⟨?_,rfl⟩;refine ⟨W2.heap.size+1,W2.heap.size,rfl,by omega,Nat.le_refl _,by omega,?_,?_,?_⟩
   ·have:=World.alloc_heap_new (W2.alloc (.cells #[.int .i64 w,.int .i64 h,.slice (some ⟨W2.heap.size+1,0,none⟩) N N] 53)) (.cells zs 5);rwa [World.size_alloc] at this
   ·exact (Below.heap_alloc _ _ _ (by simp)).trans (World.alloc_heap_new W2 _)
   ·exact (((Below.refl _ W2).alloc (Nat.le_refl _) _).alloc (by simp) _).drew
 case rest =>
  obtain ⟨Bx,Bp,rfl,hx,hp,hne,hzx,hcp,hBc⟩:=hcut;have j1:wc.cell? ⟨B0,1,none⟩=some (.int .i64 h):=keepIs1 k1 hBc;have j0:wc.cell? ⟨B0,0,none⟩=some (.int .i64 w):=keepIs1 k0 hBc;have hBw:Below B0 W wc:=by rw [←hB0];exact (hB1.trans (hB.mono (by omega))).trans (hBc.mono (by omega))
  have hg2:W1.grownBy wc none:=grown_of_below (hB.trans (hBc.mono h2))
  have hTS:TS w h t Ar B0 Bx Bp N (cont w ((0:Nat):Int) t (pixB w h ds) []) wc:=by
   refine ⟨?_,?_,?_,hcp,?_⟩
   ·rw [hAr,←hB0];exact cells_own hcell hg2 (fun r e=>by cases e)
   ·rw [←hB0];exact cells_own hct hg2 (fun r e=>by cases e)
   ·rw [←hB0];exact cells_own hcr hg2 (fun r e=>by cases e)
   ·rw [hzx,hzs,hz1,←hNe,rowT_zero];refine congrArg (fun a=>some (Obj.cells a 5 (0,0))) (rowT_congr fun i hi=>?_);have:0≤(i:Int) / w:=Int.ediv_nonneg (by omega) (by omega);unfold cont cov;rw [decide_eq_false (show ¬ (i:Int) / w<((0:Nat):Int) by omega)];simp
  have hlx:B0+1+1<Bx:=by omega
  have hlp:B0+1+1<Bp:=by omega
  gi_wp2
  clear hzx hcp hzs hmk j0 j1 k0 k1 g0 g1 g2 hcell hct hcr hW1 hA1 hBc hg2 hB hB1
  refine wpIn_loop (fun a' w'=>∃ (y:Nat) (Ds:List Nat) (v8 v31 v32 v33 v34 v54:Value),((y:Int)≤h∧TS w h t Ar B0 Bx Bp N (cont w y t (pixB w h ds) []) w'∧Below B0 W w'∧Ds.Nodup∧∀ D,D ∈ Ds→B0<D∧w'.heap[D]?=some (.deferred (some [])))∧a'={ tmps:=#[.agg #[.int .i64 w,.int .i64 h,Ar],.int .u8 t,.pointer (some ⟨B0,0,none⟩),.pointer (some ⟨B0+1,0,none⟩),.pointer (some ⟨B0+1+1,0,none⟩),.int .i64 0,.int .i64 0,.pointer (some ⟨Bp,0,none⟩),v8,undef,undef,.agg #[.int .i64 w,.int .i64 h,Ar],.int .i64 0,.int .i64 0,.bool false,undef,undef,u17,u18,u19,u20,u21,u22,u23,u24,u25,u26,u27,.pointer (some ⟨B0,1,none⟩),.int .i64 h,.int .i64 (y:Int),v31,v32,v33,v34,u35,u36,u37,u38,u39,u40,u41,u42,u43,u44,u45,u46,u47,u48,u49,u50,u51,u52,u53,v54,u55],defers:=Ds.map fun D=>{ target:=.collected D,args:=#[] } })
   (fun a' _=>(h-intOf (a'.tmps.getD 30 undef)).toNat) ?_ ?_
  ·exact ⟨0,[],_,_,_,_,_,_,⟨by omega,hTS,hBw,List.nodup_nil,fun D hD=>by simp at hD⟩,rfl⟩
  ·rintro _ wr ⟨y,Ds,v8,v31,v32,v33,v34,v54,⟨hy,hT,hBr,hnd,hDs⟩,rfl⟩
   clear hTS hBw;dsimp only;by_cases hyh:(y:Int)<h
   ·gi_wp2_with (refine ⟨trivial,?_⟩;gi_at_call 76;refine (row_in _ _ _ _).mono ?_;rintro e W4 ⟨rfl,rfl⟩)
    obtain ⟨By,hBy⟩:∃ By,wr.heap.size=By:=⟨_,rfl⟩;have hB5:Below wr.heap.size wr (((wr.alloc (.cells #[.int .i64 (y:Int)] 3)).alloc (.cells #[.pointer (some ⟨B0,0,none⟩)] 109)).alloc (.cells #[.int .i64 (y:Int)] 3)):=(((Below.refl _ wr).alloc (Nat.le_refl _) _).alloc (by simp) _).alloc (by simp;omega) _
    have y5:(((wr.alloc (.cells #[.int .i64 (y:Int)] 3)).alloc (.cells #[.pointer (some ⟨B0,0,none⟩)] 109)).alloc (.cells #[.int .i64 (y:Int)] 3)).heap[By]?=some (.cells #[.int .i64 (y:Int)] 3 (0,0)):=by
     rw [←hBy];exact (Below.heap_alloc _ _ _ (by simp;omega)).trans ((Below.heap_alloc _ _ _ (by simp)).trans (World.alloc_heap_new wr _))
    have b15:(((wr.alloc (.cells #[.int .i64 (y:Int)] 3)).alloc (.cells #[.pointer (some ⟨B0,0,none⟩)] 109)).alloc (.cells #[.int .i64 (y:Int)] 3)).heap[By+1]?=some (.cells #[.pointer (some ⟨B0,0,none⟩)] 109 (0,0)):=by
     rw [←hBy];refine (Below.heap_alloc _ _ _ (by simp)).trans ?_;have:=World.alloc_heap_new (wr.alloc (.cells #[.int .i64 (y:Int)] 3)) (.cells #[.pointer (some ⟨B0,0,none⟩)] 109);rwa [World.size_alloc] at this
    have b25:(((wr.alloc (.cells #[.int .i64 (y:Int)] 3)).alloc (.cells #[.pointer (some ⟨B0,0,none⟩)] 109)).alloc (.cells #[.int .i64 (y:Int)] 3)).heap[By+1+1]?=some (.cells #[.int .i64 (y:Int)] 3 (0,0)):=by
     rw [←hBy];have:=World.alloc_heap_new ((wr.alloc (.cells #[.int .i64 (y:Int)] 3)).alloc (.cells #[.pointer (some ⟨B0,0,none⟩)] 109)) (.cells #[.int .i64 (y:Int)] 3);rwa [World.size_alloc,World.size_alloc] at this
    have z5:(((wr.alloc (.cells #[.int .i64 (y:Int)] 3)).alloc (.cells #[.pointer (some ⟨B0,0,none⟩)] 109)).alloc (.cells #[.int .i64 (y:Int)] 3)).heap.size=By+3:=by simp [hBy]
    obtain ⟨W5,hW5⟩:∃ W5,(((wr.alloc (.cells #[.int .i64 (y:Int)] 3)).alloc (.cells #[.pointer (some ⟨B0,0,none⟩)] 109)).alloc (.cells #[.int .i64 (y:Int)] 3))=W5:=⟨_,rfl⟩;rw [hW5] at hB5 y5 b15 b25 z5 ⊢;rw [hBy];have hszr:B0≤wr.heap.size:=hB0 ▸ hBr.size;have hT5:=hT.is hB5;have hBr5:Below B0 W W5:=hBr.trans (hB5.mono hszr);have hDlt:∀ D,D ∈ Ds→D<By:=fun D hD=>by rw [←hBy];exact (Array.getElem?_eq_some_iff.1 (hDs D hD).2).1
    have hD5:∀ D,D ∈ Ds→B0<D∧W5.heap[D]?=some (.deferred (some [])):=fun D hD=>⟨(hDs D hD).1,(hB5.block D (by rw [hBy];exact hDlt D hD)).trans (hDs D hD).2⟩
    have hBxlt:Bx<By:=by rw [←hBy];exact (Array.getElem?_eq_some_iff.1 hT.x).1
    have hBplt:Bp<By:=by rw [←hBy];exact (Array.getElem?_eq_some_iff.1 hT.p).1
    obtain ⟨rs,hrs⟩:=RF.ex (fun x=>pixB w h ds x y) w y w.toNat 0 (by omega) (by omega)
    have hl5:(ds.length:Int)=strd w*h:=by
     unfold bitsE at h0;split at h0
     ·split at h0
      ·rename_i q;rw [q,strd_N (by omega),Int.natCast_mul,Int.toNat_of_nonneg (by omega:0≤h)]
      ·omega
     ·omega
    have hP5:Pic w h ds B0 B0 W5:=by
     have q:=hT5.b;rw [hAr] at q;exact ⟨by simp [World.cell?,q],by simp [World.cell?,q],A,c,by simp [World.cell?,q],by rw [hB0] at hA;exact hA.is hBr5⟩
    have hOwn:OwnFrom W5.heap.size (fun (pre:List (RunT w y)) W'=>TS w h t Ar B0 Bx Bp N (cont w y t (pixB w h ds) (pre.map (·.1))) W'∧(W'.heap[By]?=some (.cells #[.int .i64 (y:Int)] 3 (0,0))∧W'.heap[By+1]?=some (.cells #[.pointer (some ⟨B0,0,none⟩)] 109 (0,0))∧W'.heap[By+1+1]?=some (.cells #[.int .i64 (y:Int)] 3 (0,0)))∧Below B0 W W'∧∀ D,D ∈ Ds→B0<D∧W'.heap[D]?=some (.deferred (some []))) :=
     fun pre X Y row hs hg hr=>⟨hs.1.own hg (fun r e=>(hr r e).2),⟨cells_own hs.2.1.1 hg (fun r e=>(hr r e).2),cells_own hs.2.1.2.1 hg (fun r e=>(hr r e).2),cells_own hs.2.1.2.2 hg (fun r e=>(hr r e).2)⟩,
      ownFrom_below (β:=Unit) (n₀:=B0) (w₀:=W) (B:=W5.heap.size) (by rw [hB0];exact Nat.le_refl _) (by rw [z5];omega) () X Y row hs.2.2.1 hg hr,
      fun D hD=>⟨(hs.2.2.2 D hD).1,(hg.block D (Array.getElem?_eq_some_iff.1 (hs.2.2.2 D hD).2).1 fun e=>by have:=(hr D e.symm).1;have:=hDlt D hD;omega).trans (hs.2.2.2 D hD).2⟩⟩
    refine wpIn_rangeFunc_ownH rfl (by omega) (gf:=87) (lb:=#[.pointer (some ⟨By+1,0,none⟩),.pointer (some ⟨By+1+1,0,none⟩)]) rfl trivial (enters_of Try.func87 (by kernel_rfl) rfl)
     (row2_stops _ (by omega) (By+1) (By+1+1) B0 B0 w h y ds (by omega) (by omega) (by omega) hl5 hb rs hrs W5 (by simp [World.cell?,b15]) (by simp [World.cell?,b25]) hP5) kp3_t (kp3_b (by omega) (by rintro b (rfl | rfl | rfl) <;> omega)) (Below.refl _ _) (fun _=>rfl)
     (fun (pre:List (RunT w y)) W'=>TS w h t Ar B0 Bx Bp N (cont w y t (pixB w h ds) (pre.map (·.1))) W'∧(W'.heap[By]?=some (.cells #[.int .i64 (y:Int)] 3 (0,0))∧W'.heap[By+1]?=some (.cells #[.pointer (some ⟨B0,0,none⟩)] 109 (0,0))∧W'.heap[By+1+1]?=some (.cells #[.int .i64 (y:Int)] 3 (0,0)))∧Below B0 W W'∧∀ D,D ∈ Ds→B0<D∧W'.heap[D]?=some (.deferred (some [])))
     (fun _ _ _=>False)
     hOwn
     (fun _ _ _ _ _ hs _ _=>hs)
     ⟨hT5,⟨y5,b15,b25⟩,hBr5,hD5⟩
     (fun x a' W'=>∃ Bq,By<Bq∧RX Bq x.1 W'∧a'={ tmps:=#[.agg #[.int .i64 w,.int .i64 h,.slice A ds.length c],.int .u8 t,.pointer (some ⟨B0,0,none⟩),.pointer (some ⟨B0+1,0,none⟩),.pointer (some ⟨B0+1+1,0,none⟩),.int .i64 0,.int .i64 0,.pointer (some ⟨Bp,0,none⟩),.pointer (some ⟨By,0,none⟩),.pointer (some ⟨Bq,0,none⟩),undef,.agg #[.int .i64 w,.int .i64 h,.slice A ds.length c],.int .i64 0,.int .i64 0,.bool false,undef,undef,u17,u18,u19,u20,u21,u22,u23,u24,u25,u26,u27,.pointer (some ⟨B0,1,none⟩),.int .i64 h,.int .i64 (y:Int),.bool true,.int .i64 (y:Int),.int .i64 (y:Int),.func (.func 87) #[] #[.pointer (some ⟨By+1,0,none⟩),.pointer (some ⟨By+1+1,0,none⟩)],(.agg #[.int .i64 x.1.1,.int .i64 x.1.2.1,.int .i64 x.1.2.2]),u36,u37,u38,u39,u40,u41,u42,u43,u44,u45,u46,u47,u48,u49,u50,u51,u52,u53,v54,u55],defers:=[] })
     (fun x a' _ X Y row hs hg hr=>by obtain ⟨Bq,q1,q2,q3⟩:=hs;exact ⟨Bq,q1,cells_own q2 hg (fun r e=>(hr r e).2),q3⟩)
     ?assign0 ?body0 ?done0 ?stop0
    case assign0 =>
     rintro l pre x W6 K hI hK
     simp only [encR3]
     gi_wp2
     have hbx:=(Below.refl _ W6).alloc (Nat.le_refl _) (.cells #[.int .i64 x.1.1,.int .i64 x.1.2.1,.int .i64 x.1.2.2] 77);obtain ⟨hT6,⟨y6,b16,b26⟩,hB6,hD6⟩:=id hI;have l6:By<W6.heap.size:=(Array.getElem?_eq_some_iff.1 y6).1;have l16:By+1<W6.heap.size:=(Array.getElem?_eq_some_iff.1 b16).1;have l26:By+1+1<W6.heap.size:=(Array.getElem?_eq_some_iff.1 b26).1;exact hK _ _ (keepsFrom_below hbx) (kp3_below hbx (by omega) (by rintro b (rfl | rfl | rfl) <;> omega)) (hOwn pre W6 _ none hI (grown_of_below hbx) (fun r e=>by cases e)) ⟨W6.heap.size,l6,World.alloc_heap_new W6 _,rfl⟩
    case body0 =>
     rintro l pre x a' W6 hl ⟨r,hr⟩ ⟨hT6,⟨y6,b16,b26⟩,hB6,hD6⟩ ⟨Bq,hBq,bX,rfl⟩ hpl
     have k0:W6.cell? ⟨Bq,0,none⟩=some (.int .i64 x.1.1):=by simp [World.cell?,show W6.heap[Bq]?=_ from bX]
     have k1:W6.cell? ⟨Bq,1,none⟩=some (.int .i64 x.1.2.1):=by simp [World.cell?,show W6.heap[Bq]?=_ from bX]
     have k2:W6.cell? ⟨Bq,2,none⟩=some (.int .i64 x.1.2.2):=by simp [World.cell?,show W6.heap[Bq]?=_ from bX]
     have hR:=x.2;obtain ⟨⟨ry,rx0,rx1⟩,hR1,hR2,hR3,hR4⟩:=x;simp only at hR1 hR2 hR3 hR4 k0 k1 k2 bX;subst hR1
     gi_wp2
     gi_loopw [10] (fun v10 wq=>∃ z:Int,v10=.int .i64 z∧rx0≤z∧z≤rx1∧TS w h t Ar B0 Bx Bp N (fun i=>bif (decide (i / w<y)&&pixB w h ds (i % w) (i / w))||(decide (i / w=y)&&(cov (pre.map (·.1)) (i % w)||decide (rx0≤i % w∧i % w<z))) then t else 0) wq∧(wq.heap[By]?=some (.cells #[.int .i64 (y:Int)] 3 (0,0))∧wq.heap[By+1]?=some (.cells #[.pointer (some ⟨B0,0,none⟩)] 109 (0,0))∧wq.heap[By+1+1]?=some (.cells #[.int .i64 (y:Int)] 3 (0,0)))∧Below B0 W wq∧(∀ D,D ∈ Ds→B0<D∧wq.heap[D]?=some (.deferred (some [])))∧RX Bq ((y:Int),rx0,rx1) wq∧KeepsFrom W5.heap.size W6 wq∧Kp3 B0 B0 (By+1) (By+1+1) W6 wq)
      (fun p wq=>(rx1-intOf p).toNat)
     case atStart =>
      refine ⟨rx0,rfl,Int.le_refl _,by omega,⟨hT6.b,hT6.t,hT6.r,hT6.p,?_⟩,⟨y6,b16,b26⟩,hB6,hD6,bX,KeepsFrom.refl _ _,⟨Below.refl _ _,fun _ _=>rfl⟩⟩;rw [hT6.x];refine congrArg (fun a=>some (Obj.cells a 5 (0,0))) (rowT_congr fun i hi=>?_);unfold cont;rw [decide_eq_false (show ¬ (rx0≤(i:Int) % w∧(i:Int) % w<rx0) by omega),Bool.or_false]
     case round =>
      obtain ⟨z,rfl,hz0',hz1',hTz,⟨yz,b1z,b2z⟩,hBz,hDz,bXz,hKz,hPz⟩:=hrel;by_cases hzc:z<rx1
      ·have m1:(y:Int)*w≤(h-1)*w:=Int.mul_le_mul_of_nonneg_right (by omega) (by omega);have m2:(h-1)*w=w*h-w:=by rw [Int.sub_mul,Int.one_mul,Int.mul_comm]
       have m3:=Int.mul_nonneg (show (0:Int)≤y by omega) (by omega:0≤w);have w1:IntKind.i64.wrap ((y:Int)*w)=(y:Int)*w:=wr64 (by omega) (by omega);have w2:IntKind.i64.wrap ((y:Int)*w+z)=(y:Int)*w+z:=wr64 (by omega) (by omega);have n0':0≤(y:Int)*w+z:=by omega
       have n1:(y:Int)*w+z<(((w*h).toNat:Nat):Int):=by omega
       have n2:((y:Int)*w+z).toNat<(w*h).toNat:=by omega
       have q1:wr.cell? ⟨Bp,2,none⟩=some (.slice (some ⟨Bx,0,none⟩) N N):=by simp [World.cell?,hTz.p]
       have q2:wr.cell? ⟨By,0,none⟩=some (.int .i64 y):=by simp [World.cell?,yz]
       have q3:wr.cell? ⟨B0,0,none⟩=some (.int .i64 w):=by simp [World.cell?,hTz.b]
       have q4:wr.cell? ⟨B0+1,0,none⟩=some (.int .u8 t):=by simp [World.cell?,hTz.t]
       have q5:wr.cell? ⟨Bq,2,none⟩=some (.int .i64 rx1):=by simp [World.cell?,show wr.heap[Bq]?=_ from bXz]
       obtain ⟨f6,hf6⟩:∃ f6,wr.heap[Bx]?=some (.cells (rowT N f6) 5 (0,0)):=⟨_,hTz.x⟩;obtain ⟨u6,hu6⟩:∃ u,(rowT N f6)[((y:Int)*w+z).toNat]?=some u:=⟨_,Array.getElem?_eq_getElem (by rw [rowT_size,hNe];exact n2)⟩
       have q6:wr.cell? ⟨Bx,((y:Int)*w+z).toNat,none⟩=some u6:=by
        unfold World.cell?;rw [hf6];exact hu6
       have q7:∀ o,wr.frozen? ⟨Bx,o,none⟩=false:=by intro o;simp [World.frozen?,hTz.x]
       clear hf6 hu6
       gi_wp2
       have oth:∀ b,b≠Bx→(wr.setCell ⟨Bx,((y:Int)*w+z).toNat,none⟩ (.int .u8 t)).heap[b]?=wr.heap[b]?:=fun b hb=>Below.heap_setCell _ _ _ _ hb
       have dne:∀ D,D ∈ Ds→D≠Bx:=fun D hD e=>by
        have:=(hDz D hD).2;rw [e,hTz.x] at this;cases this
       have q:=hTz.set (k:=((y:Int)*w+z).toNat) hlx (Ne.symm hne) t;refine ⟨⟨z+1,rfl,by omega,by omega,⟨q.b,q.t,q.r,q.p,?_⟩,⟨(oth _ (by omega)).trans yz,(oth _ (by omega)).trans b1z,(oth _ (by omega)).trans b2z⟩,hBz.setCell (by simp;omega) _,fun D hD=>⟨(hDz D hD).1,(oth D (dne D hD)).trans (hDz D hD).2⟩,(oth Bq (by omega)).trans bXz,hKz.trans ⟨by simp [World.setCell],fun k o _ hk ho=>(oth k (fun e=>by rw [e,hTz.x] at hk;injection hk with hk;subst hk;cases ho)).trans hk⟩,kp3_t hPz ⟨(Below.refl _ wr).setCell (by simp;omega) _,fun b hb=>oth b (by rcases hb with rfl | rfl | rfl <;> omega)⟩⟩,?_⟩
       ·rw [q.x];refine congrArg (fun a=>some (Obj.cells a 5 (0,0))) (rowT_congr fun i hi=>?_);rw [Int.toNat_of_nonneg n0'];by_cases e:(i:Int)=(y:Int)*w+z
        ·have d:=div_of (a:=(y:Int)) (b:=z) (s:=w) (by omega) (by omega);rw [if_pos e,e,d.1,d.2,decide_eq_true (rfl:(y:Int)=y),decide_eq_true (show rx0≤z∧z<z+1 by omega),Bool.or_true,Bool.and_true,Bool.or_true,cond_true]
        ·rw [if_neg e];by_cases e2:(i:Int) / w=y
         ·have e3:¬ (i:Int) % w=z:=fun e3=>e (by have:=mul_div_mod (i:Int) w;rw [e2,e3] at this;omega)
          rw [decide_eq_decide.2 (show (rx0≤(i:Int) % w∧(i:Int) % w<z)↔(rx0≤(i:Int) % w∧(i:Int) % w<z+1) by omega)]
         ·rw [decide_eq_false e2,Bool.false_and,Bool.false_and]
       ·show (rx1-(z+1)).toNat<(rx1-z).toNat;omega
      ·have ez:z=rx1:=by omega
       have q5:wr.cell? ⟨Bq,2,none⟩=some (.int .i64 rx1):=by simp [World.cell?,show wr.heap[Bq]?=_ from bXz]
       gi_wp2
       rw [hAr,hNe] at hTz;refine ⟨z5 ▸ hKz,hPz,⟨hTz.b,hTz.t,hTz.r,hTz.p,?_⟩,⟨yz,b1z,b2z⟩,hBz,hDz⟩;rw [hTz.x];refine congrArg (fun a=>some (Obj.cells a 5 (0,0))) (rowT_congr fun i hi=>?_);unfold cont
       rw [ez,List.map_append,show cov (List.map (fun x:RunT w y=>x.1) pre++List.map (fun x:RunT w y=>x.1) [⟨((y:Int),rx0,rx1),hR⟩]) ((i:Int) % w)=(cov (pre.map (·.1)) ((i:Int) % w)||decide (rx0≤(i:Int) % w∧(i:Int) % w<rx1)) by
        unfold cov;rw [List.any_append]
        simp]
    case done0 =>
     rintro D0 ys Wq hD hys ⟨hTq,⟨yq,b1q,b2q⟩,hBq,hDq⟩ hD0
     gi_wp2
     have ey:((y+1:Nat):Int)=(y:Int)+1:=by omega
     have hcq:rowT N (cont w y t (pixB w h ds) (ys.map (·.1)))=rowT N (cont w ((y+1:Nat):Int) t (pixB w h ds) []):=rowT_congr fun i hi=>by
      have m0:0≤(i:Int) % w:=Int.emod_nonneg _ (by omega);have m1:(i:Int) % w<w:=Int.emod_lt_of_pos _ (by omega);unfold cont;rw [ey];by_cases q:(i:Int) / w<y
      ·rw [decide_eq_true q,decide_eq_true (show (i:Int) / w<(y:Int)+1 by omega),decide_eq_false (show ¬ (i:Int) / w=y by omega)];simp [cov]
      ·by_cases q2:(i:Int) / w=y
       ·have e3:cov (ys.map (·.1)) ((i:Int) % w)=pixB w h ds ((i:Int) % w) y:=by
         rw [hys];exact hrs.cov _ m0 m1
        rw [e3,decide_eq_false q,decide_eq_true (show (i:Int) / w<(y:Int)+1 by omega),decide_eq_true q2,q2];simp [cov]
       ·rw [decide_eq_false q,decide_eq_false q2,decide_eq_false (show ¬ (i:Int) / w<(y:Int)+1 by omega)];simp [cov]
     refine ⟨⟨y+1,D0::Ds,.pointer (some ⟨By,0,none⟩),.bool true,.int .i64 (y:Int),.int .i64 (y:Int),.func (.func 87) #[] #[.pointer (some ⟨By+1,0,none⟩),.pointer (some ⟨By+1+1,0,none⟩)],.int .i64 ((y:Int)+1),⟨by omega,⟨hTq.b,hTq.t,hTq.r,hTq.p,by rw [hTq.x,hcq]⟩,hBq,List.nodup_cons.2 ⟨fun q=>?_,hnd⟩,fun D q=>?_⟩,?_⟩,?_⟩
     ·have:=hDlt D0 q;omega
     ·rcases List.mem_cons.1 q with rfl | q
      ·exact ⟨by omega,hD0⟩
      ·exact hDq D q
     ·rw [hAr,ey];rfl
     ·show (h-((y:Int)+1)).toNat<(h-(y:Int)).toNat;omega
    case stop0 =>
     rintro D cc pre W6 _ _ q _
     exact q.elim
   ·have p0:wr.cell? ⟨Bp,0,none⟩=some (.int .i64 w):=by simp [World.cell?,hT.p]
    have p1:wr.cell? ⟨Bp,1,none⟩=some (.int .i64 h):=by simp [World.cell?,hT.p]
    have p2:wr.cell? ⟨Bp,2,none⟩=some (.slice (some ⟨Bx,0,none⟩) N N):=by simp [World.cell?,hT.p]
    have r0:wr.cell? ⟨B0+1+1,0,none⟩=some (.int .i64 0):=by simp [World.cell?,hT.r]
    have r1:wr.cell? ⟨B0+1+1,1,none⟩=some (.int .i64 0):=by simp [World.cell?,hT.r]
    have r2:wr.cell? ⟨B0+1+1,2,none⟩=some (.slice none 0 0):=by simp [World.cell?,hT.r]
    have rf:∀ o,wr.frozen? ⟨B0+1+1,o,none⟩=false:=by intro o;simp [World.frozen?,hT.r]
    gi_wp2
    have ew:(((wr.setCell ⟨B0+1+1,0,none⟩ (.int .i64 w)).setCell ⟨B0+1+1,1,none⟩ (.int .i64 h)).setCell ⟨B0+1+1,2,none⟩ (.slice (some ⟨Bx,0,none⟩) (w*h).toNat (w*h).toNat)).heap[B0+1+1]?=some (.cells #[.int .i64 w,.int .i64 h,.slice (some ⟨Bx,0,none⟩) (w*h).toNat (w*h).toNat] 53 (0,0)):=by
     rw [heap_setCell_same _ _ _ _ _ _ (heap_setCell_same _ _ _ _ _ _ (heap_setCell_same _ _ _ _ _ _ hT.r))];simp
    have oth:∀ k,k≠B0+1+1→(((wr.setCell ⟨B0+1+1,0,none⟩ (.int .i64 w)).setCell ⟨B0+1+1,1,none⟩ (.int .i64 h)).setCell ⟨B0+1+1,2,none⟩ (.slice (some ⟨Bx,0,none⟩) (w*h).toNat (w*h).toNat)).heap[k]?=wr.heap[k]?:=fun k hk =>
     (Below.heap_setCell _ _ _ _ hk).trans ((Below.heap_setCell _ _ _ _ hk).trans (Below.heap_setCell _ _ _ _ hk))
    have hBf:Below B0 W (((wr.setCell ⟨B0+1+1,0,none⟩ (.int .i64 w)).setCell ⟨B0+1+1,1,none⟩ (.int .i64 h)).setCell ⟨B0+1+1,2,none⟩ (.slice (some ⟨Bx,0,none⟩) (w*h).toNat (w*h).toNat)):=((hBr.setCell (by simp;omega) _).setCell (by simp;omega) _).setCell (by simp;omega) _;refine leaves_marks hB0 (b1:=B0+1+1) (b2:=Bx) (fun w' e1 e2 hB'=>?_) Ds _ hnd (fun D hD=>⟨(hDs D hD).1,(oth D (fun e=>?_)).trans (hDs D hD).2⟩) ew ((oth Bx (by omega)).trans hT.x) hBf
    ·have f0:w'.cell? ⟨B0+1+1,0,none⟩=some (.int .i64 w):=by simp [World.cell?,e1]
     have f1:w'.cell? ⟨B0+1+1,1,none⟩=some (.int .i64 h):=by simp [World.cell?,e1]
     have f2:w'.cell? ⟨B0+1+1,2,none⟩=some (.slice (some ⟨Bx,0,none⟩) (w*h).toNat (w*h).toNat):=by simp [World.cell?,e1]
     refine ⟨.tuple #[.agg #[.int .i64 w,.int .i64 h,.slice (some ⟨Bx,0,none⟩) (w*h).toNat (w*h).toNat],.int .i64 0],(results_cell_tmp rfl _ _ _).trans ?_,Bx,by omega,rfl,?_,hB0 ▸ hB'⟩
     ·go_simp
     ·rw [e2,←hNe];refine congrArg (fun a=>some (Obj.cells a 5 (0,0))) (rowT_congr fun i hi=>?_);have hi2:(i:Int) / w<h:=Int.ediv_lt_of_lt_mul (by omega) (by rw [Int.mul_comm];omega);unfold cont cov;rw [decide_eq_true (show (i:Int) / w<(y:Int) by omega)];simp
    ·have q:=(hDs D hD).2;rw [e,hT.r] at q;cases q
end Go.Proofs.Ytnbmldnahacnlaa
/- bitmap.ToPlate: the contract. -/
namespace Go.Proofs.Ytnbmldnahacnlaa
open Go Go.RowKit Go.Shelf

theorem tp_ro {W W':World} {N Bx:Nat} {f:Int→Int} (hx:W'.heap[Bx]?=some (.cells (rowT N f) 5 (0,0))) (hB:W.heap.size≤Bx) (hN:N≤maxLen) {l:List Int} (hl:l=(List.range N).map fun i:Nat=>f i) :
  RelV W' (Gh.frz W.heap.size) (.ro true 1 (l.map (Ty.cells true (.int .u8)))) (.slice (some ⟨Bx,0,none⟩) N N):=by
 have hlen:(l.map (Ty.cells true (.int .u8))).length=N:=by rw [List.length_map,hl,List.length_map,List.length_range]
 have key:∀ i,i<N→W'.cell? ⟨Bx,i,none⟩=some (.int .u8 (f i)):=by
  intro i hi;unfold World.cell?;rw [hx];show (rowT N f)[i]?=_;rw [Array.getElem?_eq_getElem (by rw [rowT_size];exact hi)];simp [rowT]
 have row:∀ (i j:Nat) (r:List AV) (a:AV),(l.map (Ty.cells true (.int .u8)))[i]?=some r→r[j]?=some a→i<N∧j=0∧a=.int .u8 (f i):=by
  intro i j r a g1 g2;have hi:i<N:=by rw [←hlen];exact (List.getElem?_eq_some_iff.1 g1).1
  rw [List.getElem?_map] at g1;obtain ⟨v,hv,e⟩:=Option.map_eq_some_iff.1 g1;subst e;rw [hl,List.getElem?_map,List.getElem?_range hi] at hv;injection hv with hv
  subst hv;rw [Ty.cells] at g2
  cases j with
  | succ j=>simp at g2
  | zero =>
   simp only [List.getElem?_cons_zero,Option.some.injEq] at g2;exact ⟨hi,rfl,g2.symm⟩
 have hr:=RelD.ro (w:=W') (own:=(Gh.frz W.heap.size).own) (bs:=(Gh.frz W.heap.size).bs) true 1 (l.map (Ty.cells true (.int .u8))) (some ⟨Bx,0,none⟩) N (fun i _=>.int .u8 (f i)) (by rw [hlen];exact Nat.le_refl _) hN (fun _ _=>by simp) (fun i r j a g1 g2=>?_) (fun i r j a g1 g2=>?_)
 ·rw [hlen] at hr;exact .dat hr
 ·obtain ⟨hi,rfl,rfl⟩:=row i j r a g1 g2;refine ⟨Bx,0,rfl,fun h=>by have h:Bx<W.heap.size:=h;omega,fun _=>hB,?_⟩;rw [Nat.zero_add,Nat.mul_one,Nat.add_zero];exact key i hi
 ·obtain ⟨hi,rfl,rfl⟩:=row i j r a g1 g2;exact .int .u8 _
theorem wh_le {w h:Int} {ds:List Int} (h0:bitsE w h ds=0):(w*h).toNat≤1048576:=by
 have hd:=bitsE_dim h0;have:=Int.mul_le_mul hd.2.1 hd.2.2.2.1 (by omega) (by omega:(0:Int)≤1024);omega
theorem bitmap_ToPlate_ok:CtrOk Try.prog 47 bitmap_ToPlate_ctr:=fun fu x y hy=>by
 obtain ⟨⟨w,h,ds⟩,t,⟨⟩⟩:=x;have hy:bitmap_ToPlate_r fu ((w,(h,ds)),(t,()))=some y:=hy;unfold bitmap_ToPlate_r at hy;split at hy
 ·rename_i hx;obtain ⟨h0,hb⟩:=hx;simp only at h0 hb;injection hy with hy
  subst hy;refine ⟨fun W vs ha=>?_⟩
  obtain ⟨u,u',rfl⟩:∃ u u',vs=#[u,u']:=by
   have:=ha.size;obtain ⟨l⟩:=vs
   match l,this with
   | [u,u'],_=>exact ⟨u,u',rfl⟩
  have h1:RelV W (Gh.none W.heap.size) (.agg (Ty.cells false (.pair (.int .i64) (.pair (.int .i64) (.list (.int .u8)))) (w,(h,ds)))) u:=ha.rel 0 _ u rfl rfl;have h2:RelV W (Gh.none W.heap.size) (.int .u8 t) u':=ha.rel 1 _ u' rfl rfl;have e':=h2.int';subst e';rw [cells_bits] at h1;obtain ⟨us,rfl,hsz,hr⟩:=h1.agg'
  obtain ⟨x0,x1,x2,rfl⟩:∃ x0 x1 x2,us=#[x0,x1,x2]:=by
   obtain ⟨l⟩:=us
   match l,hsz with
   | [a,b,c],_=>exact ⟨a,b,c,rfl⟩
  have e0:=(hr 0 _ x0 rfl rfl).int';have e1:=(hr 1 _ x1 rfl rfl).int';obtain ⟨A,c,e2,hA⟩:=sl_of (hr 2 _ x2 rfl rfl);subst e0;subst e1;subst e2
  refine (callsIn_wide.1 (toPlate_calls hb h0 hA)).mono ?_
  rintro e W' ⟨Bx,hBx,rfl,hrow,hB⟩
  have hN:=wh_le h0;refine ⟨_,rfl,hB,?_⟩;refine .tup _ _ rfl fun i a v' ga gv=>?_
  match i,ga,gv with
  | 0,ga,gv =>
   have ga:some (AV.agg (Ty.cells true (.pair (.int .i64) (.pair (.int .i64) (.list (.int .u8)))) (w,(h,tpL w h t (pixB w h ds)))))=some a:=ga;have gv:some (Value.agg #[.int .i64 w,.int .i64 h,.slice (some ⟨Bx,0,none⟩) (w*h).toNat (w*h).toNat])=some v':=gv;injection ga with ga
   injection gv with gv
   subst ga;subst gv
   have ec:Ty.cells true (.pair (.int .i64) (.pair (.int .i64) (.list (.int .u8)))) (w,(h,tpL w h t (pixB w h ds)))=[.int .i64 w,.int .i64 h,.ro true 1 ((tpL w h t (pixB w h ds)).map (Ty.cells true (.int .u8)))]:=by
    simp only [Ty.cells,Ty.size,List.cons_append,List.nil_append]
   rw [ec];refine .agg _ _ (by simp) fun t' a v ga gv=>?_
   match t',ga,gv with
   | 0,ga,gv=>simp at ga gv;subst ga;subst gv;exact rI _ _ _ _
   | 1,ga,gv=>simp at ga gv;subst ga;subst gv;exact rI _ _ _ _
   | 2,ga,gv=>simp at ga gv;subst ga;subst gv;exact tp_ro hrow hBx (Nat.le_trans hN (by decide)) rfl
   | t'+3,ga,gv=>simp at ga
  | 1,ga,gv =>
   have ga:some (AV.int .i64 0)=some a:=ga;have gv:some (Value.int .i64 0)=some v':=gv;injection ga with ga
   injection gv with gv
   subst ga;subst gv
   exact rI _ _ _ _
  | i+2,ga,gv=>simp at gv
 ·cases hy
end Go.Proofs.Ytnbmldnahacnlaa
/- Residual programs of functions (printed by a program out of the code),checked by the kernel,and the contracts that follow. -/
namespace Go.Proofs.Ytnbmldnahacnlaa
open Go Go.RowKit
set_option linter.unusedVariables false
noncomputable section
def R_PlateErr_j1 (fu:Nat) (a:(Int×Int×List Int)×Unit) (v0:Bool):Option (Int×Unit) :=
 bif v0 then
  some (((3:Int),()))
 else
 bif (decide ((List.length a.1.2.2:Int)≠(IntKind.i64.wrap (a.1.1*a.1.2.1)))) then
  some (((4:Int),()))
 else
 some (((0:Int),()))
def R_PlateErr_r (fu:Nat) (a:(Int×Int×List Int)×Unit):Option (Int×Unit) :=
 joinF (R_PlateErr_j1 fu a) fun j0 =>
 bindO (R_Within_r fu ((a.1.1,((1:Int),((1024:Int),()))))) fun v1 =>
 bif (!v1.1) then
  j0 (true)
 else
 bindO (R_Within_r fu ((a.1.2.1,((1:Int),((1024:Int),()))))) fun v2 =>
 j0 ((!v2.1))
def R_PlateErr_an:An:=(.n none .z (.n none (.n (some ⟨[1],[0],[],[.reg 12 .bool],0,[]⟩) .z (.n none (.n none .z .z) .z)) (.n none (.n none .z (.n none (.n none .z .z) .z)) (.n none .z .z))))
noncomputable def R_PlateErr_dc:List (Nat×Ctr):=[(17,R_Within_ctr)]
def R_PlateErr_ctr:Ctr:=⟨(.pair (.agg (.pair (.int .i64) (.pair (.int .i64) (.list (.int .u8))))) .unit),(.pair (.int .i64) .unit),R_PlateErr_r,46⟩
theorem R_PlateErr_ok:CtrOk Try.prog 46 R_PlateErr_ctr:=ctr_ok (l:=R_PlateErr_dc) (f:=12) (an:=R_PlateErr_an) ⟨R_Within_ok,trivial⟩ fun fu x=>by kernel_rfl
def bitmap_FromPlate_1_r (fu:Nat) (a:Int×Int×(Int×Int×List Int)×Int×Unit):Option (Bool×Unit) :=
 bif ((decide ((0:Int)≤(IntKind.i64.wrap ((IntKind.i64.wrap (a.2.1*a.2.2.1.1))+a.1))))&&(decide ((IntKind.i64.wrap ((IntKind.i64.wrap (a.2.1*a.2.2.1.1))+a.1))<(List.length a.2.2.1.2.2:Int)))) then
 let v0:Int:=(List.getD a.2.2.1.2.2 (Int.toNat (IntKind.i64.wrap ((IntKind.i64.wrap (a.2.1*a.2.2.1.1))+a.1))) 0)
 let v1:Bool:=(decide (a.2.2.2.1≤(IntKind.i64.wrap v0)))
 some ((v1,()))
 else none
def bitmap_FromPlate_1_an:An:=(.n none .z (.n none (.dr [] []) .z))
noncomputable def bitmap_FromPlate_1_dc:List (Nat×Ctr):=[]
def bitmap_FromPlate_1_ctr:Ctr:=⟨(.pair (.int .i64) (.pair (.int .i64) (.pair (.ptr (.pair (.int .i64) (.pair (.int .i64) (.list (.int .u8))))) (.pair (.ptr (.int .i64)) .unit)))),(.pair .bool .unit),bitmap_FromPlate_1_r,75⟩
theorem bitmap_FromPlate_1_ok:CtrOk Try.prog 75 bitmap_FromPlate_1_ctr:=ctr_ok (l:=bitmap_FromPlate_1_dc) (f:=12) (an:=bitmap_FromPlate_1_an) trivial fun fu x=>by kernel_rfl
def devicelink_CheckPlate_j1 (fu:Nat) (a:(Int×Int×List Int)×Unit) (v0:Bool):Option (Int×Unit) :=
 bif v0 then
  some (((3:Int),()))
 else
 bif (decide ((List.length a.1.2.2:Int)≠(IntKind.i64.wrap (a.1.1*a.1.2.1)))) then
  some (((4:Int),()))
 else
 some (((0:Int),()))
def devicelink_CheckPlate_r (fu:Nat) (a:(Int×Int×List Int)×Unit):Option (Int×Unit) :=
 joinF (devicelink_CheckPlate_j1 fu a) fun j0 =>
 bif (decide (a.1.1<(1:Int))) then
  j0 (true)
 else
 bif (decide ((1024:Int)<a.1.1)) then
  j0 (true)
 else
 bif (decide (a.1.2.1<(1:Int))) then
  j0 (true)
 else
 j0 ((decide ((1024:Int)<a.1.2.1)))
def devicelink_CheckPlate_an:An:=(.n none .z (.n none (.n (some ⟨[1],[0],[],[.reg 20 .bool],0,[]⟩) .z (.n none (.n none .z .z) .z)) (.n none (.n none .z (.n none (.n none .z .z) .z)) (.n none .z .z))))
noncomputable def devicelink_CheckPlate_dc:List (Nat×Ctr):=[]
def devicelink_CheckPlate_ctr:Ctr:=⟨(.pair (.agg (.pair (.int .i64) (.pair (.int .i64) (.list (.int .u8))))) .unit),(.pair (.int .i64) .unit),devicelink_CheckPlate_r,74⟩
theorem devicelink_CheckPlate_ok:CtrOk Try.prog 74 devicelink_CheckPlate_ctr:=ctr_ok (l:=devicelink_CheckPlate_dc) (f:=12) (an:=devicelink_CheckPlate_an) trivial fun fu x=>by kernel_rfl
def bitmap_FromPlate_j4 (fu:Nat) (j6:(Int×List Int)→Option ((Int×Int×List Int)×Int×Unit)) (v7:Int×List Int):Option ((Int×Int×List Int)×Int×Unit) :=
 j6 (((IntKind.i64.wrap (v7.1+(1:Int))),v7.2))
def bitmap_FromPlate_l3 (fu:Nat) (a:(Int×Int×List Int)×Int×Unit) (v4:Int×List Int) (v5:Int) (j4:(Int×List Int)→Option ((Int×Int×List Int)×Int×Unit)) (j6:(Int×List Int)→Option ((Int×Int×List Int)×Int×Unit)) (v6:Int×List Int):Option ((Int×Int×List Int)×Int×Unit) :=
 bif (decide (v6.1<a.1.1)) then
  joinF (bitmap_FromPlate_j4 fu j6) fun j7 =>
  let v8:Int:=v6.1
  bindO (bitmap_FromPlate_1_r fu ((v8,(v5,(a.1,(a.2.1,())))))) fun v9 =>
  bif v9.1 then
   bindO (bitmap_stride_r fu ((a.1.1,()))) fun v10 =>
   bif ((decide ((0:Int)≤(IntKind.i64.wrap ((IntKind.i64.wrap (v5*v10.1))+(IntKind.i64.wrap (Int.tdiv v8 (8:Int)))))))&&(decide ((IntKind.i64.wrap ((IntKind.i64.wrap (v5*v10.1))+(IntKind.i64.wrap (Int.tdiv v8 (8:Int)))))<(List.length v6.2:Int)))) then
   bif ((decide ((0:Int)≤(Int.tmod v8 (8:Int))))&&(decide ((Int.tmod v8 (8:Int))≤(8:Int)))) then
   bif ((decide ((0:Int)≤(IntKind.i64.wrap ((IntKind.i64.wrap (v5*v10.1))+(IntKind.i64.wrap (Int.tdiv v8 (8:Int)))))))&&(decide ((IntKind.i64.wrap ((IntKind.i64.wrap (v5*v10.1))+(IntKind.i64.wrap (Int.tdiv v8 (8:Int)))))<(List.length v6.2:Int)))) then
   j7 ((v6.1,(List.set v6.2 (Int.toNat (IntKind.i64.wrap ((IntKind.i64.wrap (v5*v10.1))+(IntKind.i64.wrap (Int.tdiv v8 (8:Int)))))) (bits BinOp.or IntKind.u8 (List.getD v6.2 (Int.toNat (IntKind.i64.wrap ((IntKind.i64.wrap (v5*v10.1))+(IntKind.i64.wrap (Int.tdiv v8 (8:Int)))))) 0) ((128:Int) / 2 ^ (Int.toNat (Int.tmod v8 (8:Int))))))))
   else none
   else none
   else none
  else
  j7 (v6)
 else
 j4 (((IntKind.i64.wrap (v4.1+(1:Int))),v6.2))
def bitmap_FromPlate_l2 (fu:Nat) (a:(Int×Int×List Int)×Int×Unit) (j4:(Int×List Int)→Option ((Int×Int×List Int)×Int×Unit)) (v4:Int×List Int):Option ((Int×Int×List Int)×Int×Unit) :=
 bif (decide (v4.1<a.1.2.1)) then
  let v5:Int:=v4.1
  loopF (bitmap_FromPlate_l3 fu a v4 v5 j4) fu (((0:Int),v4.2))
 else
 some (((a.1.1,(a.1.2.1,v4.2)),((0:Int),())))
def bitmap_FromPlate_j1 (fu:Nat) (a:(Int×Int×List Int)×Int×Unit) (v2:Bool):Option ((Int×Int×List Int)×Int×Unit) :=
 bif v2 then
  some ((((0:Int),((0:Int),([]:List (Int)))),((3:Int),())))
 else
 bindO (bitmap_stride_r fu ((a.1.1,()))) fun v3 =>
 bif ((decide ((0:Int)≤(IntKind.i64.wrap (v3.1*a.1.2.1))))&&(decide (((1:Int)*(IntKind.i64.wrap (v3.1*a.1.2.1)))≤(281474976710656:Int)))) then
 loopF (bitmap_FromPlate_l2 fu a) fu (((0:Int),(List.replicate (Int.toNat (IntKind.i64.wrap (v3.1*a.1.2.1))) (0:Int))))
 else none
def bitmap_FromPlate_r (fu:Nat) (a:(Int×Int×List Int)×Int×Unit):Option ((Int×Int×List Int)×Int×Unit) :=
 bindO (devicelink_CheckPlate_r fu ((a.1,()))) fun v0 =>
 let v1:Int:=v0.1
 bif (decide (v1≠(0:Int))) then
  some ((((0:Int),((0:Int),([]:List (Int)))),(v1,())))
 else
 joinF (bitmap_FromPlate_j1 fu a) fun j2 =>
 bif (decide (a.2.1<(1:Int))) then
  j2 (true)
 else
 j2 ((decide ((255:Int)<a.2.1)))
def bitmap_FromPlate_an:An:=(.n none .z (.n none (.n none .z (.n none .z (.n none (.n none .z .z) .z))) (.n none (.n (some ⟨[3,2,4],[0,1,2],[],[.reg 18 .bool],0,[]⟩) .z (.n none (.n none .z .z) .z)) (.n none (.ops [(5,(.n none (.n none .z (.n none (.ops [(2,(.n none (.n none .z (.n none .z .z)) .z))]) (.n none (.n none .z (.n none (.n (some ⟨[6,7,0,2,13],[2,0,1,3,6],[],[.reg 14 (.int .i64),.row 5 true (.int .u8) 5 0],0,[]⟩) (.n none .z (.n none .z (.n none (.n none (.n none .z (.n none .z (.n none (.n (some ⟨[14,8,17],[],[],[.reg 18 (.int .i64),.row 5 true (.int .u8) 5 0],0,[]⟩) (.n none .z (.n none .z (.n (some ⟨[],[],[],[.reg 18 (.int .i64),.row 5 true (.int .u8) 5 0],0,[]⟩) (.n none (.n none .z (.n none .z (.n none (.ops [(2,(.n none (.dr [] []) .z))]) .z))) .z) .z))) .z) .z))) .z) .z))) .z) .z)) (.n none .z .z)))) .z))]) .z))))
noncomputable def bitmap_FromPlate_dc:List (Nat×Ctr):=[(69,bitmap_stride_ctr),(74,devicelink_CheckPlate_ctr),(75,bitmap_FromPlate_1_ctr)]
def bitmap_FromPlate_ctr:Ctr:=⟨(.pair (.agg (.pair (.int .i64) (.pair (.int .i64) (.list (.int .u8))))) (.pair (.int .i64) .unit)),(.pair (.agg (.pair (.int .i64) (.pair (.int .i64) (.list (.int .u8))))) (.pair (.int .i64) .unit)),bitmap_FromPlate_r,45⟩
theorem bitmap_FromPlate_ok:CtrOk Try.prog 45 bitmap_FromPlate_ctr:=ctr_ok (l:=bitmap_FromPlate_dc) (f:=12) (an:=bitmap_FromPlate_an) ⟨bitmap_stride_ok,⟨devicelink_CheckPlate_ok,⟨bitmap_FromPlate_1_ok,trivial⟩⟩⟩ fun fu x=>by kernel_rfl
def law_BitmapPlates_j6 (fu:Nat) (v11:Int) (j11:(Int)→Option (Bool×Unit)) (v13:Bool):Option (Bool×Unit) :=
 bif v13 then
  some ((false,()))
 else
 j11 ((IntKind.i64.wrap (v11+(1:Int))))
def law_BitmapPlates_l5 (fu:Nat) (a:(Int×Int×List Int)×Int×Int×Unit) (v6:Int×List Bool) (v8:(Int×Int×List Int)×Int×Unit) (j11:(Int)→Option (Bool×Unit)) (v11:Int):Option (Bool×Unit) :=
 bif (decide (v11<(List.length v8.1.2.2:Int))) then
  bif ((decide ((0:Int)≤v11))&&(decide (v11<(List.length v8.1.2.2:Int)))) then
  let v12:Int:=(List.getD v8.1.2.2 (Int.toNat v11) 0)
  joinF (law_BitmapPlates_j6 fu v11 j11) fun j13 =>
  bif (decide (v12≠(0:Int))) then
   bif ((decide ((0:Int)≤v11))&&(decide (v11<(List.length v6.2:Int)))) then
   bif (!(List.getD v6.2 (Int.toNat v11) false)) then
    j13 (true)
   else
   bif (decide (v12≠a.2.2.1)) then
    bif ((decide ((0:Int)≤v11))&&(decide (v11<(List.length v6.2:Int)))) then
    j13 ((List.getD v6.2 (Int.toNat v11) false))
    else none
   else
   j13 (false)
   else none
  else
  bif (decide (v12≠a.2.2.1)) then
   bif ((decide ((0:Int)≤v11))&&(decide (v11<(List.length v6.2:Int)))) then
   j13 ((List.getD v6.2 (Int.toNat v11) false))
   else none
  else
  j13 (false)
  else none
 else
 some ((true,()))
def law_BitmapPlates_j4 (fu:Nat) (a:(Int×Int×List Int)×Int×Int×Unit) (v6:Int×List Bool) (v8:(Int×Int×List Int)×Int×Unit) (v10:Bool):Option (Bool×Unit) :=
 bif v10 then
  some ((false,()))
 else
 loopF (law_BitmapPlates_l5 fu a v6 v8) fu ((0:Int))
def law_BitmapPlates_j3 (fu:Nat) (a:(Int×Int×List Int)×Int×Int×Unit) (v1:(Int×Int×List Int)×Int×Unit) (v6:Int×List Bool) (v7:Bool):Option (Bool×Unit) :=
 bif v7 then
  some ((false,()))
 else
 bindO (bitmap_ToPlate_r fu ((v1.1,(a.2.2.1,())))) fun v8 =>
 let v9:Int:=v8.2.1
 joinF (law_BitmapPlates_j4 fu a v6 v8) fun j10 =>
 bif (decide (v9≠(0:Int))) then
  j10 (true)
 else
 bif (decide (v8.1.1≠a.1.1)) then
  j10 (true)
 else
 bif (decide (v8.1.2.1≠a.1.2.1)) then
  j10 (true)
 else
 j10 ((decide ((List.length v8.1.2.2:Int)≠(List.length a.1.2.2:Int))))
def law_BitmapPlates_l2 (fu:Nat) (a:(Int×Int×List Int)×Int×Int×Unit) (v1:(Int×Int×List Int)×Int×Unit) (v2:Int) (j6:(Int×List Bool)→Option (Bool×Unit)) (v6:Int×List Bool):Option (Bool×Unit) :=
 bif (decide (v6.1<(List.length a.1.2.2:Int))) then
  bif ((decide ((0:Int)≤v6.1))&&(decide (v6.1<(List.length a.1.2.2:Int)))) then
  let v7:Int:=(List.getD a.1.2.2 (Int.toNat v6.1) 0)
  let v8:Int:=v6.1
  bif ((decide ((0:Int)≤v8))&&(decide (v8<(List.length v6.2:Int)))) then
  j6 (((IntKind.i64.wrap (v6.1+(1:Int))),(List.set v6.2 (Int.toNat v8) (decide (a.2.1≤(IntKind.i64.wrap v7))))))
  else none
  else none
 else
 joinF (law_BitmapPlates_j3 fu a v1 v6) fun j7 =>
 bif (decide (v2≠(0:Int))) then
  j7 (true)
 else
 bindO (R_Drawn_r fu ((a.1.1,(a.1.2.1,(v6.2,()))))) fun v8 =>
 bindO (R_SameBits_r fu ((v1.1,(v8.1,())))) fun v9 =>
 j7 ((!v9.1))
def law_BitmapPlates_j1 (fu:Nat) (a:(Int×Int×List Int)×Int×Int×Unit) (v1:(Int×Int×List Int)×Int×Unit) (v2:Int) (v5:Int):Option (Bool×Unit) :=
 bif (decide (v5≠(0:Int))) then
  bindO (law_refused_r fu ((v1.1,(v2,(v5,()))))) fun v6 =>
  let v7:Bool:=v6.1
  some ((v7,()))
 else
 bif ((decide ((0:Int)≤(List.length a.1.2.2:Int)))&&(decide (((1:Int)*(List.length a.1.2.2:Int))≤(281474976710656:Int)))) then
 loopF (law_BitmapPlates_l2 fu a v1 v2) fu (((0:Int),(List.replicate (Int.toNat (List.length a.1.2.2:Int)) false)))
 else none
def law_BitmapPlates_j7 (fu:Nat) (j5:(Int)→Option (Bool×Unit)) (v6:Bool×Int):Option (Bool×Unit) :=
 bif v6.1 then
  j5 ((3:Int))
 else
 j5 (v6.2)
def law_BitmapPlates_r (fu:Nat) (a:(Int×Int×List Int)×Int×Int×Unit):Option (Bool×Unit) :=
 bindO (law_bitmapWorks_r fu (())) fun v0 =>
 bif (!v0.1) then
  some ((false,()))
 else
 bindO (bitmap_FromPlate_r fu ((a.1,(a.2.1,())))) fun v1 =>
 let v2:Int:=v1.2.1
 bindO (R_PlateErr_r fu ((a.1,()))) fun v3 =>
 let v4:Int:=v3.1
 joinF (law_BitmapPlates_j1 fu a v1 v2) fun j5 =>
 joinF (law_BitmapPlates_j7 fu j5) fun j6 =>
 bif (decide (v4=(0:Int))) then
  bindO (R_Within_r fu ((a.2.1,((1:Int),((255:Int),()))))) fun v7 =>
  j6 (((!v7.1),v4))
 else
 j6 ((false,v4))
def law_BitmapPlates_an:An:=(.n none .z (.n none (.n none .z (.n none (.n none .z .z) .z)) (.n none .z (.n none .z (.n (some ⟨[2,3,7,8,1],[0,1],[],[.reg 9 (.int .i64)],0,[]⟩) (.n (some ⟨[6],[],[],[.reg 33 .bool,.reg 9 (.int .i64)],0,[]⟩) .z (.n none .z .z)) (.n none (.n none .z (.n none (.n none .z .z) .z)) (.n none .z (.n none (.n none .z (.n none (.n (some ⟨[10,45,46],[],[],[.reg 47 (.int .i64),.row 2 true .bool 4 0],0,[]⟩) (.n none .z (.n none .z (.n none (.n none (.n none .z .z) .z) .z))) .z) .z)) (.n none (.n (some ⟨[10],[2],[],[.reg 72 .bool],0,[]⟩) (.dr [] []) (.n none (.n none .z .z) .z)) (.n none .z (.n none (.n (some ⟨[13,10],[2,3],[],[.reg 103 .bool],0,[]⟩) .z (.n none (.n none .z .z) .z)) (.n none (.n none .z (.n none (.n (some ⟨[105,10,106],[2,3],[],[.reg 107 (.int .i64)],0,[]⟩) (.n none .z (.n none .z (.n none (.n none (.n none .z (.n (some ⟨[107],[],[],[.reg 131 .bool],0,[]⟩) .z (.n none (.n none .z .z) .z))) .z) .z))) .z) .z)) (.n none .z .z)))))))))))))
noncomputable def law_BitmapPlates_dc:List (Nat×Ctr):=[(17,R_Within_ctr),(18,law_refused_ctr),(19,R_SameBits_ctr),(20,R_Drawn_ctr),(33,law_bitmapWorks_ctr),(45,bitmap_FromPlate_ctr),(46,R_PlateErr_ctr),(47,bitmap_ToPlate_ctr)]
def law_BitmapPlates_ctr:Ctr:=⟨(.pair (.agg (.pair (.int .i64) (.pair (.int .i64) (.list (.int .u8))))) (.pair (.int .i64) (.pair (.int .u8) .unit))),(.pair .bool .unit),law_BitmapPlates_r,10⟩
theorem law_BitmapPlates_ok:CtrOk Try.prog 10 law_BitmapPlates_ctr:=ctr_ok (l:=law_BitmapPlates_dc) (f:=12) (an:=law_BitmapPlates_an) ⟨R_Within_ok,⟨law_refused_ok,⟨R_SameBits_ok,⟨R_Drawn_ok,⟨law_bitmapWorks_ok,⟨bitmap_FromPlate_ok,⟨R_PlateErr_ok,⟨bitmap_ToPlate_ok,trivial⟩⟩⟩⟩⟩⟩⟩⟩ fun fu x=>by kernel_rfl
end
end Go.Proofs.Ytnbmldnahacnlaa
/- Pictures: what bitmap.Mark,R.Drawn,R.SameBits compute. -/
set_option maxRecDepth 100000
namespace Go.Proofs.Ytnbmldnahacnlaa
open Go Go.RowKit

section
variable {β:Type}
def markF (fu:Nat) (w y x:Int) (ds:List Int) (k:List Int→Option β):Option β :=
 bindO (bitmap_stride_r fu ((w,()))) fun v8 =>
 bif ((decide ((0:Int)≤(IntKind.i64.wrap ((IntKind.i64.wrap (y*v8.1))+(IntKind.i64.wrap (Int.tdiv x (8:Int)))))))&&(decide ((IntKind.i64.wrap ((IntKind.i64.wrap (y*v8.1))+(IntKind.i64.wrap (Int.tdiv x (8:Int)))))<(List.length ds:Int)))) then
 bif ((decide ((0:Int)≤(Int.tmod x (8:Int))))&&(decide ((Int.tmod x (8:Int))≤(8:Int)))) then
 bif ((decide ((0:Int)≤(IntKind.i64.wrap ((IntKind.i64.wrap (y*v8.1))+(IntKind.i64.wrap (Int.tdiv x (8:Int)))))))&&(decide ((IntKind.i64.wrap ((IntKind.i64.wrap (y*v8.1))+(IntKind.i64.wrap (Int.tdiv x (8:Int)))))<(List.length ds:Int)))) then
 k ((List.set ds (Int.toNat (IntKind.i64.wrap ((IntKind.i64.wrap (y*v8.1))+(IntKind.i64.wrap (Int.tdiv x (8:Int)))))) (bits BinOp.or IntKind.u8 (List.getD ds (Int.toNat (IntKind.i64.wrap ((IntKind.i64.wrap (y*v8.1))+(IntKind.i64.wrap (Int.tdiv x (8:Int)))))) 0) ((128:Int) / 2 ^ (Int.toNat (Int.tmod x (8:Int)))))))
 else none
 else none
 else none
theorem markF_eq (fu:Nat) {w h x y:Int} {P:Int→Int→Bool} {k:List Int→Option β} (hx0:0≤x) (hx1:x<w) (hw1:w≤1024) (hy0:0≤y) (hy1:y<h) (hh1:h≤1024) :
  markF fu w y x (canon w h P) k=k (canon w h (fun a b=>P a b||(decide (a=x)&&decide (b=y)))):=by
 obtain ⟨g0,g1,g2⟩:=idx_bd hx0 hx1 hw1 hy0 hy1 hh1;have hl:=canon_len (w:=w) (h:=h) (by omega) (by omega) P;unfold markF;rw [stride_r fu (by omega) (by omega),bindO_some];simp only;rw [Int.tdiv_eq_ediv_of_nonneg hx0,Int.tmod_eq_emod_of_nonneg hx0,wr64 (x:=x / 8) (by omega) (by omega),wr64 (x:=y*strd w) (by omega) (by omega),wr64 (x:=y*strd w+x / 8) (by omega) (by omega)];rw [bif_and (by omega) (by omega),bif_and (by omega) (by omega),bif_and (by omega) (by omega),canon_set hx0 hx1 hy0 hy1]
variable {fu:Nat} (hf:18446744073709551616≤fu) {w h:Int}
include hf
theorem drawn_r {on:List Bool} (hw0:0<w) (hw1:w≤1024) (hh0:0<h) (hh1:h≤1024) (hl:(on.length:Int)=w*h) :
  R_Drawn_r fu (w,(h,(on,())))=some ((w,(h,canon w h (fun x y=>on.getD (y*w+x).toNat false))),()):=by
 obtain ⟨b1,b2,b3,b4⟩:=strd_bd (w:=w) (h:=h) (by omega) hw1 (by omega) hh1
 have hwh:w*h≤1048576:=by
  have:=Int.mul_le_mul hw1 hh1 (by omega:0≤h) (by omega:(0:Int)≤1024);omega
 unfold R_Drawn_r;simp only
 have e1:IntKind.i64.wrap (Int.tdiv (IntKind.i64.wrap (w+7)) 8)=strd w:=by
  rw [wr64 (x:=w+7) (by omega) (by omega),Int.tdiv_eq_ediv_of_nonneg (by omega),wr64 (x:=(w+7) / 8) (by omega) (by omega)];rfl
 rw [e1,wr64 (x:=strd w*h) (by omega) (by omega),bif_and (by omega) (by omega),←canon_zero w h (P:=fun _ _=>false) (fun _ _=>rfl)];refine loopF_spec (fun v=>(w*h-v.1).toNat) (fun v=>0≤v.1∧v.1≤w*h∧v.2=canon w h (fun x y=>on.getD (y*w+x).toNat false&&decide (y*w+x<v.1))) (fun _=>some ((w,(h,canon w h (fun x y=>on.getD (y*w+x).toNat false))),())) ?_ fu (0,_) ⟨by omega,by simp only;omega,?_⟩ (by simp only;omega)
 ·rintro j ⟨i,ds⟩ ⟨h0,h1,hd⟩ ih
  simp only at h0 h1 hd;unfold R_Drawn_l1 R_Drawn_j2;simp only [joinF_eq];by_cases hi:i<w*h
  ·rw [bif_pos (by omega),bif_and (by omega) (by omega),wr64 (x:=i+1) (by omega) (by omega)];have hx0:0≤i % w:=Int.emod_nonneg _ (by omega);have hx1:i % w<w:=Int.emod_lt_of_pos _ hw0;have hy0:0≤i / w:=Int.ediv_nonneg h0 (by omega);have hy1:i / w<h:=Int.ediv_lt_of_lt_mul hw0 (by rw [Int.mul_comm];exact hi);have hmd:=mul_div_mod i w
   cases hF:on.getD i.toNat false with
   | true =>
    simp only [cond_true];obtain ⟨g0,g1,g2⟩:=idx_bd hx0 hx1 hw1 hy0 hy1 hh1;have hcl:=canon_len (w:=w) (h:=h) (by omega) (by omega) (fun x y=>on.getD (y*w+x).toNat false&&decide (y*w+x<i));have hwn:w≠0:=by omega
    rw [Int.tdiv_eq_ediv_of_nonneg h0,Int.tmod_eq_emod_of_nonneg h0,Int.tdiv_eq_ediv_of_nonneg hx0,Int.tmod_eq_emod_of_nonneg hx0,wr64 (x:=i / w) (by omega) (by omega),wr64 (x:=i / w*strd w) (by omega) (by omega),wr64 (x:=i % w / 8) (by omega) (by omega),wr64 (x:=i / w*strd w+i % w / 8) (by omega) (by omega)];rw [hd,bif_pos hwn,bif_pos hwn,bif_and (by omega) (by omega),bif_pos hwn,bif_and (by omega) (by omega),bif_and (by omega) (by omega),canon_set hx0 hx1 hy0 hy1];refine ih (i+1,_) ⟨by simp only;omega,by simp only;omega,?_⟩ (by simp only;omega);simp only;refine canon_congr hw0 fun a b ha ha1 _ _=>?_
    by_cases e:a=i % w∧b=i / w
    ·obtain ⟨rfl,rfl⟩:=e;rw [hmd,hF];simp;omega
    ·have e2:(decide (a=i % w)&&decide (b=i / w))=false:=by
      rw [←Bool.not_eq_true,Bool.and_eq_true];simpa using e
     have e3:¬ b*w+a=i:=by
      intro q;have:=div_of (a:=b) ha ha1;rw [q] at this;exact e ⟨this.2.symm,this.1.symm⟩
     have g2:decide (b*w+a<i)=decide (b*w+a<i+1):=by
      by_cases q:b*w+a<i
      ·rw [decide_eq_true q,decide_eq_true (by omega)]
      ·rw [decide_eq_false q,decide_eq_false (by omega)]
     rw [e2,Bool.or_false,g2]
   | false =>
    simp only [cond_false];refine ih (i+1,ds) ⟨by simp only;omega,by simp only;omega,?_⟩ (by simp only;omega);simp only;rw [hd];refine canon_congr hw0 fun a b ha ha1 _ _=>?_
    by_cases q:b*w+a=i
    ·rw [q,hF];rfl
    ·have g2:decide (b*w+a<i)=decide (b*w+a<i+1):=by
      by_cases q:b*w+a<i
      ·rw [decide_eq_true q,decide_eq_true (by omega)]
      ·rw [decide_eq_false q,decide_eq_false (by omega)]
     rw [g2]
  ·rw [bif_neg (by omega),hd];congr 4;refine canon_congr hw0 fun a b ha ha1 hb hb1=>?_
   have:b*w≤(h-1)*w:=Int.mul_le_mul_of_nonneg_right (by omega) (by omega);have e2:(h-1)*w=w*h-w:=by rw [Int.sub_mul,Int.one_mul,Int.mul_comm]
   rw [decide_eq_true (show b*w+a<i by omega),Bool.and_true]
 ·refine canon_congr hw0 fun a b ha _ hb _=>?_
  have:=Int.mul_nonneg hb (by omega:0≤w);rw [decide_eq_false (show ¬ b*w+a<0 by omega),Bool.and_false]
end
theorem same_r (fu:Nat) (w h:Int) (ds:List Int):R_SameBits_r fu ((w,(h,ds)),((w,(h,ds)),()))=some (true,()):=by
 unfold R_SameBits_r R_SameBytes_r;simp [bindO_some]
theorem refused_r (fu:Nat) (e:Int):law_refused_r fu ((0,(0,[])),(e,(e,())))=some (true,()):=by
 unfold law_refused_r R_NoBits_r;simp [bindO_some]
theorem drawn_on {fu:Nat} (hf:18446744073709551616≤fu) {w h:Int} {F:Int→Int→Bool} (hw0:0<w) (hw1:w≤1024) (hh0:0<h) (hh1:h≤1024) :
  R_Drawn_r fu (w,(h,(onL (w*h).toNat (fun i=>F (i % w) (i / w)),())))=some ((w,(h,canon w h F)),()):=by
 have hwh:0<w*h:=Int.mul_pos hw0 hh0;rw [drawn_r hf hw0 hw1 hh0 hh1 (by rw [onL_length];omega)];congr 4;refine canon_congr hw0 fun x y hx hx1 hy hy1=>?_
 have h1:=Int.mul_nonneg hy (by omega:0≤w);have h2:y*w≤(h-1)*w:=Int.mul_le_mul_of_nonneg_right (by omega) (by omega);have e2:(h-1)*w=w*h-w:=by rw [Int.sub_mul,Int.one_mul,Int.mul_comm]
 rw [onL_getD (by omega) (by omega),(div_of hx hx1).1,(div_of hx hx1).2]
end Go.Proofs.Ytnbmldnahacnlaa
/- BitmapPlates: plates and bitmaps. -/
set_option maxRecDepth 100000
namespace Go.Proofs.Ytnbmldnahacnlaa
open Go Go.RowKit
set_option linter.unusedSimpArgs false
set_option linter.unusedSectionVars false
set_option linter.unusedVariables false
namespace Bp
theorem stLoop {X β:Type} {f:(X→Option β)→X→Option β} {n fu:Nat} (hn:n<fu) {st:Nat→X} {x0:X} {fin:Option β} (h0:st 0=x0)
  (step:∀ j (i:Nat),i<n→f j (st i)=j (st (i+1))) (last:∀ j,f j (st n)=fin):loopF f fu x0=fin:=by
 have key:=errGen (f:=f) (n:=n) (st:=st) (E:=fun _=>0) (out:=fun _=>none) (fin:=fin) (fun j i hi _=>by rw [if_pos rfl];exact step j i hi) (fun _=>last) fu 0 (by omega) (by omega) (by omega);rw [if_pos (firstE_all _ _ fun _ _ _=>rfl),h0] at key;exact key
theorem canon_valid {w h:Int} (hw0:1≤w) (hw1:w≤1024) (hh0:1≤h) (hh1:h≤1024) (P:Int→Int→Bool):bitsE w h (canon w h P)=0:=by
 have hs:=strd_N (w:=w) (by omega);have hsp:0<strd w:=by unfold strd;omega
 have hl:(canon w h P).length=strideN w.toNat*h.toNat:=by
  rw [canon_length,Int.toNat_mul (by omega) (by omega),hs,Int.toNat_natCast]
 unfold bitsE;rw [if_pos ⟨hw0,hw1,hh0,hh1⟩,if_pos hl,if_pos];refine List.all_eq_true.2 fun y hy=>?_
 have hy:=List.mem_range.1 hy;have hsn:0<strideN w.toNat:=by unfold strideN;omega
 have hlt:y*strideN w.toNat+strideN w.toNat-1<(strd w*h).toNat:=by
  rw [Int.toNat_mul (by omega) (by omega),hs,Int.toNat_natCast];have h1:(y+1)*strideN w.toNat≤h.toNat*strideN w.toNat:=Nat.mul_le_mul_right _ hy;rw [Nat.add_mul,Nat.one_mul,Nat.mul_comm h.toNat] at h1;omega
 rw [canon_getD hlt];have hu:8*strideN w.toNat-w.toNat<8:=by unfold strideN;omega
 have e:((y*strideN w.toNat+strideN w.toNat-1:Nat):Int)=(y:Int)*strd w+(strd w-1):=by
  rw [Int.natCast_sub (by omega),Int.natCast_add,Int.natCast_mul,hs];omega
 rw [e];unfold cbyte;rw [(div_of (a:=(y:Int)) (b:=strd w-1) (s:=strd w) (by omega) (by omega)).1,(div_of (a:=(y:Int)) (b:=strd w-1) (s:=strd w) (by omega) (by omega)).2];refine (low_bits (byteOf_bd _).1 (byteOf_bd _).2 hu).2 fun k hk hk2=>?_
 rw [byteOf_bit _ hk,decide_eq_false (by rw [hs];omega),Bool.false_and]
theorem onL_set {n:Nat} {G:Int→Bool} {k:Int} (h0:0≤k) (h1:k<n):(onL n (fun i=>G i&&decide (i<k))).set k.toNat (G k)=onL n (fun i=>G i&&decide (i<k+1)):=by
 refine List.ext_getElem (by rw [List.length_set,onL_length,onL_length]) fun q g1 g2=>?_
 rw [List.getElem_set];have hq:q<n:=by rw [onL_length] at g2;exact g2
 have get:∀ (G':Int→Bool) (hh:q<(onL n G').length),(onL n G')[q]=G' q:=by
  intro G' hh;simp only [onL,List.getElem_map,List.getElem_range]
 rw [get,get];split
 ·rename_i e;subst e;rw [Int.toNat_of_nonneg h0,decide_eq_true (by omega),Bool.and_true]
 ·by_cases g:(q:Int)<k
  ·rw [decide_eq_true g,decide_eq_true (by omega)]
  ·rw [decide_eq_false g,decide_eq_false (by omega)]
theorem onL_none {n:Nat} {G:Int→Bool} (h:∀ i,0≤i→G i=false):onL n G=List.replicate n false:=by
 refine List.ext_getElem (by rw [onL_length,List.length_replicate]) fun q g1 g2=>?_
 simp only [onL,List.getElem_map,List.getElem_range,List.getElem_replicate];exact h _ (by omega)
theorem onL_congr {n:Nat} {G G':Int→Bool} (h:∀ i:Int,0≤i→i<(n:Int)→G i=G' i):onL n G=onL n G':=List.map_congr_left fun i hi=>h i (by omega) (by have:=List.mem_range.1 hi;omega)
def upto (P:Int→Int→Bool) (y x:Int) (a b:Int):Bool:=(decide (b<y)||(decide (b=y)&&decide (a<x)))&&P a b
theorem upto_add {P:Int→Int→Bool} {x y:Int} (h:P x y=true):(fun a b=>upto P y x a b||(decide (a=x)&&decide (b=y)))=upto P y (x+1):=by
 funext a b
 unfold upto;by_cases e:a=x∧b=y
 ·obtain ⟨rfl,rfl⟩:=e;simp [h];omega
 ·have e2:(decide (a=x)&&decide (b=y))=false:=by rw [←Bool.not_eq_true,Bool.and_eq_true];simpa using e
  rw [e2,Bool.or_false];congr 2;by_cases eb:b=y
  ·have:a≠x:=fun q=>e ⟨q,eb⟩
   congr 1;exact decide_eq_decide.2 (by omega)
  ·rw [decide_eq_false eb];rfl
theorem upto_skip {P:Int→Int→Bool} {x y:Int} (h:P x y=false):upto P y x=upto P y (x+1):=by
 funext a b
 unfold upto;by_cases e:a=x∧b=y
 ·obtain ⟨rfl,rfl⟩:=e;rw [h,Bool.and_false,Bool.and_false]
 ·congr 2;by_cases eb:b=y
  ·have:a≠x:=fun q=>e ⟨q,eb⟩
   congr 1;exact decide_eq_decide.2 (by omega)
  ·rw [decide_eq_false eb];rfl

def plE (w h:Int) (n:Nat):Int:=if 1≤w∧w≤1024∧1≤h∧h≤1024 then (if (n:Int)=w*h then 0 else 4) else 3
theorem plE_ok {w h:Int} {n:Nat} (h0:plE w h n=0):(1≤w∧w≤1024∧1≤h∧h≤1024)∧(n:Int)=w*h∧1≤w*h∧w*h≤1048576:=by
 unfold plE at h0;by_cases c:1≤w∧w≤1024∧1≤h∧h≤1024
 ·rw [if_pos c] at h0;by_cases c2:(n:Int)=w*h
  ·have:=Int.mul_le_mul c.2.1 c.2.2.2 (by omega) (by omega:(0:Int)≤1024);have:=Int.mul_le_mul c.1 c.2.2.1 (by omega) (by omega:(0:Int)≤w);exact ⟨c,c2,by omega,by omega⟩
  ·rw [if_neg c2] at h0;omega
 ·rw [if_neg c] at h0;omega
theorem mulb {w h:Int} (c:1≤w∧w≤1024∧1≤h∧h≤1024):1≤w*h∧w*h≤1048576:=by
 have:=Int.mul_le_mul c.2.1 c.2.2.2 (by omega) (by omega:(0:Int)≤1024);have:=Int.mul_le_mul c.1 c.2.2.1 (by omega) (by omega:(0:Int)≤w);omega
theorem perr_r (fu:Nat) (w h:Int) (pix:List Int):R_PlateErr_r fu ((w,(h,pix)),())=some (plE w h pix.length,()):=by
 unfold R_PlateErr_r R_PlateErr_j1 plE;simp only [joinF_eq];rw [within_r,bindO_some,within_r,bindO_some];by_cases c:1≤w∧w≤1024
 ·simp only [decide_eq_true c.1,decide_eq_true c.2,Bool.and_self,Bool.not_true,cond_false];by_cases c2:1≤h∧h≤1024
  ·have:=mulb ⟨c.1,c.2,c2.1,c2.2⟩;rw [decide_eq_true c2.1,decide_eq_true c2.2,Bool.and_self,Bool.not_true,cond_false,if_pos ⟨c.1,c.2,c2.1,c2.2⟩,wr64 (x:=w*h) (by omega) (by omega)];by_cases c3:(pix.length:Int)=w*h
   ·rw [bif_neg (by omega),if_pos c3]
   ·rw [bif_pos c3,if_neg c3]
  ·rw [show (decide (1≤h)&&decide (h≤1024))=false by rw [←Bool.not_eq_true,Bool.and_eq_true,decide_eq_true_eq,decide_eq_true_eq];exact c2,Bool.not_false,cond_true,if_neg fun q=>c2 ⟨q.2.2.1,q.2.2.2⟩]
 ·simp only [show (decide (1≤w)&&decide (w≤1024))=false by rw [←Bool.not_eq_true,Bool.and_eq_true,decide_eq_true_eq,decide_eq_true_eq];exact c,Bool.not_false,cond_true];rw [if_neg fun q=>c ⟨q.1,q.2.1⟩]
theorem pchk_r (fu:Nat) (w h:Int) (pix:List Int):devicelink_CheckPlate_r fu ((w,(h,pix)),())=some (plE w h pix.length,()):=by
 unfold devicelink_CheckPlate_r devicelink_CheckPlate_j1 plE;simp only [joinF_eq];by_cases c:1≤w∧w≤1024∧1≤h∧h≤1024
 ·have:=mulb c;rw [bif_neg (by omega),bif_neg (by omega),bif_neg (by omega),decide_eq_false (show ¬ 1024<h by omega),cond_false,if_pos c,wr64 (x:=w*h) (by omega) (by omega)];by_cases c3:(pix.length:Int)=w*h
  ·rw [bif_neg (by omega),if_pos c3]
  ·rw [bif_pos c3,if_neg c3]
 ·rw [if_neg c];by_cases a1:w<1
  ·rw [bif_pos a1];rfl
  ·rw [bif_neg a1];by_cases a2:1024<w
   ·rw [bif_pos a2];rfl
   ·rw [bif_neg a2];by_cases a3:h<1
    ·rw [bif_pos a3];rfl
    ·rw [bif_neg a3,decide_eq_true (show 1024<h by omega)];rfl
def onG (t:Int) (pix:List Int) (i:Int):Bool:=decide (t≤pix.getD i.toNat 0)
def onP (w t:Int) (pix:List Int) (x y:Int):Bool:=onG t pix (y*w+x)
section
variable {fu:Nat} (hf:18446744073709551616≤fu) {w h t:Int} {pix:List Int} (hp:∀ v ∈ pix,0≤v∧v≤255) (c:1≤w∧w≤1024∧1≤h∧h≤1024) (hl:(pix.length:Int)=w*h)
include hf hp c hl
theorem from1 {x y:Int} (hx0:0≤x) (hx:x<w) (hy0:0≤y) (hy:y<h):bitmap_FromPlate_1_r fu (x,(y,((w,(h,pix)),(t,()))))=some (onP w t pix x y,()):=by
 have hm:=mulb c;have h1:y*w≤(h-1)*w:=Int.mul_le_mul_of_nonneg_right (by omega) (by omega);have e2:(h-1)*w=w*h-w:=by rw [Int.sub_mul,Int.one_mul,Int.mul_comm]
 have h3:=Int.mul_nonneg hy0 (by omega:0≤w);have hv:=Bytes.at (ds:=pix) hp (y*w+x).toNat;unfold bitmap_FromPlate_1_r onP onG;simp only;rw [wr64 (x:=y*w) (by omega) (by omega),wr64 (x:=y*w+x) (by omega) (by omega),bif_and (by omega) (by omega),wr64 (x:=pix.getD (y*w+x).toNat 0) (by omega) (by omega)]
theorem from_row {y:Nat} (hy:(y:Int)<h) {v4:Int×List Int} (e4:v4.1=y) (j4:(Int×List Int)→Option ((Int×Int×List Int)×Int×Unit)) :
  loopF (bitmap_FromPlate_l3 fu ((w,(h,pix)),(t,())) v4 y j4) fu ((0:Int),canon w h (upto (onP w t pix) y 0))=j4 (((y+1:Nat):Int),canon w h (upto (onP w t pix) ((y+1:Nat):Int) 0)):=by
 refine stLoop (n:=w.toNat) (st:=fun x=>((x:Int),canon w h (upto (onP w t pix) y x))) (by omega) rfl (fun j x hx=>?_) (fun j=>?_)
 ·unfold bitmap_FromPlate_l3 bitmap_FromPlate_j4;simp only [joinF_eq];rw [bif_pos (by omega),from1 hf hp c hl (by omega) (by omega) (by omega) (by omega),bindO_some];simp only
  cases hq:onP w t pix x y with
  | true =>
   rw [cond_true];have m:=markF_eq fu (w:=w) (h:=h) (x:=x) (y:=y) (P:=upto (onP w t pix) y x) (k:=fun ds=>j (IntKind.i64.wrap ((x:Int)+1),ds)) (by omega) (by omega) (by omega) (by omega) (by omega) (by omega);rw [upto_add hq,wr64 (x:=(x:Int)+1) (by omega) (by omega)] at m;rw [wr64 (x:=(x:Int)+1) (by omega) (by omega)];exact m
  | false =>
   rw [cond_false,wr64 (x:=(x:Int)+1) (by omega) (by omega),upto_skip hq];rfl
 ·unfold bitmap_FromPlate_l3;simp only [joinF_eq];rw [bif_neg (by omega),e4,wr64 (x:=(y:Int)+1) (by omega) (by omega)];refine congrArg j4 ?_;rw [show ((y+1:Nat):Int)=(y:Int)+1 by omega];refine congrArg (fun l=>((y:Int)+1,l)) ?_;refine canon_congr (by omega) fun a b h1 h2 h3 h4=>?_
  unfold upto;congr 1;by_cases q:b<y
  ·rw [decide_eq_true q,decide_eq_true (show b<(y:Int)+1 by omega),Bool.true_or,Bool.true_or]
  ·by_cases q2:b=y
   ·rw [decide_eq_true q2,decide_eq_true (show b<(y:Int)+1 by omega),decide_eq_true (show a<(w.toNat:Int) by omega),Bool.true_or,Bool.true_and,Bool.or_true]
   ·rw [decide_eq_false q,decide_eq_false q2,decide_eq_false (show ¬ b<(y:Int)+1 by omega),decide_eq_false (show ¬ a<0 by omega),Bool.and_false,Bool.false_and]
theorem from_all:loopF (bitmap_FromPlate_l2 fu ((w,(h,pix)),(t,()))) fu ((0:Int),List.replicate (strd w*h).toNat (0:Int))=some ((w,(h,canon w h (onP w t pix))),(0,())):=by
 refine stLoop (n:=h.toNat) (st:=fun y=>((y:Int),canon w h (upto (onP w t pix) y 0))) (by omega) ?_ (fun j y hy=>?_) (fun j=>?_)
 ·refine congrArg (fun l=>((0:Int),l)) ?_;rw [canon_congr (Q:=fun _ _=>false) (by omega) fun a b h1 h2 h3 h4=>?_]
  ·exact canon_zero w h fun _ _=>rfl
  ·unfold upto;rw [decide_eq_false (show ¬ b<((0:Nat):Int) by omega),decide_eq_false (show ¬ a<0 by omega),Bool.and_false];rfl
 ·unfold bitmap_FromPlate_l2;simp only;rw [bif_pos (by omega)];exact from_row hf hp c hl (by omega) (by rfl) j
 ·unfold bitmap_FromPlate_l2;simp only;rw [bif_neg (by omega)];refine congrArg (fun l=>some ((w,(h,l)),((0:Int),()))) ?_;refine canon_congr (by omega) fun a b h1 h2 h3 h4=>?_
  unfold upto;rw [decide_eq_true (show b<(h.toNat:Int) by omega)];rfl
theorem from_ok (ht1:1≤t) (ht2:t≤255):bitmap_FromPlate_r fu ((w,(h,pix)),(t,()))=some ((w,(h,canon w h (onP w t pix))),(0,())):=by
 have hs:=strd_bd (w:=w) (h:=h) (by omega) (by omega) (by omega) (by omega);unfold bitmap_FromPlate_r bitmap_FromPlate_j1;simp only [joinF_eq];rw [pchk_r,bindO_some];simp only;rw [show plE w h pix.length=0 by unfold plE;rw [if_pos c,if_pos hl],bif_neg (by omega),bif_neg (by omega),decide_eq_false (show ¬ 255<t by omega),cond_false,stride_r fu (by omega) (by omega),bindO_some];simp only;rw [wr64 (x:=strd w*h) (by omega) (by omega),bif_and (by omega) (by omega)];exact from_all hf hp c hl
end
theorem from_bad (fu:Nat) {w h t:Int} {pix:List Int} (hb:plE w h pix.length≠0):bitmap_FromPlate_r fu ((w,(h,pix)),(t,()))=some ((0,(0,[])),(plE w h pix.length,())):=by
 unfold bitmap_FromPlate_r bitmap_FromPlate_j1;simp only [joinF_eq];rw [pchk_r,bindO_some];simp only;rw [bif_pos hb]
theorem from_range (fu:Nat) {w h t:Int} {pix:List Int} (hb:plE w h pix.length=0) (ht:¬ (1≤t∧t≤255)):bitmap_FromPlate_r fu ((w,(h,pix)),(t,()))=some ((0,(0,[])),(3,())):=by
 unfold bitmap_FromPlate_r bitmap_FromPlate_j1;simp only [joinF_eq];rw [pchk_r,bindO_some];simp only;rw [hb,bif_neg (by omega)];by_cases c1:t<1
 ·rw [bif_pos c1];rfl
 ·rw [bif_neg c1,decide_eq_true (show 255<t by omega)];rfl
end Bp
end Go.Proofs.Ytnbmldnahacnlaa
/- BitmapPlates: the law in plain words. -/
set_option maxRecDepth 100000
namespace Go.Proofs.Ytnbmldnahacnlaa
open Go Go.RowKit
set_option linter.unusedSimpArgs false
set_option linter.unusedSectionVars false
set_option linter.unusedVariables false
namespace Bp
theorem tpL_len (w h t:Int) (P:Int→Int→Bool):(tpL w h t P).length=(w*h).toNat:=by unfold tpL;rw [List.length_map,List.length_range]
theorem tpL_getD {w h t:Int} {P:Int→Int→Bool} {i:Nat} (hi:i<(w*h).toNat):(tpL w h t P).getD i 0=bif P ((i:Int) % w) ((i:Int) / w) then t else 0:=by
 rw [List.getD_eq_getElem?_getD,List.getElem?_eq_getElem (by rw [tpL_len];exact hi),Option.getD_some];simp only [tpL,List.getElem_map,List.getElem_range]
section
variable {fu:Nat} (hf:18446744073709551616≤fu) {w h t tone:Int} {pix:List Int} (hp:∀ v ∈ pix,0≤v∧v≤255) (c:1≤w∧w≤1024∧1≤h∧h≤1024) (hl:(pix.length:Int)=w*h)
include hf hp c hl
theorem last_l {q:(Int×Int×List Int)×Int×Unit} (hq:q.1.2.2=tpL w h tone (pixB w h (canon w h (onP w t pix)))) {k:Int} :
  loopF (law_BitmapPlates_l5 fu ((w,(h,pix)),(t,(tone,()))) (k,onL pix.length (onG t pix)) q) fu (0:Int)=some (true,()):=by
 have hm:=mulb c;have hlen:(tpL w h tone (pixB w h (canon w h (onP w t pix)))).length=pix.length:=by rw [tpL_len];omega
 refine stLoop (n:=pix.length) (st:=fun i=>(i:Int)) (by omega) rfl (fun j i hi=>?_) (fun j=>?_)
 ·unfold law_BitmapPlates_l5 law_BitmapPlates_j6;simp only [joinF_eq];have hw0:(0:Int)<w:=by omega
  have hx0:0≤(i:Int) % w:=Int.emod_nonneg _ (by omega);have hx1:(i:Int) % w<w:=Int.emod_lt_of_pos _ hw0;have hy0:0≤(i:Int) / w:=Int.ediv_nonneg (by omega) (by omega);have hy1:(i:Int) / w<h:=Int.ediv_lt_of_lt_mul hw0 (by rw [Int.mul_comm];omega)
  have hg:(tpL w h tone (pixB w h (canon w h (onP w t pix)))).getD i 0=bif onG t pix i then tone else 0:=by
   rw [tpL_getD (by omega),canon_pix (by omega),decide_eq_true (show 0≤(i:Int) % w∧(i:Int) % w<w∧0≤(i:Int) / w∧(i:Int) / w<h from ⟨hx0,hx1,hy0,hy1⟩),Bool.true_and];unfold onP;rw [mul_div_mod]
  have ho:(onL pix.length (onG t pix)).getD i false=onG t pix i:=by
   have:=onL_getD (n:=pix.length) (G:=onG t pix) (i:=i) (by omega) (by omega);rwa [Int.toNat_natCast] at this
  rw [hq,hlen,bif_pos (by omega),bif_and (by omega) (by omega),Int.toNat_natCast,hg,ho,onL_length]
  cases hG:onG t pix i with
  | true =>
   simp only [cond_true,Bool.not_true,cond_false];rw [decide_eq_false (show ¬ tone≠tone by simp),cond_false];by_cases z:tone≠0
   ·rw [bif_pos z,bif_and (by omega) (by omega),wr64 (x:=(i:Int)+1) (by omega) (by omega)];rfl
   ·rw [bif_neg z,wr64 (x:=(i:Int)+1) (by omega) (by omega)];rfl
  | false =>
   simp only [cond_false];rw [bif_neg (by simp)];by_cases z:(0:Int)≠tone
   ·rw [bif_pos z,bif_and (by omega) (by omega),wr64 (x:=(i:Int)+1) (by omega) (by omega)];rfl
   ·rw [bif_neg z,wr64 (x:=(i:Int)+1) (by omega) (by omega)];rfl
 ·unfold law_BitmapPlates_l5;simp only [joinF_eq];rw [hq,hlen,bif_neg (by omega)]
theorem main_l:loopF (law_BitmapPlates_l2 fu ((w,(h,pix)),(t,(tone,()))) ((w,(h,canon w h (onP w t pix))),(0,())) 0) fu ((0:Int),List.replicate pix.length false)=some (true,()):=by
 have hm:=mulb c;refine stLoop (n:=pix.length) (st:=fun k=>((k:Int),onL pix.length (fun i=>onG t pix i&&decide (i<k)))) (by omega) ?_ (fun j k hk=>?_) (fun j=>?_)
 ·rw [onL_none (n:=pix.length) (G:=fun i=>onG t pix i&&decide (i<((0:Nat):Int))) (fun i hi=>by rw [decide_eq_false (show ¬ i<((0:Nat):Int) by omega),Bool.and_false])];rfl
 ·unfold law_BitmapPlates_l2;simp only;have hv:=Bytes.at (ds:=pix) hp k;rw [bif_pos (by omega),bif_and (by omega) (by omega),bif_and (by omega) (by rw [onL_length];omega),Int.toNat_natCast,wr64 (x:=pix.getD k 0) (by omega) (by omega),wr64 (x:=(k:Int)+1) (by omega) (by omega)];have:=onL_set (n:=pix.length) (G:=onG t pix) (k:=k) (by omega) (by omega);rw [Int.toNat_natCast] at this;rw [show decide (t≤pix.getD k 0)=onG t pix k by unfold onG;rw [Int.toNat_natCast],this];rfl
 ·unfold law_BitmapPlates_l2 law_BitmapPlates_j3 law_BitmapPlates_j4;simp only [joinF_eq];rw [bif_neg (by omega),bif_neg (by simp)];rw [onL_congr (n:=pix.length) (G:=fun i=>onG t pix i&&decide (i<(pix.length:Int))) (G':=onG t pix) (fun i h1 h2=>by rw [decide_eq_true h2,Bool.and_true])]
  have eD:onL pix.length (onG t pix)=onL (w*h).toNat (fun i=>onP w t pix (i % w) (i / w)):=by
   rw [show (w*h).toNat=pix.length by omega];refine onL_congr fun i h1 h2=>?_
   unfold onP;rw [mul_div_mod]
  have hD:=drawn_on hf (w:=w) (h:=h) (F:=onP w t pix) (by omega) (by omega) (by omega) (by omega);rw [←eD] at hD;rw [hD,bindO_some,same_r,bindO_some];simp only [Bool.not_true,cond_false]
  have hT:bitmap_ToPlate_r fu ((w,(h,canon w h (onP w t pix))),(tone,()))=some ((w,(h,tpL w h tone (pixB w h (canon w h (onP w t pix))))),(0,())):=by
   unfold bitmap_ToPlate_r;simp only;rw [if_pos ⟨canon_valid (w:=w) (h:=h) (by omega) (by omega) (by omega) (by omega) _,canon_bytes w h _⟩]
  rw [hT,bindO_some];simp only;rw [bif_neg (by simp),bif_neg (by simp),bif_neg (by simp),decide_eq_false (by rw [tpL_len];omega),cond_false];exact last_l hf hp c hl rfl
end
theorem plates_law {fu:Nat} (hf:18446744073709551616≤fu) {w h t tone:Int} {pix:List Int} (hw:law_bitmapWorks_r fu ()=some (true,())) (hp:∀ v ∈ pix,0≤v∧v≤255) :
  law_BitmapPlates_r fu ((w,(h,pix)),(t,(tone,())))=some (true,()):=by
 unfold law_BitmapPlates_r law_BitmapPlates_j7 law_BitmapPlates_j1;simp only [joinF_eq];rw [hw,bindO_some];simp only [Bool.not_true,cond_false];rw [perr_r];by_cases e0:plE w h pix.length=0
 ·obtain ⟨c,hl,m1,m2⟩:=plE_ok e0;by_cases ct:1≤t∧t≤255
  ·rw [from_ok hf hp c hl ct.1 ct.2,bindO_some,bindO_some];simp only;rw [bif_pos e0,within_r,bindO_some];simp only;rw [decide_eq_true ct.1,decide_eq_true ct.2,Bool.and_self,Bool.not_true,cond_false,e0,bif_neg (by omega),bif_and (by omega) (by omega),Int.toNat_natCast];exact main_l hf hp c hl
  ·rw [from_range fu e0 ct,bindO_some,bindO_some];simp only;rw [bif_pos e0,within_r,bindO_some];simp only;rw [show (decide (1≤t)&&decide (t≤255))=false by rw [←Bool.not_eq_true,Bool.and_eq_true,decide_eq_true_eq,decide_eq_true_eq];exact ct,Bool.not_false,cond_true,bif_pos (by omega),refused_r,bindO_some]
 ·rw [from_bad fu e0,bindO_some,bindO_some];simp only;rw [bif_neg e0,bif_pos e0,refused_r,bindO_some]
end Bp
end Go.Proofs.Ytnbmldnahacnlaa
/- bitmapWorks returns true. -/
namespace Go.Proofs.Ytnbmldnahacnlaa
open Go Go.RowKit

theorem bitmapWorks_true:law_bitmapWorks_r FU ()=some (true,()):=by kernel_rfl
end Go.Proofs.Ytnbmldnahacnlaa
/- The step from a walk to a law's row,once for all laws of the seat: a law that returns true and leaves all that was there as it was. -/
namespace Go.Proofs.Ytnbmldnahacnlaa
open Go.ChangeShapes Go.WideShapes Go.ChangeAt Go.RowKit

theorem own:ownKnob Try.prog.godebug=none:=by kernel_rfl
theorem laidOut:laidOutB Try.prog=true:=by kernel_rfl
theorem boolT:Try.prog.underlying 4=some .bool:=Try.underlying4

theorem trodAll_stays {H:Type} {enc:TypeId×Value→H} {P:Program} (hl:laidOutB P=true) {W W':World} (hb:Below W.heap.size W W') :
  ∀ {ts:List TypeId} {vs:List Value} {ds:List (DataW H)} {ps:List MemPlace},(∀ t ∈ ts,P.readableRec t=true∧t<P.types.size)→DataW.TrodAll enc P W 0 (fun _=>true) true ts vs ds ps →
   (∀ x ∈ ps,x.block<W.heap.size)→DataW.TrodAll enc P W' 0 (fun b=>decide (b<W.heap.size)) true ts vs ds ps
 | [],[],[],_,_,h,_=>h
 | t::ts,v::vs,d::ds,_,hr,⟨p,q,h1,h2,e⟩,hlt =>
  ⟨p,q,Below.trod hl (hr t (by simp)).1 (hr t (by simp)).2 h1 hb (fun x hx=>hlt x (by rw [e];simp [hx])),
   trodAll_stays hl hb (fun t' ht=>hr t' (by simp [ht])) h2 (fun x hx=>hlt x (by rw [e];simp [hx])),e⟩
 | [],[],_::_,_,_,h,_=>h.elim
 | [],_::_,_,_,_,h,_=>h.elim
 | _::_,[],_,_,_,h,_=>h.elim
 | _::_,_::_,[],_,_,h,_=>h.elim

def readsAll (P:Program) (ts:List TypeId):Bool:=ts.all fun t=>P.readableRec t&&decide (t<P.types.size)
theorem readsAll_all {P:Program} {ts:List TypeId} (h:readsAll P ts=true):∀ t ∈ ts,P.readableRec t=true∧t<P.types.size:=by
 intro t ht;have:=List.all_eq_true.1 h t ht;simpa using this

theorem trodAll_length {H:Type} {enc:TypeId×Value→H} {P:Program} {W:World} {base:Nat} {spare:Nat→Bool} {held:Bool} :
  ∀ {ts:List TypeId} {vs:List Value} {ds:List (DataW H)} {ps:List MemPlace},DataW.TrodAll enc P W base spare held ts vs ds ps→ds.length=ts.length
 | [],[],[],_,_=>rfl
 | _::_,_::_,_::_,_,⟨_,_,_,h2,_⟩=>by simp [trodAll_length h2]
 | [],[],_::_,_,h=>h.elim
 | [],_::_,_,_,h=>h.elim
 | _::_,[],_,_,h=>h.elim
 | _::_,_::_,[],_,h=>h.elim

set_option maxRecDepth 100000 in
theorem law_lifted {os:Os} (started:os.Started) {H:Type} {enc:TypeId×Value→H} {f:FuncId} {fn:Func} {s:ChangeSpec}
  (noInit:Try.checked.prog.inits.idxOf? f=none) (hfn:Try.checked.prog.funcs[f]?=some fn)
  (witness:∃ (w:World) (tape:Tape) (i:Input),w.os=os∧(w.forCall tape i).Shaped Try.checked.prog∧i.vars=[]∧Input.okWide Try.checked.prog (w.forCall tape i) .any w.heap.size f i ∧
   s.pre6 enc Try.checked.prog fn [] false (w.forCall tape i).memory i.args∧({}:Assume).holds Try.checked.prog (lone (Frame.enter Try.checked.prog f i.args .normal) [] (w.forCall tape i)))
  (hvars:s.vars=[]) (hres:fn.resultTypes=#[4]) (hread:readsAll Try.prog fn.params.toList=true)
  (hspec:∀ ds:List (DataW H),ds.length=fn.params.toList.length→s.fn H ds={ results:=[.lit (.bool true)],args:=ds })
  (walk:∀ (W:World) (base:Nat) (args:List Value) (ds:List (DataW H)) (ps:List MemPlace),
   (∀ (j:Nat) t v,fn.params[j]?=some t→args[j]?=some v→Value.okWide Try.prog W .any base t v)→DataW.TrodAll enc Try.prog W 0 (fun _=>true) true fn.params.toList args ds ps →
   (DataW.weightsEach Try.prog fn.params.toList ds).all (·≤reachBytes)=true→(∀ x ∈ ps,x.block<W.heap.size) →
   Calls Try.prog f args.toArray W fun e W'=>e=.returned (.bool true)∧Below W.heap.size W W') :
  ReturnsInHanded {} Try.checked os f .any (s.pre6 enc Try.checked.prog fn [] false) (s.post enc Try.checked.prog fn false true false false):=by
 refine returnsInHanded_of_change_sized (C:=Try.checked) own started noInit hfn witness ?_;intro W base args ds gs before hval hW _ hsz _;have hW':=hW;obtain ⟨p,q,hA0,hV,rfl,hfz,hnd⟩:=hW;rw [hvars] at hV;obtain ⟨rfl,rfl⟩:=trodVars_none hV;have hA:DataW.TrodAll enc Try.prog W 0 (fun _=>true) true fn.params.toList args.toList ds p:=hA0;have hlen:ds.length=fn.params.toList.length:=trodAll_length hA;have hlt:∀ x ∈ p,x.block<W.heap.size:=fun x hx=>hW'.lt x (by simpa using hx)
 have hargs:args.toList.toArray=args:=by simp
 have hsz':(DataW.weightsEach Try.prog fn.params.toList ds).all (·≤reachBytes)=true:=by
  have h:=hsz;have hvt:s.plain.varTypes Try.checked.prog=[]:=by simp [DataSpec.varTypes,ChangeSpec.plain,hvars]
  rw [hvt] at h;simp only [List.append_nil] at h;exact h
 have hw:=walk W base args.toList ds p (fun j t v ht hv=>hval j t v ht (by simpa using hv)) hA hsz' hlt;rw [hargs] at hw;refine hw.mono fun e W' ⟨he,hb⟩=>⟨.bool true,he,?_⟩
 have hsf:s.fn H (ds++[])={ results:=[.lit (.bool true)],args:=ds }:=by rw [List.append_nil];exact hspec ds hlen
 refine ⟨ds,[],p++[],[],p,[],hW',?_,?_,?_,hb.frame _,fun h=>by cases h⟩
 ·rw [hsf,hres];exact trodAll_mk1 (shut_bool boolT true)
 ·rw [hsf];exact trodAll_stays laidOut hb (readsAll_all hread) hA hlt
 ·rw [hsf,hvars];rfl
end Go.Proofs.Ytnbmldnahacnlaa
/- Arguments opened: what slices and structs of numbers read as. -/
set_option maxRecDepth 100000
namespace Go.Proofs.Ytnbmldnahacnlaa
open Go.ChangeShapes Go.WideShapes Go.ChangeAt Go.RowKit Go.Deep

theorem choose_list {α:Type} {n:Nat} {Q:Nat→α→Prop} (h:∀ i,i<n→∃ p,Q i p):∃ l:List α,l.length=n∧∀ i p,l[i]?=some p→Q i p:=by
 induction n with
 | zero=>exact ⟨[],rfl,by intro i p hi;simp at hi⟩
 | succ n ih =>
  obtain ⟨l,hl,hq⟩:=ih (fun i hi=>h i (by omega));obtain ⟨p,hp⟩:=h n (by omega);refine ⟨l++[p],by simp [hl],fun i q hi=>?_⟩;rcases Nat.lt_trichotomy i n with hlt | rfl | hgt
  ·rw [List.getElem?_append_left (by omega)] at hi;exact hq i q hi
  ·rw [List.getElem?_append_right (by omega),hl] at hi;simp at hi;subst hi;exact hp
  ·rw [List.getElem?_eq_none (by simp;omega)] at hi;cases hi

section
variable {H:Type} {enc:TypeId×Value→H} {P:Program} {w:World} {base:Nat} {spare:Nat→Bool} {held:Bool}
theorem rd_slice {t e:TypeId} {fuel:Nat} {v:Value} {x:DataW H×List MemPlace} (ht:P.underlying t=some (.slice e)) (hc:0<P.cellsOf e) (h:DataW.trod enc P w base spare held fuel t [v]=some x) :
  ∃ A n c,v=.slice A n c∧n≤c∧c≤maxLen∧∀ i,i<n→∃ b o cs n' x',A=some ⟨b,o,none⟩∧cs.length=P.cellsOf e∧(∀ j u,cs[j]?=some u→w.cell? ⟨b,o+i*P.cellsOf e+j,none⟩=some u) ∧
   DataW.trod enc P w base spare held n' e cs=some x':=by
 rcases open_slice ht h with ⟨h0,_⟩ | ⟨a,len,cap,m,n',D,Pl,hcs,_,hl,hm,hmm,_,hi⟩
 ·simp at h0;subst h0;exact ⟨none,0,0,rfl,by omega,by unfold maxLen;omega,by intro i hi;omega⟩
 ·simp at hcs;subst hcs;refine ⟨some a,len,cap,rfl,hl,hm,fun i hil=>?_⟩
  have hlm:len≤m:=by rw [hmm];split <;> omega
  obtain ⟨cs,h1,h2⟩:=hi i (by omega);obtain ⟨hb,hlen,hat⟩:=World.cells?_some h1;obtain ⟨b,o,spot⟩:=a;have h00:=hat 0 (by omega)
  have hsp:spot=none:=by
   obtain ⟨cs0,g1,_⟩:=hi 0 (by omega);obtain ⟨_,gl,gat⟩:=World.cells?_some g1;have hx:=gat 0 (by omega);rw [List.getElem?_eq_getElem (by omega)] at hx;simpa [Addr.add] using World.cell?_spot hx
  subst hsp;refine ⟨b,o,cs,n',_,rfl,hlen,?_,h2⟩;intro j u hu;have hjl:j<P.cellsOf e:=by rw [←hlen];exact (List.getElem?_eq_some_iff.1 hu).1
  have:=hat j hjl;rw [hu,Addr.add_lit,Addr.add_lit] at this;exact this
end

end Go.Proofs.Ytnbmldnahacnlaa
/- Arguments opened,as abstract values. -/
set_option maxRecDepth 100000
namespace Go.Proofs.Ytnbmldnahacnlaa
open Go Go.ChangeShapes Go.WideShapes Go.ChangeAt Go.RowKit Go.Deep

section
variable {H:Type} {enc:TypeId×Value→H} {P:Program} {w:World} {base:Nat} {spare:Nat→Bool} {held:Bool}
abbrev RelC (w:World):AV→Value→Prop:=RelD w (fun _=>False) w.heap.size
def Reads {α:Type} (w:World) (sz:Nat) (ec:α→List AV) (Q:α→Prop) (cs:List Value):Prop :=
 ∃ p,Q p∧(ec p).length=sz∧∀ (j:Nat) (a:AV) (u:Value),(ec p)[j]?=some a→cs[j]?=some u→RelC w a u
theorem ro_slice {α:Type} (ec:α→List AV) (Q:α→Prop) {t e:TypeId} {sz fuel:Nat} {v:Value} {x:DataW H×List MemPlace} (ht:P.underlying t=some (.slice e)) (hz:P.cellsOf e=sz) (hc:0<sz)
  (hel:∀ (fuel:Nat) (cs:List Value) (x:DataW H×List MemPlace),cs.length=sz→DataW.trod enc P w base spare held fuel e cs=some x→Reads w sz ec Q cs) (h:DataW.trod enc P w base spare held fuel t [v]=some x) :
  ∃ xs:List α,(∀ p ∈ xs,Q p)∧RelC w (.ro false sz (xs.map ec)) v:=by
 subst hz;obtain ⟨A,n,c,rfl,hn,hm,hi⟩:=rd_slice ht hc h
 obtain ⟨xs,hl,hq⟩:=choose_list (Q:=fun i (p:α)=>Q p∧∃ (b o:Nat) (cs:List Value),A=some ⟨b,o,none⟩∧cs.length=P.cellsOf e∧(∀ (j:Nat) (u:Value),cs[j]?=some u→w.cell? ⟨b,o+i*P.cellsOf e+j,none⟩=some u)∧(ec p).length=P.cellsOf e∧∀ (j:Nat) (a:AV) (u:Value),(ec p)[j]?=some a→cs[j]?=some u→RelC w a u) (n:=n) (by
  intro i hil;obtain ⟨b,o,cs,n',x',hA,hlen,hat,htr⟩:=hi i hil;obtain ⟨p,h1,h2,h3⟩:=hel n' cs x' hlen htr
  exact ⟨p,h1,b,o,cs,hA,hlen,hat,h2,h3⟩)
 subst hl;refine ⟨xs,fun p hp=>?_,?_⟩
 ·obtain ⟨i,hi⟩:=List.mem_iff_getElem?.1 hp;exact (hq i p hi).1
 have key:∀ (i:Nat) (row:List AV) (j:Nat) (a:AV),(xs.map ec)[i]?=some row→row[j]?=some a→∃ b o u,A=some ⟨b,o,none⟩∧w.cell? ⟨b,o+i*P.cellsOf e+j,none⟩=some u∧RelC w a u:=by
  intro i row j a hr ha;rw [List.getElem?_map] at hr;obtain ⟨p,hp,rfl⟩:=Option.map_eq_some_iff.1 hr;obtain ⟨_,b,o,cs,hA,hlen,hat,hel,hrel⟩:=hq i p hp;have hj:j<cs.length:=by rw [hlen,←hel];exact (List.getElem?_eq_some_iff.1 ha).1
  have hu:cs[j]?=some cs[j]:=List.getElem?_eq_getElem hj;exact ⟨b,o,cs[j],hA,hat j _ hu,hrel j a _ ha hu⟩
 have hcon:=RelD.ro (w:=w) (own:=fun _=>False) (bs:=w.heap.size) false (P.cellsOf e) (xs.map ec) A c (fun i j=>match A with
  | some ⟨b,o,_⟩=>(w.cell? ⟨b,o+i*P.cellsOf e+j,none⟩).getD undef
  | none=>undef) (by simpa using hn) hm (fun i hi hA=>by
   have hi:i<xs.length:=by simpa using hi
   obtain ⟨_,b,o,_,h1,_⟩:=hq i xs[i] (List.getElem?_eq_getElem hi)
   rw [hA] at h1;cases h1) (fun i row j a hr ha=>by
   obtain ⟨b,o,u,hA,hu,_⟩:=key i row j a hr ha;subst hA
   exact ⟨b,o,rfl,fun h=>h.elim,(fun h=>by cases h),by simp [hu]⟩) (fun i row j a hr ha=>by
   obtain ⟨b,o,u,hA,hu,hr⟩:=key i row j a hr ha;subst hA
   simpa [hu] using hr)
 rw [List.length_map] at hcon;exact hcon
end
theorem AF.yes {P:Program} {F:FuncId} {xs:List AV} {vs:Array Value} {w:World} (h:AF P F xs (.bool true)) (ha:ArgsV w (Gh.none w.heap.size) xs vs):Calls P F vs w fun e w'=>e=.returned (.bool true)∧Below w.heap.size w w' :=
 (h.out w vs ha).mono fun e w' ⟨v,he,hb,hv⟩=>⟨by rw [he,hv.bool'],hb⟩
end Go.Proofs.Ytnbmldnahacnlaa
/- Arguments of any type,opened by one theorem;the last step of a law that a residual program answers. -/
set_option maxRecDepth 100000
namespace Go.Proofs.Ytnbmldnahacnlaa
open Go Go.ChangeShapes Go.WideShapes Go.ChangeAt Go.RowKit Go.Deep

def Ty.wf:(t:Ty)→t.den→Prop
 | .int k,n=>(Lit.int k n).wf=true
 | .bool,_=>True
 | .str,s=>List.length s≤maxLen
 | .list t,xs=>List.length xs≤maxLen∧∀ x ∈ (xs:List t.den),t.wf x
 | .unit,_=>True
 | .pair a b,x=>a.wf x.1∧b.wf x.2
 | .agg t,x=>t.wf x
 | .aix,_=>False
 | .ptr _,_=>False
def prB (t:Ty) (f:Ty→Ty→Bool):Bool:=match t with
 | .pair x y=>f x y
 | _=>false
def unB (t:Ty):Bool:=match t with
 | .unit=>true
 | _=>false
theorem prB_ok {t:Ty} {f:Ty→Ty→Bool} (h:prB t f=true):∃ x y,t=.pair x y∧f x y=true:=by
 unfold prB at h;split at h
 ·exact ⟨_,_,rfl,h⟩
 ·cases h
theorem unB_ok {t:Ty} (h:unB t=true):t=.unit:=by
 unfold unB at h;split at h
 ·rfl
 ·cases h
def fsB (g:TypeId→Ty→Bool):List Field→Nat→Ty→Bool
 | [],_,t=>unB t
 | [a],o,t=>Nat.beq a.offset o&&g a.type t
 | a::b::l,o,t=>prB t fun x y=>Nat.beq a.offset o&&g a.type x&&fsB g (b::l) (o+x.size) y
def arB (g:Ty→Bool):Nat→Ty→Bool
 | 0,t=>unB t
 | 1,t=>g t
 | n+2,t=>prB t fun x y=>g x&&arB g (n+1) y
def intB (k:IntKind) (t:Ty):Bool:=match t with
 | .int k'=>decide (k'=k)
 | _=>false
def boolB (t:Ty):Bool:=match t with
 | .bool=>true
 | _=>false
def strB (t:Ty):Bool:=match t with
 | .str=>true
 | _=>false
def sliceB (g:Ty→Bool) (t:Ty):Bool:=match t with
 | .list t'=>g t'&&Nat.blt 0 t'.size
 | _=>false
def tyB (P:Program):Nat→TypeId→Ty→Bool
 | 0,_,_=>false
 | f+1,tid,t=>Nat.beq (P.cellsOf tid) t.size&&(match P.underlying tid with
  | some (.int k)=>intB k t
  | some .bool=>boolB t
  | some .string=>strB t
  | some (.slice e)=>sliceB (tyB P f e) t
  | some (.struct ⟨fs⟩)=>fsB (tyB P f) fs 0 t
  | some (.array n e)=>arB (tyB P f e) n t
  | _=>false)
section
variable {H:Type} {enc:TypeId×Value→H} {P:Program} {w:World} {base:Nat} {spare:Nat→Bool} {held:Bool}
abbrev ReadsT (w:World) (t:Ty) (cs:List Value):Prop:=Reads w t.size (t.cells false) t.wf cs
theorem tyB_size {f:Nat} {tid:TypeId} {t:Ty} (h:tyB P f tid t=true):P.cellsOf tid=t.size:=by
 cases f with
 | zero=>cases h
 | succ f=>rw [tyB,Bool.and_eq_true] at h;exact Nat.eq_of_beq_eq_true h.1
theorem ReadsT.pair {a b:Ty} {c d:List Value} (h:ReadsT w a c) (k:ReadsT w b d) (hl:c.length=a.size):ReadsT w (.pair a b) (c++d):=by
 obtain ⟨x,x1,x2,x3⟩:=h;obtain ⟨y,y1,y2,y3⟩:=k;refine ⟨(x,y),⟨x1,y1⟩,Ty.cells_length _ _ _,fun j v u hv hu=>?_⟩;rw [Ty.cells] at hv;by_cases hj:j<a.size
 ·rw [List.getElem?_append_left (by rw [x2];exact hj)] at hv;rw [List.getElem?_append_left (by omega)] at hu;exact x3 j v u hv hu
 ·rw [List.getElem?_append_right (by rw [x2];omega),x2] at hv;rw [List.getElem?_append_right (by omega),hl] at hu;exact y3 _ v u hv hu
theorem ReadsT.unit:ReadsT w .unit []:=⟨(),trivial,rfl,fun j a u h _=>by simp [Ty.cells] at h⟩
theorem fs_reads {g:TypeId→Ty→Bool} (hg:∀ (tid:TypeId) (t:Ty) (n:Nat) (cs:List Value) (x:DataW H×List MemPlace),g tid t=true→cs.length=t.size→DataW.trod enc P w base spare held n tid cs=some x→ReadsT w t cs) (hsz:∀ tid t,g tid t=true→P.cellsOf tid=t.size) {cs:List Value} :
  ∀ (l:List Field) (o:Nat) (t:Ty),fsB g l o t=true→(∀ a ∈ l,∃ n y,DataW.trod enc P w base spare held n a.type ((cs.drop a.offset).take (P.cellsOf a.type))=some y)→o+t.size≤cs.length→ReadsT w t ((cs.drop o).take t.size)
 | [],o,t,h,_,_=>by
  rw [unB_ok h,show Ty.unit.size=0 from rfl,List.take_zero];exact .unit
 | [a],o,t,h,hr,hl=>by
  rw [fsB,Bool.and_eq_true] at h;obtain ⟨n,y,hy⟩:=hr a (by simp);rw [Nat.eq_of_beq_eq_true h.1,hsz _ _ h.2] at hy;exact hg _ _ n _ y h.2 (by rw [List.length_take,List.length_drop];omega) hy
 | a::b::l,o,t,h,hr,hl=>by
  obtain ⟨x,y,rfl,h'⟩:=prB_ok h;clear h;have h:=h';clear h';rw [Bool.and_eq_true,Bool.and_eq_true] at h;obtain ⟨n,z,hz⟩:=hr a (by simp);rw [Nat.eq_of_beq_eq_true h.1.1,hsz _ _ h.1.2] at hz;have hs:(Ty.pair x y).size=x.size+y.size:=rfl;rw [hs] at hl;have h1:=hg _ _ n _ z h.1.2 (by rw [List.length_take,List.length_drop];omega) hz;have h2:=fs_reads hg hsz (b::l) (o+x.size) y h.2 (fun a ha=>hr a (List.mem_cons_of_mem _ ha)) (by omega);rw [hs,List.take_add,List.drop_drop];exact h1.pair h2 (by rw [List.length_take,List.length_drop];omega)
theorem ar_reads {g:Ty→Bool} {e:TypeId} (hg:∀ (t:Ty) (n:Nat) (cs:List Value) (x:DataW H×List MemPlace),g t=true→cs.length=t.size→DataW.trod enc P w base spare held n e cs=some x→ReadsT w t cs) (hsz:∀ t,g t=true→P.cellsOf e=t.size) {cs:List Value} :
  ∀ (k o:Nat) (t:Ty),arB g k t=true→(∀ i,i<k→∃ n y,DataW.trod enc P w base spare held n e ((cs.drop (o+i*P.cellsOf e)).take (P.cellsOf e))=some y)→o+t.size≤cs.length→ReadsT w t ((cs.drop o).take t.size)
 | 0,o,t,h,_,_=>by
  rw [unB_ok h,show Ty.unit.size=0 from rfl,List.take_zero];exact .unit
 | 1,o,t,h,hr,hl=>by
  rw [arB] at h;obtain ⟨n,y,hy⟩:=hr 0 (by omega);rw [hsz _ h,Nat.zero_mul,Nat.add_zero] at hy;exact hg _ n _ y h (by rw [List.length_take,List.length_drop];omega) hy
 | k+2,o,t,h,hr,hl=>by
  obtain ⟨x,y,rfl,h'⟩:=prB_ok h;clear h;have h:=h';clear h';rw [Bool.and_eq_true] at h;obtain ⟨n,z,hz⟩:=hr 0 (by omega);rw [hsz _ h.1,Nat.zero_mul,Nat.add_zero] at hz;have hs:(Ty.pair x y).size=x.size+y.size:=rfl;rw [hs] at hl;have h1:=hg _ n _ z h.1 (by rw [List.length_take,List.length_drop];omega) hz
  have h2:=ar_reads hg hsz (k+1) (o+x.size) y h.2 (fun i hi=>by
   obtain ⟨n,z,hz⟩:=hr (i+1) (by omega);refine ⟨n,z,?_⟩
   rw [←hz,←hsz _ h.1,Nat.add_mul,Nat.one_mul,Nat.add_assoc,Nat.add_comm (P.cellsOf e)]) (by omega)
  rw [hs,List.take_add,List.drop_drop];exact h1.pair h2 (by rw [List.length_take,List.length_drop];omega)
theorem ro_len {own:Nat→Prop} {bs sz:Nat} {fr:Bool} {rows:List (List AV)} {v:Value} (h:RelD w own bs (.ro fr sz rows) v):rows.length≤maxLen:=by
 cases h with
 | ro fr sz rows A c f hc hm h0 h1 h2=>omega
theorem one_cell {cs:List Value} (h:cs.length=1):∃ u,cs=[u]:=by match cs,h with | [u],_=>exact ⟨u,rfl⟩
theorem reads_ty:∀ (f:Nat) (tid:TypeId) (t:Ty) (n:Nat) (cs:List Value) (x:DataW H×List MemPlace),tyB P f tid t=true→cs.length=t.size→DataW.trod enc P w base spare held n tid cs=some x→ReadsT w t cs
 | 0,_,_,_,_,_,h,_,_=>by cases h
 | f+1,tid,t,n,cs,x,h,hl,hx=>by
  have hsize:=tyB_size h;rw [tyB,Bool.and_eq_true] at h;obtain ⟨_,h⟩:=h;split at h
  ·rename_i k hu;unfold intB at h;split at h
   ·have hk:=of_decide_eq_true h;subst hk;obtain ⟨m,rfl,_,hwf⟩:=DataW.trod_int hu hx;refine ⟨m,hwf,rfl,fun j a u ha hu=>?_⟩
    match j with
    | 0=>simp [Ty.cells] at ha hu;subst ha;subst hu;exact .int _ _
    | j+1=>simp [Ty.cells] at ha
   ·cases h
  ·rename_i hu;unfold boolB at h;split at h
   ·obtain ⟨m,rfl,_⟩:=DataW.trod_bool hu hx;refine ⟨m,trivial,rfl,fun j a u ha hu=>?_⟩
    match j with
    | 0=>simp [Ty.cells] at ha hu;subst ha;subst hu;exact .bool _
    | j+1=>simp [Ty.cells] at ha
   ·cases h
  ·rename_i hu;unfold strB at h;split at h
   ·obtain ⟨s,rfl,_,hs⟩:=DataW.trod_string hu hx;refine ⟨s.data.toList,by rw [Ty.wf,Array.length_toList];exact hs,rfl,fun j a u ha hu=>?_⟩
    match j with
    | 0=>simp [Ty.cells] at ha hu;subst ha;subst hu;exact .str _
    | j+1=>simp [Ty.cells] at ha
   ·cases h
  ·rename_i e hu;unfold sliceB at h;split at h
   ·rename_i _ t' _;rw [Bool.and_eq_true] at h;have hpos:0<t'.size:=Nat.le_of_ble_eq_true h.2;obtain ⟨v,rfl⟩:=one_cell hl;obtain ⟨xs,hw,hr⟩:=ro_slice (t'.cells false) t'.wf hu (tyB_size h.1) hpos (fun m cs x hl hx=>reads_ty f e t' m cs x h.1 hl hx) hx;refine ⟨xs,⟨?_,hw⟩,rfl,fun j a u ha hu=>?_⟩
    ·have:=ro_len hr;rw [List.length_map] at this;exact this
    match j with
    | 0=>simp [Ty.cells] at ha hu;subst ha;subst hu;exact hr
    | j+1=>simp [Ty.cells] at ha
   ·cases h
  ·rename_i fs hu;obtain ⟨xs,m,_,_,_,hxl,hat⟩:=DataW.trod_struct hu hx
   have:=fs_reads (cs:=cs) (fun tid t n cs x h1 h2 h3=>reads_ty f tid t n cs x h1 h2 h3) (fun tid t h=>tyB_size h) fs 0 t h (fun a ha=>by
    obtain ⟨i,hi⟩:=List.mem_iff_getElem?.1 ha;have hi':i<xs.length:=by rw [hxl];exact (List.getElem?_eq_some_iff.1 hi).1
    exact ⟨m,_,by rw [hat i a (by simpa using hi),List.getElem?_eq_getElem hi']⟩) (by omega)
   rw [List.drop_zero,List.take_of_length_le (by omega)] at this;exact this
  ·rename_i k e hu;obtain ⟨xs,m,_,_,_,hxl,hat⟩:=DataW.trod_array hu hx
   have:=ar_reads (cs:=cs) (e:=e) (fun t n cs x h1 h2 h3=>reads_ty f e t n cs x h1 h2 h3) (fun t h=>tyB_size h) k 0 t h (fun i hi=>by
    have hi':i<xs.length:=by rw [hxl];exact hi
    exact ⟨m,_,by rw [Nat.zero_add,hat i hi,List.getElem?_eq_getElem hi']⟩) (by omega)
   rw [List.drop_zero,List.take_of_length_le (by omega)] at this;exact this
  ·cases h
def aggP (P:Program) (tid:TypeId):Bool:=match P.underlying tid with
 | some (.struct _)=>true
 | some (.array _ _)=>true
 | _=>false
def cellP (P:Program) (tid:TypeId):Bool:=match P.underlying tid with
 | some (.int _)=>true
 | some .bool=>true
 | some .string=>true
 | some (.slice _)=>true
 | _=>false
def argB (P:Program) (tid:TypeId) (a:Ty):Bool:=match a with
 | .agg t=>tyB P 9 tid t&&aggP P tid
 | .int k=>tyB P 9 tid (.int k)&&cellP P tid
 | .bool=>tyB P 9 tid .bool&&cellP P tid
 | .str=>tyB P 9 tid .str&&cellP P tid
 | .list t=>tyB P 9 tid (.list t)&&cellP P tid
 | _=>false
def argsB (P:Program):List TypeId→Ty→Bool
 | [],t=>unB t
 | tid::l,t=>prB t fun a b=>argB P tid a&&argsB P l b
theorem okWide_arr {n b:Nat} {r:Go.Reach} {t e:TypeId} {v:Value} (ht:P.underlying t=some (.array n e)) (h:Value.okWide P w r b t v):∃ cs,v=.agg cs∧cs.size=P.cellsOf t:=by
 simp only [Value.okWide,ht] at h;obtain ⟨cs,h1,h2,_⟩:=h;exact ⟨cs,h1,h2⟩
theorem arg_agg {tid:TypeId} {t:Ty} {v:Value} {d:DataW H} {p:List MemPlace} {b:Nat} (h:tyB P 9 tid t=true) (ha:aggP P tid=true) (hv:Value.okWide P w .any b tid v) (hd:DataW.Trod enc P w base spare held tid v d p):∃ x:t.den,t.wf x∧RelV w (Gh.none w.heap.size) (.agg (t.cells false x)) v:=by
 obtain ⟨cs,rfl,hs⟩:∃ cs,v=.agg cs∧cs.size=P.cellsOf tid:=by
  unfold aggP at ha;split at ha
  ·rename_i h1;exact okWide_struct h1 hv
  ·rename_i h1;exact okWide_arr h1 hv
  ·cases ha
 obtain ⟨n,hd⟩:=hd;have hl:cs.toList.length=t.size:=by rw [←tyB_size h,←hs];simp
 obtain ⟨x,x1,x2,x3⟩:=reads_ty 9 tid t n cs.toList _ h hl hd;exact ⟨x,x1,.agg _ _ (by rw [x2,←hl];simp) fun i a u ha hu=>.dat (x3 i a u ha (by simpa using hu))⟩
theorem arg_cell {tid:TypeId} {t:Ty} {v:Value} {d:DataW H} {p:List MemPlace} {b:Nat} (h:tyB P 9 tid t=true) (hc:cellP P tid=true) (h1:t.size=1) (hv:Value.okWide P w .any b tid v) (hd:DataW.Trod enc P w base spare held tid v d p):∃ x:t.den,t.wf x∧∀ a,(t.cells false x)[0]?=some a→RelV w (Gh.none w.heap.size) a v:=by
 have hd:∃ n,DataW.trod enc P w base spare held n tid [v]=some (d,p):=by
  unfold cellP at hc;split at hc
  ·rename_i hu;obtain ⟨m,rfl⟩:=okWide_int hu hv;exact hd
  ·rename_i hu;obtain ⟨m,rfl⟩:=okWide_bool hu hv;exact hd
  ·rename_i hu;obtain ⟨m,rfl⟩:=okWide_string hu hv;exact hd
  ·rename_i hu;obtain ⟨a,n,c,rfl⟩:=okWide_slice hu hv;exact hd
  ·cases hc
 obtain ⟨n,hd⟩:=hd;obtain ⟨x,x1,x2,x3⟩:=reads_ty 9 tid t n [v] _ h (by rw [h1];rfl) hd;exact ⟨x,x1,fun a ha=>.dat (x3 0 a v ha rfl)⟩
theorem arg_ty {tid:TypeId} {v:Value} {d:DataW H} {p:List MemPlace} {b:Nat}:∀ {a:Ty},argB P tid a=true→Value.okWide P w .any b tid v→DataW.Trod enc P w base spare held tid v d p→∃ x:a.den,a.wf x∧RelV w (Gh.none w.heap.size) (a.av false x) v
 | .agg t,h,hv,hd=>by
  rw [argB,Bool.and_eq_true] at h;obtain ⟨x,h1,h2⟩:=arg_agg h.1 h.2 hv hd;exact ⟨x,h1,by rw [Ty.av];exact h2⟩
 | .int k,h,hv,hd=>by
  rw [argB,Bool.and_eq_true] at h;obtain ⟨x,h1,h2⟩:=arg_cell h.1 h.2 rfl hv hd;exact ⟨x,h1,h2 _ rfl⟩
 | .bool,h,hv,hd=>by
  rw [argB,Bool.and_eq_true] at h;obtain ⟨x,h1,h2⟩:=arg_cell h.1 h.2 rfl hv hd;exact ⟨x,h1,h2 _ rfl⟩
 | .str,h,hv,hd=>by
  rw [argB,Bool.and_eq_true] at h;obtain ⟨x,h1,h2⟩:=arg_cell h.1 h.2 rfl hv hd;exact ⟨x,h1,h2 _ rfl⟩
 | .list t,h,hv,hd=>by
  rw [argB,Bool.and_eq_true] at h;obtain ⟨x,h1,h2⟩:=arg_cell h.1 h.2 rfl hv hd;exact ⟨x,h1,h2 _ rfl⟩
 | .unit,h,_,_=>by cases h
 | .pair _ _,h,_,_=>by cases h
 | .ptr _,h,_,_=>by cases h
inductive RelsV (w:World) (G:Gh):List AV→List Value→Prop
 | nil:RelsV w G [] []
 | cons {a:AV} {v:Value} {l:List AV} {m:List Value} (h:RelV w G a v) (k:RelsV w G l m):RelsV w G (a::l) (v::m)
theorem RelsV.args {G:Gh} {l:List AV} {m:List Value} (h:RelsV w G l m):ArgsV w G l m.toArray:=by
 induction h with
 | nil=>exact ⟨rfl,fun i a v ha hv=>by simp at ha⟩
 | cons h k ih =>
  refine ⟨by have:=ih.size;simp at this ⊢;exact this,fun i a v ha hv=>?_⟩
  cases i with
  | zero=>simp at ha hv;subst ha;subst hv;exact h
  | succ i=>exact ih.rel i a v (by simpa using ha) (by simpa using hv)
theorem args_ty {b:Nat}:∀ {ts:List TypeId} {σ:Ty} {vs:List Value} {ds:List (DataW H)} {ps:List MemPlace},argsB P ts σ=true→(∀ (j:Nat) t v,ts[j]?=some t→vs[j]?=some v→Value.okWide P w .any b t v)→DataW.TrodAll enc P w base spare held ts vs ds ps→∃ x:σ.den,σ.wf x∧RelsV w (Gh.none w.heap.size) (σ.avs false x) vs
 | [],σ,vs,ds,ps,h,_,hA=>by
  obtain ⟨rfl,rfl,rfl⟩:=trodAll_nil hA;have e:=unB_ok h;subst e;exact ⟨(),trivial,.nil⟩
 | tid::l,σ,vs,ds,ps,h,hv,hA=>by
  obtain ⟨v,vs,d,ds,p,q,rfl,rfl,rfl,h0,r0⟩:=trodAll_cons hA;obtain ⟨a,c,rfl,h'⟩:=prB_ok h;clear h;have h:=h';clear h';rw [Bool.and_eq_true] at h;obtain ⟨x,x1,x2⟩:=arg_ty h.1 (hv 0 tid v rfl rfl) h0;obtain ⟨y,y1,y2⟩:=args_ty h.2 (fun j t u ht hu=>hv (j+1) t u (by simpa using ht) (by simpa using hu)) r0;exact ⟨(x,y),⟨x1,y1⟩,by rw [Ty.avs];exact .cons x2 y2⟩
end
theorem law_any {H:Type} {enc:TypeId×Value→H} {F:Nat} {ts:List TypeId} {σ:Ty} {f:Nat→σ.den→Option (Bool×Unit)} {nm:Nat} (hc:CtrOk Try.prog F ⟨σ,.pair .bool .unit,f,nm⟩) (hB:argsB Try.prog ts σ=true) (hp:∀ x:σ.den,σ.wf x→f FU x=some (true,())) {W:World} {b:Nat} {args:List Value} {ds:List (DataW H)} {ps:List MemPlace}
  (hv:∀ (j:Nat) t v,ts[j]?=some t→args[j]?=some v→Value.okWide Try.prog W .any b t v) (hA:DataW.TrodAll enc Try.prog W 0 (fun _=>true) true ts args ds ps) :
  Calls Try.prog F args.toArray W fun e W'=>e=.returned (.bool true)∧Below W.heap.size W W':=by
 obtain ⟨x,hx,hr⟩:=args_ty hB hv hA;exact AF.yes (hc FU x (true,()) (hp x hx)) hr.args
theorem fu_le:18446744073709551616≤FU:=Nat.le_refl _
end Go.Proofs.Ytnbmldnahacnlaa
/- Bytes of an argument. -/
namespace Go.Proofs.Ytnbmldnahacnlaa
open Go Go.RowKit
theorem wf_u8 {x:Int} (h:(Lit.int .u8 x).wf=true):0≤x∧x≤255:=by
 unfold Lit.wf at h;simpa [IntKind.min,IntKind.max,IntKind.signed,IntKind.bits] using h
end Go.Proofs.Ytnbmldnahacnlaa
/- BitmapPlates: for every input this law returns true and leaves its arguments as they were. -/
namespace Go.Proofs.Ytnbmldnahacnlaa
open Go.ChangeShapes Go.WideShapes Go.ChangeAt Go.RowKit

set_option maxRecDepth 100000 in
theorem bitmapPlates_lifted (os:Os) (started:os.Started) (H:Type) (enc:TypeId×Value→H) :
  ReturnsInHanded {} Try.checked os 10 .any (Rows.bitmapPlatesSpec.pre6 enc Try.prog Try.f10 Rows.bitmapPlatesRow.domain false) (Rows.bitmapPlatesSpec.post enc Try.prog Try.f10 false true false false):=by
 refine law_lifted started (by kernel_rfl) Try.func10
  (ChangeSpec.witness6 (enc:=enc) (C:=Try.checked) false ⟨#[],#[.agg #[.int .i64 0,.int .i64 0,.slice none 0 0],.int .i64 0,.int .u8 0],[]⟩ 8 (by kernel_rfl) (by kernel_rfl) (by kernel_rfl) (by kernel_rfl)) rfl rfl (by kernel_rfl)
  (fun ds h=>by rw [Try.params10] at h;match ds,h with | [_,_,_],_=>rfl) ?_
 intro W base args ds ps hval hA hsz hlt;rw [Try.params10] at hA hval;exact law_any law_BitmapPlates_ok (by kernel_rfl) (fun ⟨⟨w,h,pix⟩,t,tone,⟨⟩⟩ hx=>Bp.plates_law fu_le bitmapWorks_true (fun v hv=>⟨(wf_u8 (hx.1.2.2.2 v hv)).1,(wf_u8 (hx.1.2.2.2 v hv)).2⟩)) (fun j t v ht hv=>hval j t v (by simpa using ht) hv) hA

theorem bitmapPlates_holds:Rows.BitmapPlatesSaid :=
 OpenClaim.holds_of_wide 10 Try.f10 rfl rfl rfl rfl rfl rfl rfl ⟨rfl,rfl,rfl,rfl,rfl⟩ rfl rfl rfl rfl rfl (by kernel_rfl) Try.func10 (by kernel_rfl)
  (of_decide_eq_true (by kernel_rfl)) (by unfold Func.isWrapper;first | (rw [if_pos (by decide +kernel)];kernel_rfl) | (rw [if_neg (by decide +kernel)];exact ⟨rfl,rfl⟩))
  (fun os started H enc _=>bitmapPlates_lifted os started H enc)
end Go.Proofs.Ytnbmldnahacnlaa
