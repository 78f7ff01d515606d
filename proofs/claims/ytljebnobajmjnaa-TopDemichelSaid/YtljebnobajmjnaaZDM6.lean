/- Residual programs of functions (printed by a program out of the code), checked by the kernel, and the contracts that follow. -/
import Derived.Test.YtljebnobajmjnaaZDM5
import Derived.Sort.Row
import Derived.Sort.Grow
import Derived.Shelf.GgSortFunc.Insertion
import Derived.Shelf.SlSortCmp.NoneTotal
import Derived.Test.YtljebnobajmjnaaChecked
import Derived.Test.YtljebnobajmjnaaRows
import Derived.WalkKit
import Derived.ProofKit
import Derived.SizedLaws
import Derived.BigQuiet
import Derived.Deep.QuietTactic
import Derived.Deep.Slices
/- Residual programs of functions (printed by a program out of the code),checked by the kernel,and the contracts that follow. -/
namespace Go.Proofs.Ytljebnobajmjnaa
open Go Go.RowKit
set_option linter.unusedVariables false
noncomputable section
def screen_Ranks_1_r (fu:Nat) (a:Int×(Int×Int×Int)×(Int×Int×Int)×Unit):Option (Int×Int×Unit) :=
 bindO (screen_offset_r fu ((a.2.1,(a.2.2.1,(a.1,()))))) fun v0 =>
 let v1:Int:=v0.1
 let v2:Int:=v0.2.1
 let v3:Bool:=(decide (a.2.1.2.2=(1:Int)))
 bif v3 then
  some ((v2,(v1,())))
 else
 let v4:Bool:=(decide (a.2.1.2.2=(2:Int)))
 bif v4 then
  let v5:Int:=(IntKind.i64.wrap ((IntKind.i64.wrap (v1*v1))+(IntKind.i64.wrap ((IntKind.i64.wrap ((2:Int)*v2))*v2))))
  some ((v5,((0:Int),())))
 else
 let v5:Int:=(IntKind.i64.wrap ((IntKind.i64.wrap (v1*v1))+(IntKind.i64.wrap (v2*v2))))
 some ((v5,((0:Int),())))
def screen_Ranks_1_an:An:=(.n none .z (.n none .z (.n none (.n none .z (.n none (.n none .z (.n none (.n none .z .z) (.n none .z (.n none (.n none .z .z) .z)))) .z)) (.n none .z .z))))
noncomputable def screen_Ranks_1_dc:List (Nat×Ctr):=[(43,screen_offset_ctr)]
def screen_Ranks_1_ctr:Ctr:=⟨(.pair (.int .i64) (.pair (.ptr (.pair (.int .i64) (.pair (.int .i64) (.int .i64)))) (.pair (.ptr (.pair (.int .i64) (.pair (.int .i64) (.int .i64)))) .unit))),(.pair (.int .i64) (.pair (.int .i64) .unit)),screen_Ranks_1_r,42⟩
theorem screen_Ranks_1_ok:CtrOk Try.prog 42 screen_Ranks_1_ctr:=ctr_ok (l:=screen_Ranks_1_dc) (f:=12) (an:=screen_Ranks_1_an) ⟨screen_offset_ok,trivial⟩ fun fu x=>by kernel_rfl
def screen_Ranks_2_si:Sig:=⟨[],[],[(2,(.box 1 0))],[.reg 0 (.int .i64),.reg 1 (.int .i64),.box 1 [(.fn 42 [(.box 2 0),(.box 3 0)])] 96,.box 2 [(.int .i64),(.int .i64),(.int .i64)] 23,.box 3 [(.int .i64),(.int .i64),(.int .i64)] 66],0,[]⟩
def screen_Ranks_2_so:Sig:=⟨[],[],[],[.reg 0 (.int .i64),.box 3 [(.int .i64),(.int .i64),(.int .i64)] 66,.box 2 [(.int .i64),(.int .i64),(.int .i64)] 23,.box 1 [(.fn 42 [(.box 2 0),(.box 3 0)])] 96],0,[]⟩
def screen_Ranks_2_g (fu:Nat) (a:Int×Int×(Unit×Unit)×(Int×Int×Int)×Int×Int×Int):Option (Int×(Int×Int×Int)×(Int×Int×Int)×Unit×Unit) :=
 bindO (screen_Ranks_1_r fu ((a.1,(a.2.2.2.1,(a.2.2.2.2,()))))) fun v0 =>
 let v1:Int:=v0.1
 let v2:Int:=v0.2.1
 bindO (screen_Ranks_1_r fu ((a.2.1,(a.2.2.2.1,(a.2.2.2.2,()))))) fun v3 =>
 let v4:Int:=v3.1
 let v5:Int:=v3.2.1
 let v6:Bool:=(decide (v1≠v4))
 bif v6 then
  let v7:Int:=(IntKind.i64.wrap (v1-v4))
  some ((v7,(a.2.2.2.2,(a.2.2.2.1,((),())))))
 else
 let v7:Bool:=(decide (v2≠v5))
 bif v7 then
  let v8:Int:=(IntKind.i64.wrap (v2-v5))
  some ((v8,(a.2.2.2.2,(a.2.2.2.1,((),())))))
 else
 let v8:Int:=(IntKind.i64.wrap (a.1-a.2.1))
 some ((v8,(a.2.2.2.2,(a.2.2.2.1,((),())))))
def screen_Ranks_2_r (fu:Nat) (a:Int×Int×(Unit×Unit)×(Int×Int×Int)×Int×Int×Int):Option (Int×(Int×Int×Int)×(Int×Int×Int)×Unit×Unit):=chkE screen_Ranks_2_si screen_Ranks_2_so 4 screen_Ranks_2_g fu a
def screen_Ranks_2_an:An:=(.n none .z (.n none .z (.n none .z (.n none (.n none (.n none .z (.n none (.n none .z .z) (.n none .z (.n none (.n none .z .z) .z)))) .z) (.n none .z .z)))))
noncomputable def screen_Ranks_2_dc:List (Nat×Ctr):=[(42,screen_Ranks_1_ctr)]
def screen_Ranks_2_ctr:CtrE:=⟨screen_Ranks_2_si,screen_Ranks_2_so,4,3,screen_Ranks_2_r,46⟩
theorem screen_Ranks_2_ok:CtrEOk Try.prog 46 screen_Ranks_2_ctr:=ctrE_ok (l:=screen_Ranks_2_dc) (le:=[]) ⟨screen_Ranks_1_ok,trivial⟩ trivial (f:=12) (an:=screen_Ranks_2_an) (si:=screen_Ranks_2_si) (so:=screen_Ranks_2_so) (nb:=4) (na:=3) (g:=screen_Ranks_2_g) (by kernel_rfl) fun fu x=>by kernel_rfl
end
end Go.Proofs.Ytljebnobajmjnaa
/- A callee that leaves its caller's blocks as they are,called while a row is being sorted: the world it ends in,exactly. No program in sight. -/
namespace Go.Proofs.Ytljebnobajmjnaa
open Go Go.RowKit Go.Sort
set_option linter.unusedSimpArgs false
set_option linter.unusedSectionVars false
set_option linter.unusedVariables false
inductive Exa (p:Nat→Bool):AV→Prop
 | int (k:IntKind) (n:Int):Exa p (.int k n)
 | box (id o:Nat) (h:p id=true):Exa p (.box id o)
 | fn (f:FuncId) (cs:List AV) (h:∀ c ∈ cs,Exa p c):Exa p (.fn f cs)
theorem Exa.eq {p:Nat→Bool} {w w':World} {G G':Gh} (hρ:∀ id,p id=true→id<G.nx→G'.ρ id=G.ρ id) {a:AV} (h:Exa p a):∀ {v v':Value},RelV w G a v→RelV w' G' a v'→v=v':=by
 induction h with
 | int k n =>
  intro v v' r r'
  cases r with
  | dat r =>
   cases r' with
   | dat r'=>cases r;cases r';rfl
 | box id o hp =>
  intro v v' r r'
  cases r with
  | dat r=>cases r
  | box _ _ g hid hs h =>
   cases r' with
   | dat r'=>cases r'
   | box _ _ g' hid' hs' h' =>
    rw [hρ id hp hid,h] at h';injection h' with h';injection h' with h';injection h' with h'
    rw [h']
 | fn f cs hc ih =>
  intro v v' r r';obtain ⟨us,e1,e2,e3⟩:=r.fn';obtain ⟨us',e1',e2',e3'⟩:=r'.fn';subst e1;subst e1'
  have:us=us':=by
   refine Array.ext (e2.trans e2'.symm) fun i h1 h2=>?_
   have hi:i<cs.length:=by omega
   exact ih cs[i] (List.getElem_mem hi) (e3 i cs[i] us[i] (List.getElem?_eq_getElem hi) (Array.getElem?_eq_getElem h1)) (e3' i cs[i] us'[i] (List.getElem?_eq_getElem hi) (Array.getElem?_eq_getElem h2))
  rw [this]
theorem grown_of {w w':World} (ho:w'.os=w.os) (ht:w'.tape=w.tape) (hu:w'.output=w.output) (hd:w.drawn≤w'.drawn) (hs:w.heap.size≤w'.heap.size) (hb:∀ b,b<w.heap.size→w'.heap[b]?=w.heap[b]?):∃ q os',w'=grow (w.drewN q) os':=by
 have h0:∀ q,w.drewN q={ w with drawn:=w.drawn+q }:=fun q=>rfl
 refine ⟨w'.drawn-w.drawn,w'.heap.extract w.heap.size w'.heap.size,?_⟩;rw [h0];obtain ⟨hp',tp',d',os',ou'⟩:=w';obtain ⟨hp,tp,d,os,ou⟩:=w;simp only at *
 subst ho ht hu;unfold grow;simp only [World.mk.injEq,true_and,and_true];refine ⟨?_,by omega⟩;refine Array.ext_getElem? fun i=>?_
 rw [Array.getElem?_append];split
 ·rename_i h;exact hb i h
 ·rename_i h;rw [Array.getElem?_extract];split
  ·congr 1;omega
  ·rw [Array.getElem?_eq_none (by omega)]
theorem exact_of {P:Program} {g:FuncId} {w0 w:World} {G:Gh} {hp hpB:List (Nat×AB)} {p:Nat→Bool} {xs:List AV} {vs:Array Value} {k:IntKind} {n:Int}
  (hw:HR w0 w G hp) (hpn:∀ id,p id=true→id<G.nx)
  (hB:∀ id,look .dead hpB id=.dead∨(p id=true∧LesB (look .dead hpB id) (look .dead hp id)∧(look .dead hpB id).nmd p=true))
  (hBox:∀ id,p id=true→∃ cs e,look .dead hpB id=.box cs e∧∀ c ∈ cs,Exa p c)
  (h:AC P g xs hpB G.nx (fun v hp' _=>v=.int k n∧∀ id,p id=true→look .dead hp' id=look .dead hpB id)) (hxs:ArgsV w G xs vs) (hxp:∀ x ∈ xs,x.nmd p=true) :
  Calls P g vs w fun e w'=>e=.returned (.int k n)∧∃ q os',w'=grow (w.drewN q) os':=by
 have hc:=cutF_hr (k:=G.nx) hw hpn hB;refine (Drw.calls_m (h w0 w (cutF G p G.nx) vs hc rfl ⟨hxs.size,fun i x v g1 g2=>(hxs.rel i x v g1 g2).mv (cutF_mv hpn) (hxp x (List.mem_of_getElem? g1))⟩)).mono ?_
 rintro e w' ⟨⟨v,x,hp',nx',G1,he,⟨hx,hk⟩,hn,h1,hv,hext⟩,hd⟩
 subst hx
 have hv':v=.int k n:=by
  cases hv with
  | dat r=>cases r;rfl
 subst hv';refine ⟨he,grown_of ?_ ?_ ?_ ?_ hext.size ?_⟩
 ·rw [h1.below.os,hw.below.os]
 ·rw [h1.below.tape,hw.below.tape]
 ·rw [h1.below.output,hw.below.output]
 ·rcases hd with hd | hd
  ·rw [he] at hd;cases hd
  ·exact hd
 ·intro b hb;by_cases c:∃ id,p id=true∧ownBlk (G.ρ id)=some b
  ·obtain ⟨id,c1,c2⟩:=c;have hid:=hpn id c1;obtain ⟨cs,e',e1,e2⟩:=hBox id c1;have a1:=hc.blk id;have a2:=h1.blk id;rw [hk id c1] at a2;rw [e1] at a1 a2;obtain ⟨_,s1,g1,vs1,r1,m1,l1,v1⟩:=a1;obtain ⟨_,s2,g2,vs2,r2,m2,l2,v2⟩:=a2
   have hρ:∀ id,p id=true→id<(cutF G p G.nx).nx→G1.ρ id=(cutF G p G.nx).ρ id:=fun id h2 h3=>by
    obtain ⟨x1,x2,x3,x4⟩:=hext.gh id h3;obtain ⟨cs',e'',y1,_⟩:=hBox id h2;have z:=hc.blk id;rw [y1] at z;exact x3 (x4 z.2.1)
   have hr1:G.ρ id=.pointer (some ⟨g1,0,none⟩):=by
    have:(if p id=true∧id<G.nx then G.ρ id else undef)=.pointer (some ⟨g1,0,none⟩):=r1;rwa [if_pos ⟨c1,hid⟩] at this
   have hg:g1=b:=by
    rw [hr1] at c2;exact Option.some.inj c2
   have hg2:g2=g1:=by
    have:=hρ id c1 hid;rw [r2,r1] at this;injection this with this;injection this with this;injection this
   subst hg;subst hg2
   rw [m1,m2]
   have:vs2=vs1:=by
    refine Array.ext (l2.trans l1.symm) fun i i1 i2=>?_
    have hi:i<cs.length:=by omega
    obtain ⟨u1,f1,_,f2⟩:=v1 i cs[i] (List.getElem?_eq_getElem hi);obtain ⟨u2,f3,_,f4⟩:=v2 i cs[i] (List.getElem?_eq_getElem hi);have hu:=(e2 cs[i] (List.getElem_mem hi)).eq hρ f2 f4;rw [Array.getElem?_eq_getElem i2] at f1;rw [Array.getElem?_eq_getElem i1] at f3;rw [Option.some.inj f1,Option.some.inj f3,hu]
   rw [this]
  ·refine hext.keep' b ?_ hb;by_cases o:G.own b
   ·exact .inr ⟨o,fun id c1 _ c2=>c ⟨id,c1,c2⟩⟩
   ·exact .inl o
end Go.Proofs.Ytljebnobajmjnaa
/- slices.SortFunc on a row of the call's own. No program in sight. -/
namespace Go.Proofs.Ytljebnobajmjnaa
open Go Go.RowKit Go.Sort Go.Shelf Go.Lib Go.Proofs
set_option linter.unusedSimpArgs false
set_option linter.unusedSectionVars false
set_option linter.unusedVariables false
namespace Srt
theorem row_of {w0 w:World} {G:Gh} {hp:List (Nat×AB)} (h:HR w0 w G hp) {id0:Nat} {l:List Int} {e:TypeId} (h0:look .dead hp id0=.row 1 (l.map fun x=>[.int .i64 x]) e) (hne:l≠[]) :
  id0<G.nx∧G.sz id0=1∧G.ln id0=l.length∧∃ g cap cur,G.ρ id0=.slice (some ⟨g,0,none⟩) l.length cap∧w0.heap.size≤g∧HasC w g cur e∧l.length≤cap∧cap≤maxLen∧cur.size=cap∧∀ i (hi:i<l.length),cur[i]?=some (.int .i64 l[i]):=by
 have a:=h.blk id0;rw [h0] at a;obtain ⟨a1,a2,a3,a4,flat,a5,a6,a7⟩:=a;rw [List.length_map] at a4 a5;refine ⟨a1,a3,a4,?_⟩;obtain ⟨b1,b2⟩:=a5;have hl:0<l.length:=List.length_pos_iff.2 hne;rcases b2 with ⟨_,b2⟩ | ⟨g,cap,cur,c1,c2,c3,c4,c5,c6,c7⟩
 ·omega
 ·refine ⟨g,cap,cur,c1,c2,c3,c4,c5,by omega,fun i hi=>?_⟩;obtain ⟨_,d2⟩:=a7 i [.int .i64 l[i]] (by rw [List.getElem?_map,List.getElem?_eq_getElem hi];rfl);obtain ⟨v,d3,d4⟩:=d2 0 (.int .i64 l[i]) rfl
  have hv:v=.int .i64 l[i]:=by
   cases d4 with
   | dat r=>cases r;rfl
  subst hv;rw [←c7,Nat.mul_one,Nat.add_zero,List.getElem?_take,if_pos (by omega)] at d3;rw [←d3,Array.getElem?_toList,Nat.mul_one]
section
variable {l:List Int}
def enc (x:{x:Int // x ∈ l}):Value:=.int .i64 x.val
variable [Inhabited {x:Int // x ∈ l}]
theorem put_get (dk:Array {x:Int // x ∈ l}) (cur:Array Value) (i:Nat) (hi:i<cur.size):(putCells enc 0 dk cur)[i]?=some (if i<dk.size then enc dk[i]! else cur[i]):=by
 unfold putCells;rw [Array.getElem?_mapIdx,Array.getElem?_eq_getElem hi,Option.map_some];simp only [Nat.zero_le,true_and,Nat.zero_add,Nat.sub_zero]
theorem put_size (dk:Array {x:Int // x ∈ l}) (cur:Array Value):(putCells enc 0 dk cur).size=cur.size:=by
 unfold putCells;rw [Array.size_mapIdx]
theorem heap_at {w:World} {g:Nat} {cur:Array Value} {e:TypeId} {fz:Nat×Nat} (h:w.heap[g]?=some (.cells cur e fz)) (m:Nat) (dk:Array {x:Int // x ∈ l}) (os:Array Obj):(sortWorld enc w g 0 m dk os).heap[g]?=some (.cells (putCells enc 0 dk cur) e fz):=by
 have hg:=(Array.getElem?_eq_some_iff.1 h).1;show ((putRow enc (Sort.ahead w m) g 0 dk).heap++os)[g]?=_;rw [Array.getElem?_append_left (by rw [size_putRow];exact hg)];show ((Sort.ahead w m).heap.modify g _)[g]?=_;rw [Array.getElem?_modify,if_pos rfl];show Option.map _ w.heap[g]?=_;rw [h];rfl
theorem heap_ne {w:World} {g b:Nat} (hb:b≠g) (hl:b<w.heap.size) (m:Nat) (dk:Array {x:Int // x ∈ l}) (os:Array Obj):(sortWorld enc w g 0 m dk os).heap[b]?=w.heap[b]?:=by
 show ((putRow enc (Sort.ahead w m) g 0 dk).heap++os)[b]?=_;rw [Array.getElem?_append_left (by rw [size_putRow];exact hl)];show ((Sort.ahead w m).heap.modify g _)[b]?=_;rw [Array.getElem?_modify,if_neg (fun e=>hb e.symm)];rfl
theorem heap_size {w:World} {g:Nat} (m:Nat) (dk:Array {x:Int // x ∈ l}) (os:Array Obj):w.heap.size≤(sortWorld enc w g 0 m dk os).heap.size:=by
 show _≤((putRow enc (Sort.ahead w m) g 0 dk).heap++os).size;rw [Array.size_append,size_putRow];exact Nat.le_add_right _ _
theorem hr_sort {w0 w:World} {G:Gh} {hp:List (Nat×AB)} (h:HR w0 w G hp) {id0:Nat} {e:TypeId} (h0:look .dead hp id0=.row 1 (l.map fun x=>[.int .i64 x]) e) (hne:l≠[]) {g cap:Nat} (hg:G.ρ id0=.slice (some ⟨g,0,none⟩) l.length cap)
  (m:Nat) (dk:Array {x:Int // x ∈ l}) (os:Array Obj) (hdk:dk.size=l.length) :
  HR w0 (sortWorld enc w g 0 m dk os) G ((id0,.row 1 (dk.toList.map fun x=>[.int .i64 x.val]) e)::hp)∧Ext w G (sortWorld enc w g 0 m dk os) G:=by
 obtain ⟨a1,a2,a3,g',cap',cur,b1,b2,b3,b4,b5,b6,b7⟩:=row_of h h0 hne;rw [hg] at b1;injection b1 with b1 _ b1'
 injection b1 with b1
 injection b1 with b1
 subst b1;subst b1'
 have ob:ownBlk (G.ρ id0)=some g:=by rw [hg];rfl
 obtain ⟨o1,o2⟩:=h.ownhas' id0 g a1 ob
 have hx:Ext w G (sortWorld enc w g 0 m dk os) G:=by
  refine ⟨heap_size m dk os,fun b hb hl=>?_,fun b hb=>.inl hb,Nat.le_refl _,⟨rfl,rfl⟩,fun id _=>⟨Nat.le_refl _,rfl,fun _=>rfl,fun _=>rfl⟩⟩;refine heap_ne (fun e=>?_) hl m dk os;subst e;exact hb.elim (fun k=>k o1) o2
 refine ⟨h.update hx (fun _ hb=>hb) ⟨rfl,rfl,rfl,heap_size m dk os,fun b hb=>?_⟩ id0 _ ?_ (fun id hid _=>hid) (fun b hb=>?_) ?_ ?_ ?_,hx⟩
 ·exact heap_ne (by omega) (by have:=h.below.size;omega) m dk os
 ·intro id hne' hid;refine ⟨rfl,rfl,fun g1 hg1=>?_⟩;refine heap_ne (fun e=>?_) (h.ownlt g1 (h.ownhas id g1 hid hg1)).2 m dk os;subst e;exact h.dist id id0 g1 hid a1 hne' hg1 ob
 ·have:=h.ownlt b hb;exact ⟨this.1,Nat.lt_of_lt_of_le this.2 (heap_size m dk os)⟩
 ·obtain ⟨fz,f1,f2⟩:=b3;refine ⟨a1,Nat.one_pos,a2,by rw [List.length_map,Array.length_toList,a3,hdk],dk.toList.map enc,⟨by rw [List.length_map,List.length_map,Nat.mul_one],.inr ⟨g,cap,putCells enc 0 dk cur,?_,b2,⟨fz,by rw [put_size];exact f1,heap_at f2 m dk os⟩,?_,b5,by rw [put_size,b6,Nat.mul_one],?_⟩⟩,?_,?_⟩
  ·rw [List.length_map,Array.length_toList,hdk];exact hg
  ·rw [List.length_map,Array.length_toList,hdk];exact b4
  ·refine List.ext_getElem? fun i=>?_
   rw [List.length_map,Array.length_toList,hdk,Nat.mul_one,List.getElem?_take];split
   ·rename_i hi;rw [Array.getElem?_toList,put_get dk cur i (by omega),if_pos (by omega),List.getElem?_map,Array.getElem?_toList,Array.getElem?_eq_getElem (by omega),Option.map_some,getElem!_pos dk i (by omega)]
   ·rename_i hi;rw [List.getElem?_map,Array.getElem?_toList,Array.getElem?_eq_none (by omega)];rfl
  ·intro v hv;obtain ⟨x,_,rfl⟩:=List.mem_map.1 hv;rfl
  ·intro i row hrow;rw [List.getElem?_map] at hrow
   cases hq:dk.toList[i]? with
   | none=>rw [hq] at hrow;cases hrow
   | some q =>
    rw [hq] at hrow;simp only [Option.map_some,Option.some.injEq] at hrow;subst hrow;refine ⟨rfl,fun j a hj=>?_⟩
    cases j with
    | zero =>
     simp only [List.getElem?_cons_zero,Option.some.injEq] at hj;subst hj;exact ⟨enc q,by rw [Nat.mul_one,Nat.add_zero,List.getElem?_map,hq];rfl,.dat (.int _ _)⟩
    | succ j=>simp at hj
 ·intro id g1 hid hne' e1 e2;rw [ob] at e1;cases e1;exact h.dist id id0 g hid a1 hne' e2 ob
 ·intro g1 _ e1;exact h.ownhas' id0 g1 a1 e1
end
end Srt
end Go.Proofs.Ytljebnobajmjnaa
/- slices.SortFunc as a call that works on a row of its caller. No program in sight. -/
namespace Go.Proofs.Ytljebnobajmjnaa
open Go Go.RowKit Go.Sort Go.Shelf Go.Lib Go.Proofs
set_option linter.unusedSimpArgs false
set_option linter.unusedSectionVars false
set_option linter.unusedVariables false
namespace Srt
def srt (cf:Int→Int→Int) (l:List Int):List Int:=(l.attach.mergeSort fun x y=>!(ltOf (fun x y:{x:Int // x ∈ l}=>cf x.val y.val)) y x).map (·.val)
theorem sort_ac {P:Program} {ρ:Ren} (L:SlLaysF.n6 P ρ) {g:FuncId} (eg:∀ args w,(callFunc g args).run P w=.ok (.enter g args) w) {hp hp2 hpB:List (Nat×AB)} {nx id0:Nat} {e:TypeId} {l:List Int} {caps:List AV} {p:Nat→Bool} {cf:Int→Int→Int}
  (h0:look .dead hp id0=.row 1 (l.map fun x=>[.int .i64 x]) e) (hne:l≠[]) (hlen:l.length<4611686018427387904) (hp0:p id0=false) (hpn:∀ id,p id=true→id<nx)
  (hB:∀ id,look .dead hpB id=.dead∨(p id=true∧LesB (look .dead hpB id) (look .dead hp id)∧(look .dead hpB id).nmd p=true))
  (hBox:∀ id,p id=true→∃ cs e,look .dead hpB id=.box cs e∧∀ c ∈ cs,Exa p c) (hcx:∀ c ∈ caps,c.nmd p=true)
  (hcmp:∀ x ∈ l,∀ y ∈ l,AC P g (.int .i64 x::.int .i64 y::caps) hpB nx (fun v hp' _=>v=.int .i64 (cf x y)∧∀ id,p id=true→look .dead hp' id=look .dead hpB id))
  (hO:SWO (ltOf (fun x y:{x:Int // x ∈ l}=>cf x.val y.val))) (hT:∀ x y:{x:Int // x ∈ l},ltOf (fun x y:{x:Int // x ∈ l}=>cf x.val y.val) x y=false→ltOf (fun x y:{x:Int // x ∈ l}=>cf x.val y.val) y x=false→x=y)
  (h2:∀ id,look .dead hp2 id=look .dead ((id0,.row 1 ((srt cf l).map fun x=>[.int .i64 x]) e)::hp) id) :
  AC P (ρ.f 6) [.osl id0 l.length,.fn g caps] hp nx (fun v hp' nx'=>v=.tup []∧hp'=hp2∧nx'=nx):=by
 intro w0 w G vs hw hnx hxs;subst hnx
 have inst:Inhabited {x:Int // x ∈ l}:=by
  cases l with
  | nil=>exact absurd rfl hne
  | cons a l=>exact ⟨⟨a,List.mem_cons_self ..⟩⟩
 obtain ⟨a1,a2,a3,gb,cap,cur,b1,b2,b3,b4,b5,b6,b7⟩:=row_of hw h0 hne;obtain ⟨vl⟩:=vs;have hs:vl.length=2:=hxs.size
 match vl,hs with
 | [v0,v1],_ =>
  have r0:=hxs.rel 0 _ v0 rfl rfl;have r1:=hxs.rel 1 _ v1 rfl rfl
  have hv0:v0=.slice (some ⟨gb,0,none⟩) l.length cap:=by
   cases r0 with
   | dat r=>cases r
   | osl _ _ _ _ _ _ _ h=>rw [h a3.symm,b1]
  obtain ⟨cb,hv1,c1,c2⟩:=r1.fn';subst hv0;subst hv1
  have hsz:l.attach.toArray.size=l.length:=by rw [List.size_toArray,List.length_attach]
  have hg:=b3.lt
  have hH:Holds enc w gb 0 l.attach.toArray:=fun j hj=>by
   rw [hsz] at hj;rw [Nat.zero_add,b3.cell,b7 j hj,getElem!_pos l.attach.toArray j (by rw [hsz];exact hj)];refine ⟨?_,b3.unf (by omega)⟩;unfold enc;simp
  have hcmp':CmpLays1 P g cb enc (fun x y:{x:Int // x ∈ l}=>cf x.val y.val) gb 0 l.attach.toArray.size w:=fun m os dk hdk x y=>by
   obtain ⟨q1,q2⟩:=hr_sort hw h0 hne b1 m dk os (by rw [hdk,hsz]);refine exact_of q1 hpn (fun id=>?_) hBox (hcmp x.val x.property y.val y.property) ⟨?_,fun i a v g1 g2=>?_⟩ (fun a ha=>?_)
   ·rcases hB id with k | ⟨k1,k2,k3⟩
    ·exact .inl k
    ·refine .inr ⟨k1,?_,k3⟩;rw [look_cons,if_neg (fun e=>by rw [e] at hp0;rw [hp0] at k1;cases k1)];exact k2
   ·rw [Array.size_append];show 2+cb.size=caps.length+2;rw [c1];omega
   ·match i with
    | 0 =>
     have g1:some (AV.int .i64 x.val)=some a:=g1;cases g1;rw [Array.getElem?_append_left (by show 0<2;omega)] at g2;have g2:some (enc x)=some v:=g2;cases g2;exact .dat (.int _ _)
    | 1 =>
     have g1:some (AV.int .i64 y.val)=some a:=g1;cases g1;rw [Array.getElem?_append_left (by show 1<2;omega)] at g2;have g2:some (enc y)=some v:=g2;cases g2;exact .dat (.int _ _)
    | i+2 =>
     have g1:caps[i]?=some a:=g1;rw [Array.getElem?_append_right (by show 2≤i+2;omega)] at g2;have g2:cb[i+2-2]?=some v:=g2;rw [Nat.add_sub_cancel] at g2;exact (c2 i a v g1 g2).ext q2
   ·rcases List.mem_cons.1 ha with rfl | ha
    ·rfl
    ·rcases List.mem_cons.1 ha with rfl | ha
     ·rfl
     ·exact hcx a ha
  have hcon:=Any.slices_SortFunc_total L enc (fun _=>rfl) (fun x y:{x:Int // x ∈ l}=>cf x.val y.val) hO g cb gb 0 cap l.attach.toArray w eg hcmp' hH hg (by rw [hsz];exact hlen) hT;rw [hsz] at hcon;refine hcon.mono ?_
  rintro e' w' ⟨he,n,os,rfl⟩
  obtain ⟨q1,q2⟩:=hr_sort hw h0 hne b1 n (l.attach.mergeSort fun x y=>!(ltOf (fun x y:{x:Int // x ∈ l}=>cf x.val y.val)) y x).toArray os (by rw [List.size_toArray,List.length_mergeSort,List.length_attach]);refine ⟨.tuple #[],.tup [],hp2,G.nx,G,he,⟨rfl,rfl,rfl⟩,rfl,q1.congr fun id=>?_,.tup [] #[] rfl (fun i a v g1 _=>by simp at g1),q2⟩;rw [h2 id];unfold srt;rw [List.map_map];rfl
end Srt
end Go.Proofs.Ytljebnobajmjnaa
/- The comparison of screen.Ranks,called while a row is being sorted. -/
namespace Go.Proofs.Ytljebnobajmjnaa
open Go Go.RowKit
set_option linter.unusedSimpArgs false
set_option linter.unusedSectionVars false
set_option linter.unusedVariables false
namespace Srt
def bxs (s f:Int×Int×Int) (m:Nat→Nat):List (Nat×AB):=[(m 1,.box [.fn 42 [.box (m 2) 0,.box (m 3) 0]] 96),(m 2,.box [.int .i64 s.1,.int .i64 s.2.1,.int .i64 s.2.2] 23),(m 3,.box [.int .i64 f.1,.int .i64 f.2.1,.int .i64 f.2.2] 66)]
def pB (m:Nat→Nat) (id:Nat):Bool:=Nat.beq id (m 1)||(Nat.beq id (m 2)||Nat.beq id (m 3))
theorem pB_iff {m:Nat→Nat} {id:Nat}:pB m id=true↔id=m 1∨id=m 2∨id=m 3:=by
 simp [pB]
def cmpv (fu:Nat) (s f:Int×Int×Int) (x y:Int):Option Int:=(screen_Ranks_2_r fu (x,(y,(((),()),(s,f))))).map (·.1)
theorem cmp_some {fu:Nat} {s f:Int×Int×Int} {x y c:Int} (h:cmpv fu s f x y=some c):screen_Ranks_2_r fu (x,(y,(((),()),(s,f))))=some (c,(f,(s,((),())))):=by
 unfold cmpv at h
 cases hr:screen_Ranks_2_r fu (x,(y,(((),()),(s,f)))) with
 | none=>rw [hr] at h;cases h
 | some r =>
  rw [hr] at h;have h1:r.1=c:=Option.some.inj h;unfold screen_Ranks_2_r at hr;obtain ⟨hg,-⟩:=chkE_some hr
  have h2:r.2=(f,(s,((),()))):=by
   unfold screen_Ranks_2_g at hg
   cases h3:screen_Ranks_1_r fu (x,(s,(f,()))) with
   | none=>rw [h3] at hg;cases hg
   | some u =>
    rw [h3,bindO_some] at hg
    cases h4:screen_Ranks_1_r fu (y,(s,(f,()))) with
    | none=>rw [h4] at hg;cases hg
    | some v =>
     rw [h4,bindO_some] at hg;simp only at hg;by_cases c1:u.1≠v.1
     ·rw [bif_pos c1] at hg;cases hg;rfl
     ·rw [bif_neg c1] at hg;by_cases c2:u.2.1≠v.2.1
      ·rw [bif_pos c2] at hg;cases hg;rfl
      ·rw [bif_neg c2] at hg;cases hg;rfl
  rw [←h1,←h2]
section
variable {m:Nat→Nat} {nx:Nat} (hlt:∀ i,i<4→m i<nx) (hinj:∀ i j,i<4→j<4→m i=m j→i=j) (hge:bigA≤nx) (hgm:∀ i,i<4→bigA≤m i) {s f:Int×Int×Int}
include hlt hinj hge hgm
theorem cmp_mok (x y:Int):MOk m nx (ent screen_Ranks_2_si 4 (.var (x,(y,(((),()),(s,f)))):E D (itmsTy screen_Ranks_2_si.items))):=by
 have live:∀ k,(ent screen_Ranks_2_si 4 (.var (x,(y,(((),()),(s,f)))):E D (itmsTy screen_Ranks_2_si.items))).blk k≠.dead→k<4:=fun k hk=>by
  rcases Nat.lt_or_ge k 4 with h | h
  ·exact h
  ·refine absurd ?_ hk;show look SB.dead [(1,_),(2,_),(3,_)] k=SB.dead;rw [look_cons,if_neg (by omega),look_cons,if_neg (by omega),look_cons,if_neg (by omega)];rfl
 refine ⟨fun k hk=>hlt k (live k hk),fun k k' hk hk'=>hinj k k' (live k hk) (live k' hk'),fun p hp=>?_,fun h=>?_,hge,fun k hk=>hgm k (live k hk)⟩
 rotate_left
 ·have h:(look SB.dead [(1,_),(2,_),(3,_)] 0).isA=true:=h;rw [look_cons,if_neg (by omega),look_cons,if_neg (by omega),look_cons,if_neg (by omega)] at h;cases h
 have hp:p ∈ [_,_,_]:=hp;simp only [List.mem_cons,List.not_mem_nil,or_false] at hp;rcases hp with rfl | rfl | rfl
 ·exact ⟨show 1<4 by omega,fun h=>by cases h⟩
 ·exact ⟨show 2<4 by omega,fun h=>by cases h⟩
 ·exact ⟨show 3<4 by omega,fun h=>by cases h⟩
theorem cmp_ac {fu:Nat} {x y c:Int} (h:cmpv fu s f x y=some c) :
  AC Try.prog 46 [.int .i64 x,.int .i64 y,.box (m 1) 0] (bxs s f m) nx (fun v hp' _=>v=.int .i64 c∧∀ id,pB m id=true→look .dead hp' id=look .dead (bxs s f m) id):=by
 obtain ⟨-,hac⟩:=screen_Ranks_2_ok.2 fu _ _ (cmp_some h);have hac:=hac m nx (cmp_mok hlt hinj hge hgm x y);intro w0 w G vs hw hnx hxs;refine (hac w0 w G vs hw hnx hxs).mono ?_
 rintro e w' ⟨v,a,hp',nx',G',he,⟨m2,hm2,hhp,ha,hfr⟩,hn,hw',hv,hx⟩
 refine ⟨v,a,hp',nx',G',he,⟨ha,fun id hid=>?_⟩,hn,hw',hv,hx⟩;have e1:m2 1=m 1:=les_box_inj (hfr.les 0 _ _ rfl rfl 1);have e2:m2 2=m 2:=les_box_inj (hfr.les 0 _ _ rfl rfl 2);have e3:m2 3=m 3:=les_box_inj (hfr.les 0 _ _ rfl rfl 3);have hh:hp'=[(m2 3,.box [.int .i64 f.1,.int .i64 f.2.1,.int .i64 f.2.2] 66),(m2 2,.box [.int .i64 s.1,.int .i64 s.2.1,.int .i64 s.2.2] 23),(m2 1,.box [.fn 42 [.box (m2 2) 0,.box (m2 3) 0]] 96)]:=hhp;rw [hh,e1,e2,e3];have n12:m 1≠m 2:=fun h=>by have:=hinj 1 2 (by omega) (by omega) h;omega
 have n13:m 1≠m 3:=fun h=>by have:=hinj 1 3 (by omega) (by omega) h;omega
 have n23:m 2≠m 3:=fun h=>by have:=hinj 2 3 (by omega) (by omega) h;omega
 unfold bxs;rcases pB_iff.1 hid with rfl | rfl | rfl
 ·rw [look_cons,if_neg n13.symm,look_cons,if_neg n12.symm,look_self,look_self]
 ·rw [look_cons,if_neg n23.symm,look_self,look_cons,if_neg n12,look_self]
 ·rw [look_self,look_cons,if_neg n13,look_cons,if_neg n23,look_self]
end
end Srt
end Go.Proofs.Ytljebnobajmjnaa
/- slices.SortFunc and what it calls: the library's bodies,as they lie in this program. -/
namespace Go.Proofs.Ytljebnobajmjnaa
open Go.Shelf Go.Proofs
def Try.sortL_ren:Go.Shelf.Ren:=⟨fun | 6=>45 | 15=>48 | 14=>47 | 28=>57 | 29=>58 | 20=>49 | 21=>50 | 22=>51 | 23=>52 | 24=>53 | 25=>54 | 26=>55 | 27=>56 | 46=>59 | 47=>60 | 48=>61 | 49=>62 | 50=>63 | 57=>64 | n=>n,fun | 22=>48 | 24=>3 | 25=>70 | 3=>3 | 39=>101 | 0=>0 | 53=>111 | 55=>113 | 4=>4 | 46=>104 | 45=>103 | 50=>108 | 5=>5 | 9=>9 | 66=>114 | 70=>118 | 76=>120 | 77=>94 | n=>n,fun | n=>n⟩
theorem Try.sortL:Go.Proofs.SlLaysF.n6 Try.prog Try.sortL_ren:={
 mixed:=by kernel_rfl
 f6:=⟨Try.f45.name,by decide,Try.func45.trans (congrArg some (by kernel_rfl))⟩
 f14:=⟨Try.f47.name,by decide,Try.func47.trans (congrArg some (by kernel_rfl))⟩
 f15:=Try.func48.trans (congrArg some (by kernel_rfl))
 f20:=⟨Try.f49.name,by decide,Try.func49.trans (congrArg some (by kernel_rfl))⟩
 f21:=⟨Try.f50.name,by decide,Try.func50.trans (congrArg some (by kernel_rfl))⟩
 f22:=⟨Try.f51.name,by decide,Try.func51.trans (congrArg some (by kernel_rfl))⟩
 f23:=⟨Try.f52.name,by decide,Try.func52.trans (congrArg some (by kernel_rfl))⟩
 f24:=⟨Try.f53.name,by decide,Try.func53.trans (congrArg some (by kernel_rfl))⟩
 f25:=⟨Try.f54.name,by decide,Try.func54.trans (congrArg some (by kernel_rfl))⟩
 f26:=⟨Try.f55.name,by decide,Try.func55.trans (congrArg some (by kernel_rfl))⟩
 f27:=⟨Try.f56.name,by decide,Try.func56.trans (congrArg some (by kernel_rfl))⟩
 f28:=Try.func57.trans (congrArg some (by kernel_rfl))
 f29:=Try.func58.trans (congrArg some (by kernel_rfl))
 f46:=⟨Try.f59.name,by decide,Try.func59.trans (congrArg some (by kernel_rfl))⟩
 f47:=Try.func60.trans (congrArg some (by kernel_rfl))
 f48:=Try.func61.trans (congrArg some (by kernel_rfl))
 f49:=⟨Try.f62.name,by decide,Try.func62.trans (congrArg some (by kernel_rfl))⟩
 f50:=⟨Try.f63.name,by decide,Try.func63.trans (congrArg some (by kernel_rfl))⟩
 f57:=⟨Try.f64.name,by decide,Try.func64.trans (congrArg some (by kernel_rfl))⟩
 t0:=Try.underlying0
 a0:=Try.isAgg0
 z0:=Try.sizeOf0
 v0:=Try.zeroValue0
 t3:=Try.underlying3
 a3:=Try.isAgg3
 z3:=Try.sizeOf3
 v3:=Try.zeroValue3
 t4:=Try.underlying4
 a4:=Try.isAgg4
 z4:=Try.sizeOf4
 v4:=Try.zeroValue4
 t5:=Try.underlying5
 a5:=Try.isAgg5
 z5:=Try.sizeOf5
 v5:=Try.zeroValue5
 t9:=Try.underlying9
 a9:=Try.isAgg9
 z9:=Try.sizeOf9
 v9:=Try.zeroValue9
 t22:=Try.underlying48
 a22:=Try.isAgg48
 z22:=Try.sizeOf48
 v22:=Try.zeroValue48
 a24:=Try.isAgg3
 z24:=Try.sizeOf3
 t25:=Try.underlying70
 a25:=Try.isAgg70
 z25:=Try.sizeOf70
 v25:=Try.zeroValue70
 t39:=Try.underlying101
 a39:=Try.isAgg101
 z39:=Try.sizeOf101
 v39:=Try.zeroValue101
 t45:=Try.underlying103
 a45:=Try.isAgg103
 z45:=Try.sizeOf103
 v45:=Try.zeroValue103
 t46:=Try.underlying104
 a46:=Try.isAgg104
 z46:=Try.sizeOf104
 v46:=Try.zeroValue104
 t50:=Try.underlying108
 a50:=Try.isAgg108
 z50:=Try.sizeOf108
 v50:=Try.zeroValue108
 t53:=Try.underlying111
 a53:=Try.isAgg111
 z53:=Try.sizeOf111
 v53:=Try.zeroValue111
 t55:=Try.underlying113
 a55:=Try.isAgg113
 z55:=Try.sizeOf113
 v55:=Try.zeroValue113
 t66:=Try.underlying114
 a66:=Try.isAgg114
 z66:=Try.sizeOf114
 v66:=Try.zeroValue114
 t70:=Try.underlying118
 a70:=Try.isAgg118
 z70:=Try.sizeOf118
 v70:=Try.zeroValue118
 t76:=Try.underlying120
 a76:=Try.isAgg120
 z76:=Try.sizeOf120
 v76:=Try.zeroValue120
 t77:=Try.underlying94
 a77:=Try.isAgg94
 z77:=Try.sizeOf94
 v77:=Try.zeroValue94 }
end Go.Proofs.Ytljebnobajmjnaa
/- slices.SortFunc in screen.Ranks: its contract. -/
namespace Go.Proofs.Ytljebnobajmjnaa
open Go Go.RowKit Go.Sort Go.Shelf Go.Lib Go.Proofs
set_option linter.unusedSimpArgs false
set_option linter.unusedSectionVars false
set_option linter.unusedVariables false
namespace Srt
def si:Sig:=⟨[],[],[(0,(.osl 0 0)),(1,(.fn 46 [(.box 1 0)]))],[.row 0 true (.int .i64) 3 0,.box 1 [(.fn 42 [(.box 2 0),(.box 3 0)])] 96,.box 2 [(.int .i64),(.int .i64),(.int .i64)] 23,.box 3 [(.int .i64),(.int .i64),(.int .i64)] 66],0,[]⟩
def so:Sig:=⟨[],[],[(0,(.tup []))],[.row 0 true (.int .i64) 3 0,.box 1 [(.fn 42 [(.box 2 0),(.box 3 0)])] 96,.box 2 [(.int .i64),(.int .i64),(.int .i64)] 23,.box 3 [(.int .i64),(.int .i64),(.int .i64)] 66],0,[]⟩
def cfv (fu:Nat) (s f:Int×Int×Int) (x y:Int):Int:=(cmpv fu s f x y).getD 0
structure Good (fu:Nat) (s f:Int×Int×Int) (l:List Int):Prop where
 ne:l≠[]
 len:l.length<4611686018427387904
 some:∀ x ∈ l,∀ y ∈ l,cmpv fu s f x y=Option.some (cfv fu s f x y)
 swo:SWO (ltOf (fun x y:{x:Int // x ∈ l}=>cfv fu s f x.val y.val))
 tot:∀ x y:{x:Int // x ∈ l},ltOf (fun x y:{x:Int // x ∈ l}=>cfv fu s f x.val y.val) x y=false→ltOf (fun x y:{x:Int // x ∈ l}=>cfv fu s f x.val y.val) y x=false→x=y
open Classical in
noncomputable def sortR (fu:Nat) (a:List Int×(Unit×Unit)×(Int×Int×Int)×(Int×Int×Int)):Option (List Int×(Unit×Unit)×(Int×Int×Int)×(Int×Int×Int)) :=
 if Good fu a.2.2.1 a.2.2.2 a.1 then some (srt (cfv fu a.2.2.1 a.2.2.2) a.1,a.2) else none
theorem srt_length (cf:Int→Int→Int) (l:List Int):(srt cf l).length=l.length:=by
 unfold srt;rw [List.length_map,List.length_mergeSort,List.length_attach]
def hpS (l:List Int) (s f:Int×Int×Int) (m:Nat→Nat):List (Nat×AB):=(m 0,.row 1 (l.map fun x=>[.int .i64 x]) 3)::bxs s f m
theorem exa_bxs {s f:Int×Int×Int} {m:Nat→Nat} (hinj:∀ i j,i<4→j<4→m i=m j→i=j) (id:Nat) (h:pB m id=true):∃ cs e,look .dead (bxs s f m) id=.box cs e∧∀ c ∈ cs,Exa (pB m) c:=by
 have n12:m 1≠m 2:=fun h=>by have:=hinj 1 2 (by omega) (by omega) h;omega
 have n13:m 1≠m 3:=fun h=>by have:=hinj 1 3 (by omega) (by omega) h;omega
 have n23:m 2≠m 3:=fun h=>by have:=hinj 2 3 (by omega) (by omega) h;omega
 have p2:pB m (m 2)=true:=pB_iff.2 (.inr (.inl rfl));have p3:pB m (m 3)=true:=pB_iff.2 (.inr (.inr rfl));unfold bxs;rcases pB_iff.1 h with rfl | rfl | rfl
 ·refine ⟨_,_,look_self ..,fun c hc=>?_⟩;rw [List.mem_singleton.1 hc];refine .fn _ _ fun d hd=>?_
  simp only [List.mem_cons,List.not_mem_nil,or_false] at hd;rcases hd with rfl | rfl
  ·exact .box _ _ p2
  ·exact .box _ _ p3
 ·refine ⟨_,_,by rw [look_cons,if_neg n12,look_self],fun c hc=>?_⟩;simp only [List.mem_cons,List.not_mem_nil,or_false] at hc
  rcases hc with rfl | rfl | rfl <;> exact .int _ _
 ·refine ⟨_,_,by rw [look_cons,if_neg n13,look_cons,if_neg n23,look_self],fun c hc=>?_⟩;simp only [List.mem_cons,List.not_mem_nil,or_false] at hc
  rcases hc with rfl | rfl | rfl <;> exact .int _ _
theorem bxs_dead {s f:Int×Int×Int} {m:Nat→Nat} {id:Nat} (h:¬ pB m id=true):look .dead (bxs s f m) id=.dead:=by
 rw [pB_iff] at h;unfold bxs;rw [look_cons,if_neg (fun e=>h (.inl e.symm)),look_cons,if_neg (fun e=>h (.inr (.inl e.symm))),look_cons,if_neg (fun e=>h (.inr (.inr e.symm)))];rfl
theorem nmd_bxs {s f:Int×Int×Int} {m:Nat→Nat} (hinj:∀ i j,i<4→j<4→m i=m j→i=j) (id:Nat) (h:pB m id=true):(look .dead (bxs s f m) id).nmd (pB m)=true:=by
 have n12:m 1≠m 2:=fun h=>by have:=hinj 1 2 (by omega) (by omega) h;omega
 have n13:m 1≠m 3:=fun h=>by have:=hinj 1 3 (by omega) (by omega) h;omega
 have n23:m 2≠m 3:=fun h=>by have:=hinj 2 3 (by omega) (by omega) h;omega
 have p2:pB m (m 2)=true:=pB_iff.2 (.inr (.inl rfl));have p3:pB m (m 3)=true:=pB_iff.2 (.inr (.inr rfl));unfold bxs;rcases pB_iff.1 h with rfl | rfl | rfl
 ·rw [look_self];simp [AB.nmd,AV.nmd,AV.nmd.go,p2,p3]
 ·rw [look_cons,if_neg n12,look_self];simp [AB.nmd,AV.nmd,AV.nmd.go]
 ·rw [look_cons,if_neg n13,look_cons,if_neg n23,look_self];simp [AB.nmd,AV.nmd,AV.nmd.go]
theorem sort_sc {m:Nat→Nat} {nx:Nat} (hlt:∀ i,i<4→m i<nx) (hinj:∀ i j,i<4→j<4→m i=m j→i=j) (hge:bigA≤nx) (hgm:∀ i,i<4→bigA≤m i) {fu:Nat} {s f:Int×Int×Int} {l:List Int} (h:Good fu s f l) :
  AC Try.prog 45 [.osl (m 0) l.length,.fn 46 [.box (m 1) 0]] (hpS l s f m) nx (fun v hp' nx'=>v=.tup []∧hp'=hpS (srt (cfv fu s f) l) s f m∧nx'=nx):=by
 have p0:pB m (m 0)=false:=by
  rw [←Bool.not_eq_true,pB_iff]
  rintro (e | e | e)
  ·have:=hinj 0 1 (by omega) (by omega) e;omega
  ·have:=hinj 0 2 (by omega) (by omega) e;omega
  ·have:=hinj 0 3 (by omega) (by omega) e;omega
 have main:=sort_ac (P:=Try.prog) (ρ:=Try.sortL_ren) Try.sortL (g:=46) (enters_of Try.func46 (by kernel_rfl) rfl) (hp:=hpS l s f m) (hp2:=hpS (srt (cfv fu s f) l) s f m) (hpB:=bxs s f m) (nx:=nx) (id0:=m 0) (e:=3) (l:=l) (caps:=[.box (m 1) 0]) (p:=pB m) (cf:=cfv fu s f)
  (look_self ..) h.ne h.len p0 (fun id hid=>?_) (fun id=>?_) (exa_bxs hinj) (fun c hc=>?_) (fun x hx y hy=>cmp_ac hlt hinj hge hgm (h.some x hx y hy)) h.swo h.tot (fun id=>?_)
 ·exact main
 ·rcases pB_iff.1 hid with rfl | rfl | rfl <;> exact hlt _ (by omega)
 ·by_cases c:pB m id=true
  ·refine .inr ⟨c,?_,nmd_bxs hinj id c⟩;unfold hpS;rw [look_cons,if_neg (fun e=>by rw [e,c] at p0;cases p0)];exact LesB.refl _
  ·exact .inl (bxs_dead c)
 ·rw [List.mem_singleton.1 hc];simp [AV.nmd,pB]
 ·unfold hpS;rw [look_cons,look_cons,look_cons]
  split <;> rfl
end Srt
noncomputable def slices_SortFunc___int_int__r (fu:Nat) (a:List Int×(Unit×Unit)×(Int×Int×Int)×(Int×Int×Int)):Option (List Int×(Unit×Unit)×(Int×Int×Int)×(Int×Int×Int)):=Srt.sortR fu a
noncomputable def slices_SortFunc___int_int__ctr:CtrE:=⟨Srt.si,Srt.so,4,2,slices_SortFunc___int_int__r,45⟩
theorem slices_SortFunc___int_int__ok:CtrEOk Try.prog 45 slices_SortFunc___int_int__ctr:=by
 refine ⟨by kernel_rfl,fun fu x y h=>?_⟩;obtain ⟨l,⟨⟨⟩,⟨⟩⟩,s,f⟩:=x;have h:Srt.sortR fu (l,(((),()),(s,f)))=some y:=h;unfold Srt.sortR at h;split at h
 ·rename_i hG;have hG:Srt.Good fu s f l:=hG;cases h;have hll:=Srt.srt_length (Srt.cfv fu s f) l;refine ⟨fun b hb hbn hk hv=>?_,fun m nx hm=>?_⟩
  ·have hb:b ∈ [0,1,2,3]:=hb;simp only [List.mem_cons,List.not_mem_nil,or_false] at hb;rcases hb with rfl | rfl | rfl | rfl
   ·show some (List.length (Srt.srt (Srt.cfv fu s f) l))=some (List.length l);rw [hll]
   ·cases hk
   ·cases hk
   ·cases hk
  ·have lv:∀ i,i<4→(ent Srt.si 4 (.var (l,(((),()),(s,f))):E D (itmsTy Srt.si.items))).blk i≠.dead:=fun i hi=>by
    match i,hi with
    | 0,_=>intro h;cases h
    | 1,_=>intro h;cases h
    | 2,_=>intro h;cases h
    | 3,_=>intro h;cases h
   have hlt:∀ i,i<4→m i<nx:=fun i hi=>hm.lt i (lv i hi)
   have hinj:∀ i j,i<4→j<4→m i=m j→i=j:=fun i j hi hj e=>hm.inj i j (lv i hi) (lv j hj) e
   have hge:=hm.ge.1;have hgm:∀ i,i<4→bigA≤m i:=fun i hi=>hm.ge.2 i (lv i hi)
   have main:=Srt.sort_sc (m:=m) (nx:=nx) hlt hinj hge hgm hG;intro w0 w G vs hw hnx hxs;refine (main w0 w G vs hw hnx hxs).mono ?_
   rintro e w' ⟨v,a,hp',nx',G',he,⟨rfl,rfl,rfl⟩,hn,hw',hv,hx⟩
   refine ⟨v,.tup [],_,nx',G',he,⟨m,?_,rfl,rfl,⟨rfl,fun i l1 f1 h1 h2 d=>?_⟩⟩,hn,hw',hv,hx⟩
   ·have live:∀ k,(exi Srt.si Srt.so 4 (.var (Srt.srt (Srt.cfv fu s f) l,(((),()),(s,f))):E D (itmsTy Srt.so.items))).blk k≠.dead→k<4:=fun k hk=>by
     rcases Nat.lt_or_ge k 4 with h | h
     ·exact h
     ·refine absurd ?_ hk;show look SB.dead [(0,_),(1,_),(2,_),(3,_)] k=SB.dead;rw [look_cons,if_neg (by omega),look_cons,if_neg (by omega),look_cons,if_neg (by omega),look_cons,if_neg (by omega)];rfl
    refine ⟨fun k hk=>hlt k (live k hk),fun k k' hk hk'=>hinj k k' (live k hk) (live k' hk'),fun p hp=>?_,fun h=>?_,hge,fun k hk=>hgm k (live k hk)⟩
    rotate_left
    ·have h:(look SB.dead [(0,_),(1,_),(2,_),(3,_)] 0).isA=true:=h;rw [look_self] at h;cases h
    have hp:p ∈ [_,_,_,_]:=hp;simp only [List.mem_cons,List.not_mem_nil,or_false] at hp;rcases hp with rfl | rfl | rfl | rfl
    ·exact ⟨show 0<4 by omega,fun h=>by cases h⟩
    ·exact ⟨show 1<4 by omega,fun h=>by cases h⟩
    ·exact ⟨show 2<4 by omega,fun h=>by cases h⟩
    ·exact ⟨show 3<4 by omega,fun h=>by cases h⟩
   ·match i with
    | 0 =>
     cases h1;cases h2
     match d with
     | 0 =>
      show Les (.osl (m 0) (List.length (Srt.srt (Srt.cfv fu s f) l))) (.osl (m 0) (List.length l));rw [hll];exact Les.refl _
     | 1=>exact Les.refl (.box (m 1) 0)
     | 2=>exact Les.refl (.box (m 2) 0)
     | 3=>exact Les.refl (.box (m 3) 0)
     | d+4=>exact Les.refl .any
    | i+1=>cases h1
 ·cases h
end Go.Proofs.Ytljebnobajmjnaa
/- Residual programs of functions (printed by a program out of the code),checked by the kernel,and the contracts that follow. -/
namespace Go.Proofs.Ytljebnobajmjnaa
open Go Go.RowKit
set_option linter.unusedVariables false
noncomputable section
def screen_Ranks_l3 (fu:Nat) (v3:List Int) (j4:(Int×List Int)→Option (List Int×Unit)) (v4:Int×List Int):Option (List Int×Unit) :=
 bif (decide (v4.1<(List.length v3:Int))) then
  bif ((decide ((0:Int)≤v4.1))&&(decide (v4.1<(List.length v3:Int)))) then
  let v5:Int:=(List.getD v3 (Int.toNat v4.1) 0)
  let v6:Int:=v4.1
  bif ((decide ((0:Int)≤v5))&&(decide (v5<(List.length v4.2:Int)))) then
  j4 (((IntKind.i64.wrap (v4.1+(1:Int))),(List.set v4.2 (Int.toNat v5) v6)))
  else none
  else none
 else
 some ((v4.2,()))
def screen_Ranks_j2 (fu:Nat) (v1:Int) (v3:List Int):Option (List Int×Unit) :=
 bif ((decide ((0:Int)≤v1))&&(decide (((8:Int)*v1)≤(281474976710656:Int)))) then
 loopF (screen_Ranks_l3 fu v3) fu (((0:Int),(List.replicate (Int.toNat v1) (0:Int))))
 else none
def screen_Ranks_l1 (fu:Nat) (a:(Int×Int×Int)×Unit) (v0:(Int×Int×Int)×Unit) (v1:Int) (j2:(Int×List Int)→Option (List Int×Unit)) (v2:Int×List Int):Option (List Int×Unit) :=
 bif (decide (v2.1<(List.length (List.replicate (Int.toNat v1) (0:Int)):Int))) then
  let v3:Int:=v2.1
  bif ((decide ((0:Int)≤v3))&&(decide (v3<(List.length v2.2:Int)))) then
  j2 (((IntKind.i64.wrap (v2.1+(1:Int))),(List.set v2.2 (Int.toNat v3) v3)))
  else none
 else
 joinF (screen_Ranks_j2 fu v1) fun j3 =>
 bif (decide (a.1.2.2=(3:Int))) then
  bindO (screen_scatter_r fu ((a.1,(v0.1,())))) fun v4 =>
  let v5:List Int:=v4.1
  j3 (v5)
 else
 bindO (slices_SortFunc___int_int__r fu ((v2.2,(((),()),(a.1,v0.1))))) fun v4 =>
 j3 (v4.1)
def screen_Ranks_r (fu:Nat) (a:(Int×Int×Int)×Unit):Option (List Int×Unit) :=
 bindO (screen_Of_r fu ((a.1,()))) fun v0 =>
 let v1:Int:=(IntKind.i64.wrap ((IntKind.i64.wrap (a.1.1*a.1.1))+(IntKind.i64.wrap (a.1.2.1*a.1.2.1))))
 bif ((decide ((0:Int)≤v1))&&(decide (((8:Int)*v1)≤(281474976710656:Int)))) then
 loopF (screen_Ranks_l1 fu a v0 v1) fu (((0:Int),(List.replicate (Int.toNat v1) (0:Int))))
 else none
def screen_Ranks_an:An:=(.n none .z (.n none .z (.n none .z (.n none .z (.n none (.n none .z (.n none (.n (some ⟨[5,4,1,3,27,2],[1,0],[],[.reg 28 (.int .i64),.row 2 true (.int .i64) 3 0],0,[]⟩) (.n none .z (.n none .z (.n none (.n none (.n none .z .z) .z) .z))) .z) .z)) (.n none .z (.n (some ⟨[4],[],[],[.reg 5 (.ro true (.int .i64))],0,[]⟩) (.n none .z (.n none .z .z)) (.n none .z (.n none (.n none .z (.n none (.n (some ⟨[8,48,49],[],[],[.reg 50 (.int .i64),.row 4 true (.int .i64) 3 0],0,[]⟩) (.n none .z (.n none .z (.n none (.n none (.n none .z .z) .z) .z))) .z) .z)) (.n none .z .z))))))))))
noncomputable def screen_Ranks_dc:List (Nat×Ctr):=[(17,screen_Of_ctr),(44,screen_scatter_ctr)]
noncomputable def screen_Ranks_de:List (Nat×CtrE):=[(45,slices_SortFunc___int_int__ctr)]
def screen_Ranks_ctr:Ctr:=⟨(.pair (.agg (.pair (.int .i64) (.pair (.int .i64) (.int .i64)))) .unit),(.pair (.list (.int .i64)) .unit),screen_Ranks_r,38⟩
theorem screen_Ranks_ok:CtrOk Try.prog 38 screen_Ranks_ctr:=ctr_okE (l:=screen_Ranks_dc) (le:=screen_Ranks_de) ⟨screen_Of_ok,⟨screen_scatter_ok,trivial⟩⟩ ⟨slices_SortFunc___int_int__ok,trivial⟩ (f:=12) (an:=screen_Ranks_an) fun fu x=>by kernel_rfl
end
end Go.Proofs.Ytljebnobajmjnaa
/- Residual programs of functions (printed by a program out of the code),checked by the kernel,and the contracts that follow. -/
namespace Go.Proofs.Ytljebnobajmjnaa
open Go Go.RowKit
set_option linter.unusedVariables false
noncomputable section
def halftone_painter_si:Sig:=⟨[],[],[],[.reg 0 (.pk false (.pair (.int .i64) (.pair (.int .i64) (.list (.int .u8)))) 0),.reg 1 (.agg [(.int .i64),(.int .i64),(.int .i64)])],0,[]⟩
def halftone_painter_so:Sig:=⟨[],[],[],[.reg 0 (.fn 39 [(.box 3 0),(.box 2 0),(.box 1 0),(.arr 0 0 0)]),.row 0 true (.int .i64) 92 0,.box 1 [(.int .i64),(.int .i64),(.int .i64)] 66,.box 2 [(.ro true (.int .i64))] 48,.box 3 [(.pk false (.pair (.int .i64) (.pair (.int .i64) (.list (.int .u8)))) 0)] 80],4,[]⟩
def halftone_painter_l1 (fu:Nat) (a:(Int×Int×List Int)×Int×Int×Int) (v0:(Int×Int×Int)×Unit) (v1:List Int×Unit) (j2:(Int×List Int)→Option ((Unit×Unit×Unit×Unit)×List Int×(Int×Int×Int)×List Int×Int×Int×List Int)) (v2:Int×List Int):Option ((Unit×Unit×Unit×Unit)×List Int×(Int×Int×Int)×List Int×Int×Int×List Int) :=
 bif (decide (v2.1<(256:Int))) then
  let v3:Int:=v2.1
  bindO (curve_Nearest_r fu (((IntKind.i64.wrap (v3*(List.length v1.1:Int))),((255:Int),())))) fun v4 =>
  bif (((decide ((0:Int)≤v3))&&(decide (v3<(List.length v2.2:Int))))&&(decide (v3<(256:Int)))) then
  j2 (((IntKind.i64.wrap (v2.1+(1:Int))),(List.set v2.2 (Int.toNat v3) v4.1)))
  else none
 else
 some ((((),((),((),()))),(v2.2,(v0.1,(v1.1,a.1)))))
def halftone_painter_g (fu:Nat) (a:(Int×Int×List Int)×Int×Int×Int):Option ((Unit×Unit×Unit×Unit)×List Int×(Int×Int×Int)×List Int×Int×Int×List Int) :=
 bindO (screen_Of_r fu ((a.2,()))) fun v0 =>
 bindO (screen_Ranks_r fu ((a.2,()))) fun v1 =>
 loopF (halftone_painter_l1 fu a v0 v1) fu (((0:Int),([(0:Int),(0:Int),(0:Int),(0:Int),(0:Int),(0:Int),(0:Int),(0:Int),(0:Int),(0:Int),(0:Int),(0:Int),(0:Int),(0:Int),(0:Int),(0:Int),(0:Int),(0:Int),(0:Int),(0:Int),(0:Int),(0:Int),(0:Int),(0:Int),(0:Int),(0:Int),(0:Int),(0:Int),(0:Int),(0:Int),(0:Int),(0:Int),(0:Int),(0:Int),(0:Int),(0:Int),(0:Int),(0:Int),(0:Int),(0:Int),(0:Int),(0:Int),(0:Int),(0:Int),(0:Int),(0:Int),(0:Int),(0:Int),(0:Int),(0:Int),(0:Int),(0:Int),(0:Int),(0:Int),(0:Int),(0:Int),(0:Int),(0:Int),(0:Int),(0:Int),(0:Int),(0:Int),(0:Int),(0:Int),(0:Int),(0:Int),(0:Int),(0:Int),(0:Int),(0:Int),(0:Int),(0:Int),(0:Int),(0:Int),(0:Int),(0:Int),(0:Int),(0:Int),(0:Int),(0:Int),(0:Int),(0:Int),(0:Int),(0:Int),(0:Int),(0:Int),(0:Int),(0:Int),(0:Int),(0:Int),(0:Int),(0:Int),(0:Int),(0:Int),(0:Int),(0:Int),(0:Int),(0:Int),(0:Int),(0:Int),(0:Int),(0:Int),(0:Int),(0:Int),(0:Int),(0:Int),(0:Int),(0:Int),(0:Int),(0:Int),(0:Int),(0:Int),(0:Int),(0:Int),(0:Int),(0:Int),(0:Int),(0:Int),(0:Int),(0:Int),(0:Int),(0:Int),(0:Int),(0:Int),(0:Int),(0:Int),(0:Int),(0:Int),(0:Int),(0:Int),(0:Int),(0:Int),(0:Int),(0:Int),(0:Int),(0:Int),(0:Int),(0:Int),(0:Int),(0:Int),(0:Int),(0:Int),(0:Int),(0:Int),(0:Int),(0:Int),(0:Int),(0:Int),(0:Int),(0:Int),(0:Int),(0:Int),(0:Int),(0:Int),(0:Int),(0:Int),(0:Int),(0:Int),(0:Int),(0:Int),(0:Int),(0:Int),(0:Int),(0:Int),(0:Int),(0:Int),(0:Int),(0:Int),(0:Int),(0:Int),(0:Int),(0:Int),(0:Int),(0:Int),(0:Int),(0:Int),(0:Int),(0:Int),(0:Int),(0:Int),(0:Int),(0:Int),(0:Int),(0:Int),(0:Int),(0:Int),(0:Int),(0:Int),(0:Int),(0:Int),(0:Int),(0:Int),(0:Int),(0:Int),(0:Int),(0:Int),(0:Int),(0:Int),(0:Int),(0:Int),(0:Int),(0:Int),(0:Int),(0:Int),(0:Int),(0:Int),(0:Int),(0:Int),(0:Int),(0:Int),(0:Int),(0:Int),(0:Int),(0:Int),(0:Int),(0:Int),(0:Int),(0:Int),(0:Int),(0:Int),(0:Int),(0:Int),(0:Int),(0:Int),(0:Int),(0:Int),(0:Int),(0:Int),(0:Int),(0:Int),(0:Int),(0:Int),(0:Int),(0:Int),(0:Int),(0:Int),(0:Int),(0:Int),(0:Int),(0:Int),(0:Int),(0:Int),(0:Int),(0:Int),(0:Int),(0:Int),(0:Int),(0:Int),(0:Int),(0:Int),(0:Int),(0:Int),(0:Int),(0:Int),(0:Int),(0:Int)]:List Int)))
def halftone_painter_r (fu:Nat) (a:(Int×Int×List Int)×Int×Int×Int):Option ((Unit×Unit×Unit×Unit)×List Int×(Int×Int×Int)×List Int×Int×Int×List Int):=chkE halftone_painter_si halftone_painter_so 0 halftone_painter_g fu a
def halftone_painter_an:An:=(.n none .z (.n none (.dr [] []) (.n none .z (.n none (.n none .z (.n none (.n (some ⟨[2,6,5,7,4],[0,1,2,3],[],[.reg 13 (.int .i64),.row 4 true (.int .i64) 92 0],0,[]⟩) (.n none .z (.n none .z (.n none (.n none (.n none .z .z) .z) .z))) .z) .z)) (.n none .z .z)))))
noncomputable def halftone_painter_dc:List (Nat×Ctr):=[(17,screen_Of_ctr),(20,curve_Nearest_ctr),(38,screen_Ranks_ctr)]
def halftone_painter_ctr:CtrE:=⟨halftone_painter_si,halftone_painter_so,0,2,halftone_painter_r,30⟩
theorem halftone_painter_ok:CtrEOk Try.prog 30 halftone_painter_ctr:=ctrE_ok (l:=halftone_painter_dc) (le:=[]) ⟨screen_Of_ok,⟨curve_Nearest_ok,⟨screen_Ranks_ok,trivial⟩⟩⟩ trivial (f:=12) (an:=halftone_painter_an) (si:=halftone_painter_si) (so:=halftone_painter_so) (nb:=0) (na:=2) (g:=halftone_painter_g) (by kernel_rfl) fun fu x=>by kernel_rfl
def halftone_Apply_j3 (fu:Nat) (j7:(Int×List Int)→Option ((Int×Int×List Int)×Int×Unit)) (v8:Int×List Int):Option ((Int×Int×List Int)×Int×Unit) :=
 j7 (((IntKind.i64.wrap (v8.1+(1:Int))),v8.2))
def halftone_Apply_l2 (fu:Nat) (v3:(Unit×Unit×Unit×Unit)×List Int×(Int×Int×Int)×List Int×Int×Int×List Int) (v4:Int) (v5:Int×List Int) (v6:Int) (j5:(Int×List Int)→Option ((Int×Int×List Int)×Int×Unit)) (j7:(Int×List Int)→Option ((Int×Int×List Int)×Int×Unit)) (v7:Int×List Int):Option ((Int×Int×List Int)×Int×Unit) :=
 bif (decide (v7.1<(List.length (List.drop (Int.toNat (IntKind.i64.wrap (v6*v3.2.2.2.2.1))) (List.take (Int.toNat (IntKind.i64.wrap ((IntKind.i64.wrap (v6+(1:Int)))*v3.2.2.2.2.1))) v3.2.2.2.2.2.2)):Int))) then
  joinF (halftone_Apply_j3 fu j7) fun j8 =>
  bif ((decide ((0:Int)≤v7.1))&&(decide (v7.1<(List.length (List.drop (Int.toNat (IntKind.i64.wrap (v6*v3.2.2.2.2.1))) (List.take (Int.toNat (IntKind.i64.wrap ((IntKind.i64.wrap (v6+(1:Int)))*v3.2.2.2.2.1))) v3.2.2.2.2.2.2)):Int)))) then
  let v9:Int:=(List.getD (List.drop (Int.toNat (IntKind.i64.wrap (v6*v3.2.2.2.2.1))) (List.take (Int.toNat (IntKind.i64.wrap ((IntKind.i64.wrap (v6+(1:Int)))*v3.2.2.2.2.1))) v3.2.2.2.2.2.2)) (Int.toNat v7.1) 0)
  let v10:Int:=v7.1
  bindO (_screen_Form__Place_r fu ((v3.2.2.1,(v10,(v6,()))))) fun v11 =>
  bif ((decide ((0:Int)≤v11.1))&&(decide (v11.1<(List.length v3.2.2.2.1:Int)))) then
  let v12:Int:=(List.getD v3.2.2.2.1 (Int.toNat v11.1) 0)
  bif (((decide ((0:Int)≤v9))&&(decide (v9<(List.length v3.2.1:Int))))&&(decide (v9<(256:Int)))) then
  bif (decide (v12<(List.getD v3.2.1 (Int.toNat v9) 0))) then
   bif ((decide ((0:Int)≤(IntKind.i64.wrap (v6*v4))))&&((decide ((0:Int)≤(IntKind.i64.wrap (Int.tdiv v10 (8:Int)))))&&(decide (((IntKind.i64.wrap (v6*v4))+(IntKind.i64.wrap (Int.tdiv v10 (8:Int))))<(IntKind.i64.wrap ((IntKind.i64.wrap (v6+(1:Int)))*v4)))))) then
   bif ((decide ((0:Int)≤(Int.tmod v10 (8:Int))))&&(decide ((Int.tmod v10 (8:Int))≤(8:Int)))) then
   bif ((decide ((0:Int)≤(IntKind.i64.wrap (v6*v4))))&&((decide ((0:Int)≤(IntKind.i64.wrap (Int.tdiv v10 (8:Int)))))&&(decide (((IntKind.i64.wrap (v6*v4))+(IntKind.i64.wrap (Int.tdiv v10 (8:Int))))<(IntKind.i64.wrap ((IntKind.i64.wrap (v6+(1:Int)))*v4)))))) then
   j8 ((v7.1,(List.set v7.2 (Int.toNat ((IntKind.i64.wrap (v6*v4))+(IntKind.i64.wrap (Int.tdiv v10 (8:Int))))) (bits BinOp.or IntKind.u8 (List.getD v7.2 (Int.toNat ((IntKind.i64.wrap (v6*v4))+(IntKind.i64.wrap (Int.tdiv v10 (8:Int))))) 0) ((128:Int) / 2 ^ (Int.toNat (Int.tmod v10 (8:Int))))))))
   else none
   else none
   else none
  else
  j8 (v7)
  else none
  else none
  else none
 else
 j5 (((IntKind.i64.wrap (v5.1+(1:Int))),v7.2))
def halftone_Apply_l1 (fu:Nat) (a:(Int×Int×List Int)×(Int×Int×Int)×Unit) (v2:(Int×Int×Unit)×List Int) (v3:(Unit×Unit×Unit×Unit)×List Int×(Int×Int×Int)×List Int×Int×Int×List Int) (v4:Int) (j5:(Int×List Int)→Option ((Int×Int×List Int)×Int×Unit)) (v5:Int×List Int):Option ((Int×Int×List Int)×Int×Unit) :=
 bif (decide (v5.1<a.1.2.1)) then
  let v6:Int:=v5.1
  bif ((decide ((0:Int)≤(IntKind.i64.wrap (v6*v4))))&&((decide ((IntKind.i64.wrap (v6*v4))≤(IntKind.i64.wrap ((IntKind.i64.wrap (v6+(1:Int)))*v4))))&&(decide ((IntKind.i64.wrap ((IntKind.i64.wrap (v6+(1:Int)))*v4))≤(List.length v5.2:Int))))) then
  bif ((decide ((0:Int)≤(IntKind.i64.wrap (v6*v3.2.2.2.2.1))))&&((decide ((IntKind.i64.wrap (v6*v3.2.2.2.2.1))≤(IntKind.i64.wrap ((IntKind.i64.wrap (v6+(1:Int)))*v3.2.2.2.2.1))))&&(decide ((IntKind.i64.wrap ((IntKind.i64.wrap (v6+(1:Int)))*v3.2.2.2.2.1))≤(List.length v3.2.2.2.2.2.2:Int))))) then
  loopF (halftone_Apply_l2 fu v3 v4 v5 v6 j5) fu (((0:Int),v5.2))
  else none
  else none
 else
 some (((v2.1.1,(v2.1.2.1,v5.2)),((0:Int),())))
def halftone_Apply_r (fu:Nat) (a:(Int×Int×List Int)×(Int×Int×Int)×Unit):Option ((Int×Int×List Int)×Int×Unit) :=
 bindO (halftone_check_r fu ((a.1,(a.2.1,())))) fun v0 =>
 let v1:Int:=v0.1
 bif (decide (v1≠(0:Int))) then
  some ((((0:Int),((0:Int),([]:List (Int)))),(v1,())))
 else
 bindO (bitmap_Blank_r fu ((a.1.1,a.1.2.1))) fun v2 =>
 bindO (halftone_painter_r fu ((a.1,a.2.1))) fun v3 =>
 let v4:Int:=(IntKind.i64.wrap (Int.tdiv (IntKind.i64.wrap (a.1.1+(7:Int))) (8:Int)))
 loopF (halftone_Apply_l1 fu a v2 v3 v4) fu (((0:Int),v2.2))
def halftone_Apply_an:An:=(.n none (.ops [(0,(.dr [] [])),(1,(.dr [] []))]) (.n none (.n none .z (.n none .z (.n none (.n none .z .z) .z))) (.n none .z (.n none (.dr [] []) (.n none (.n none .z (.n none (.n (some ⟨[4,7,8,9,29,5],[0,2,6,5,4,3],[],[.reg 30 (.int .i64),.row 1 true (.int .u8) 5 0],0,[]⟩) (.n none .z (.n none .z (.n none (.n none (.n none .z (.ops [(12,(.n none (.n none (.dr [] []) (.n none (.n (some ⟨[27,3,4,0,5,1,28],[],[],[.reg 29 (.int .i64),.row 1 true (.int .u8) 5 0],0,[]⟩) (.n none .z (.n none .z (.n (some ⟨[],[],[],[.reg 29 (.int .i64),.row 1 true (.int .u8) 5 0],0,[]⟩) (.n none (.n none .z (.n none (.dr [] []) (.n none (.dr [] []) .z))) .z) .z))) .z) .z)) .z))])) .z) .z))) .z) .z)) (.n none .z .z))))))
noncomputable def halftone_Apply_dc:List (Nat×Ctr):=[(28,halftone_check_ctr),(40,_screen_Form__Place_ctr)]
noncomputable def halftone_Apply_de:List (Nat×CtrE):=[(29,bitmap_Blank_ctr),(30,halftone_painter_ctr)]
def halftone_Apply_ctr:Ctr:=⟨(.pair (.agg (.pair (.int .i64) (.pair (.int .i64) (.list (.int .u8))))) (.pair (.agg (.pair (.int .i64) (.pair (.int .i64) (.int .i64)))) .unit)),(.pair (.agg (.pair (.int .i64) (.pair (.int .i64) (.list (.int .u8))))) (.pair (.int .i64) .unit)),halftone_Apply_r,14⟩
theorem halftone_Apply_ok:CtrOk Try.prog 14 halftone_Apply_ctr:=ctr_okE (l:=halftone_Apply_dc) (le:=halftone_Apply_de) ⟨halftone_check_ok,⟨_screen_Form__Place_ok,trivial⟩⟩ ⟨bitmap_Blank_ok,⟨halftone_painter_ok,trivial⟩⟩ (f:=12) (an:=halftone_Apply_an) fun fu x=>by kernel_rfl
def halftone_All_l1 (fu:Nat) (a:List (Int×Int×List Int)×List (Int×Int×Int)×Unit) (j0:(Int×List (Int×Int×List Int))→Option (List (Int×Int×List Int)×Int×Unit)) (v0:Int×List (Int×Int×List Int)):Option (List (Int×Int×List Int)×Int×Unit) :=
 bif (decide (v0.1<(List.length a.1:Int))) then
  let v1:Int:=v0.1
  bif ((decide ((0:Int)≤v1))&&(decide (v1<(List.length a.1:Int)))) then
  let v2:Int×Int×List Int:=(List.getD a.1 (Int.toNat v1) (0,(0,[])))
  bif ((decide ((0:Int)≤v1))&&(decide (v1<(List.length a.2.1:Int)))) then
  let v3:Int×Int×Int:=(List.getD a.2.1 (Int.toNat v1) (0,(0,0)))
  bindO (halftone_Apply_r fu ((v2,(v3,())))) fun v4 =>
  bif ((decide ((0:Int)≤v1))&&(decide (v1<(List.length v0.2:Int)))) then
  let v5:Int:=v4.2.1
  bif (decide (v5≠(0:Int))) then
   some ((([]:List ((Int)×((Int)×(List (Int))))),(v5,())))
  else
  j0 (((IntKind.i64.wrap (v0.1+(1:Int))),(List.set v0.2 (Int.toNat v1) v4.1)))
  else none
  else none
  else none
 else
 some ((v0.2,((0:Int),())))
def halftone_All_r (fu:Nat) (a:List (Int×Int×List Int)×List (Int×Int×Int)×Unit):Option (List (Int×Int×List Int)×Int×Unit) :=
 bif (decide ((8:Int)<(List.length a.1:Int))) then
  some ((([]:List ((Int)×((Int)×(List (Int))))),((2:Int),())))
 else
 bif (decide ((List.length a.2.1:Int)≠(List.length a.1:Int))) then
  some ((([]:List ((Int)×((Int)×(List (Int))))),((4:Int),())))
 else
 bif ((decide ((0:Int)≤(List.length a.1:Int)))&&(decide (((40:Int)*(List.length a.1:Int))≤(281474976710656:Int)))) then
 loopF (halftone_All_l1 fu a) fu (((0:Int),(List.replicate (Int.toNat (List.length a.1:Int)) ((0:Int),((0:Int),([]:List (Int)))))))
 else none
def halftone_All_an:An:=(.n none .z (.n none (.n none .z (.n none (.n none .z .z) .z)) (.n none (.n none .z (.n none (.n none .z .z) .z)) (.n none .z (.n none (.n none .z (.n none (.n (some ⟨[6,0,1,21],[],[],[.reg 22 (.int .i64),.row 0 true (.pair (.int .i64) (.pair (.int .i64) (.list (.int .u8)))) 60 0],0,[]⟩) (.n none .z (.n none .z (.n none (.n none (.n none .z (.n none .z (.n none (.dr [] []) (.n none .z (.n none (.n none .z .z) .z))))) .z) .z))) .z) .z)) (.n none .z .z))))))
noncomputable def halftone_All_dc:List (Nat×Ctr):=[(14,halftone_Apply_ctr)]
def halftone_All_ctr:Ctr:=⟨(.pair (.list (.pair (.int .i64) (.pair (.int .i64) (.list (.int .u8))))) (.pair (.list (.pair (.int .i64) (.pair (.int .i64) (.int .i64)))) .unit)),(.pair (.list (.pair (.int .i64) (.pair (.int .i64) (.list (.int .u8))))) (.pair (.int .i64) .unit)),halftone_All_r,8⟩
theorem halftone_All_ok:CtrOk Try.prog 8 halftone_All_ctr:=ctr_ok (l:=halftone_All_dc) (f:=12) (an:=halftone_All_an) ⟨halftone_Apply_ok,trivial⟩ fun fu x=>by kernel_rfl
def top_sDots_r (fu:Nat) (a:Unit):Option (Bool×Unit) :=
 bindO (halftone_Apply_r fu ((((5:Int),((1:Int),([(128:Int),(128:Int),(128:Int),(128:Int),(128:Int)]:List Int))),(((2:Int),((1:Int),(0:Int))),())))) fun v0 =>
 let v1:Int:=v0.2.1
 bindO (bitmap_Count_r fu ((v0.1,()))) fun v2 =>
 let v3:Int:=v2.1
 let v4:Int:=v2.2.1
 bif (decide (v1=(0:Int))) then
  bif (decide (v4=(0:Int))) then
   bif (decide (v3=(3:Int))) then
    bif (decide ((List.length v0.1.2.2:Int)=(1:Int))) then
     bif (decide ((0:Int)<(List.length v0.1.2.2:Int))) then
     let v5:Int:=(List.getD v0.1.2.2 (Int.toNat (0:Int)) 0)
     let v6:Bool:=(decide (v5=(224:Int)))
     some ((v6,()))
     else none
    else
    some ((false,()))
   else
   some ((false,()))
  else
  some ((false,()))
 else
 some ((false,()))
def top_sDots_an:An:=(.n none .z (.n none .z (.n none .z (.n none .z .z))))
noncomputable def top_sDots_dc:List (Nat×Ctr):=[(14,halftone_Apply_ctr),(15,bitmap_Count_ctr)]
def top_sDots_ctr:Ctr:=⟨.unit,(.pair .bool .unit),top_sDots_r,4⟩
theorem top_sDots_ok:CtrOk Try.prog 4 top_sDots_ctr:=ctr_ok (l:=top_sDots_dc) (f:=12) (an:=top_sDots_an) ⟨halftone_Apply_ok,⟨bitmap_Count_ok,trivial⟩⟩ fun fu x=>by kernel_rfl
end
end Go.Proofs.Ytljebnobajmjnaa
/- The residual programs. -/
/- Remainders and the greatest common divisor,as the program and the document compute them. -/
namespace Go.Proofs.Ytljebnobajmjnaa
open Go Go.RowKit
set_option linter.unusedSimpArgs false
set_option linter.unusedSectionVars false
set_option linter.unusedVariables false
namespace Sc
theorem smod (fu:Nat) {n d:Int} (hd:0<d) (h1:d≤1000000000000000):screen_mod_r fu (n,(d,()))=some (n % d,()):=by
 unfold screen_mod_r screen_mod_j1;simp only [joinF_eq];have e:=Int.tmod_eq_emod (a:=n) (b:=d);have e0:=Int.emod_nonneg n (show d≠0 by omega);have e1:=Int.emod_lt_of_pos n hd;rw [bif_pos (by omega)];by_cases c:0≤n∨d ∣ n
 ·rw [if_pos c] at e;rw [e,bif_neg (by omega)];congr 2;omega
 ·rw [if_neg c] at e;rw [e,bif_pos (by omega),s_wr (by omega) (by omega)];congr 2;omega
theorem bez_b {fu:Nat}:∀ (d:Nat) (a b:Int),0≤b→b<d→0≤a→a≤1000000000000000→b≤1000000000000000→(0<a∨0<b) →
  ∃ g x y,recN screen_bezout_b d fu (a,(b,()))=some (g,(x,(y,())))∧0<g∧a*x+b*y=g∧g ∣ a∧g ∣ b∧(-(max 1 b)≤x∧x≤max 1 b)∧(-(max 1 a)≤y∧y≤max 1 a)∧(b=0→x=1∧y=0)
 | 0,a,b,h0,h1,_,_,_,_=>by omega
 | d+1,a,b,h0,h1,h2,h3,h4,h5=>by
  rw [recN,show screen_bezout_b (recN screen_bezout_b d) fu (a,(b,()))=(bif decide (b=0) then some (a,((1:Int),((0:Int),()))) else bif decide (b≠0) then
   bindO (recN screen_bezout_b d fu (b,(Int.tmod a b,()))) fun v0=>(bif decide (b≠0) then some (v0.1,(v0.2.2.1,(IntKind.i64.wrap (v0.2.1-IntKind.i64.wrap (IntKind.i64.wrap (Int.tdiv a b)*v0.2.2.1)),()))) else none) else none) from rfl]
  by_cases c:b=0
  ·subst c;rw [bif_pos rfl];exact ⟨a,1,0,rfl,by omega,by omega,Int.dvd_refl _,Int.dvd_zero _,by omega,by omega,fun _=>⟨rfl,rfl⟩⟩
  ·have hb:0<b:=by omega
   have e0:=Int.emod_nonneg a c;have e1:=Int.emod_lt_of_pos a hb;have e2:=Int.mul_ediv_add_emod a b;have q0:0≤a / b:=Int.ediv_nonneg h2 h0;have q1:a / b≤a:=Int.ediv_le_self _ h2;obtain ⟨g,x,y,k1,k2,k3,k4,k5,k6,k7,k8⟩:=bez_b (fu:=fu) d b (a % b) e0 (by omega) h0 h4 (by omega) (.inl hb);rw [bif_neg c,bif_pos c,s_tm h2,k1];simp only [bindO_some];have hy:-b≤y∧y≤b:=by omega
   have m1:a / b*y≤a / b*b:=Int.mul_le_mul_of_nonneg_left hy.2 q0;have m2:a / b*(-b)≤a / b*y:=Int.mul_le_mul_of_nonneg_left hy.1 q0;have m3:a / b*(-b)=-(a / b*b):=by rw [Int.mul_neg]
   have m4:a / b*b=b*(a / b):=Int.mul_comm _ _
   have hyb:-(max 1 a)≤x-a / b*y∧x-a / b*y≤max 1 a:=by
    by_cases r:a % b=0
    ·obtain ⟨r1,r2⟩:=k8 r;subst r1;subst r2
     rw [Int.mul_zero];omega
    ·omega
   rw [bif_pos c,s_td h2,s_wr (x:=a / b) (by omega) (by omega),s_wr (x:=a / b*y) (by omega) (by omega),s_wr (x:=x-a / b*y) (by omega) (by omega)];refine ⟨g,y,x-a / b*y,rfl,k2,?_,?_,k4,by omega,hyb,fun h=>absurd h c⟩
   ·rw [←k3];have:a=b*(a / b)+a % b:=e2.symm;generalize a / b=q at *
    generalize a % b=r at *
    subst this
    grind
   ·rw [←e2];exact Int.dvd_add (Int.dvd_trans k4 (Int.dvd_mul_right _ _)) k5
theorem bez_r {fu:Nat} (hf:18446744073709551616≤fu) {a b:Int} (h0:0≤b) (h2:0≤a) (h3:a≤1000000000000000) (h4:b≤1000000000000000) (h5:0<a∨0<b) :
  ∃ g x y,screen_bezout_r fu (a,(b,()))=some (g,(x,(y,())))∧0<g∧a*x+b*y=g∧g ∣ a∧g ∣ b∧(-(max 1 b)≤x∧x≤max 1 b)∧(-(max 1 a)≤y∧y≤max 1 a):=by
 obtain ⟨g,x,y,k1,k2,k3,k4,k5,k6,k7,_⟩:=bez_b (fu:=fu) fu a b h0 (by omega) h2 h3 h4 h5;exact ⟨g,x,y,k1,k2,k3,k4,k5,k6,k7⟩
end Sc
end Go.Proofs.Ytljebnobajmjnaa
/- Screens: the lattice of a screen,and the place of a pixel. -/
namespace Go.Proofs.Ytljebnobajmjnaa
open Go Go.RowKit
set_option linter.unusedSimpArgs false
set_option linter.unusedSectionVars false
set_option linter.unusedVariables false
namespace Sc
def bel (A B dx dy:Int):Prop:=(A*A+B*B) ∣ (dx*A+dy*B)∧(A*A+B*B) ∣ (dy*A-dx*B)
structure FormOk (A B N S G:Int):Prop where
 g0:0<G
 n0:0<N
 mul:G*N=A*A+B*B
 s0:0≤S
 s1:S<N
 vec:bel A B S G
 row:bel A B N 0
 least:∀ d,bel A B d 0→N ∣ d
 ga:G ∣ A
 gb:G ∣ B
 great:∀ d,d ∣ A→d ∣ B→d ∣ G
structure ScrOk (A B:Int):Prop where
 a0:0≤A
 a1:A≤20
 b0:0≤B
 b1:B≤20
 n0:0<A*A+B*B
 n1:A*A+B*B≤400
theorem bel_sub {A B x y u v:Int} (h:bel A B x y) (k:bel A B u v):bel A B (x-u) (y-v):=by
 obtain ⟨h1,h2⟩:=h;obtain ⟨k1,k2⟩:=k;constructor
 ·have:=Int.dvd_sub h1 k1;have e:x*A+y*B-(u*A+v*B)=(x-u)*A+(y-v)*B:=by grind
  rw [e] at this;exact this
 ·have:=Int.dvd_sub h2 k2;have e:y*A-x*B-(v*A-u*B)=(y-v)*A-(x-u)*B:=by grind
  rw [e] at this;exact this
theorem bel_add {A B x y u v:Int} (h:bel A B x y) (k:bel A B u v):bel A B (x+u) (y+v):=by
 obtain ⟨h1,h2⟩:=h;obtain ⟨k1,k2⟩:=k;constructor
 ·have:=Int.dvd_add h1 k1;have e:x*A+y*B+(u*A+v*B)=(x+u)*A+(y+v)*B:=by grind
  rw [e] at this;exact this
 ·have:=Int.dvd_add h2 k2;have e:y*A-x*B+(v*A-u*B)=(y+v)*A-(x+u)*B:=by grind
  rw [e] at this;exact this
theorem bel_mul {A B x y:Int} (q:Int) (h:bel A B x y):bel A B (q*x) (q*y):=by
 obtain ⟨h1,h2⟩:=h;constructor
 ·have:=Int.dvd_trans h1 (Int.dvd_mul_left q (x*A+y*B));have e:q*(x*A+y*B)=q*x*A+q*y*B:=by grind
  rw [e] at this;exact this
 ·have:=Int.dvd_trans h2 (Int.dvd_mul_left q (y*A-x*B));have e:q*(y*A-x*B)=q*y*A-q*x*B:=by grind
  rw [e] at this;exact this
section
variable {A B N S G:Int} (f:FormOk A B N S G)
include f
theorem bel_row (d q:Int):bel A B d (q*G)↔N ∣ d-q*S:=by
 have hq:=bel_mul q f.vec;constructor
 ·intro h;have:=bel_sub h hq;rw [Int.sub_self] at this;exact f.least _ this
 ·rintro ⟨k,hk⟩
  have h2:=bel_add (bel_mul k f.row) hq;have e:k*N+q*S=d:=by have:k*N=N*k:=Int.mul_comm _ _;omega
  rw [e,Int.mul_zero,Int.zero_add] at h2;exact h2
end
section
variable {fu:Nat} (hf:18446744073709551616≤fu) {A B:Int} (ok:ScrOk A B) (K:Int)
include hf ok
theorem form_r:∃ N S G,screen_Of_r fu ((A,(B,K)),())=some ((N,(S,G)),())∧FormOk A B N S G∧N≤400∧G≤400:=by
 obtain ⟨a0,a1,b0,b1,n0,n1⟩:=ok
 have hpos:0<A∨0<B:=by
  rcases Int.lt_or_le 0 A with h | h
  ·exact .inl h
  ·rcases Int.lt_or_le 0 B with h' | h'
   ·exact .inr h'
   ·obtain rfl:A=0:=by omega
    obtain rfl:B=0:=by omega
    simp at n0
 obtain ⟨g,x,y,k1,k2,k3,k4,k5,k6,k7⟩:=bez_r hf (a:=A) (b:=B) b0 a0 (by omega) (by omega) hpos;obtain ⟨a',ha⟩:=k4;obtain ⟨b',hb⟩:=k5
 have hgg:A*A+B*B=g*(a'*A+b'*B):=by
  have:g*(a'*A+b'*B)=(g*a')*A+(g*b')*B:=by grind
  rw [this,←ha,←hb]
 have hN:(A*A+B*B) / g=a'*A+b'*B:=by rw [hgg];exact Int.mul_ediv_cancel_left _ (by omega)
 generalize hNN:a'*A+b'*B=N at *
 have hN0:0<N:=by
  rcases Int.lt_or_le 0 N with h | h
  ·exact h
  ·have:g*N≤g*0:=Int.mul_le_mul_of_nonneg_left h (by omega);omega
 have hg1:1*N≤g*N:=Int.mul_le_mul_of_nonneg_right (by omega) (by omega);have hg2:g*1≤g*N:=Int.mul_le_mul_of_nonneg_left (by omega) (by omega);have sq1:0≤A*A:=Int.mul_nonneg a0 a0;have sq2:0≤B*B:=Int.mul_nonneg b0 b0
 have m1:-(20*20)≤y*A∧y*A≤20*20:=by
  have h1:y*A≤20*A:=Int.mul_le_mul_of_nonneg_right (by omega) a0;have h2:-20*A≤y*A:=Int.mul_le_mul_of_nonneg_right (by omega) a0;omega
 have m2:-(20*20)≤x*B∧x*B≤20*20:=by
  have h1:x*B≤20*B:=Int.mul_le_mul_of_nonneg_right (by omega) b0;have h2:-20*B≤x*B:=Int.mul_le_mul_of_nonneg_right (by omega) b0;omega
 have e0:=Int.emod_nonneg (y*A-x*B) (show N≠0 by omega);have e1:=Int.emod_lt_of_pos (y*A-x*B) hN0;have e2:=Int.mul_ediv_add_emod (y*A-x*B) N;refine ⟨N,(y*A-x*B) % N,g,?_,⟨k2,hN0,by omega,e0,e1,?_,?_,?_,⟨a',ha⟩,⟨b',hb⟩,?_⟩,by omega,by omega⟩
 ·unfold screen_Of_r;simp only [k1,bindO_some];rw [s_wr (x:=A*A) (by omega) (by omega),s_wr (x:=B*B) (by omega) (by omega),s_wr (x:=A*A+B*B) (by omega) (by omega),s_td (by omega),hN,bif_pos (by omega),s_wr (x:=N) (by omega) (by omega),s_wr (x:=y*A) (by omega) (by omega),s_wr (x:=x*B) (by omega) (by omega),s_wr (x:=y*A-x*B) (by omega) (by omega),smod fu hN0 (by omega)];rfl
 ·have hrow:bel A B N 0:=by
   constructor
   ·refine ⟨a',?_⟩;rw [hgg,ha]
    grind
   ·refine ⟨-b',?_⟩;rw [hgg,hb]
    grind
  have hv:bel A B (y*A-x*B) g:=by
   constructor
   ·refine ⟨y,?_⟩;rw [←k3];grind
   ·refine ⟨x,?_⟩;rw [←k3];grind
  have:=bel_sub hv (bel_mul ((y*A-x*B) / N) hrow)
  have e3:y*A-x*B-(y*A-x*B) / N*N=(y*A-x*B) % N:=by
   have:(y*A-x*B) / N*N=N*((y*A-x*B) / N):=Int.mul_comm _ _;omega
  rw [e3,Int.mul_zero,Int.sub_zero] at this;exact this
 ·constructor
  ·refine ⟨a',?_⟩;rw [hgg,ha]
   grind
  ·refine ⟨-b',?_⟩;rw [hgg,hb]
   grind
 ·rintro d ⟨⟨p,hp⟩,⟨q,hq⟩⟩
  have h1:d*g=(A*A+B*B)*(p*x-q*y):=by
   have:d*g=(d*A+0*B)*x-(0*A-d*B)*y:=by rw [←k3];grind
   rw [this,hp,hq];grind
  rw [hgg] at h1;have h2:g*d=g*(N*(p*x-q*y)):=by rw [Int.mul_comm g d,h1];grind
  exact ⟨_,Int.eq_of_mul_eq_mul_left (by omega) h2⟩
 ·rintro d ⟨p,hp⟩ ⟨q,hq⟩
  refine ⟨p*x+q*y,?_⟩;rw [←k3];have:A*x+B*y=d*p*x+d*q*y:=by rw [←hp,←hq]
  rw [this];grind
theorem place_r (_K:Int) {N S G:Int} (f:FormOk A B N S G) (hN:N≤400) (hG:G≤400) {x y:Int} (h1:-1048576≤x∧x≤1048576) (h2:-1048576≤y∧y≤1048576) :
  _screen_Form__Place_r fu ((N,(S,G)),(x,(y,())))=some (y % G*N+(x-(y / G) % N*S) % N,())∧True:=by
 have hg0:=f.g0;have hn0:=f.n0;have hs0:=f.s0;have hs1:=f.s1;have e0:=Int.emod_nonneg y (show G≠0 by omega);have e1:=Int.emod_lt_of_pos y hg0;have e2:=Int.mul_ediv_add_emod y G;have q0:=Int.emod_nonneg (y / G) (show N≠0 by omega);have q1:=Int.emod_lt_of_pos (y / G) hn0;have q2:=Int.mul_ediv_add_emod (y / G) N
 have hq:-1048577≤y / G∧y / G≤1048576:=by
  constructor
  ·rcases Int.lt_or_le (y / G) (-1048577) with h | h
   ·have h5:G*(y / G)≤G*(-1048578):=Int.mul_le_mul_of_nonneg_left (by omega) (by omega);have h6:G*(-1048578)≤-1048578+(G-1)*(-1048578):=by rw [Int.sub_mul];omega
    have h7:G*1048577≤G*1048578:=Int.mul_le_mul_of_nonneg_left (by omega) (by omega);omega
   ·omega
  ·rcases Int.lt_or_le 1048576 (y / G) with h | h
   ·have:1*(y / G)≤G*(y / G):=Int.mul_le_mul_of_nonneg_right (by omega) (by omega);omega
   ·omega
 have m1:0≤(y / G) % N*S∧(y / G) % N*S≤400*400:=by
  refine ⟨Int.mul_nonneg q0 hs0,?_⟩;have h1:(y / G) % N*S≤400*S:=Int.mul_le_mul_of_nonneg_right (by omega) hs0;omega
 have t0:=Int.emod_nonneg (x-(y / G) % N*S) (show N≠0 by omega);have t1:=Int.emod_lt_of_pos (x-(y / G) % N*S) hn0
 have m2:0≤y % G*N∧y % G*N≤400*400:=by
  refine ⟨Int.mul_nonneg e0 (by omega),?_⟩;have h1:y % G*N≤400*N:=Int.mul_le_mul_of_nonneg_right (by omega) (by omega);omega
 have hdiv:(y-y % G).tdiv G=y / G:=by
  rw [show y-y % G=G*(y / G) by omega];exact Int.mul_tdiv_cancel_left _ (by omega)
 constructor
 ·unfold _screen_Form__Place_r;simp only;rw [smod fu hg0 (by omega)];simp only [bindO_some];rw [bif_pos (by omega),s_wr (x:=y-y % G) (by omega) (by omega),hdiv,s_wr (x:=y / G) (by omega) (by omega),smod fu hn0 (by omega)];simp only [bindO_some];rw [s_wr (x:=(y / G) % N*S) (by omega) (by omega),s_wr (x:=x-(y / G) % N*S) (by omega) (by omega),smod fu hn0 (by omega)];simp only [bindO_some];rw [s_wr (x:=y % G*N) (by omega) (by omega),s_wr (by omega) (by omega)]
 ·trivial
end
end Sc
end Go.Proofs.Ytljebnobajmjnaa
/- Screens: Check,Area,Period and Cell;the law ScreenPlaces. -/
namespace Go.Proofs.Ytljebnobajmjnaa
open Go Go.RowKit
set_option linter.unusedSimpArgs false
set_option linter.unusedSectionVars false
set_option linter.unusedVariables false
namespace Sc
def scP (A B K:Int):Prop:=((0≤A∧A≤20)∧(0≤B∧B≤20))∧(0≤K∧K≤3)
instance (A B K:Int):Decidable (scP A B K):=by unfold scP;exact inferInstance
def scE (A B K:Int):Int:=if scP A B K then (if A*A+B*B=0 then 1 else if 400<A*A+B*B then 2 else 0) else 3
theorem scE_ok {A B K:Int} (h:scE A B K=0):ScrOk A B:=by
 unfold scE at h;by_cases c:scP A B K
 ·rw [if_pos c] at h;obtain ⟨⟨⟨a0,a1⟩,b0,b1⟩,_⟩:=c;have sq1:0≤A*A:=Int.mul_nonneg a0 a0;have sq2:0≤B*B:=Int.mul_nonneg b0 b0;by_cases c1:A*A+B*B=0
  ·rw [if_pos c1] at h;omega
  ·rw [if_neg c1] at h;by_cases c2:400<A*A+B*B
   ·rw [if_pos c2] at h;omega
   ·exact ⟨a0,a1,b0,b1,by omega,by omega⟩
 ·rw [if_neg c] at h;omega
theorem sq_bd {A:Int} (a0:0≤A) (a1:A≤20):0≤A*A∧A*A≤400:=by
 have h1:=Int.mul_nonneg a0 a0;have h2:A*A≤20*A:=Int.mul_le_mul_of_nonneg_right a1 a0;omega
section
variable (fu:Nat) (A B K:Int)
theorem check_r:screen_Check_r fu ((A,(B,K)),())=some (scE A B K,()):=by
 have jt:screen_Check_j1 fu ((A,(B,K)),()) true=some (3,()):=rfl;unfold screen_Check_r;simp only [joinF_eq];by_cases c:scP A B K
 ·obtain ⟨⟨⟨a0,a1⟩,b0,b1⟩,k0,k1⟩:=id c;have s1:=sq_bd a0 a1;have s2:=sq_bd b0 b1;rw [bif_neg (by omega),bif_neg (by omega),bif_neg (by omega),bif_neg (by omega),bif_neg (by omega),s_neg (by omega)];unfold screen_Check_j1 scE;simp only [cond_false];rw [if_pos c,s_wr (x:=A*A) (by omega) (by omega),s_wr (x:=B*B) (by omega) (by omega),s_wr (x:=A*A+B*B) (by omega) (by omega)];by_cases c1:A*A+B*B=0
  ·rw [bif_pos c1,if_pos c1]
  ·rw [bif_neg c1,if_neg c1];by_cases c2:400<A*A+B*B
   ·rw [bif_pos c2,if_pos c2]
   ·rw [bif_neg c2,if_neg c2]
 ·have e:scE A B K=3:=by unfold scE;rw [if_neg c]
  rw [e];unfold scP at c;by_cases h1:A<0
  ·rw [bif_pos h1,jt]
  rw [bif_neg h1];by_cases h2:20<A
  ·rw [bif_pos h2,jt]
  rw [bif_neg h2];by_cases h3:B<0
  ·rw [bif_pos h3,jt]
  rw [bif_neg h3];by_cases h4:20<B
  ·rw [bif_pos h4,jt]
  rw [bif_neg h4];by_cases h5:K<0
  ·rw [bif_pos h5,jt]
  rw [bif_neg h5,s_pos (by omega),jt]
end
end Sc
end Go.Proofs.Ytljebnobajmjnaa
/- Orders by choosing: no program. -/
namespace Go.Proofs.Ytljebnobajmjnaa
set_option linter.unusedSimpArgs false
set_option linter.unusedSectionVars false
set_option linter.unusedVariables false
namespace Rk
structure Wk (bt:Nat→Nat→Bool):Prop where
 irr:∀ x,bt x x=false
 tr:∀ x y z,bt x y=true→bt y z=true→bt x z=true
 ntr:∀ x y z,bt x y=false→bt y z=false→bt x z=false
def scan (U:Nat→Bool) (bt:Nat→Nat→Bool):Nat→Option Nat
 | 0=>none
 | i+1=>match scan U bt i with
  | none=>if U i=true then some i else none
  | some b=>if U i=true∧bt i b=true then some i else some b
theorem scan_ok {U:Nat→Bool} {bt:Nat→Nat→Bool} (w:Wk bt):∀ i,(scan U bt i=none→∀ j,j<i→U j=false) ∧
  ∀ b,scan U bt i=some b→b<i∧U b=true∧(∀ j,j<i→U j=true→bt j b=false)∧∀ j,j<b→U j=true→bt b j=true
 | 0=>⟨fun _ j h=>by omega,fun b h=>by cases h⟩
 | i+1=>by
  obtain ⟨h1,h2⟩:=scan_ok w (U:=U) i;unfold scan
  cases hs:scan U bt i with
  | none =>
   have h1:=h1 hs;simp only;by_cases c:U i=true
   ·rw [if_pos c];refine ⟨fun h=>(by cases h),fun b hb=>?_⟩;cases hb;refine ⟨by omega,c,fun j hj hu=>?_,fun j hj hu=>?_⟩
    ·by_cases e:j=i
     ·rw [e];exact w.irr i
     ·have:=h1 j (by omega);rw [this] at hu;cases hu
    ·have:=h1 j hj;rw [this] at hu;cases hu
   ·rw [if_neg c];refine ⟨fun _ j hj=>?_,fun b hb=>(by cases hb)⟩;by_cases e:j=i
    ·rw [e];exact Bool.not_eq_true _ ▸ c
    ·exact h1 j (by omega)
  | some b0 =>
   obtain ⟨k1,k2,k3,k4⟩:=h2 b0 hs;simp only;by_cases c:U i=true∧bt i b0=true
   ·rw [if_pos c];refine ⟨fun h=>(by cases h),fun b hb=>?_⟩;cases hb
    have key:∀ j,j<i→U j=true→bt i j=true:=fun j hj hu=>by
     cases hx:bt i j with
     | true=>rfl
     | false=>have:=w.ntr i j b0 hx (k3 j hj hu);rw [c.2] at this;cases this
    refine ⟨by omega,c.1,fun j hj hu=>?_,fun j hj hu=>key j hj hu⟩;by_cases e:j=i
    ·rw [e];exact w.irr i
    ·have h5:=key j (by omega) hu
     cases hx:bt j i with
     | false=>rfl
     | true=>have:=w.tr i j i h5 hx;rw [w.irr] at this;cases this
   ·rw [if_neg c];refine ⟨fun h=>(by cases h),fun b hb=>?_⟩;cases hb;refine ⟨by omega,k2,fun j hj hu=>?_,k4⟩;by_cases e:j=i
    ·subst e
     cases hx:bt j b0 with
     | false=>rfl
     | true=>exact absurd ⟨hu,hx⟩ c
    ·exact k3 j (by omega) hu
theorem scan_congr {U U':Nat→Bool} {bt bt':Nat→Nat→Bool}:∀ i,(∀ j,j<i→U j=U' j)→(∀ j b,b<j→j<i→U j=true→U b=true→bt j b=bt' j b)→(∀ b,scan U bt i=some b→U b=true∧b<i)∧scan U bt i=scan U' bt' i
 | 0,_,_=>⟨fun b h=>(by cases h),rfl⟩
 | i+1,h1,h2=>by
  obtain ⟨a,e⟩:=scan_congr (U:=U) (U':=U') (bt:=bt) (bt':=bt') i (fun j hj=>h1 j (by omega)) (fun j b hb hj=>h2 j b hb (by omega));unfold scan;rw [←e,←h1 i (by omega)]
  cases hs:scan U bt i with
  | none =>
   simp only;refine ⟨fun b hb=>?_,trivial⟩;split at hb
   ·cases hb;exact ⟨by assumption,by omega⟩
   ·cases hb
  | some b0 =>
   obtain ⟨u,lt⟩:=a b0 hs;simp only;refine ⟨fun b hb=>?_,?_⟩
   ·split at hb
    ·rename_i c;cases hb;exact ⟨c.1,by omega⟩
    ·cases hb;exact ⟨u,by omega⟩
   ·by_cases c:U i=true
    ·rw [h2 i b0 lt (by omega) c u]
    ·rw [if_neg (fun g=>c g.1),if_neg (fun g=>c g.1)]
def sc (U:Nat→Bool) (bt:Nat→Nat→Bool) (i:Nat):Int:=match scan U bt i with
 | none=>-1
 | some b=>b
theorem sc_succ (U:Nat→Bool) (bt:Nat→Nat→Bool) (i:Nat):sc U bt (i+1)=(if U i=true then (if sc U bt i<0 then (i:Int) else if bt i (sc U bt i).toNat=true then (i:Int) else sc U bt i) else sc U bt i):=by
 unfold sc;rw [scan]
 cases scan U bt i with
 | none =>
  simp only;by_cases c:U i=true
  ·rw [if_pos c,if_pos c,if_pos (by omega)]
  ·rw [if_neg c,if_neg c]
 | some b =>
  show (match (if U i=true∧bt i b=true then some i else some b) with | none=>(-1:Int) | some b=>(b:Int))=(if U i=true then (if (b:Int)<0 then (i:Int) else if bt i (b:Int).toNat=true then (i:Int) else (b:Int)) else (b:Int));rw [Int.toNat_natCast,if_neg (show ¬ (b:Int)<0 by omega)];by_cases c:U i=true
  ·by_cases d:bt i b=true
   ·rw [if_pos ⟨c,d⟩,if_pos c,if_pos d]
   ·rw [if_neg (fun g=>d g.2),if_pos c,if_neg d]
  ·rw [if_neg (fun g=>c g.1),if_neg c]
theorem pig:∀ (n:Nat) (O:List Nat),(∀ i,i<n→i ∈ O)→n≤O.length
 | 0,_,_=>by omega
 | n+1,O,h=>by
  have h1:=pig n (O.erase n) fun i hi=>(List.mem_erase_of_ne (by omega)).2 (h i (by omega))
  rw [List.length_erase_of_mem (h n (by omega))] at h1;have:0<O.length:=List.length_pos_of_mem (h n (by omega));omega
theorem pig2:∀ (n:Nat) (O:List Nat),O.Nodup→(∀ i ∈ O,i<n)→O.length≤n
 | 0,O,_,h=>by
  cases O with
  | nil=>simp
  | cons a O=>have:=h a (by simp);omega
 | n+1,O,hd,h=>by
  have h1:=pig2 n (O.erase n) (hd.erase n) fun i hi=>by
   have h2:=(hd.mem_erase_iff).1 hi;have:=h i h2.2;have:=h2.1;omega
  by_cases c:n ∈ O
  ·rw [List.length_erase_of_mem c] at h1;omega
  ·rw [List.erase_of_not_mem c] at h1;omega
structure Ord (n:Nat) (O:List Nat):Prop where
 len:O.length=n
 nd:O.Nodup
 lt:∀ i ∈ O,i<n
theorem Ord.mem {n:Nat} {O:List Nat} (h:Ord n O) {i:Nat} (hi:i<n):i ∈ O:=by
 by_cases c:i ∈ O
 ·exact c
 ·have:=pig2 n (i::O) (List.nodup_cons.2 ⟨c,h.nd⟩) fun j hj=>by
   rcases List.mem_cons.1 hj with rfl | hj
   ·exact hi
   ·exact h.lt j hj
  rw [List.length_cons,h.len] at this;omega
theorem Ord.idx {n:Nat} {O:List Nat} (h:Ord n O) {i:Nat} (hi:i<n):O.idxOf i<n:=by
 rw [←h.len];exact List.idxOf_lt_length_iff.2 (h.mem hi)
theorem Ord.at_idx {n:Nat} {O:List Nat} (h:Ord n O) {r:Nat} (hr:r<O.length) {i:Nat} (hi:i<n):O.idxOf i=r↔i=O[r]:=by
 constructor
 ·rintro rfl
  exact (List.getElem_idxOf hr).symm
 ·rintro rfl
  exact h.nd.idxOf_getElem r hr
end Rk
end Go.Proofs.Ytljebnobajmjnaa
/- ScreenRanks: keys of places. -/
namespace Go.Proofs.Ytljebnobajmjnaa
open Go Go.RowKit
set_option linter.unusedSimpArgs false
set_option linter.unusedSectionVars false
set_option linter.unusedVariables false
namespace Rk
open Sc
def du (A B x y:Int):Int:=min ((x*A+y*B) % (A*A+B*B)) ((A*A+B*B)-(x*A+y*B) % (A*A+B*B))
def dv (A B x y:Int):Int:=min ((y*A-x*B) % (A*A+B*B)) ((A*A+B*B)-(y*A-x*B) % (A*A+B*B))
def k1 (K u v:Int):Int:=if K=1 then v else if K=2 then u*u+2*v*v else u*u+v*v
def k2 (K u:Int):Int:=if K=1 then u else 0
theorem prod_bd {a x:Int} (h0:-1000≤x) (h1:x≤1000) (a0:0≤a) (a1:a≤20):-20000≤x*a∧x*a≤20000:=by
 have q1:x*a≤1000*a:=Int.mul_le_mul_of_nonneg_right h1 a0;have q2:-1000*a≤x*a:=Int.mul_le_mul_of_nonneg_right h0 a0;omega
theorem sq_bd' {u v:Int} (h0:0≤u) (h1:u≤400) (g0:0≤v) (g1:v≤400):0≤u*v∧u*v≤160000 :=
 ⟨Int.mul_nonneg h0 g0,Int.mul_le_mul h1 g1 g0 (by omega)⟩
section
variable {A B:Int} (ok:ScrOk A B) {fu:Nat} {K:Int}
include ok
theorem n_eq:IntKind.i64.wrap (IntKind.i64.wrap (A*A)+IntKind.i64.wrap (B*B))=A*A+B*B:=by
 obtain ⟨a0,a1,b0,b1,n0,n1⟩:=ok;have q1:=sq_bd a0 a1;have q2:=sq_bd b0 b1;rw [wr64 (x:=A*A) (by omega) (by omega),wr64 (x:=B*B) (by omega) (by omega),wr64 (by omega) (by omega)]
theorem du_bd (x y:Int):0≤du A B x y∧du A B x y≤400:=by
 obtain ⟨a0,a1,b0,b1,n0,n1⟩:=ok;unfold du;generalize A*A+B*B=n at *
 have h1:=Int.emod_nonneg (x*A+y*B) (show n≠0 by omega);have h2:=Int.emod_lt_of_pos (x*A+y*B) n0;omega
theorem dv_bd (x y:Int):0≤dv A B x y∧dv A B x y≤400:=by
 obtain ⟨a0,a1,b0,b1,n0,n1⟩:=ok;unfold dv;generalize A*A+B*B=n at *
 have h1:=Int.emod_nonneg (y*A-x*B) (show n≠0 by omega);have h2:=Int.emod_lt_of_pos (y*A-x*B) n0;omega
theorem lin {x y:Int} (hx:-1000≤x∧x≤1000) (hy:-1000≤y∧y≤1000):IntKind.i64.wrap (IntKind.i64.wrap (x*A)+IntKind.i64.wrap (y*B))=x*A+y*B∧IntKind.i64.wrap (IntKind.i64.wrap (y*A)-IntKind.i64.wrap (x*B))=y*A-x*B∧(-40000≤x*A+y*B∧x*A+y*B≤40000)∧-40000≤y*A-x*B∧y*A-x*B≤40000:=by
 obtain ⟨a0,a1,b0,b1,n0,n1⟩:=ok;have p1:=prod_bd hx.1 hx.2 a0 a1;have p2:=prod_bd hy.1 hy.2 b0 b1;have p3:=prod_bd hy.1 hy.2 a0 a1;have p4:=prod_bd hx.1 hx.2 b0 b1;refine ⟨?_,?_,by omega,by omega⟩
 ·rw [wr64 (x:=x*A) (by omega) (by omega),wr64 (x:=y*B) (by omega) (by omega),wr64 (by omega) (by omega)]
 ·rw [wr64 (x:=y*A) (by omega) (by omega),wr64 (x:=x*B) (by omega) (by omega),wr64 (by omega) (by omega)]
theorem mods {x y:Int}:IntKind.i64.wrap (A*A+B*B-(x*A+y*B) % (A*A+B*B))=A*A+B*B-(x*A+y*B) % (A*A+B*B)∧IntKind.i64.wrap (A*A+B*B-(y*A-x*B) % (A*A+B*B))=A*A+B*B-(y*A-x*B) % (A*A+B*B):=by
 obtain ⟨a0,a1,b0,b1,n0,n1⟩:=ok;generalize A*A+B*B=n at *
 have h1:=Int.emod_nonneg (x*A+y*B) (show n≠0 by omega);have h2:=Int.emod_lt_of_pos (x*A+y*B) n0;have h3:=Int.emod_nonneg (y*A-x*B) (show n≠0 by omega);have h4:=Int.emod_lt_of_pos (y*A-x*B) n0;exact ⟨wr64 (by omega) (by omega),wr64 (by omega) (by omega)⟩
theorem tail_eq {u v:Int} (u0:0≤u∧u≤400) (v0:0≤v∧v≤400):IntKind.i64.wrap (IntKind.i64.wrap (u*u)+IntKind.i64.wrap (IntKind.i64.wrap (2*v)*v))=u*u+2*v*v∧IntKind.i64.wrap (IntKind.i64.wrap (u*u)+IntKind.i64.wrap (v*v))=u*u+v*v:=by
 clear ok;have q1:=sq_bd' u0.1 u0.2 u0.1 u0.2;have q2:=sq_bd' v0.1 v0.2 v0.1 v0.2;have q3:2*v*v=2*(v*v):=Int.mul_assoc _ _ _;constructor
 ·rw [wr64 (x:=u*u) (by omega) (by omega),wr64 (x:=2*v) (by omega) (by omega),wr64 (x:=2*v*v) (by omega) (by omega),wr64 (by omega) (by omega)]
 ·rw [wr64 (x:=u*u) (by omega) (by omega),wr64 (x:=v*v) (by omega) (by omega),wr64 (by omega) (by omega)]
theorem offset_r {N S G:Int} (n0:0<N) {p:Int} (p0:0≤p) (p1:p≤400):screen_offset_r fu ((A,(B,K)),((N,(S,G)),(p,())))=some (du A B (p % N) (p / N),(dv A B (p % N) (p / N),())):=by
 have x0:=Int.emod_nonneg p (show N≠0 by omega);have y0:0≤p / N:=Int.ediv_nonneg p0 (by omega)
 have x1:p % N≤p:=by
  have h1:=Int.mul_ediv_add_emod p N;have h2:=Int.mul_nonneg (show 0≤N by omega) y0;omega
 have y1:p / N≤p:=Int.ediv_le_self _ p0;obtain ⟨l1,l2,l3,l4⟩:=lin ok (x:=p % N) (y:=p / N) ⟨by omega,by omega⟩ ⟨by omega,by omega⟩;obtain ⟨m1,m2⟩:=mods ok (x:=p % N) (y:=p / N);have h0:=ok.n0;have h1:=ok.n1;unfold screen_offset_r;simp only;rw [n_eq ok,bif_pos (show N≠0 by omega),bif_pos (show N≠0 by omega),Int.tmod_eq_emod_of_nonneg p0,Int.tdiv_eq_ediv_of_nonneg p0,wr64 (x:=p / N) (by omega) (by omega),l1,l2,smod fu h0 (by omega),smod fu h0 (by omega)];simp only [bindO_some];rw [m1,m2];rfl
theorem rk1_r {N S G:Int} (n0:0<N) {p:Int} (p0:0≤p) (p1:p≤400):screen_Ranks_1_r fu (p,((A,(B,K)),((N,(S,G)),())))=some (k1 K (du A B (p % N) (p / N)) (dv A B (p % N) (p / N)),(k2 K (du A B (p % N) (p / N)),())):=by
 have u0:=du_bd ok (p % N) (p / N);have v0:=dv_bd ok (p % N) (p / N);unfold screen_Ranks_1_r;rw [offset_r ok n0 p0 p1];simp only [bindO_some];rw [(tail_eq ok u0 v0).1,(tail_eq ok u0 v0).2];unfold k1 k2;by_cases c:K=1
 ·rw [bif_pos c,if_pos c,if_pos c]
 ·rw [bif_neg c,if_neg c,if_neg c];by_cases d:K=2
  ·rw [bif_pos d,if_pos d]
  ·rw [bif_neg d,if_neg d]
def K1 (A B K N p:Int):Int:=k1 K (du A B (p % N) (p / N)) (dv A B (p % N) (p / N))
def K2 (A B K N p:Int):Int:=k2 K (du A B (p % N) (p / N))
omit ok in
theorem k1_bd {u v:Int} (u0:0≤u∧u≤400) (v0:0≤v∧v≤400):0≤k1 K u v∧k1 K u v≤1000000:=by
 have q1:=sq_bd' u0.1 u0.2 u0.1 u0.2;have q2:=sq_bd' v0.1 v0.2 v0.1 v0.2;have q3:2*v*v=2*(v*v):=Int.mul_assoc _ _ _;unfold k1;split
 ·omega
 ·split <;> omega
omit ok in
theorem k2_bd {u:Int} (u0:0≤u∧u≤400):0≤k2 K u∧k2 K u≤1000000:=by
 unfold k2
 split <;> omega
def cmpK (A B K N p q:Int):Int:=if K1 A B K N p≠K1 A B K N q then K1 A B K N p-K1 A B K N q else if K2 A B K N p≠K2 A B K N q then K2 A B K N p-K2 A B K N q else p-q
theorem cmp_r {N S G:Int} (n0:0<N) {p q:Int} (p0:0≤p) (p1:p≤400) (q0:0≤q) (q1:q≤400):Srt.cmpv fu (A,(B,K)) (N,(S,G)) p q=some (cmpK A B K N p q):=by
 have a1:=k1_bd (K:=K) (du_bd ok (p % N) (p / N)) (dv_bd ok (p % N) (p / N));have a2:=k1_bd (K:=K) (du_bd ok (q % N) (q / N)) (dv_bd ok (q % N) (q / N));have b1:=k2_bd (K:=K) (du_bd ok (p % N) (p / N));have b2:=k2_bd (K:=K) (du_bd ok (q % N) (q / N))
 have hg:screen_Ranks_2_g fu (p,(q,(((),()),((A,(B,K)),(N,(S,G))))))=some (cmpK A B K N p q,((N,(S,G)),((A,(B,K)),((),())))):=by
  unfold screen_Ranks_2_g;rw [rk1_r ok n0 p0 p1,bindO_some];simp only;rw [rk1_r ok n0 q0 q1,bindO_some];simp only;unfold cmpK K1 K2;rw [wr64 (x:=k1 K _ _-k1 K _ _) (by omega) (by omega),wr64 (x:=k2 K _-k2 K _) (by omega) (by omega),wr64 (x:=p-q) (by omega) (by omega)];by_cases c:k1 K (du A B (p % N) (p / N)) (dv A B (p % N) (p / N))≠k1 K (du A B (q % N) (q / N)) (dv A B (q % N) (q / N))
  ·rw [bif_pos c,if_pos c]
  ·rw [bif_neg c,if_neg c];by_cases d:k2 K (du A B (p % N) (p / N))≠k2 K (du A B (q % N) (q / N))
   ·rw [bif_pos d,if_pos d]
   ·rw [bif_neg d,if_neg d]
 unfold Srt.cmpv screen_Ranks_2_r chkE;rw [hg];rfl
end
end Rk
end Go.Proofs.Ytljebnobajmjnaa
/- ScreenRanks: what screen.Ranks computes from an order. -/
namespace Go.Proofs.Ytljebnobajmjnaa
open Go Go.RowKit
set_option linter.unusedSimpArgs false
set_option linter.unusedSectionVars false
set_option linter.unusedVariables false
namespace Rk
open Sc
theorem stLoop {X β:Type} {f:(X→Option β)→X→Option β} {n fu:Nat} (hn:n<fu) {st:Nat→X} {x0:X} {fin:Option β} (h0:st 0=x0)
  (step:∀ j (i:Nat),i<n→f j (st i)=j (st (i+1))) (last:∀ j,f j (st n)=fin):loopF f fu x0=fin:=by
 have key:=errGen (f:=f) (n:=n) (st:=st) (E:=fun _=>0) (out:=fun _=>none) (fin:=fin) (fun j i hi _=>by rw [if_pos rfl];exact step j i hi) (fun _=>last) fu 0 (by omega) (by omega) (by omega);rw [if_pos (firstE_all _ _ fun _ _ _=>rfl),h0] at key;exact key
theorem nx {k:Nat} (h:k≤2000000):IntKind.i64.wrap ((k:Int)+1)=((k+1:Nat):Int):=by rw [wr64 (by omega) (by omega)];omega
theorem lt_iff (A B K N p q:Int):cmpK A B K N p q<0↔K1 A B K N p<K1 A B K N q∨(K1 A B K N p=K1 A B K N q∧(K2 A B K N p<K2 A B K N q∨(K2 A B K N p=K2 A B K N q∧p<q))):=by
 unfold cmpK;by_cases c:K1 A B K N p=K1 A B K N q
 ·rw [if_neg (fun g=>g c)];by_cases d:K2 A B K N p=K2 A B K N q
  ·rw [if_neg (fun g=>g d)];omega
  ·rw [if_pos d];omega
 ·rw [if_pos c];omega
def rankL (n:Nat) (O:List Nat) (k:Nat) (d:Int):List Int:=tabL n fun i=>if O.idxOf i.toNat<k then (O.idxOf i.toNat:Int) else d
theorem rankL_len (n:Nat) (O:List Nat) (k:Nat) (d:Int):(rankL n O k d).length=n:=tabL_length _ _
theorem rankL_zero (n:Nat) (O:List Nat) (d:Int):rankL n O 0 d=List.replicate n d:=tabL_rep fun i _ _=>if_neg (by omega)
theorem rankL_get {n:Nat} {O:List Nat} {k:Nat} {d d':Int} {i:Nat} (hi:i<n):(rankL n O k d).getD i d'=if O.idxOf i<k then (O.idxOf i:Int) else d:=by
 unfold rankL;rw [tabL_getDN hi,Int.toNat_natCast]
theorem rankL_set {n:Nat} {O:List Nat} (h:Ord n O) {k:Nat} (hk:k<O.length) {d:Int}:(rankL n O k d).set O[k] (k:Int)=rankL n O (k+1) d:=by
 have hb:O[k]<n:=h.lt _ (List.getElem_mem hk);have hi:O.idxOf O[k]=k:=(h.at_idx hk hb).2 rfl
 have:=tabL_set (n:=n) (G:=fun i:Int=>if O.idxOf i.toNat<k then (O.idxOf i.toNat:Int) else d) (G':=fun i:Int=>if O.idxOf i.toNat<k+1 then (O.idxOf i.toNat:Int) else d) (k:=(O[k]:Int)) (v:=(k:Int)) (Int.natCast_nonneg _) (by
  simp only [Int.toNat_natCast]
  rw [hi,if_pos (by omega)]) fun i i0 i1 i2=>by
   have:O.idxOf i.toNat≠k:=fun e=>by
    have:=(h.at_idx hk (show i.toNat<n by omega)).1 e;omega
   by_cases c:O.idxOf i.toNat<k
   ·rw [if_pos c,if_pos (by omega)]
   ·rw [if_neg c,if_neg (by omega)]
 rw [Int.toNat_natCast] at this;exact this
section
variable {fu:Nat} (hf:18446744073709551616≤fu) {n:Nat} (hn:n≤400)
include hf hn
theorem ranks_of {O:List Nat} (h:Ord n O):screen_Ranks_j2 fu (n:Int) (O.map Int.ofNat)=some (rankL n O n 0,()):=by
 unfold screen_Ranks_j2;rw [bif_and (Int.natCast_nonneg _) (by omega),Int.toNat_natCast];refine stLoop (n:=n) (by omega) (st:=fun k=>((k:Int),rankL n O k 0)) (by rw [rankL_zero];rfl) ?_ ?_
 ·intro j k hk;have hk':k<O.length:=by rw [h.len];exact hk
  have hb:O[k]<n:=h.lt _ (List.getElem_mem hk')
  have hg:(O.map Int.ofNat).getD k 0=(O[k]:Int):=by
   rw [List.getD_eq_getElem?_getD,List.getElem?_map,List.getElem?_eq_getElem hk'];rfl
  unfold screen_Ranks_l3;simp only;rw [List.length_map,h.len,bif_pos (Int.ofNat_lt.2 hk),bif_and (Int.natCast_nonneg _) (Int.ofNat_lt.2 hk),Int.toNat_natCast,hg,rankL_len,bif_and (Int.natCast_nonneg _) (Int.ofNat_lt.2 hb),Int.toNat_natCast,rankL_set h hk',nx (by omega)]
 ·intro j;unfold screen_Ranks_l3;simp only;rw [List.length_map,h.len,bif_neg (Int.lt_irrefl _)]
end
def ints (n:Nat):List Int:=tabL n fun k=>k
theorem ints_len (n:Nat):(ints n).length=n:=tabL_length _ _
theorem ints_mem {n:Nat} {x:Int} (h:x ∈ ints n):0≤x∧x<n:=by
 obtain ⟨i,hi,rfl⟩:=List.mem_map.1 h;have:=List.mem_range.1 hi;simp only;omega
theorem ints_nd (n:Nat):(ints n).Nodup:=by
 unfold ints tabL;refine List.pairwise_map.2 (List.Pairwise.imp (fun {a b} h e=>h (by have e:(a:Int)=(b:Int):=e;omega)) (List.nodup_range (n:=n)))
section
variable {A B:Int} (ok:ScrOk A B) {fu:Nat} {K N S G:Int} (n0:0<N) {n:Nat} (hn0:0<n) (hn:n≤400)
include ok n0 hn
theorem cfv_eq {p q:Int} (hp:p ∈ ints n) (hq:q ∈ ints n):Srt.cfv fu (A,(B,K)) (N,(S,G)) p q=cmpK A B K N p q:=by
 have a:=ints_mem hp;have b:=ints_mem hq;unfold Srt.cfv;rw [cmp_r ok n0 a.1 (by omega) b.1 (by omega)];rfl
theorem lt_sub (x y:{x:Int // x ∈ ints n}):Go.Proofs.ltOf (fun x y:{x:Int // x ∈ ints n}=>Srt.cfv fu (A,(B,K)) (N,(S,G)) x.val y.val) x y=decide (cmpK A B K N x.val y.val<0):=by
 unfold Go.Proofs.ltOf;show decide (Srt.cfv fu (A,(B,K)) (N,(S,G)) x.val y.val<0)=_;rw [cfv_eq ok n0 hn x.property y.property]
include hn0
theorem good:Srt.Good fu (A,(B,K)) (N,(S,G)) (ints n):=by
 refine ⟨fun e=>?_,by rw [ints_len];omega,fun x hx y hy=>?_,⟨fun x=>?_,fun x y z h1 h2=>?_,fun x y z h1 h2=>?_⟩,fun x y h1 h2=>?_⟩
 ·have:=congrArg List.length e;rw [ints_len] at this;simp at this;omega
 ·have a:=ints_mem hx;have b:=ints_mem hy;rw [cfv_eq ok n0 hn hx hy,cmp_r ok n0 a.1 (by omega) b.1 (by omega)]
 ·rw [lt_sub ok n0 hn,decide_eq_false_iff_not,lt_iff];omega
 ·rw [lt_sub ok n0 hn,decide_eq_true_eq,lt_iff] at *;omega
 ·rw [lt_sub ok n0 hn,decide_eq_false_iff_not,lt_iff] at *;omega
 ·rw [lt_sub ok n0 hn,decide_eq_false_iff_not,lt_iff] at *
  exact Subtype.ext (by omega)
theorem sorted:∃ O:List Nat,Ord n O∧Srt.srt (Srt.cfv fu (A,(B,K)) (N,(S,G))) (ints n)=O.map Int.ofNat∧∀ i j (hi:i<O.length) (hj:j<O.length),i<j→¬ cmpK A B K N (O[j]:Int) (O[i]:Int)<0:=by
 have hG:=good ok n0 hn0 hn (fu:=fu) (K:=K) (S:=S) (G:=G)
 have hperm:(Srt.srt (Srt.cfv fu (A,(B,K)) (N,(S,G))) (ints n)).Perm (ints n):=by
  unfold Srt.srt;have h1:=(List.mergeSort_perm (ints n).attach (fun x y=>!(Go.Proofs.ltOf (fun x y:{x:Int // x ∈ ints n}=>Srt.cfv fu (A,(B,K)) (N,(S,G)) x.val y.val)) y x)).map Subtype.val;rw [List.attach_map_subtype_val] at h1;exact h1
 have hpair:(Srt.srt (Srt.cfv fu (A,(B,K)) (N,(S,G))) (ints n)).Pairwise fun a b=>¬ cmpK A B K N b a<0:=by
  unfold Srt.srt;refine List.pairwise_map.2 (List.Pairwise.imp (fun h=>?_) (List.pairwise_mergeSort (fun a b c h1 h2=>?_) (fun a b=>?_) _))
  ·rw [Bool.not_eq_true',lt_sub ok n0 hn,decide_eq_false_iff_not] at h;exact h
  ·rw [Bool.not_eq_true'] at *
   exact hG.swo.ntrans _ _ _ h2 h1
  ·rw [Bool.or_eq_true,Bool.not_eq_true',Bool.not_eq_true'];rw [lt_sub ok n0 hn,lt_sub ok n0 hn,decide_eq_false_iff_not,decide_eq_false_iff_not,lt_iff,lt_iff];omega
 generalize Srt.srt (Srt.cfv fu (A,(B,K)) (N,(S,G))) (ints n)=L at hperm hpair;have hmem:∀ x ∈ L,0≤x∧x<n:=fun x hx=>ints_mem (hperm.mem_iff.1 hx)
 have hnd:=hperm.nodup_iff.2 (ints_nd n);refine ⟨L.map Int.toNat,⟨by rw [List.length_map,hperm.length_eq,ints_len],?_,fun i hi=>?_⟩,?_,fun i j hi hj hij=>?_⟩
 ·refine List.pairwise_iff_getElem.2 fun i j hi hj hij=>?_
  have h1:=List.pairwise_iff_getElem.1 hnd i j (by simpa using hi) (by simpa using hj) hij;have h2:=hmem _ (List.getElem_mem (show i<L.length by simpa using hi));have h3:=hmem _ (List.getElem_mem (show j<L.length by simpa using hj));rw [List.getElem_map,List.getElem_map];omega
 ·obtain ⟨x,hx,rfl⟩:=List.mem_map.1 hi;have:=hmem x hx;omega
 ·rw [List.map_map];exact ((List.map_congr_left (g:=id) fun x hx=>Int.toNat_of_nonneg (hmem x hx).1).trans (List.map_id L)).symm
 ·have h1:=List.pairwise_iff_getElem.1 hpair i j (by simpa using hi) (by simpa using hj) hij;have h2:=hmem _ (List.getElem_mem (show i<L.length by simpa using hi));have h3:=hmem _ (List.getElem_mem (show j<L.length by simpa using hj));rw [List.getElem_map,List.getElem_map,Int.toNat_of_nonneg h2.1,Int.toNat_of_nonneg h3.1];exact h1
end
end Rk
end Go.Proofs.Ytljebnobajmjnaa
/- ScreenRanks: what the reference computes. -/
namespace Go.Proofs.Ytljebnobajmjnaa
open Go Go.RowKit
set_option linter.unusedSimpArgs false
set_option linter.unusedSectionVars false
set_option linter.unusedVariables false
namespace Rk
open Sc
def dist (A B N:Int) (b i:Nat):Int:=k1 0 (du A B ((i:Int) % N-(b:Int) % N) ((i:Int) / N-(b:Int) / N)) (dv A B ((i:Int) % N-(b:Int) % N) ((i:Int) / N-(b:Int) / N))
def nr (A B N:Int) (O:List Nat):Nat→Nat→Int
 | 0,_=>0
 | r+1,i=>if r=0∨dist A B N (O.getD r 0) i<nr A B N O r i then dist A B N (O.getD r 0) i else nr A B N O r i
section
variable {fu:Nat} (hf:18446744073709551616≤fu) {A B:Int} (ok:ScrOk A B) {K N:Int} (n0:0<N) {n:Nat} (hn0:0<n) (hn:n≤400) (hN:A*A+B*B=(n:Int)) {O:List Nat} (h:Ord n O)
include n0 hn in
theorem pq_bd {i:Nat} (hi:i<n):(0≤(i:Int) % N∧(i:Int) % N≤400)∧0≤(i:Int) / N∧(i:Int) / N≤400:=by
 have y0:0≤(i:Int) / N:=Int.ediv_nonneg (by omega) (by omega);have x0:=Int.emod_nonneg (i:Int) (show N≠0 by omega);have h1:=Int.mul_ediv_add_emod (i:Int) N;have h2:=Int.mul_nonneg (show 0≤N by omega) y0;have y1:(i:Int) / N≤i:=Int.ediv_le_self _ (by omega);omega
include hf ok n0 hn hN h
include hn0
end
end Rk
end Go.Proofs.Ytljebnobajmjnaa
/- ScreenRanks: orders that are sorted. -/
namespace Go.Proofs.Ytljebnobajmjnaa
open Go Go.RowKit
set_option linter.unusedSimpArgs false
set_option linter.unusedSectionVars false
set_option linter.unusedVariables false
namespace Rk
open Sc
section
variable {fu:Nat} (hf:18446744073709551616≤fu) {A B:Int} (ok:ScrOk A B) {K N S G:Int} (n0:0<N) {n:Nat} (hn0:0<n) (hn:n≤400) (hN:A*A+B*B=(n:Int))
include hf ok n0 hn0 hn hN
theorem ranks_r {O:List Nat} (h:Ord n O) (hO:screen_Of_r fu ((A,(B,K)),())=some ((N,(S,G)),()))
  (hc:K=3→screen_scatter_r fu ((A,(B,K)),((N,(S,G)),()))=some (O.map Int.ofNat,()))
  (hd:K≠3→Srt.srt (Srt.cfv fu (A,(B,K)) (N,(S,G))) (ints n)=O.map Int.ofNat):screen_Ranks_r fu ((A,(B,K)),())=some (rankL n O n 0,()):=by
 unfold screen_Ranks_r;rw [hO,bindO_some];simp only;rw [n_eq ok,hN,bif_and (Int.natCast_nonneg _) (by omega),Int.toNat_natCast];refine stLoop (n:=n) (by omega) (st:=fun k=>((k:Int),tabL n (fun i=>if i<(k:Int) then i else 0))) ?_ ?_ ?_
 ·refine Prod.ext rfl ?_;show tabL n (fun i:Int=>if i<((0:Nat):Int) then i else 0)=List.replicate n 0;exact tabL_rep fun i i0 _=>if_neg (by omega)
 ·intro j k hk;unfold screen_Ranks_l1;simp only;rw [List.length_replicate,Int.toNat_natCast,bif_pos (Int.ofNat_lt.2 hk),tabL_length,bif_and (Int.natCast_nonneg _) (Int.ofNat_lt.2 hk),nx (by omega)]
  have:=tabL_set (n:=n) (G:=fun i:Int=>if i<(k:Int) then i else 0) (G':=fun i:Int=>if i<((k+1:Nat):Int) then i else 0) (k:=(k:Int)) (v:=(k:Int)) (Int.natCast_nonneg _) (if_pos (by omega)) fun q q0 q1 q2=>by
   by_cases c:q<(k:Int)
   ·rw [if_pos c,if_pos (by omega)]
   ·rw [if_neg c,if_neg (by omega)]
  rw [this]
 ·intro j;have e1:tabL n (fun i:Int=>if i<(n:Int) then i else 0)=ints n:=tabL_congr fun i i0 i1=>if_pos i1
  unfold screen_Ranks_l1;simp only [joinF_eq];rw [List.length_replicate,Int.toNat_natCast,bif_neg (Int.lt_irrefl _),e1];by_cases c:K=3
  ·rw [bif_pos c,hc c,bindO_some];exact ranks_of hf hn h
  ·rw [bif_neg c]
   have hs:slices_SortFunc___int_int__r fu (ints n,(((),()),((A,(B,K)),(N,(S,G)))))=some (O.map Int.ofNat,(((),()),((A,(B,K)),(N,(S,G))))):=by
    unfold slices_SortFunc___int_int__r Srt.sortR;simp only;rw [if_pos (good ok n0 hn0 hn),hd c]
   rw [hs,bindO_some];exact ranks_of hf hn h
end
end Rk
end Go.Proofs.Ytljebnobajmjnaa
/- ScreenRanks: the scattered order. -/
namespace Go.Proofs.Ytljebnobajmjnaa
open Go Go.RowKit
set_option linter.unusedSimpArgs false
set_option linter.unusedSectionVars false
set_option linter.unusedVariables false
namespace Rk
open Sc
theorem nr_congr {A B N:Int} {O O':List Nat}:∀ (r i:Nat),(∀ q,q<r→O.getD q 0=O'.getD q 0)→nr A B N O r i=nr A B N O' r i
 | 0,_,_=>rfl
 | r+1,i,h=>by
  unfold nr;rw [nr_congr r i fun q hq=>h q (by omega),h r (by omega)]
theorem nr_pos {A B N:Int} {O:List Nat} (i:Nat):∀ r,0<r→(0<nr A B N O r i↔∀ q,q<r→0<dist A B N (O.getD q 0) i)
 | 0,h=>by omega
 | r+1,_=>by
  have e:nr A B N O (r+1) i=if r=0∨dist A B N (O.getD r 0) i<nr A B N O r i then dist A B N (O.getD r 0) i else nr A B N O r i:=rfl
  rw [e];by_cases r0:r=0
  ·subst r0;rw [if_pos (.inl rfl)];exact ⟨fun h q hq=>by rw [show q=0 by omega];exact h,fun h=>h 0 (by omega)⟩
  ·have ih:=nr_pos (A:=A) (B:=B) (N:=N) (O:=O) i r (by omega);constructor
   ·intro h q hq;by_cases c:dist A B N (O.getD r 0) i<nr A B N O r i
    ·rw [if_pos (.inr c)] at h;by_cases e:q=r
     ·rw [e];exact h
     ·exact ih.1 (by omega) q (by omega)
    ·rw [if_neg (by omega)] at h;by_cases e:q=r
     ·rw [e];omega
     ·exact ih.1 h q (by omega)
   ·intro h;have h1:=ih.2 fun q hq=>h q (by omega)
    have h2:=h r (by omega)
    split <;> assumption
def UP (P:List Nat) (i:Nat):Bool:=decide (i ∉ P)
def btP (A B N:Int) (P:List Nat) (i b:Nat):Bool:=decide (0<P.length∧nr A B N P P.length b<nr A B N P P.length i)
theorem wkP (A B N:Int) (P:List Nat):Wk (btP A B N P):=by
 unfold btP;refine ⟨fun x=>decide_eq_false (by omega),fun x y z h1 h2=>?_,fun x y z h1 h2=>?_⟩
 ·rw [decide_eq_true_eq] at *;omega
 ·rw [decide_eq_false_iff_not] at *;omega
def next (A B N:Int) (n:Nat) (P:List Nat):Nat:=(scan (UP P) (btP A B N P) n).getD 0
def seq (A B N:Int) (n:Nat):Nat→List Nat
 | 0=>[]
 | r+1=>seq A B N n r++[next A B N n (seq A B N n r)]
section
variable {A B N:Int} {n:Nat}
theorem seq_len:∀ r,(seq A B N n r).length=r
 | 0=>rfl
 | r+1=>by rw [seq,List.length_append,seq_len r];rfl
theorem next_ok {r:Nat} (hr:r<n):scan (UP (seq A B N n r)) (btP A B N (seq A B N n r)) n=some (next A B N n (seq A B N n r))∧next A B N n (seq A B N n r)<n∧next A B N n (seq A B N n r) ∉ seq A B N n r:=by
 obtain ⟨s1,s2⟩:=scan_ok (U:=UP (seq A B N n r)) (wkP A B N (seq A B N n r)) n
 cases hq:scan (UP (seq A B N n r)) (btP A B N (seq A B N n r)) n with
 | none =>
  have:=pig n (seq A B N n r) fun i hi=>by
   have h:=s1 hq i hi;unfold UP at h;rw [decide_eq_false_iff_not] at h;exact Classical.not_not.1 h
  rw [seq_len] at this;omega
 | some b =>
  obtain ⟨b1,b2,_⟩:=s2 b hq;have e:next A B N n (seq A B N n r)=b:=by unfold next;rw [hq];rfl
  rw [e];unfold UP at b2;rw [decide_eq_true_eq] at b2;exact ⟨rfl,b1,b2⟩
theorem seq_ok:∀ r,r≤n→(seq A B N n r).Nodup∧∀ i ∈ seq A B N n r,i<n
 | 0,_=>⟨List.nodup_nil,fun i h=>by cases h⟩
 | r+1,h=>by
  obtain ⟨h1,h2⟩:=seq_ok r (by omega);obtain ⟨_,k2,k3⟩:=next_ok (A:=A) (B:=B) (N:=N) (n:=n) (r:=r) (by omega);rw [seq];refine ⟨List.nodup_append.2 ⟨h1,by simp,fun a ha b hb e=>?_⟩,fun i hi=>?_⟩
  ·rw [List.mem_singleton.1 hb] at e;rw [e] at ha;exact k3 ha
  ·rcases List.mem_append.1 hi with hi | hi
   ·exact h2 i hi
   ·rw [List.mem_singleton.1 hi];exact k2
theorem seq_ord:Ord n (seq A B N n n):=⟨seq_len n,(seq_ok n (Nat.le_refl _)).1,(seq_ok n (Nat.le_refl _)).2⟩
theorem seq_take:∀ m r,r≤m→(seq A B N n m).take r=seq A B N n r
 | 0,r,h=>by rw [show r=0 by omega];rfl
 | m+1,r,h=>by
  by_cases e:r=m+1
  ·rw [e,List.take_of_length_le (by rw [seq_len];omega)]
  ·rw [seq,List.take_append_of_le_length (by rw [seq_len];omega),seq_take m r (by omega)]
theorem seq_at {m r:Nat} (h:r<m):(seq A B N n m).getD r 0=next A B N n (seq A B N n r):=by
 have h1:=seq_take (A:=A) (B:=B) (N:=N) (n:=n) m (r+1) h;have h2:((seq A B N n m).take (r+1))[r]?=(seq A B N n m)[r]?:=by rw [List.getElem?_take,if_pos (by omega)]
 rw [List.getD_eq_getElem?_getD,←h2,h1,seq,List.getElem?_append_right (by rw [seq_len];omega),seq_len,Nat.sub_self];rfl
end
end Rk
end Go.Proofs.Ytljebnobajmjnaa
/- The lattice that two lattices have in common. -/
namespace Go.Proofs.Ytljebnobajmjnaa
open Go
set_option linter.unusedSimpArgs false
set_option linter.unusedSectionVars false
set_option linter.unusedVariables false
namespace Sc
theorem bel_high {A B N S G x y:Int} (f:FormOk A B N S G) (h:bel A B x y):G ∣ y:=by
 obtain ⟨⟨i,hi⟩,⟨j,hj⟩⟩:=h;obtain ⟨a,ha⟩:=f.ga;obtain ⟨b,hb⟩:=f.gb;have hpos:0<A*A+B*B:=by rw [←f.mul];exact Int.mul_pos f.g0 f.n0
 have e:(A*A+B*B)*y=(A*A+B*B)*(B*i+A*j):=by
  have e1:(A*A+B*B)*y=A*(y*A-x*B)+B*(x*A+y*B):=by grind
  rw [e1,hi,hj];grind
 have e2:y=B*i+A*j:=Int.eq_of_mul_eq_mul_left (by omega) e;refine ⟨b*i+a*j,?_⟩;have:B*i+A*j=(G*b)*i+(G*a)*j:=by rw [←ha,←hb]
 rw [e2,this];grind
theorem lcm_dvd {d N N' p q n' w:Int} (hd:0<d) (hN:N=d*n') (hb:N*p+N'*q=d) (h1:N ∣ w) (h2:N' ∣ w):n'*N' ∣ w:=by
 obtain ⟨a,ha⟩:=h1;obtain ⟨b,hb'⟩:=h2;refine ⟨b*p+a*q,?_⟩
 have e:d*w=d*(n'*N'*(b*p+a*q)):=by
  have e1:d*w=w*(N*p)+w*(N'*q):=by rw [←hb];grind
  have e2:w*(N*p)=N'*b*(d*n'*p):=by rw [hb',hN]
  have e3:w*(N'*q)=d*n'*a*(N'*q):=by
   have:w=d*n'*a:=by rw [ha,hN]
   rw [this]
  rw [e1,e2,e3];grind
 exact Int.eq_of_mul_eq_mul_left (by omega) e
structure ComOk (A B A' B' W S H:Int):Prop where
 w0:0<W
 s0:0≤S
 s1:S<W
 h0:0<H
 row1:bel A B W 0
 row2:bel A' B' W 0
 least:∀ w,0<w→bel A B w 0→bel A' B' w 0→W≤w
 in1:bel A B S H
 in2:bel A' B' S H
 high:∀ s h,0<h→h<H→bel A B s h→bel A' B' s h→False
 first:∀ s,0≤s→s<S→bel A B s H→bel A' B' s H→False
theorem dvd_emod (a:Int) {n:Int}:n ∣ a-a % n:=by
 have:=Int.mul_ediv_add_emod a n;exact ⟨a / n,by omega⟩
section
variable {A B N S G A' B' N' S' G':Int} (f:FormOk A B N S G) (f':FormOk A' B' N' S' G')
 {d p q g u v e r t n1 n2 γ γ' m m2 x y z x2 y2 k:Int}
 (d0:0<d) (hd:N*p+N'*q=d) (hn1:N=d*n1) (hn2:N'=d*n2)
 (g0:0<g) (hg:G*u+G'*v=g) (hG:G=g*γ) (hG':G'=g*γ')
 (hx:N ∣ x-γ'*S) (hy:N' ∣ y-γ*S') (hz:d ∣ z-(x-y))
 (e0:0<e) (he:d*r+z*t=e) (hm:d=e*m) (hez:z=e*m2)
 (hx2:N ∣ x2-x*m) (hy2:N' ∣ y2-y*m)
 (hk:n2 ∣ k-(y2-x2) / d*p)
include f f' d0 hd hn1 hn2 g0 hg hG hG' hx hy hz e0 he hm hez hx2 hy2 hk
theorem com_ok:ComOk A B A' B' (n1*N') ((x2+N*k) % (n1*N')) (γ*G'*m):=by
 have N0:=f.n0;have N0':=f'.n0;have G0:=f.g0;have G0':=f'.g0
 have pos:∀ {a b c:Int},a=b*c→0<a→0<b→0<c:=fun {a b c} h ha hb=>by
  rcases Int.lt_or_le 0 c with hc | hc
  ·exact hc
  ·have:b*c≤b*0:=Int.mul_le_mul_of_nonneg_left hc (by omega);omega
 have n10:0<n1:=pos hn1 N0 d0;have n20:0<n2:=pos hn2 N0' d0;have m0:0<m:=pos hm d0 e0;have γ0:0<γ:=pos hG G0 g0;have W0:0<n1*N':=Int.mul_pos n10 N0';have hW1:N ∣ n1*N':=⟨n2,by rw [hn1,hn2];grind⟩;have hW2:N' ∣ n1*N':=Int.dvd_mul_left _ _;have hH1:γ*G'*m=(γ'*m)*G:=by rw [hG,hG'];grind
 have hH2:γ*G'*m=(γ*m)*G':=by grind
 have hdN:d ∣ N:=⟨n1,hn1⟩;have hdN':d ∣ N':=⟨n2,hn2⟩

 have hdz:d ∣ (x-y)*m:=by
  have h1:d ∣ z*m:=⟨m2,by rw [hez,hm];grind⟩;have h2:d ∣ (z-(x-y))*m:=Int.dvd_trans hz (Int.dvd_mul_right _ _);have:=Int.dvd_sub h1 h2;have e1:z*m-(z-(x-y))*m=(x-y)*m:=by grind
  rw [e1] at this;exact this
 have hd2:d ∣ y2-x2:=by
  have h1:=Int.dvd_sub (Int.dvd_trans hdN' hy2) (Int.dvd_trans hdN hx2);have h2:=Int.dvd_sub h1 hdz;have e1:y2-y*m-(x2-x*m)-(x-y)*m=y2-x2:=by grind
  rw [e1] at h2;exact h2
 obtain ⟨c,hc⟩:=hd2;have hcd:(y2-x2) / d=c:=by rw [hc];exact Int.mul_ediv_cancel_left _ (by omega)
 rw [hcd] at hk;have hS:n1*N' ∣ (x2+N*k)-(x2+N*k) % (n1*N'):=dvd_emod _;generalize hs:(x2+N*k) % (n1*N')=s at *
 have in1:bel A B s (γ*G'*m):=by
  rw [hH1,bel_row f];have a1:N ∣ N*k:=Int.dvd_mul_right _ _;have a2:=Int.dvd_trans hW1 hS;have a3:N ∣ (x-γ'*S)*m:=Int.dvd_trans hx (Int.dvd_mul_right _ _);have:=Int.dvd_sub (Int.dvd_add (Int.dvd_add hx2 a1) a3) a2;have e1:x2-x*m+N*k+(x-γ'*S)*m-(x2+N*k-s)=s-γ'*m*S:=by grind
  rw [e1] at this;exact this
 have in2:bel A' B' s (γ*G'*m):=by
  rw [hH2,bel_row f']
  have b1:N' ∣ N*(k-c*p):=by
   obtain ⟨w,hw⟩:=hk;refine ⟨n1*w,?_⟩;rw [hw,hn1,hn2];grind
  have b2:N' ∣ N*(c*p)-(y2-x2):=by
   refine ⟨-(q*c),?_⟩;have:y2-x2=(N*p+N'*q)*c:=by rw [hd];exact hc
   rw [this];grind
  have a2:=Int.dvd_trans hW2 hS;have a3:N' ∣ (y-γ*S')*m:=Int.dvd_trans hy (Int.dvd_mul_right _ _);have:=Int.dvd_sub (Int.dvd_add (Int.dvd_add (Int.dvd_add b1 b2) hy2) a3) a2;have e1:N*(k-c*p)+(N*(c*p)-(y2-x2))+(y2-y*m)+(y-γ*S')*m-(x2+N*k-s)=s-γ*m*S':=by grind
  rw [e1] at this;exact this
 have row:∀ w:Int,bel A B w 0↔N ∣ w:=fun w=>by
  have:=bel_row f w 0;rw [Int.zero_mul,Int.zero_mul,Int.sub_zero] at this;exact this
 have row':∀ w:Int,bel A' B' w 0↔N' ∣ w:=fun w=>by
  have:=bel_row f' w 0;rw [Int.zero_mul,Int.zero_mul,Int.sub_zero] at this;exact this
 have small:∀ w:Int,0<w→N ∣ w→N' ∣ w→n1*N'≤w:=fun w w0 h1 h2=>by
  obtain ⟨a,ha⟩:=lcm_dvd d0 hn1 hd h1 h2;have a0:0<a:=pos ha w0 W0;have:n1*N'*1≤n1*N'*a:=Int.mul_le_mul_of_nonneg_left (by omega) (by omega);omega
 refine ⟨W0,?_,?_,Int.mul_pos (Int.mul_pos γ0 G0') m0,(row _).2 hW1,(row' _).2 hW2,fun w w0 h1 h2=>small w w0 ((row w).1 h1) ((row' w).1 h2),in1,in2,fun s' h h0 h1 k1 k2=>?_,fun s' s0 s1 k1 k2=>?_⟩
 ·rw [←hs];exact Int.emod_nonneg _ (by omega)
 ·rw [←hs];exact Int.emod_lt_of_pos _ W0
 ·
  have g1:=bel_high f k1;have g2:=bel_high f' k2;obtain ⟨m',hm'⟩:=lcm_dvd g0 hG hg g1 g2;have m'0:0<m':=pos hm' h0 (Int.mul_pos γ0 G0')
  have hm1:m'<m:=by
   rcases Int.lt_or_le m' m with h' | h'
   ·exact h'
   ·have:γ*G'*m≤γ*G'*m':=Int.mul_le_mul_of_nonneg_left h' (by have:=Int.mul_pos γ0 G0';omega);omega
  rw [hm',show γ*G'*m'=(γ'*m')*G by rw [hG,hG'];grind,bel_row f] at k1;rw [hm',show γ*G'*m'=(γ*m')*G' by grind,bel_row f'] at k2;have c1:d ∣ (x-γ'*S)*m':=Int.dvd_trans (Int.dvd_trans hdN hx) (Int.dvd_mul_right _ _);have c2:d ∣ (y-γ*S')*m':=Int.dvd_trans (Int.dvd_trans hdN' hy) (Int.dvd_mul_right _ _);have c3:=Int.dvd_sub (Int.dvd_trans hdN' k2) (Int.dvd_trans hdN k1);have c4:d ∣ (z-(x-y))*m':=Int.dvd_trans hz (Int.dvd_mul_right _ _)
  have c5:d ∣ z*m':=by
   have:=Int.dvd_add (Int.dvd_add c4 (Int.dvd_sub c1 c2)) c3;have e1:(z-(x-y))*m'+((x-γ'*S)*m'-(y-γ*S')*m')+(s'-γ*m'*S'-(s'-γ'*m'*S))=z*m':=by grind
   rw [e1] at this;exact this
  have c6:d ∣ e*m':=by
   obtain ⟨w,hw⟩:=c5;refine ⟨r*m'+w*t,?_⟩;rw [←he];have:z*t*m'=z*m'*t:=by grind
   have e2:(d*r+z*t)*m'=d*r*m'+z*m'*t:=by grind
   rw [e2,hw];grind
  obtain ⟨w,hw⟩:=c6
  have hw2:m'=m*w:=by
   have:e*m'=e*(m*w):=by rw [hw,hm];grind
   exact Int.eq_of_mul_eq_mul_left (by omega) this
  have w0:0<w:=pos hw2 m'0 m0;have:m*1≤m*w:=Int.mul_le_mul_of_nonneg_left (by omega) (by omega);omega
 ·
  have h1:=bel_sub in1 k1;have h2:=bel_sub in2 k2;rw [Int.sub_self] at h1 h2;have h3:=small (s-s') (by omega) ((row _).1 h1) ((row' _).1 h2);have h4:s<n1*N':=by rw [←hs];exact Int.emod_lt_of_pos _ W0
  omega
end
end Sc
end Go.Proofs.Ytljebnobajmjnaa
/- ScreenRanks: screen.scatter. -/
namespace Go.Proofs.Ytljebnobajmjnaa
open Go Go.RowKit
set_option linter.unusedSimpArgs false
set_option linter.unusedSectionVars false
set_option linter.unusedVariables false
namespace Rk
open Sc
theorem small {a m:Int} (hm:0<m) (h:m ∣ a) (h1:-m<a) (h2:a<m):a=0:=by
 obtain ⟨k,rfl⟩:=h
 have:k=0:=by
  rcases Int.lt_trichotomy k 0 with c | c | c
  ·have:=Int.mul_le_mul_of_nonneg_left (show k≤-1 by omega) (show 0≤m by omega);omega
  ·exact c
  ·have:=Int.mul_le_mul_of_nonneg_left (show 1≤k by omega) (show 0≤m by omega);omega
 rw [this,Int.mul_zero]
theorem du_congr {A B x y x' y':Int} (h:bel A B (x-x') (y-y')):du A B x y=du A B x' y'∧dv A B x y=dv A B x' y':=by
 have e1:(x*A+y*B) % (A*A+B*B)=(x'*A+y'*B) % (A*A+B*B):=by
  rw [Int.emod_eq_emod_iff_emod_sub_eq_zero];refine Int.emod_eq_zero_of_dvd ?_;have:=h.1;rw [show x*A+y*B-(x'*A+y'*B)=(x-x')*A+(y-y')*B by grind];exact this
 have e2:(y*A-x*B) % (A*A+B*B)=(y'*A-x'*B) % (A*A+B*B):=by
  rw [Int.emod_eq_emod_iff_emod_sub_eq_zero];refine Int.emod_eq_zero_of_dvd ?_;have:=h.2;rw [show y*A-x*B-(y'*A-x'*B)=(y-y')*A-(x-x')*B by grind];exact this
 unfold du dv;rw [e1,e2];exact ⟨rfl,rfl⟩
section
variable {A B N S G:Int} (f:FormOk A B N S G)
include f
theorem place_bel (x y:Int):bel A B (x-(x-(y / G) % N*S) % N) (y-y % G):=by
 have hy:y-y % G=y / G*G:=by
  have:=Int.mul_ediv_add_emod y G;rw [Int.mul_comm];omega
 rw [hy,bel_row f];have h1:=Int.mul_ediv_add_emod (x-(y / G) % N*S) N;have h2:=Int.mul_ediv_add_emod (y / G) N;refine ⟨(x-(y / G) % N*S) / N-(y / G) / N*S,?_⟩;generalize (x-(y / G) % N*S) / N=a at *
 generalize (x-(y / G) % N*S) % N=b at *
 generalize y / G % N=t at *
 generalize y / G / N=q at *
 generalize y / G=z at *
 subst h2;have:x=N*a+b+t*S:=by omega
 subst this
 grind
variable {n:Nat} (hN:A*A+B*B=(n:Int))
include hN
theorem div_lt {i:Nat} (hi:i<n):(i:Int) / N<G∧0≤(i:Int) / N∧0≤(i:Int) % N∧(i:Int) % N<N:=by
 have:=f.mul;have n0:=f.n0;refine ⟨Int.ediv_lt_of_lt_mul n0 (by omega),Int.ediv_nonneg (by omega) (by omega),Int.emod_nonneg _ (by omega),Int.emod_lt_of_pos _ n0⟩
theorem dist_zero {i:Nat}:dist A B N i i=0:=by
 unfold dist k1 du dv;simp;rw [Int.min_eq_left (by omega)];rfl
theorem dist_pos (ok:ScrOk A B) {b i:Nat} (hb:b<n) (hi:i<n) (hne:b≠i):0<dist A B N b i:=by
 obtain ⟨i1,i2,i3,i4⟩:=div_lt f hN hi;obtain ⟨b1,b2,b3,b4⟩:=div_lt f hN hb;have u0:=du_bd ok ((i:Int) % N-(b:Int) % N) ((i:Int) / N-(b:Int) / N);have v0:=dv_bd ok ((i:Int) % N-(b:Int) % N) ((i:Int) / N-(b:Int) / N);have e:dist A B N b i=du A B ((i:Int) % N-(b:Int) % N) ((i:Int) / N-(b:Int) / N)*du A B ((i:Int) % N-(b:Int) % N) ((i:Int) / N-(b:Int) / N)+dv A B ((i:Int) % N-(b:Int) % N) ((i:Int) / N-(b:Int) / N)*dv A B ((i:Int) % N-(b:Int) % N) ((i:Int) / N-(b:Int) / N):=rfl;rw [e];by_cases c:du A B ((i:Int) % N-(b:Int) % N) ((i:Int) / N-(b:Int) / N)=0∧dv A B ((i:Int) % N-(b:Int) % N) ((i:Int) / N-(b:Int) / N)=0
 ·exfalso
  have np:=ok.n0
  have hbel:bel A B ((i:Int) % N-(b:Int) % N) ((i:Int) / N-(b:Int) / N):=by
   obtain ⟨c1,c2⟩:=c;unfold du at c1;unfold dv at c2;have h2:=Int.emod_lt_of_pos (((i:Int) % N-(b:Int) % N)*A+((i:Int) / N-(b:Int) / N)*B) np;have h4:=Int.emod_lt_of_pos (((i:Int) / N-(b:Int) / N)*A-((i:Int) % N-(b:Int) % N)*B) np;refine ⟨Int.dvd_of_emod_eq_zero ?_,Int.dvd_of_emod_eq_zero ?_⟩
   ·generalize (((i:Int) % N-(b:Int) % N)*A+((i:Int) / N-(b:Int) / N)*B) % (A*A+B*B)=q at *
    omega
   ·generalize (((i:Int) / N-(b:Int) / N)*A-((i:Int) % N-(b:Int) % N)*B) % (A*A+B*B)=q at *
    omega
  have hG:=bel_high f hbel;have hy:(i:Int) / N-(b:Int) / N=0:=small f.g0 hG (by omega) (by omega);rw [hy] at hbel;have hx:=f.least _ hbel;have hx':(i:Int) % N-(b:Int) % N=0:=small f.n0 hx (by omega) (by omega);have h1:=Int.mul_ediv_add_emod (i:Int) N;have h2:=Int.mul_ediv_add_emod (b:Int) N;rw [show (i:Int) / N=(b:Int) / N by omega] at h1;omega
 ·have q1:0≤du A B ((i:Int) % N-(b:Int) % N) ((i:Int) / N-(b:Int) / N)*du A B ((i:Int) % N-(b:Int) % N) ((i:Int) / N-(b:Int) / N):=Int.mul_nonneg u0.1 u0.1;have q2:0≤dv A B ((i:Int) % N-(b:Int) % N) ((i:Int) / N-(b:Int) / N)*dv A B ((i:Int) % N-(b:Int) % N) ((i:Int) / N-(b:Int) / N):=Int.mul_nonneg v0.1 v0.1;by_cases d:du A B ((i:Int) % N-(b:Int) % N) ((i:Int) / N-(b:Int) / N)=0
  ·have:0<dv A B ((i:Int) % N-(b:Int) % N) ((i:Int) / N-(b:Int) / N):=by
    have:dv A B ((i:Int) % N-(b:Int) % N) ((i:Int) / N-(b:Int) / N)≠0:=fun g=>c ⟨d,g⟩
    omega
   have:=Int.mul_pos this this;omega
  ·have:0<du A B ((i:Int) % N-(b:Int) % N) ((i:Int) / N-(b:Int) / N):=by omega
   have:=Int.mul_pos this this;omega
def ap (A B N:Int) (n r i:Nat):Int:=if r=0 then 1099511627776 else nr A B N (seq A B N n r) r i
theorem ap_pos (ok:ScrOk A B) {r i:Nat} (hr:r≤n) (hi:i<n):0<ap A B N n r i↔i ∉ seq A B N n r:=by
 unfold ap;by_cases c:r=0
 ·subst c;rw [if_pos rfl];simp [seq]
 ·rw [if_neg c,nr_pos i r (by omega)];constructor
  ·intro h hm;obtain ⟨q,hq,he⟩:=List.getElem_of_mem hm;rw [seq_len] at hq;have:=h q hq;rw [List.getD_eq_getElem?_getD,List.getElem?_eq_getElem (by rw [seq_len];exact hq),he] at this;have:=dist_zero f hN (i:=i);simp only [Option.getD_some] at *
   omega
  ·intro h q hq;have hq':q<(seq A B N n r).length:=by rw [seq_len];exact hq
   rw [List.getD_eq_getElem?_getD,List.getElem?_eq_getElem hq'];have hm:=List.getElem_mem hq';exact dist_pos f hN ok ((seq_ok r hr).2 _ hm) hi fun e=>h (e ▸ hm)
theorem ap_scan (ok:ScrOk A B) {r:Nat} (hr:r<n):scan (fun i=>decide (0<ap A B N n r i)) (fun i b=>decide (ap A B N n r b<ap A B N n r i)) n=some (next A B N n (seq A B N n r)):=by
 rw [←(next_ok hr).1];refine (scan_congr n (fun j hj=>?_) (fun j b _ hj _ _=>?_)).2
 ·exact decide_eq_decide.2 (ap_pos f hN ok (by omega) hj)
 ·unfold btP ap;rw [seq_len];refine decide_eq_decide.2 ?_;by_cases c:r=0
  ·rw [if_pos c,if_pos c];omega
  ·rw [if_neg c,if_neg c];omega
end
end Rk
end Go.Proofs.Ytljebnobajmjnaa
/- ScreenRanks: screen.scatter,the program. -/
namespace Go.Proofs.Ytljebnobajmjnaa
open Go Go.RowKit
set_option linter.unusedSimpArgs false
set_option linter.unusedSectionVars false
set_option linter.unusedVariables false
namespace Rk
open Sc
theorem app8 {β:Type} {l:List Int} {v:Int} {a b:Option β} (h:l.length≤1048576):(bif (decide ((((List.length l:Int)+(List.length ([v]:List Int):Int))*(8:Int))≤(140737488355328:Int))) then a else b)=a:=by
 refine bif_pos ?_;rw [List.length_singleton];omega
theorem l3_exit {fu:Nat} {a:(Int×Int×Int)×(Int×Int×Int)×Unit} {v2:Int×List Int×List Int} {j2:(Int×List Int×List Int)→Option (List Int×Unit)} {j3:(Int×Int)→Option (List Int×Unit)} {v3:Int×Int} (hx:¬ v3.2<(List.length v2.2.1:Int)) (h:v2.2.2.length≤1048576) :
  screen_scatter_l3 fu a v2 j2 j3 v3=loopF (screen_scatter_l6 fu a v2 v3 j2) fu (0,v2.2.1):=by
 unfold screen_scatter_l3;rw [bif_neg hx];exact app8 h
def apL (A B N:Int) (n r k:Nat):List Int:=tabL n fun i=>if i<(k:Int) then ap A B N n (r+1) i.toNat else ap A B N n r i.toNat
theorem dist_bd {A B N:Int} (ok:ScrOk A B) (b i:Nat):0≤dist A B N b i∧dist A B N b i≤1000000:=k1_bd (du_bd ok _ _) (dv_bd ok _ _)
theorem ap_succ {A B N:Int} (ok:ScrOk A B) {n r:Nat} (i:Nat):ap A B N n (r+1) i=min (ap A B N n r i) (dist A B N (next A B N n (seq A B N n r)) i):=by
 have hd:=dist_bd (N:=N) ok (next A B N n (seq A B N n r)) i;have e1:(seq A B N n (r+1)).getD r 0=next A B N n (seq A B N n r):=seq_at (by omega);have e2:nr A B N (seq A B N n (r+1)) r i=nr A B N (seq A B N n r) r i:=nr_congr r i fun q hq=>by rw [seq_at (by omega),seq_at hq]
 unfold ap;rw [if_neg (by omega),nr,e1,e2];by_cases c:r=0
 ·rw [if_pos (.inl c),if_pos c];omega
 ·rw [if_neg c]
  split <;> omega
section
variable {fu:Nat} (hf:18446744073709551616≤fu) {A B:Int} (ok:ScrOk A B) {K N S G:Int} (f:FormOk A B N S G) (hN4:N≤400) (hG4:G≤400) {n:Nat} (hn0:0<n) (hn:n≤400) (hN:A*A+B*B=(n:Int))
include hf ok f hN4 hG4 hn hN
theorem apart_r {r:Nat} (hr:r<n) {O:List Int} {j2}:loopF (screen_scatter_l6 fu ((A,(B,K)),((N,(S,G)),())) ((r:Int),(apL A B N n r 0,O)) ((next A B N n (seq A B N n r):Int),(n:Int)) j2) fu (0,apL A B N n r 0)=j2 (((r+1:Nat):Int),(apL A B N n (r+1) 0,O++[(next A B N n (seq A B N n r):Int)])):=by
 have n0:=f.n0;have g0:=f.g0;have hb:=(next_ok (A:=A) (B:=B) (N:=N) hr).2.1;generalize hbe:next A B N n (seq A B N n r)=b at hb ⊢;have hl0:(apL A B N n r 0).length=n:=tabL_length _ _;have bb:=pq_bd n0 hn hb;refine stLoop (n:=n) (by omega) (st:=fun k=>((k:Int),apL A B N n r k)) rfl ?_ ?_
 ·intro j i hi;have ii:=pq_bd n0 hn hi;have hl:(apL A B N n r i).length=n:=tabL_length _ _
  have hget:(apL A B N n r i).getD i 0=ap A B N n r i:=by
   unfold apL;rw [tabL_getDN hi,if_neg (by omega),Int.toNat_natCast]
  have hset:(apL A B N n r i).set i (ap A B N n (r+1) i)=apL A B N n r (i+1):=by
   have:=tabL_set (n:=n) (G:=fun q:Int=>if q<(i:Int) then ap A B N n (r+1) q.toNat else ap A B N n r q.toNat) (G':=fun q:Int=>if q<((i+1:Nat):Int) then ap A B N n (r+1) q.toNat else ap A B N n r q.toNat) (k:=(i:Int)) (v:=ap A B N n (r+1) i) (Int.natCast_nonneg _) (by
    rw [if_pos (by omega),Int.toNat_natCast]) fun q q0 q1 q2=>by
     by_cases c:q<(i:Int)
     ·rw [if_pos c,if_pos (by omega)]
     ·rw [if_neg c,if_neg (by omega)]
   rw [Int.toNat_natCast] at this;exact this
  unfold screen_scatter_l6;simp only;rw [hl0,hl,bif_pos (Int.ofNat_lt.2 hi),bif_pos (show N≠0 by omega),bif_pos (show N≠0 by omega),bif_pos (show N≠0 by omega),bif_pos (show N≠0 by omega)];rw [Int.tmod_eq_emod_of_nonneg (show 0≤(i:Int) by omega),Int.tmod_eq_emod_of_nonneg (show 0≤(b:Int) by omega),Int.tdiv_eq_ediv_of_nonneg (show 0≤(i:Int) by omega),Int.tdiv_eq_ediv_of_nonneg (show 0≤(b:Int) by omega)];rw [wr64 (x:=(i:Int) / N) (by omega) (by omega),wr64 (x:=(b:Int) / N) (by omega) (by omega),wr64 (x:=(i:Int) % N-(b:Int) % N) (by omega) (by omega),wr64 (x:=(i:Int) / N-(b:Int) / N) (by omega) (by omega)];rw [(place_r hf ok K f hN4 hG4 (x:=(i:Int) % N-(b:Int) % N) (y:=(i:Int) / N-(b:Int) / N) (by omega) (by omega)).1,bindO_some];have hdd:dist A B N b i=k1 0 (du A B ((i:Int) % N-(b:Int) % N) ((i:Int) / N-(b:Int) / N)) (dv A B ((i:Int) % N-(b:Int) % N) ((i:Int) / N-(b:Int) / N)):=rfl;have hbel:=place_bel f ((i:Int) % N-(b:Int) % N) ((i:Int) / N-(b:Int) / N);obtain ⟨c1,c2⟩:=du_congr hbel;have x0:=Int.emod_nonneg (((i:Int) % N-(b:Int) % N)-(((i:Int) / N-(b:Int) / N) / G) % N*S) (show N≠0 by omega);have x1:=Int.emod_lt_of_pos (((i:Int) % N-(b:Int) % N)-(((i:Int) / N-(b:Int) / N) / G) % N*S) n0;have y0:=Int.emod_nonneg ((i:Int) / N-(b:Int) / N) (show G≠0 by omega)
  have y1:=Int.emod_lt_of_pos ((i:Int) / N-(b:Int) / N) g0;rw [c1,c2] at hdd;have hgn:=f.mul;simp only;generalize (((i:Int) % N-(b:Int) % N)-(((i:Int) / N-(b:Int) / N) / G) % N*S) % N=x' at *
  generalize ((i:Int) / N-(b:Int) / N) % G=y' at *
  have p0:0≤y'*N:=Int.mul_nonneg y0 (by omega);have p1:(y'+1)*N≤G*N:=Int.mul_le_mul_of_nonneg_right (by omega) (by omega);have p2:(y'+1)*N=y'*N+N:=by rw [Int.add_mul,Int.one_mul]
  have ed:(y'*N+x') / N=y':=by rw [Int.add_comm,Int.add_mul_ediv_right _ _ (by omega),Int.ediv_eq_zero_of_lt x0 x1,Int.zero_add]
  have em:(y'*N+x') % N=x':=by
   have:=Int.mul_ediv_add_emod (y'*N+x') N;rw [ed,Int.mul_comm] at this;omega
  rw [offset_r ok n0 (p:=y'*N+x') (by omega) (by omega),bindO_some,em,ed];simp only;have u0:=du_bd ok x' y';have v0:=dv_bd ok x' y';rw [(tail_eq ok u0 v0).2,bif_and (Int.natCast_nonneg _) (Int.ofNat_lt.2 hi),bif_and (Int.natCast_nonneg _) (Int.ofNat_lt.2 hi),Int.toNat_natCast,hget,nx (by omega)]
  have e:min (ap A B N n r i) (du A B x' y'*du A B x' y'+dv A B x' y'*dv A B x' y')=ap A B N n (r+1) i:=by
   rw [ap_succ ok,hbe,hdd];rfl
  rw [e,hset]
 ·intro j;have e1:apL A B N n r n=apL A B N n (r+1) 0:=tabL_congr fun i i0 i1=>by rw [if_pos i1,if_neg (by omega)]
  unfold screen_scatter_l6;simp only;rw [hl0,bif_neg (Int.lt_irrefl _),nx (by omega),e1]
theorem choose_r {r:Nat} (hr:r<n) {O:List Int} (hO:O.length≤1048576) {j2}:loopF (screen_scatter_l3 fu ((A,(B,K)),((N,(S,G)),())) ((r:Int),(apL A B N n r 0,O)) j2) fu (-1,0)=j2 (((r+1:Nat):Int),(apL A B N n (r+1) 0,O++[(next A B N n (seq A B N n r):Int)])):=by
 have hl0:(apL A B N n r 0).length=n:=tabL_length _ _
 have hg:∀ q:Nat,q<n→(apL A B N n r 0).getD q 0=ap A B N n r q:=fun q hq=>by
  unfold apL;rw [tabL_getDN hq,if_neg (by omega),Int.toNat_natCast]
 refine stLoop (n:=n) (by omega) (st:=fun i=>(sc (fun i=>decide (0<ap A B N n r i)) (fun i b=>decide (ap A B N n r b<ap A B N n r i)) i,(i:Int))) rfl ?_ ?_
 ·intro j i hi;have hs:=sc_succ (fun i=>decide (0<ap A B N n r i)) (fun i b=>decide (ap A B N n r b<ap A B N n r i)) i
  have hbest:sc (fun i=>decide (0<ap A B N n r i)) (fun i b=>decide (ap A B N n r b<ap A B N n r i)) i<0∨∃ b:Nat,sc (fun i=>decide (0<ap A B N n r i)) (fun i b=>decide (ap A B N n r b<ap A B N n r i)) i=(b:Int)∧b<i:=by
   unfold sc
   cases hq:scan (fun i=>decide (0<ap A B N n r i)) (fun i b=>decide (ap A B N n r b<ap A B N n r i)) i with
   | none=>left;simp only;omega
   | some b=>exact .inr ⟨b,rfl,((scan_congr (U':=fun i=>decide (0<ap A B N n r i)) (bt':=fun i b=>decide (ap A B N n r b<ap A B N n r i)) i (fun _ _=>rfl) (fun _ _ _ _ _ _=>rfl)).1 b hq).2⟩
  generalize sc (fun i=>decide (0<ap A B N n r i)) (fun i b=>decide (ap A B N n r b<ap A B N n r i)) i=best at hs hbest ⊢
  have fin:∀ z:Int,(fun v4:Int×Int=>j (v4.2,IntKind.i64.wrap (v4.1+1))) ((i:Int),z)=j (z,((i+1:Nat):Int)):=fun z=>by
   show j (z,IntKind.i64.wrap ((i:Int)+1))=_;rw [nx (by omega)]
  unfold screen_scatter_l3 screen_scatter_j4 screen_scatter_j5;simp only [joinF_eq];rw [hl0,bif_pos (Int.ofNat_lt.2 hi),bif_and (Int.natCast_nonneg _) (Int.ofNat_lt.2 hi),Int.toNat_natCast,hg i hi,hs];by_cases c:0<ap A B N n r i
  ·rw [bif_pos c,if_pos (decide_eq_true c)];by_cases c1:best<0
   ·rw [bif_pos c1,if_pos c1];exact fin _
   ·obtain ⟨b,hbe,hbi⟩:=hbest.resolve_left c1;subst hbe;rw [bif_neg c1,if_neg c1,bif_and (Int.natCast_nonneg _) (by omega),Int.toNat_natCast,hg b (by omega)];by_cases c2:ap A B N n r b<ap A B N n r i
    ·rw [bif_pos c2,if_pos (decide_eq_true c2)];exact fin _
    ·rw [bif_neg c2,if_neg (by rw [decide_eq_true_eq];exact c2)];exact fin _
  ·rw [bif_neg c,if_neg (by rw [decide_eq_true_eq];exact c)];exact fin _
 ·intro j
  have e:sc (fun i=>decide (0<ap A B N n r i)) (fun i b=>decide (ap A B N n r b<ap A B N n r i)) n=(next A B N n (seq A B N n r):Int):=by
   unfold sc;rw [ap_scan f hN ok hr]
  rw [e,l3_exit (by show ¬ (n:Int)<((apL A B N n r 0).length:Int);rw [hl0];omega) hO];exact apart_r hf ok f hN4 hG4 hn hN hr
theorem scatter_r:screen_scatter_r fu ((A,(B,K)),((N,(S,G)),()))=some ((seq A B N n n).map Int.ofNat,()):=by
 unfold screen_scatter_r;simp only;rw [n_eq ok,hN,bif_and (Int.natCast_nonneg _) (by omega),Int.toNat_natCast];refine stLoop (n:=n) (by omega) (st:=fun k=>((k:Int),tabL n (fun i=>if i<(k:Int) then (1099511627776:Int) else 0))) ?_ ?_ ?_
 ·refine Prod.ext rfl ?_;show tabL n (fun i:Int=>if i<((0:Nat):Int) then (1099511627776:Int) else 0)=List.replicate n 0;exact tabL_rep fun i i0 _=>if_neg (by omega)
 ·intro j k hk;unfold screen_scatter_l1;simp only;rw [List.length_replicate,Int.toNat_natCast,bif_pos (Int.ofNat_lt.2 hk),tabL_length,bif_and (Int.natCast_nonneg _) (Int.ofNat_lt.2 hk),nx (by omega)]
  have:=tabL_set (n:=n) (G:=fun i:Int=>if i<(k:Int) then (1099511627776:Int) else 0) (G':=fun i:Int=>if i<((k+1:Nat):Int) then (1099511627776:Int) else 0) (k:=(k:Int)) (v:=1099511627776) (Int.natCast_nonneg _) (if_pos (by omega)) fun q q0 q1 q2=>by
   by_cases c:q<(k:Int)
   ·rw [if_pos c,if_pos (by omega)]
   ·rw [if_neg c,if_neg (by omega)]
  rw [this]
 ·intro j;have e1:tabL n (fun i:Int=>if i<(n:Int) then (1099511627776:Int) else 0)=apL A B N n 0 0:=tabL_congr fun i i0 i1=>by rw [if_pos i1,if_neg (by omega)];rfl
  unfold screen_scatter_l1;simp only;rw [List.length_replicate,Int.toNat_natCast,bif_neg (Int.lt_irrefl _),e1];refine stLoop (n:=n) (by omega) (st:=fun r=>((r:Int),(apL A B N n r 0,(seq A B N n r).map Int.ofNat))) rfl ?_ ?_
  ·intro j2 r hr;unfold screen_scatter_l2;simp only;rw [bif_pos (Int.ofNat_lt.2 hr),choose_r hf ok f hN4 hG4 hn hN hr (by rw [List.length_map,seq_len];omega),seq,List.map_append];rfl
  ·intro j2;unfold screen_scatter_l2;simp only;rw [bif_neg (Int.lt_irrefl _)]
end
end Rk
end Go.Proofs.Ytljebnobajmjnaa
/- Numbers: what the small functions compute. -/
namespace Go.Proofs.Ytljebnobajmjnaa
open Go Go.RowKit
set_option linter.unusedSimpArgs false
set_option linter.unusedSectionVars false
set_option linter.unusedVariables false

theorem nearest_s (fu:Nat) {n d:Int} (hd:0<d) (h1:d≤1000000000000000) (h2:-1000000000000000000≤n) (h3:n≤1000000000000000000):curve_Nearest_r fu (n,(d,()))=some (rnd n d,()):=by
 obtain ⟨g1,g2⟩:=tdiv_abs (n:=2*n+d) (m:=2002000000000000000) (2*d) (by omega) (by omega);unfold curve_Nearest_r rnd;simp only [joinF_eq];rw [wr64 (x:=2*n) (by omega) (by omega),wr64 (x:=2*n+d) (by omega) (by omega),wr64 (x:=2*d) (by omega) (by omega),bif_pos (by omega),bif_pos (by omega),wr64 (x:=(2*n+d).tdiv (2*d)) (by omega) (by omega)];by_cases hc:(2*n+d).tmod (2*d)<0
 ·rw [bif_pos hc,wr64 (x:=(2*n+d).tdiv (2*d)-1) (by omega) (by omega),tdiv_neg (by omega) hc];rfl
 ·rw [bif_neg hc,tdiv_pos (by omega) (by omega)];rfl
end Go.Proofs.Ytljebnobajmjnaa
/- Ranks: the program's are the reference's. -/
namespace Go.Proofs.Ytljebnobajmjnaa
open Go Go.RowKit
set_option linter.unusedSimpArgs false
set_option linter.unusedSectionVars false
set_option linter.unusedVariables false
namespace Rk
open Sc
section
variable {fu:Nat} (hf:18446744073709551616≤fu)
include hf
end
end Rk
end Go.Proofs.Ytljebnobajmjnaa
/- The residual programs. -/
/- Plates screened: what halftone.Apply and R.Halftone compute. -/
set_option maxRecDepth 100000
namespace Go.Proofs.Ytljebnobajmjnaa
open Go Go.RowKit
set_option linter.unusedSimpArgs false
set_option linter.unusedSectionVars false
set_option linter.unusedVariables false
namespace Ht
open Sc Rk
def peE (w h n:Int):Int:=if 1≤w∧w≤1024∧1≤h∧h≤1024 then (if n=w*h then 0 else 4) else 3
theorem wh_bd {w h:Int} (a:1≤w∧w≤1024) (b:1≤h∧h≤1024):1≤w*h∧w*h≤1048576:=by
 have h1:1*h≤w*h:=Int.mul_le_mul_of_nonneg_right (by omega) (by omega);have h2:w*h≤1024*h:=Int.mul_le_mul_of_nonneg_right (by omega) (by omega);omega
theorem cplate_r (fu:Nat) (w h:Int) (ds:List Int):devicelink_CheckPlate_r fu ((w,(h,ds)),())=some (peE w h ds.length,()):=by
 unfold devicelink_CheckPlate_r devicelink_CheckPlate_j1 peE;simp only [joinF_eq];by_cases c1:w<1
 ·rw [bif_pos c1,if_neg (by omega)];rfl
 rw [bif_neg c1];by_cases c2:1024<w
 ·rw [bif_pos c2,if_neg (by omega)];rfl
 rw [bif_neg c2];by_cases c3:h<1
 ·rw [bif_pos c3,if_neg (by omega)];rfl
 rw [bif_neg c3];by_cases c4:1024<h
 ·rw [decide_eq_true c4,if_neg (by omega)];rfl
 obtain ⟨b1,b2⟩:=wh_bd (w:=w) (h:=h) ⟨by omega,by omega⟩ ⟨by omega,by omega⟩;rw [decide_eq_false c4,cond_false,s_wr (by omega) (by omega),if_pos (by omega)];by_cases c5:(ds.length:Int)=w*h
 ·rw [bif_neg (fun g=>g c5),if_pos c5]
 ·rw [bif_pos c5,if_neg c5]
theorem bif_and3 {α:Type} {p q r:Prop} [Decidable p] [Decidable q] [Decidable r] {a b:α} (h1:p) (h2:q) (h3:r):(bif decide p&&(decide q&&decide r) then a else b)=a:=by
 rw [decide_eq_true h1,decide_eq_true h2,decide_eq_true h3];rfl
section
variable {fu:Nat} (hf:18446744073709551616≤fu)
include hf
theorem check_r {A B K w h:Int} {ds:List Int}:halftone_check_r fu ((w,(h,ds)),((A,(B,K)),()))=some (if peE w h ds.length=0 then scE A B K else peE w h ds.length,()):=by
 unfold halftone_check_r;simp only;rw [cplate_r,bindO_some];simp only;by_cases c:peE w h ds.length=0
 ·rw [bif_neg (fun g=>g c),if_pos c,Sc.check_r,bindO_some]
 ·rw [bif_pos c,if_neg c]
theorem blank_r {w h:Int} (hw:1≤w∧w≤1024) (hh:1≤h∧h≤1024):bitmap_Blank_r fu (w,h)=some ((w,(h,())),canon w h (fun _ _=>false)):=by
 have hg:bitmap_Blank_g fu (w,h)=some ((w,(h,())),canon w h (fun _ _=>false)):=by
  obtain ⟨b1,b2,b3,b4⟩:=strd_bd (w:=w) (h:=h) (by omega) hw.2 (by omega) hh.2;unfold bitmap_Blank_g;simp only;rw [stride_r fu (by omega) (by omega),bindO_some];simp only;rw [s_wr (x:=strd w*h) (by omega) (by omega),bif_and (by omega) (by omega),canon_zero w h (P:=fun _ _=>false) (fun _ _=>rfl)]
 unfold bitmap_Blank_r chkE;rw [hg];rfl
def dots (n:Int):Int→Int:=fun v=>rnd (v*n) 255
theorem painter_r {A B K N S G:Int} {L:List Int} (p:Int×Int×List Int) (hO:screen_Of_r fu ((A,(B,K)),())=some ((N,(S,G)),())) (hL:screen_Ranks_r fu ((A,(B,K)),())=some (L,())) (hl:L.length≤400) :
  halftone_painter_r fu (p,(A,(B,K)))=some (((),((),((),()))),(tabL 256 (dots L.length),((N,(S,G)),(L,p)))):=by
 have hg:halftone_painter_g fu (p,(A,(B,K)))=some (((),((),((),()))),(tabL 256 (dots L.length),((N,(S,G)),(L,p)))):=by
  unfold halftone_painter_g;simp only;rw [hO,bindO_some,hL,bindO_some];refine Rk.stLoop (n:=256) (by omega) (st:=fun k=>((k:Int),tabL 256 (fun v=>if v<k then dots L.length v else 0))) ?_ ?_ ?_
  ·show ((0:Int),tabL 256 _)=_;rw [tabL_rep (d:=(0:Int)) (fun i h0 _=>if_neg (by omega))];rfl
  ·intro j k hk;unfold halftone_painter_l1;simp only
   have hb:0≤(k:Int)*L.length∧(k:Int)*L.length≤256*400:=by
    refine ⟨Int.mul_nonneg (by omega) (by omega),?_⟩;have h1:(k:Int)*L.length≤256*L.length:=Int.mul_le_mul_of_nonneg_right (by omega) (by omega);omega
   rw [bif_pos (by omega),s_wr (x:=(k:Int)*L.length) (by omega) (by omega),nearest_s fu (by omega) (by omega) (by omega) (by omega),bindO_some,tabL_length];rw [decide_eq_true (show (0:Int)≤k by omega),decide_eq_true (show (k:Int)<((256:Nat):Int) by omega),decide_eq_true (show (k:Int)<256 by omega)];simp only [Bool.and_self,cond_true];rw [s_wr (by omega) (by omega)];congr 2;refine tabL_set (by omega) ?_ fun i h0 h1 hne=>?_
   ·show (if (k:Int)<((k+1:Nat):Int) then dots L.length k else 0)=_;rw [if_pos (by omega)];rfl
   ·by_cases c:i<k
    ·rw [if_pos c,if_pos (by omega)]
    ·rw [if_neg c,if_neg (by omega)]
  ·intro j;unfold halftone_painter_l1;simp only;rw [bif_neg (by omega),tabL_congr (n:=256) (G':=dots L.length) fun i _ h1=>if_pos h1]
 unfold halftone_painter_r chkE;rw [hg];rfl
def pl (N S G x y:Int):Int:=y % G*N+(x-(y / G) % N*S) % N
def prt (N S G w:Int) (L ds:List Int) (x y:Int):Bool:=decide (L.getD (pl N S G x y).toNat 0<dots L.length (ds.getD (y*w+x).toNat 0))
variable {A B K N S G w h:Int} {L ds:List Int}
theorem pl_bd (f:FormOk A B N S G) (hL:(L.length:Int)=A*A+B*B) (x y:Int):0≤pl N S G x y∧pl N S G x y<L.length:=by
 have g0:=f.g0;have n0:=f.n0;have m:=f.mul;have e0:=Int.emod_nonneg y (show G≠0 by omega);have e1:=Int.emod_lt_of_pos y g0;have t0:=Int.emod_nonneg (x-(y / G) % N*S) (show N≠0 by omega);have t1:=Int.emod_lt_of_pos (x-(y / G) % N*S) n0;have h1:y % G*N≤(G-1)*N:=Int.mul_le_mul_of_nonneg_right (by omega) (by omega);have h2:0≤y % G*N:=Int.mul_nonneg e0 (by omega);rw [Int.sub_mul,Int.one_mul] at h1;unfold pl;omega
theorem row_len {y:Nat} (hl:(ds.length:Int)=w*h) (hw:0≤w) (hy:(y:Int)<h):(List.drop (Int.toNat ((y:Int)*w)) (List.take (Int.toNat (((y:Int)+1)*w)) ds)).length=w.toNat:=by
 have h1:((y:Int)+1)*w≤h*w:=Int.mul_le_mul_of_nonneg_right (by omega) hw;rw [Int.mul_comm h w] at h1;have h2:0≤(y:Int)*w:=Int.mul_nonneg (by omega) hw;rw [List.length_drop,List.length_take];rw [Int.add_mul,Int.one_mul] at h1 ⊢;omega
theorem row_get {y x:Nat} (hl:(ds.length:Int)=w*h) (hw:0≤w) (hy:(y:Int)<h) (hx:(x:Int)<w):(List.drop (Int.toNat ((y:Int)*w)) (List.take (Int.toNat (((y:Int)+1)*w)) ds)).getD x 0=ds.getD ((y:Int)*w+x).toNat 0:=by
 have h2:0≤(y:Int)*w:=Int.mul_nonneg (by omega) hw;rw [List.getD_eq_getElem?_getD,List.getD_eq_getElem?_getD,List.getElem?_drop,List.getElem?_take];rw [Int.add_mul,Int.one_mul,if_pos (by omega)];congr 2;omega
theorem row_r (ok:ScrOk A B) {y:Nat} {v5:Int×List Int} (e5:v5.1=(y:Int)) (hw:1≤w∧w≤1024) (hh:1≤h∧h≤1024) (hy:(y:Int)<h) (hl:(ds.length:Int)=w*h) (hb:Bytes ds) (f:FormOk A B N S G) (hN:N≤400) (hG:G≤400) (hL:(L.length:Int)=A*A+B*B) (j5) :
  loopF (halftone_Apply_l2 fu (((),((),((),()))),(tabL 256 (dots L.length),((N,(S,G)),(L,(w,(h,ds)))))) (strd w) v5 (y:Int) j5) fu (0,canon w h (fun a b=>prt N S G w L ds a b&&decide (b<y))) =
   j5 (((y+1:Nat):Int),canon w h (fun a b=>prt N S G w L ds a b&&decide (b<((y+1:Nat):Int)))):=by
 have hy2:((y:Int)+1)*w≤h*w:=Int.mul_le_mul_of_nonneg_right (by omega) (by omega);have hy1:0≤(y:Int)*w:=Int.mul_nonneg (by omega) (by omega);rw [Int.add_mul,Int.one_mul] at hy2;obtain ⟨b1,b2⟩:=wh_bd hw hh;rw [Int.mul_comm h w] at hy2;obtain ⟨c1,c2,c3,c4⟩:=strd_bd (w:=w) (h:=h) (by omega) hw.2 (by omega) hh.2;have hs2:((y:Int)+1)*strd w≤h*strd w:=Int.mul_le_mul_of_nonneg_right (by omega) c1;have hs1:0≤(y:Int)*strd w:=Int.mul_nonneg (by omega) c1;have hs3:((y:Int)+1)*strd w=(y:Int)*strd w+strd w:=by rw [Int.add_mul,Int.one_mul]
 rw [Int.mul_comm h (strd w)] at hs2;have w1:IntKind.i64.wrap ((y:Int)*w)=(y:Int)*w:=s_wr (by omega) (by omega);have w2:IntKind.i64.wrap ((y:Int)+1)=(y:Int)+1:=s_wr (by omega) (by omega);have w3:IntKind.i64.wrap (((y:Int)+1)*w)=((y:Int)+1)*w:=s_wr (by rw [Int.add_mul,Int.one_mul];omega) (by rw [Int.add_mul,Int.one_mul];omega);have w4:IntKind.i64.wrap ((y:Int)*strd w)=(y:Int)*strd w:=s_wr (by omega) (by omega);have w5:IntKind.i64.wrap (((y:Int)+1)*strd w)=((y:Int)+1)*strd w:=s_wr (by omega) (by omega);have hrl:=row_len hf (y:=y) hl (by omega) hy;refine Rk.stLoop (n:=w.toNat) (by omega) (st:=fun x=>((x:Int),canon w h (fun a b=>prt N S G w L ds a b&&(decide (b<y)||(decide (b=y)&&decide (a<x)))))) ?_ ?_ ?_
 ·refine Prod.ext rfl (canon_congr (by omega) fun a b ha _ _ _=>?_);have:decide (a<((0:Nat):Int))=false:=decide_eq_false (by omega);simp only [this,Bool.and_false,Bool.or_false]
 ·intro j x hx;have hxw:(x:Int)<w:=by omega
  have hg:=row_get hf (y:=y) (x:=x) hl (by omega) hy hxw;obtain ⟨q1,q2⟩:=pl_bd hf f hL (x:Int) (y:Int);have hpl:=(place_r hf ok 0 f hN hG (x:=(x:Int)) (y:=(y:Int)) ⟨by omega,by omega⟩ ⟨by omega,by omega⟩).1
  have hd:0≤ds.getD ((y:Int)*w+x).toNat 0∧ds.getD ((y:Int)*w+x).toNat 0≤255:=by
   rw [List.getD_eq_getElem?_getD,List.getElem?_eq_getElem (by omega)];exact hb _ (List.getElem_mem _)
  unfold halftone_Apply_l2 halftone_Apply_j3;simp only [joinF_eq];rw [w1,w2,w3,hrl,bif_pos (by omega),bif_and (by omega) (by omega),Int.toNat_natCast,hg,hpl,bindO_some];have hpe:y % (G:Int)=y % G:=rfl;rw [show (y:Int) % G*N+((x:Int)-(y:Int) / G % N*S) % N=pl N S G x y from rfl];rw [bif_and q1 q2,tabL_length];generalize hdv:ds.getD ((y:Int)*w+x).toNat 0=dv at hd;rw [decide_eq_true hd.1,decide_eq_true (show dv<((256:Nat):Int) by omega),decide_eq_true (show dv<256 by omega)];simp only [Bool.and_self,cond_true];rw [tabL_getD hd.1 (by omega),s_wr (x:=(x:Int)+1) (by omega) (by omega)]
  have step:∀ P:Bool,prt N S G w L ds x y=P→canon w h (fun a b=>(prt N S G w L ds a b&&(decide (b<y)||(decide (b=y)&&decide (a<x))))||(P&&(decide (a=x)&&decide (b=y))))=canon w h (fun a b=>prt N S G w L ds a b&&(decide (b<y)||(decide (b=y)&&decide (a<((x+1:Nat):Int))))):=by
   intro P hP;refine canon_congr (by omega) fun a b ha _ _ _=>?_
   by_cases e1:b=y
   ·subst e1;by_cases e2:a=x
    ·subst e2;rw [hP,decide_eq_false (show ¬ (y:Int)<y by omega),decide_eq_false (show ¬ (x:Int)<x by omega),decide_eq_true (show (x:Int)<((x+1:Nat):Int) by omega)]
     cases P <;> simp
    ·rw [decide_eq_false e2]
     have:decide (a<(x:Int))=decide (a<((x+1:Nat):Int)):=by
      by_cases q:a<x
      ·rw [decide_eq_true q,decide_eq_true (by omega)]
      ·rw [decide_eq_false q,decide_eq_false (by omega)]
     rw [this];simp
   ·rw [decide_eq_false e1];simp
  by_cases hp:L.getD (pl N S G x y).toNat 0<dots L.length dv
  ·have hP:prt N S G w L ds x y=true:=by unfold prt;rw [hdv];exact decide_eq_true hp
   have hx8:(x:Int) / 8<strd w:=by unfold strd;omega
   obtain ⟨g0,g1,g2⟩:=idx_bd (w:=w) (h:=h) (x:=(x:Int)) (y:=(y:Int)) (by omega) hxw hw.2 (by omega) hy hh.2;rw [bif_pos hp,s_td (by omega),s_tm (by omega),w4,w5,s_wr (x:=(x:Int) / 8) (by omega) (by omega)];rw [bif_and3 (by omega) (by omega) (by omega),bif_and (by omega) (by omega),bif_and3 (by omega) (by omega) (by omega),canon_set (by omega) hxw (by omega) hy];have:=step true hP;simp only [Bool.true_and] at this;rw [this];rfl
  ·have hP:prt N S G w L ds x y=false:=by unfold prt;rw [hdv];exact decide_eq_false hp
   rw [bif_neg hp];have:=step false hP;simp only [Bool.false_and,Bool.or_false] at this;rw [this];rfl
 ·intro j;unfold halftone_Apply_l2;simp only;rw [w1,w2,w3,hrl,bif_neg (by omega),e5,s_wr (by omega) (by omega)];congr 2;refine canon_congr (by omega) fun a b ha ha1 _ _=>?_
  by_cases e1:b<y
  ·rw [decide_eq_true e1,decide_eq_true (show b<((y+1:Nat):Int) by omega)];simp
  ·by_cases e2:b=y
   ·subst e2;rw [decide_eq_true (show a<((w.toNat:Nat):Int) by omega),decide_eq_true (show (y:Int)<((y+1:Nat):Int) by omega)];simp
   ·rw [decide_eq_false e1,decide_eq_false e2,decide_eq_false (show ¬ b<((y+1:Nat):Int) by omega)];simp
end
end Ht
end Go.Proofs.Ytljebnobajmjnaa
/- How many pixels of a square a screen prints. No program in sight. -/
namespace Go.Proofs.Ytljebnobajmjnaa
open Go Go.RowKit
set_option linter.unusedSimpArgs false
set_option linter.unusedSectionVars false
set_option linter.unusedVariables false
namespace Ik
open Sc Rk Ht
theorem nodup_len {α:Type} [DecidableEq α]:∀ {l s:List α},l.Nodup→(∀ a ∈ l,a ∈ s)→l.length≤s.length
 | [],_,_,_=>Nat.zero_le _
 | a::l,s,hn,h=>by
  have ha:=h a (by simp);have h1:=nodup_len (l:=l) (s:=s.erase a) (List.nodup_cons.1 hn).2 fun b hb=>(List.mem_erase_of_ne (fun (e:b=a)=>(List.nodup_cons.1 hn).1 (by rw [←e];exact hb))).2 (h b (List.mem_cons_of_mem _ hb))
  have h2:=List.length_erase_of_mem ha;have h3:=List.length_pos_of_mem ha;rw [List.length_cons];omega
theorem map_nodup {α β:Type} {f:α→β}:∀ {l:List α},(∀ a ∈ l,∀ b ∈ l,f a=f b→a=b)→l.Nodup→(l.map f).Nodup
 | [],_,_=>List.nodup_nil
 | a::l,hi,hn=>by
  rw [List.map_cons,List.nodup_cons];refine ⟨fun hm=>?_,map_nodup (fun x hx y hy=>hi x (List.mem_cons_of_mem _ hx) y (List.mem_cons_of_mem _ hy)) (List.nodup_cons.1 hn).2⟩;obtain ⟨x,hx,ex⟩:=List.mem_map.1 hm;exact (List.nodup_cons.1 hn).1 (hi x (List.mem_cons_of_mem _ hx) a (by simp) ex ▸ hx)
theorem turn {h:Nat→Nat} {N:Nat} (hN:0<N) (c:Int):sumN (fun k=>h (((k:Int)-c) % (N:Int)).toNat) N=sumN h N:=by
 obtain ⟨e,he⟩:∃ e:Nat,c % (N:Int)=e:=Int.eq_ofNat_of_zero_le (Int.emod_nonneg _ (by omega));have heN:e<N:=by have:=Int.emod_lt_of_pos c (show (0:Int)<N by omega);omega
 have hm:∀ k:Nat,((k:Int)-c) % (N:Int)=((k:Int)-(e:Int)) % (N:Int):=fun k=>by rw [←he,Int.sub_emod (k:Int) c,Int.sub_emod (k:Int) (c % (N:Int)),Int.emod_emod]
 have e1:N=e+(N-e):=by omega
 have h1:sumN (fun k=>h (((k:Int)-c) % (N:Int)).toNat) N=sumN (fun k=>h (N-e+k)) e+sumN h (N-e):=by
  have:=sumN_add (fun k=>h (((k:Int)-c) % (N:Int)).toNat) e (N-e);rw [←e1] at this;rw [this];congr 1
  ·refine sumN_congr fun k hk=>?_
   rw [hm,show ((k:Int)-(e:Int)) % (N:Int)=((N-e+k:Nat):Int) by
    rw [←Int.add_emod_right,Int.emod_eq_of_lt (by omega) (by omega)];omega,Int.toNat_natCast]
  ·refine sumN_congr fun k hk=>?_
   rw [hm,show (((e+k:Nat):Int)-(e:Int)) % (N:Int)=(k:Int) by
    rw [Int.emod_eq_of_lt (by omega) (by omega)];omega,Int.toNat_natCast]
 have h2:=sumN_add h (N-e) e;rw [show N-e+e=N by omega] at h2;rw [h1,h2,Nat.add_comm]
end Ik
end Go.Proofs.Ytljebnobajmjnaa
/- Two screens of coprime areas meet in every pair of places once. No program in sight. -/
namespace Go.Proofs.Ytljebnobajmjnaa
open Go Go.RowKit
set_option linter.unusedSimpArgs false
set_option linter.unusedSectionVars false
set_option linter.unusedVariables false
namespace Dm
open Sc Rk Ht Ik
theorem sumN_list (g:Nat→Nat):∀ n,sumN g n=((List.range n).map g).sum
 | 0=>rfl
 | n+1=>by rw [sumN,sumN_list g n,List.range_succ,List.map_append,List.sum_append];simp
theorem perm_sum {g π:Nat→Nat} {b:Nat} (hlt:∀ j,j<b→π j<b) (hinj:∀ i j,i<b→j<b→π i=π j→i=j):sumN (fun j=>g (π j)) b=sumN g b:=by
 have hnd:((List.range b).map π).Nodup:=map_nodup (fun x hx y hy e=>hinj x y (List.mem_range.1 hx) (List.mem_range.1 hy) e) List.nodup_range
 have hsub:∀ x ∈ (List.range b).map π,x<b:=fun x hx=>by
  obtain ⟨j,hj,rfl⟩:=List.mem_map.1 hx;exact hlt j (List.mem_range.1 hj)
 have hp:((List.range b).map π).Perm (List.range b):=(List.perm_ext_iff_of_nodup hnd List.nodup_range).2 fun x=>by
  refine ⟨fun hx=>List.mem_range.2 (hsub x hx),fun hx=>Classical.byContradiction fun hno=>?_⟩
  have h1:=nodup_len (l:=x::(List.range b).map π) (s:=List.range b) (List.nodup_cons.2 ⟨hno,hnd⟩) fun y hy=>by
   rcases List.mem_cons.1 hy with rfl | hy
   ·exact hx
   ·exact List.mem_range.2 (hsub y hy)
  rw [List.length_cons,List.length_map,List.length_range] at h1;omega
 rw [sumN_list,sumN_list,←(hp.map g).sum_nat,List.map_map];rfl
theorem sumN_swap {F:Nat→Nat→Nat} {a:Nat}:∀ {b:Nat},sumN (fun j=>sumN (fun k=>F j k) a) b=sumN (fun k=>sumN (fun j=>F j k) b) a
 | 0=>by
  show 0=sumN (fun _=>0) a;exact (sumN_zero fun _ _=>rfl).symm
 | b+1=>by
  rw [sumN,sumN_swap]
  have h:∀ n,sumN (fun k=>sumN (fun j=>F j k) b) n+sumN (fun k=>F b k) n=sumN (fun k=>sumN (fun j=>F j k) (b+1)) n:=fun n=>by
   induction n with
   | zero=>rfl
   | succ n ih =>
    rw [sumN,sumN,sumN,←ih];show _=_+(sumN (fun j=>F j n) b+F b n);omega
  exact h a
theorem sumN_mulc (c:Nat) (f:Nat→Nat):∀ n,sumN (fun k=>c*f k) n=c*sumN f n
 | 0=>rfl
 | n+1=>by rw [sumN,sumN_mulc c f n,sumN,Nat.mul_add]
theorem sumN_mulr (c:Nat) (f:Nat→Nat) (n:Nat):sumN (fun k=>f k*c) n=sumN f n*c:=by
 rw [Nat.mul_comm,←sumN_mulc];exact sumN_congr fun k _=>Nat.mul_comm _ _
theorem crt {f g:Nat→Nat} {a b:Nat} (hb:0<b) (co:Nat.Coprime a b):sumN (fun x=>f (x % a)*g (x % b)) (a*b)=sumN f a*sumN g b:=by
 rw [sumN_mul,sumN_swap]
 have h1:∀ k,k<a→sumN (fun j=>f ((a*j+k) % a)*g ((a*j+k) % b)) b=f k*sumN g b:=fun k hk=>by
  have e:sumN (fun j=>f ((a*j+k) % a)*g ((a*j+k) % b)) b=sumN (fun j=>f k*g ((a*j+k) % b)) b:=sumN_congr fun j _=>by rw [Nat.mul_add_mod,Nat.mod_eq_of_lt hk]
  rw [e,sumN_mulc,perm_sum (g:=g) (π:=fun j=>(a*j+k) % b) (fun j _=>Nat.mod_lt _ hb) fun i j hi hj e=>?_]
  have key:∀ i j,i≤j→j<b→(a*i+k) % b=(a*j+k) % b→i=j:=fun i j hij hj e=>by
   have h2:=Nat.sub_mod_eq_zero_of_mod_eq e.symm;have h3:a*j+k-(a*i+k)=a*(j-i):=by rw [Nat.mul_sub];omega
   rw [h3] at h2;have h4:=(Nat.Coprime.symm co).dvd_of_dvd_mul_left (Nat.dvd_of_mod_eq_zero h2)
   have h5:j-i=0:=Classical.byContradiction fun hne=>by
    have:=Nat.le_of_dvd (by omega) h4;omega
   omega
  rcases Nat.le_total i j with hij | hij
  ·exact key i j hij hj e
  ·exact (key j i hij hi e.symm).symm
 rw [sumN_congr h1,sumN_mulr]
theorem shift_mod (x:Nat) (c:Int) {a:Nat}:(((x:Int)-c) % (a:Int))=((((x % a:Nat):Int)-c) % (a:Int)):=by
 rw [Int.sub_emod (x:Int) c,Int.sub_emod ((x % a:Nat):Int) c];congr 2;rw [Int.natCast_emod,Int.emod_emod]
theorem pairs {N G N' G':Nat} {S S':Int} (hN:0<N) (hN':0<N') (hG:0<G) (hG':0<G') (cN:Nat.Coprime N N') (cG:Nat.Coprime G G') (p q:Nat→Nat) :
  sumN (fun i=>p (pl N S G ((i:Int) % ((N*N':Nat):Int)) ((i:Int) / ((N*N':Nat):Int))).toNat*q (pl N' S' G' ((i:Int) % ((N*N':Nat):Int)) ((i:Int) / ((N*N':Nat):Int))).toNat) ((N*N')*(G*G'))=sumN p (G*N)*sumN q (G'*N'):=by
 have hW:0<N*N':=Nat.mul_pos hN hN'
 have hpl:∀ {M H:Nat} {Z:Int} (hM:0<M) (x y:Nat),(pl M Z H (x:Int) (y:Int)).toNat=M*(y % H)+(((x:Int)-((y:Int) / (H:Int)) % (M:Int)*Z) % (M:Int)).toNat:=fun {M H Z} hM x y=>by
  obtain ⟨t,ht⟩:∃ t:Nat,((x:Int)-((y:Int) / (H:Int)) % (M:Int)*Z) % (M:Int)=t:=Int.eq_ofNat_of_zero_le (Int.emod_nonneg _ (by omega));unfold pl;rw [ht,←Int.natCast_emod,Int.toNat_natCast,Nat.mul_comm M];omega
 rw [sumN_mul]
 have hrow:∀ y,y<G*G'→sumN (fun x=>p (pl N S G (((N*N'*y+x:Nat):Int) % ((N*N':Nat):Int)) (((N*N'*y+x:Nat):Int) / ((N*N':Nat):Int))).toNat*q (pl N' S' G' (((N*N'*y+x:Nat):Int) % ((N*N':Nat):Int)) (((N*N'*y+x:Nat):Int) / ((N*N':Nat):Int))).toNat) (N*N')=sumN (fun i=>p (N*(y % G)+i)) N*sumN (fun i=>q (N'*(y % G')+i)) N':=fun y hy=>by
  rw [←turn (h:=fun i=>p (N*(y % G)+i)) hN (((y:Int) / (G:Int)) % (N:Int)*S),←turn (h:=fun i=>q (N'*(y % G')+i)) hN' (((y:Int) / (G':Int)) % (N':Int)*S'),←crt (f:=fun k=>p (N*(y % G)+(((k:Int)-((y:Int) / (G:Int)) % (N:Int)*S) % (N:Int)).toNat)) (g:=fun k=>q (N'*(y % G')+(((k:Int)-((y:Int) / (G':Int)) % (N':Int)*S') % (N':Int)).toNat)) hN' cN];refine sumN_congr fun x hx=>?_
  have e1:((N*N'*y+x:Nat):Int) % ((N*N':Nat):Int)=(x:Int):=by rw [←Int.natCast_emod,Nat.mul_add_mod,Nat.mod_eq_of_lt hx]
  have e2:((N*N'*y+x:Nat):Int) / ((N*N':Nat):Int)=(y:Int):=by rw [←Int.natCast_ediv,Nat.mul_add_div hW,Nat.div_eq_of_lt hx,Nat.add_zero]
  rw [e1,e2,hpl hN,hpl hN',shift_mod x,shift_mod x (a:=N')]
 rw [sumN_congr hrow,crt (f:=fun r=>sumN (fun i=>p (N*r+i)) N) (g:=fun r=>sumN (fun i=>q (N'*r+i)) N') hG' cG,←sumN_mul,←sumN_mul,Nat.mul_comm N G,Nat.mul_comm N' G']
theorem exact_d {ρ:Nat→Nat} {n d:Nat} (hlt:∀ i,i<n→ρ i<n) (hi:∀ i j,i<n→j<n→ρ i=ρ j→i=j) (hd:d≤n):sumN (fun i=>bn (decide (ρ i<d))) n=d:=by
 rw [perm_sum (g:=fun r=>bn (decide (r<d))) hlt hi]
 have:∀ m,sumN (fun r=>bn (decide (r<d))) m=min m d:=fun m=>by
  induction m with
  | zero=>rw [Nat.zero_min];rfl
  | succ m ih =>
   rw [sumN,ih];by_cases c:m<d
   ·rw [decide_eq_true c];show min m d+1=_;omega
   ·rw [decide_eq_false c];show min m d+0=_;omega
 rw [this];omega
theorem compl {f:Nat→Nat} (h:∀ i,f i≤1):∀ n,sumN (fun i=>1-f i) n=n-sumN f n∧sumN f n≤n
 | 0=>⟨rfl,Nat.le_refl _⟩
 | n+1=>by
  obtain ⟨h1,h2⟩:=compl h n;have:=h n;rw [sumN,sumN,h1];omega
end Dm
end Go.Proofs.Ytljebnobajmjnaa
/- The law HalftoneDots. -/
set_option maxRecDepth 100000
namespace Go.Proofs.Ytljebnobajmjnaa
open Go Go.RowKit
set_option linter.unusedSimpArgs false
set_option linter.unusedSectionVars false
set_option linter.unusedVariables false
namespace Ht
open Sc Rk
section
variable {fu:Nat} (hf:18446744073709551616≤fu) {A B K N S G w h:Int} {L ds:List Int}
include hf
theorem apply_r (hw:1≤w∧w≤1024) (hh:1≤h∧h≤1024) (hl:(ds.length:Int)=w*h) (hb:Bytes ds) (hS:scE A B K=0) (ok:ScrOk A B) (f:FormOk A B N S G) (hN:N≤400) (hG:G≤400) (hL:(L.length:Int)=A*A+B*B)
  (hO:screen_Of_r fu ((A,(B,K)),())=some ((N,(S,G)),())) (hR:screen_Ranks_r fu ((A,(B,K)),())=some (L,())) :
  halftone_Apply_r fu ((w,(h,ds)),((A,(B,K)),()))=some ((w,(h,canon w h (prt N S G w L ds))),(0,())):=by
 have n1:=ok.n1;obtain ⟨b1,b2⟩:=wh_bd hw hh;obtain ⟨c1,c2,c3,c4⟩:=strd_bd (w:=w) (h:=h) (by omega) hw.2 (by omega) hh.2
 have hpe:peE w h ds.length=0:=by
  unfold peE;rw [if_pos (by omega),if_pos hl]
 unfold halftone_Apply_r;simp only;rw [check_r hf,if_pos hpe,hS,bindO_some];simp only;rw [bif_neg (fun g=>g rfl),blank_r hf hw hh,bindO_some,painter_r hf _ hO hR (by omega),bindO_some]
 have e1:IntKind.i64.wrap (Int.tdiv (IntKind.i64.wrap (w+7)) 8)=strd w:=by
  rw [s_wr (x:=w+7) (by omega) (by omega),s_td (by omega),s_wr (x:=(w+7) / 8) (by omega) (by omega)];rfl
 rw [e1];refine Rk.stLoop (n:=h.toNat) (by omega) (st:=fun y=>((y:Int),canon w h (fun a b=>prt N S G w L ds a b&&decide (b<y)))) ?_ ?_ ?_
 ·refine Prod.ext rfl (canon_congr (by omega) fun a b _ _ hb0 _=>?_);rw [decide_eq_false (show ¬ b<((0:Nat):Int) by omega),Bool.and_false]
 ·intro j y hy;have hyh:(y:Int)<h:=by omega
  have hy2:((y:Int)+1)*w≤h*w:=Int.mul_le_mul_of_nonneg_right (by omega) (by omega);have hy1:0≤(y:Int)*w:=Int.mul_nonneg (by omega) (by omega);have hs2:((y:Int)+1)*strd w≤h*strd w:=Int.mul_le_mul_of_nonneg_right (by omega) c1;have hs1:0≤(y:Int)*strd w:=Int.mul_nonneg (by omega) c1;have hs3:((y:Int)+1)*strd w=(y:Int)*strd w+strd w:=by rw [Int.add_mul,Int.one_mul]
  have hy3:((y:Int)+1)*w=(y:Int)*w+w:=by rw [Int.add_mul,Int.one_mul]
  rw [Int.mul_comm h (strd w)] at hs2;rw [Int.mul_comm h w] at hy2;have hcl:=canon_len (w:=w) (h:=h) (by omega) (by omega) (fun a b=>prt N S G w L ds a b&&decide (b<y));unfold halftone_Apply_l1;simp only;rw [bif_pos hyh,s_wr (x:=(y:Int)+1) (by omega) (by omega),s_wr (x:=(y:Int)*strd w) (by omega) (by omega),s_wr (x:=((y:Int)+1)*strd w) (by omega) (by omega),s_wr (x:=(y:Int)*w) (by omega) (by omega),s_wr (x:=((y:Int)+1)*w) (by omega) (by omega),hcl,hl];rw [bif_and3 (by omega) (by omega) (by omega),bif_and3 (by omega) (by omega) (by omega)];exact row_r hf ok (v5:=((y:Int),_)) rfl hw hh hyh hl hb f hN hG hL j
 ·intro j;unfold halftone_Apply_l1;simp only;rw [bif_neg (by omega)];congr 4;refine canon_congr (by omega) fun a b _ _ _ hb1=>?_
  rw [decide_eq_true (show b<((h.toNat:Nat):Int) by omega),Bool.and_true]
end
theorem wf_u8 {x:Int} (h:(Lit.int .u8 x).wf=true):0≤x∧x≤255:=by
 unfold Lit.wf at h;simpa [IntKind.min,IntKind.max,IntKind.signed,IntKind.bits] using h
end Ht
end Go.Proofs.Ytljebnobajmjnaa
/- Two pictures printed on each other,and the counts. -/
set_option maxRecDepth 100000
namespace Go.Proofs.Ytljebnobajmjnaa
open Go Go.RowKit
set_option linter.unusedSimpArgs false
set_option linter.unusedSectionVars false
set_option linter.unusedVariables false
namespace Dm
open Sc Rk Ht Ik
section
variable {fu:Nat} (hf:18446744073709551616≤fu)
include hf
theorem grown0 {b:Int×Int×List Int} (hb:b.2.2.length≤140737488355328):bitmap_Grown_r fu (b,((0:Int),()))=some (b,()):=by
 unfold bitmap_Grown_r;simp only;rw [bif_pos (by omega)];obtain ⟨n,rfl⟩:∃ n,fu=n+1:=⟨fu-1,by omega⟩;rw [loopF];unfold bitmap_Grown_l1;simp only;rw [bif_neg (by omega)]
def Rv (W:Nat) (P:Int→Int→Bool) (e:Int) (i:Int):Int:=if P (i % (W:Int)) (i / (W:Int))=true then e else 0
theorem image_r {W H u:Nat} (hW:1≤W∧W≤1024) (hH:1≤H∧H≤1024) (hu:u≤1) {P:Int→Int→Bool} {B:Int→Int} (e:Int) (hor:∀ i,bits BinOp.or IntKind.u8 (B i) (IntKind.u8.wrap ((1:Int)*2 ^ u))=B i+e)
  {l:List (Int×Int×List Int)} {g:List Int} {v2 v3:Int×Int×List Int} (e2:v2.1=W) (e3:v3.2.1=H) {v6:Int×List Int} (e6:v6.1=u) (j6:Int×List Int→Option ((Int×Int×List Int)×Int×Unit)) :
  loopF (sheet_Print_l2 fu (l,(g,([((0:Int),(0:Int)),((0:Int),(0:Int))],()))) v2 v3 v6 (u:Int) (((W:Int),((H:Int),canon W H P)),()) j6) fu ((0:Int),tabL (W*H) B)=j6 (((u+1:Nat):Int),tabL (W*H) fun i=>B i+Rv W P e i):=by
 have hWH:W*H≤1024*1024:=Nat.mul_le_mul hW.2 hH.2;have hcl:=canon_len (w:=(W:Int)) (h:=(H:Int)) (by omega) (by omega) P
 have hsh:∀ (d:Int×Int),([((0:Int),(0:Int)),((0:Int),(0:Int))]:List (Int×Int)).getD (Int.toNat (u:Int)) d=((0:Int),(0:Int)):=fun d=>by
  rcases (show u=0∨u=1 by omega) with rfl | rfl <;> rfl
 have hl2:([((0:Int),(0:Int)),((0:Int),(0:Int))]:List (Int×Int)).length=2:=rfl;refine Rk.stLoop (n:=H) (by omega) (st:=fun y=>((y:Int),tabL (W*H) fun i=>B i+if i<((y*W:Nat):Int) then Rv W P e i else 0)) ?_ ?_ ?_
 ·refine congrArg (Prod.mk (0:Int)) (tabL_congr fun i i0 _=>?_);rw [if_neg (by omega),Int.add_zero]
 ·intro j y hy;have hyW:(y+1)*W≤H*W:=Nat.mul_le_mul_right _ hy;rw [Nat.mul_comm H W,Nat.succ_mul] at hyW;unfold sheet_Print_l2;simp only [e3];rw [bif_pos (by omega)];refine Rk.stLoop (n:=W) (by omega) (st:=fun x=>((x:Int),tabL (W*H) fun i=>B i+if i<((y*W+x:Nat):Int) then Rv W P e i else 0)) rfl ?_ ?_
  ·intro j2 x hx;have hI:=is_r fu (w:=(W:Int)) (h:=(H:Int)) (ds:=canon W H P) (by omega) (by omega) (by omega) hcl (canon_bytes _ _ _) (x:Int) (y:Int);rw [canon_pix (by omega),decide_eq_true (show 0≤(x:Int)∧(x:Int)<(W:Int)∧0≤(y:Int)∧(y:Int)<(H:Int) by omega),Bool.true_and] at hI
   have ei:IntKind.i64.wrap (IntKind.i64.wrap ((y:Int)*(W:Int))+(x:Int))=((y*W+x:Nat):Int):=by
    rw [←Int.natCast_mul,s_wr (x:=((y*W:Nat):Int)) (by omega) (by omega),s_wr (by omega) (by omega)];omega
   have em:((y*W+x:Nat):Int) % (W:Int)=(x:Int):=by
    rw [←Int.natCast_emod,Nat.mul_comm y W,Nat.mul_add_mod,Nat.mod_eq_of_lt hx]
   have ed:((y*W+x:Nat):Int) / (W:Int)=(y:Int):=by
    rw [←Int.natCast_ediv,Nat.mul_comm y W,Nat.mul_add_div (by omega),Nat.div_eq_of_lt hx,Nat.add_zero]
   unfold sheet_Print_l3 sheet_Print_j4;simp only [joinF_eq,e2,hsh,hl2,tabL_length];rw [bif_pos (by omega),bif_and (by omega) (by omega),bif_and (by omega) (by omega),Int.sub_zero,Int.sub_zero,s_wr (x:=(x:Int)) (by omega) (by omega),s_wr (x:=(y:Int)) (by omega) (by omega),hI,bindO_some];simp only;rw [s_wr (x:=(x:Int)+1) (by omega) (by omega)]
   cases hP:P (x:Int) (y:Int) with
   | true =>
    rw [cond_true,ei,bif_and (by omega) (by omega),bif_and (by omega) (by omega),bif_and (by omega) (by omega),Int.toNat_natCast,Int.toNat_natCast]
    have hget:(tabL (W*H) fun i=>B i+if i<((y*W+x:Nat):Int) then Rv W P e i else 0).getD (y*W+x) 0=B ((y*W+x:Nat):Int):=by
     rw [tabL_getDN (by omega),if_neg (by omega),Int.add_zero]
    rw [hget,hor];refine congrArg (fun z=>j2 (((x+1:Nat):Int),z)) ?_
    have:=tabL_set (n:=W*H) (G:=fun i=>B i+if i<((y*W+x:Nat):Int) then Rv W P e i else 0) (G':=fun i=>B i+if i<((y*W+(x+1):Nat):Int) then Rv W P e i else 0) (k:=((y*W+x:Nat):Int)) (v:=B ((y*W+x:Nat):Int)+e) (by omega) (by
     rw [if_pos (by omega)];unfold Rv
     rw [em,ed,if_pos hP]) fun i i0 i1 i2=>by
     by_cases c:i<((y*W+x:Nat):Int)
     ·rw [if_pos c,if_pos (by omega)]
     ·rw [if_neg c,if_neg (by omega)]
    rw [Int.toNat_natCast] at this;exact this
   | false =>
    rw [cond_false];refine congrArg (fun z=>j2 (((x+1:Nat):Int),z)) (tabL_congr fun i i0 i1=>?_);by_cases c:i<((y*W+x:Nat):Int)
    ·rw [if_pos c,if_pos (by omega)]
    ·rw [if_neg c];by_cases c2:i<((y*W+(x+1):Nat):Int)
     ·have:i=((y*W+x:Nat):Int):=by omega
      rw [if_pos c2,this];unfold Rv;rw [em,ed,if_neg (by rw [hP];decide)]
     ·rw [if_neg c2]
  ·intro j2;unfold sheet_Print_l3;simp only [e2];rw [bif_neg (by omega),s_wr (by omega) (by omega),←Nat.succ_mul];rfl
 ·intro j;unfold sheet_Print_l2;simp only [e3];rw [bif_neg (by omega),e6,s_wr (by omega) (by omega)];refine congrArg (fun z=>j6 (((u+1:Nat):Int),z)) (tabL_congr fun i i0 i1=>?_);rw [if_pos (by rw [Nat.mul_comm H W];exact i1)]
def Mv (W:Nat) (P Q:Int→Int→Bool) (i:Int):Int:=Rv W P 1 i+Rv W Q 2 i
omit hf in
def LL (n W:Nat) (P Q:Int→Int→Bool):Nat→List Int
 | 0=>tabL n fun _=>0
 | 1=>tabL n (Rv W P 1)
 | _+2=>tabL n (Mv W P Q)
theorem print_r {W H:Nat} (hW:1≤W∧W≤1024) (hH:1≤H∧H≤1024) (P Q:Int→Int→Bool) :
  sheet_Print_r fu ([((W:Int),((H:Int),canon W H P)),((W:Int),((H:Int),canon W H Q))],([0,0],([(0,0),(0,0)],())))=some (((W:Int),((H:Int),tabL (W*H) (Mv W P Q))),(0,())):=by
 have hWH:W*H≤1024*1024:=Nat.mul_le_mul hW.2 hH.2
 have hch:∀ P:Int→Int→Bool,bitmap_Check_r fu (((W:Int),((H:Int),canon W H P)),())=some (0,()):=fun P=>by
  rw [bitChk_r hf (canon_bytes _ _ _),canon_valid (by omega) (by omega) (by omega) (by omega)]
 have hlen:∀ P:Int→Int→Bool,(canon (W:Int) (H:Int) P).length≤140737488355328:=fun P=>by
  have h1:=canon_len (w:=(W:Int)) (h:=(H:Int)) (by omega) (by omega) P
  have h2:strd (W:Int)*(H:Int)≤1024*1024:=by
   have:strd (W:Int)≤1024:=by unfold strd;omega
   exact Int.le_trans (Int.mul_le_mul_of_nonneg_right this (by omega)) (Int.mul_le_mul_of_nonneg_left (by omega) (by decide))
  omega
 have hz:IntKind.i64.wrap ((W:Int)*(H:Int))=((W*H:Nat):Int):=by rw [←Int.natCast_mul];exact s_wr (by omega) (by omega)

 have hc:sheet_check_r fu ([((W:Int),((H:Int),canon W H P)),((W:Int),((H:Int),canon W H Q))],([0,0],([(0,0),(0,0)],())))=some (0,()):=by
  unfold sheet_check_r;show loopF (sheet_check_l2 fu ([((W:Int),((H:Int),canon W H P)),((W:Int),((H:Int),canon W H Q))],([0,0],([(0,0),(0,0)],())))) fu 0=_;refine Rk.stLoop (n:=2) (by omega) (st:=fun k=>(k:Int)) rfl ?_ ?_
  ·intro j k hk
   have hck:∀ X:Int→Int→Bool,(bindO (bitmap_Check_r fu (((W:Int),((H:Int),canon W H X)),())) fun v5=>(bif decide (v5.1≠0) then some (v5.1,()) else (bif decide ((W:Int)≠(W:Int)) then some ((4:Int),()) else bif decide ((H:Int)≠(H:Int)) then some (4,()) else j ((k+1:Nat):Int))))=j ((k+1:Nat):Int):=fun X=>by
    rw [hch,bindO_some];simp only;rw [bif_neg (fun g=>g rfl),bif_neg (fun g=>g rfl),bif_neg (fun g=>g rfl)]
   rcases (show k=0∨k=1 by omega) with rfl | rfl
   ·have e1:IntKind.i64.wrap ((0:Int)+1)=1:=s_wr (by omega) (by omega);unfold sheet_check_l2 sheet_check_j3 sheet_check_j4 sheet_check_j5;simp only [joinF_eq];show (bindO (bitmap_Check_r fu (((W:Int),((H:Int),canon W H P)),())) _)=_;rw [hch,bindO_some];simp only;rw [bif_neg (fun g=>g rfl)];show (bif decide ((W:Int)≠(W:Int)) then _ else bif decide ((H:Int)≠(H:Int)) then _ else _)=_;rw [bif_neg (fun g=>g rfl),bif_neg (fun g=>g rfl)];show j (IntKind.i64.wrap ((0:Int)+1))=_;rw [e1];rfl
   ·have e1:IntKind.i64.wrap ((1:Int)+1)=2:=s_wr (by omega) (by omega);unfold sheet_check_l2 sheet_check_j3 sheet_check_j4 sheet_check_j5;simp only [joinF_eq];show (bindO (bitmap_Check_r fu (((W:Int),((H:Int),canon W H Q)),())) _)=_;rw [hch,bindO_some];simp only;rw [bif_neg (fun g=>g rfl)];show (bif decide ((W:Int)≠(W:Int)) then _ else bif decide ((H:Int)≠(H:Int)) then _ else _)=_;rw [bif_neg (fun g=>g rfl),bif_neg (fun g=>g rfl)];show j (IntKind.i64.wrap ((1:Int)+1))=_;rw [e1];rfl
  ·intro j;rfl
 unfold sheet_Print_r;simp only;rw [hc,bindO_some];simp only;rw [bif_neg (fun g=>g rfl)];have hl2:([((W:Int),((H:Int),canon W H P)),((W:Int),((H:Int),canon W H Q))]:List (Int×Int×List Int)).length=2:=rfl;have hg0:∀ d,([((W:Int),((H:Int),canon W H P)),((W:Int),((H:Int),canon W H Q))]:List (Int×Int×List Int)).getD (Int.toNat (0:Int)) d=((W:Int),((H:Int),canon W H P)):=fun d=>rfl
 rw [hl2,bif_pos (by omega),bif_pos (by omega),bif_pos (by omega),bif_pos (by omega),hg0];simp only;rw [hz,bif_and (by omega) (by omega),Int.toNat_natCast];refine Rk.stLoop (n:=2) (by omega) (st:=fun k=>((k:Int),LL (W*H) W P Q k)) ?_ ?_ ?_
 ·refine congrArg (Prod.mk (0:Int)) ?_;exact tabL_rep fun i _ _=>rfl
 ·intro j k hk;rcases (show k=0∨k=1 by omega) with rfl | rfl
  ·have hI:=image_r hf hW hH (u:=0) (by omega) (P:=P) (B:=fun _=>0) 1 (fun i=>by decide) (l:=[((W:Int),((H:Int),canon W H P)),((W:Int),((H:Int),canon W H Q))]) (g:=[0,0]) (v2:=((W:Int),((H:Int),canon W H P))) (v3:=((W:Int),((H:Int),canon W H P))) rfl rfl (v6:=(((0:Nat):Int),LL (W*H) W P Q 0)) rfl j;unfold sheet_Print_l1;simp only;show (bindO (bitmap_Grown_r fu (((W:Int),((H:Int),canon W H P)),((0:Int),()))) _)=_;rw [grown0 hf (hlen P),bindO_some];refine hI.trans (congrArg (fun z=>j (((0+1:Nat):Int),z)) (tabL_congr fun i _ _=>?_));exact Int.zero_add _
  ·have hI:=image_r hf hW hH (u:=1) (by omega) (P:=Q) (B:=Rv W P 1) 2 (fun i=>by unfold Rv;split <;> decide) (l:=[((W:Int),((H:Int),canon W H P)),((W:Int),((H:Int),canon W H Q))]) (g:=[0,0]) (v2:=((W:Int),((H:Int),canon W H P))) (v3:=((W:Int),((H:Int),canon W H P))) rfl rfl (v6:=(((1:Nat):Int),LL (W*H) W P Q 1)) rfl j;unfold sheet_Print_l1;simp only;show (bindO (bitmap_Grown_r fu (((W:Int),((H:Int),canon W H Q)),((0:Int),()))) _)=_;rw [grown0 hf (hlen Q),bindO_some];exact hI
 ·intro j;unfold sheet_Print_l1;simp only;rw [hl2,bif_neg (by omega)];rfl
def cnt (M:Int→Int) (v:Int) (n:Nat):Nat:=sumN (fun i=>bn (decide (M (i:Int)=v))) n
omit hf in
theorem cnt_le (M:Int→Int) (v:Int) (n:Nat):cnt M v n≤n:=by
 have:=sumN_le (f:=fun i:Nat=>bn (decide (M (i:Int)=v))) (c:=1) (fun i=>by unfold bn;cases decide (M (i:Int)=v) <;> decide) n;unfold cnt;omega
omit hf in
theorem cnt_succ (M:Int→Int) (v:Int) (n:Nat):((cnt M v (n+1):Nat):Int)=(cnt M v n:Int)+if M (n:Int)=v then 1 else 0:=by
 show ((cnt M v n+bn (decide (M (n:Int)=v)):Nat):Int)=_;by_cases c:M (n:Int)=v
 ·rw [decide_eq_true c,if_pos c];rfl
 ·rw [decide_eq_false c,if_neg c];rfl
theorem check_m {W H:Nat} (hW:1≤W∧W≤1024) (hH:1≤H∧H≤1024) {ds:List Int} (hl:ds.length=W*H):sheet_Check_r fu (((W:Int),((H:Int),ds)),())=some (0,()):=by
 have hWH:W*H≤1024*1024:=Nat.mul_le_mul hW.2 hH.2;have hz:IntKind.i64.wrap ((W:Int)*(H:Int))=((W*H:Nat):Int):=by rw [←Int.natCast_mul];exact s_wr (by omega) (by omega)
 unfold sheet_Check_r sheet_Check_j1;simp only [joinF_eq];rw [bif_neg (by omega),bif_neg (by omega),bif_neg (by omega),decide_eq_false (show ¬ (1024:Int)<(H:Int) by omega),cond_false,hz,bif_neg (by omega)]
theorem counts_r {W H:Nat} (hW:1≤W∧W≤1024) (hH:1≤H∧H≤1024) {M:Int→Int} (hM:∀ i,M i=0∨M i=1∨M i=2∨M i=3) :
  sheet_Counts_r fu (((W:Int),((H:Int),tabL (W*H) M)),((2:Int),()))=some ([(cnt M 0 (W*H):Int),(cnt M 1 (W*H):Int),(cnt M 2 (W*H):Int),(cnt M 3 (W*H):Int)],(0,())):=by
 have hWH:W*H≤1024*1024:=Nat.mul_le_mul hW.2 hH.2;unfold sheet_Counts_r;simp only [joinF_eq];rw [check_m hf hW hH (tabL_length _ _),bindO_some];simp only;rw [bif_neg (fun g=>g rfl),bif_neg (by omega),decide_eq_false (by omega)];unfold sheet_Counts_j1;simp only [cond_false];show loopF (sheet_Counts_l2 fu (((W:Int),((H:Int),tabL (W*H) M)),((2:Int),()))) fu ((0:Int),[0,0,0,0])=_;refine Rk.stLoop (n:=W*H) (by omega) (st:=fun k=>((k:Int),[(cnt M 0 k:Int),(cnt M 1 k:Int),(cnt M 2 k:Int),(cnt M 3 k:Int)])) rfl ?_ ?_
 ·intro j k hk;have c0:=cnt_le M 0 k;have c1:=cnt_le M 1 k;have c2:=cnt_le M 2 k;have c3:=cnt_le M 3 k;unfold sheet_Counts_l2;simp only [tabL_length];rw [bif_pos (by omega),bif_and (by omega) (by omega),Int.toNat_natCast,tabL_getDN hk,s_wr (x:=(k:Int)+1) (by omega) (by omega),cnt_succ,cnt_succ,cnt_succ,cnt_succ];have hl4:([(cnt M 0 k:Int),(cnt M 1 k:Int),(cnt M 2 k:Int),(cnt M 3 k:Int)]:List Int).length=4:=rfl;rw [hl4];rcases hM (k:Int) with h | h | h | h
  ·rw [h,s_wr (x:=(0:Int)) (by omega) (by omega),bif_neg (by omega),bif_and (by omega) (by omega),bif_and (by omega) (by omega)];show j ((k:Int)+1,[IntKind.i64.wrap ((cnt M 0 k:Int)+1),(cnt M 1 k:Int),(cnt M 2 k:Int),(cnt M 3 k:Int)])=_;rw [s_wr (by omega) (by omega),if_pos rfl,if_neg (by omega),if_neg (by omega),if_neg (by omega),Int.add_zero,Int.add_zero,Int.add_zero];rfl
  ·rw [h,s_wr (x:=(1:Int)) (by omega) (by omega),bif_neg (by omega),bif_and (by omega) (by omega),bif_and (by omega) (by omega)];show j ((k:Int)+1,[(cnt M 0 k:Int),IntKind.i64.wrap ((cnt M 1 k:Int)+1),(cnt M 2 k:Int),(cnt M 3 k:Int)])=_;rw [s_wr (by omega) (by omega),if_neg (by omega),if_pos rfl,if_neg (by omega),if_neg (by omega),Int.add_zero,Int.add_zero,Int.add_zero];rfl
  ·rw [h,s_wr (x:=(2:Int)) (by omega) (by omega),bif_neg (by omega),bif_and (by omega) (by omega),bif_and (by omega) (by omega)];show j ((k:Int)+1,[(cnt M 0 k:Int),(cnt M 1 k:Int),IntKind.i64.wrap ((cnt M 2 k:Int)+1),(cnt M 3 k:Int)])=_;rw [s_wr (by omega) (by omega),if_neg (by omega),if_neg (by omega),if_pos rfl,if_neg (by omega),Int.add_zero,Int.add_zero,Int.add_zero];rfl
  ·rw [h,s_wr (x:=(3:Int)) (by omega) (by omega),bif_neg (by omega),bif_and (by omega) (by omega),bif_and (by omega) (by omega)];show j ((k:Int)+1,[(cnt M 0 k:Int),(cnt M 1 k:Int),(cnt M 2 k:Int),IntKind.i64.wrap ((cnt M 3 k:Int)+1)])=_;rw [s_wr (by omega) (by omega),if_neg (by omega),if_neg (by omega),if_neg (by omega),if_pos rfl,Int.add_zero,Int.add_zero,Int.add_zero];rfl
 ·intro j;unfold sheet_Counts_l2;simp only [tabL_length];rw [bif_neg (by omega)]
end
end Dm
end Go.Proofs.Ytljebnobajmjnaa
/- Means of counts;the greatest common divisor. No program in sight. -/
namespace Go.Proofs.Ytljebnobajmjnaa
open Go Go.RowKit
set_option linter.unusedSimpArgs false
set_option linter.unusedSectionVars false
set_option linter.unusedVariables false
namespace Dm
theorem rnd_eq {X Y M:Int} (hM:0<M) (h:65025*X=M*Y):rnd X M=rnd Y 65025:=by
 unfold rnd;have e1:(65025*(2*X+M)) / (65025*(2*M))=(2*X+M) / (2*M):=Int.mul_ediv_mul_of_pos _ _ (by decide);have e2:(M*(2*Y+65025)) / (M*(2*65025))=(2*Y+65025) / (2*65025):=Int.mul_ediv_mul_of_pos _ _ hM;rw [←e1,←e2]
 have n1:65025*(2*X+M)=M*(2*Y+65025):=by
  have:M*(2*Y+65025)=2*(M*Y)+65025*M:=by grind
  rw [this,←h];grind
 have n2:65025*(2*M)=M*(2*65025):=by grind
 rw [n1,n2]
theorem shares4 {a b d k m n s0 s1 s2 s3:Int} (h1:255*d=a*m) (h2:255*k=b*n) :
  65025*((((m-d)*(n-k))*s0+(d*(n-k))*s1)+(k*(m-d))*s2+(d*k)*s3)=(m*n)*(((((255-a)*(255-b))*s0+(a*(255-b))*s1)+((255-a)*b)*s2)+(a*b)*s3):=by
 have e3:65025*(d*k)=(m*n)*(a*b):=by
  have:65025*(d*k)=(255*d)*(255*k):=by grind
  rw [this,h1,h2];grind
 have e1:65025*(d*(n-k))=(m*n)*(a*(255-b)):=by
  have:65025*(d*(n-k))=(255*d)*(255*n-255*k):=by grind
  rw [this,h1,h2];grind
 have e2:65025*(k*(m-d))=(m*n)*((255-a)*b):=by
  have:65025*(k*(m-d))=(255*k)*(255*m-255*d):=by grind
  rw [this,h1,h2];grind
 have e0:65025*((m-d)*(n-k))=(m*n)*((255-a)*(255-b)):=by
  have:65025*((m-d)*(n-k))=(255*m-255*d)*(255*n-255*k):=by grind
  rw [this,h1,h2];grind
 have l:65025*((((m-d)*(n-k))*s0+(d*(n-k))*s1)+(k*(m-d))*s2+(d*k)*s3)=(65025*((m-d)*(n-k)))*s0+(65025*(d*(n-k)))*s1+(65025*(k*(m-d)))*s2+(65025*(d*k))*s3:=by grind
 rw [l,e0,e1,e2,e3];grind
end Dm
end Go.Proofs.Ytljebnobajmjnaa
/- Means of a sheet and of halftones. -/
set_option maxRecDepth 100000
namespace Go.Proofs.Ytljebnobajmjnaa
open Go Go.RowKit
set_option linter.unusedSimpArgs false
set_option linter.unusedSectionVars false
set_option linter.unusedVariables false
namespace Dm
open Sc Rk Ht Ik
theorem loopF_un {X β:Type} {f:(X→Option β)→X→Option β} {fu:Nat} {x:X} (h:0<fu):loopF f fu x=f (loopF f (fu-1)) x:=by
 obtain ⟨n,rfl⟩:∃ n,fu=n+1:=⟨fu-1,by omega⟩;rfl
abbrev LabT':=Int×Int×Int
def lOk (c:LabT'):Prop:=(0≤c.1∧c.1≤10000)∧(-12800≤c.2.1∧c.2.1≤12800)∧(-12800≤c.2.2∧c.2.2≤12800)
instance (c:LabT'):Decidable (lOk c):=by unfold lOk;exact inferInstance
theorem lab4 {X β:Type} {f:(X→Option β)→X→Option β} {fu:Nat} (hf:5<fu) {st:Nat→X} {s:Nat→LabT'} {err fin:Option β} (step:∀ j k,k<4→f j (st k)=if lOk (s k) then j (st (k+1)) else err) (last:∀ j,f j (st 4)=fin) :
  loopF f fu (st 0)=if lOk (s 0)∧lOk (s 1)∧lOk (s 2)∧lOk (s 3) then fin else err:=by
 rw [loopF_un (by omega),step _ 0 (by omega)];by_cases h0:lOk (s 0)
 ·rw [if_pos h0,loopF_un (by omega),step _ 1 (by omega)];by_cases h1:lOk (s 1)
  ·rw [if_pos h1,loopF_un (by omega),step _ 2 (by omega)];by_cases h2:lOk (s 2)
   ·rw [if_pos h2,loopF_un (by omega),step _ 3 (by omega)];by_cases h3:lOk (s 3)
    ·rw [if_pos h3,loopF_un (by omega),last,if_pos ⟨h0,h1,h2,h3⟩]
    ·rw [if_neg h3,if_neg fun g=>h3 g.2.2.2]
   ·rw [if_neg h2,if_neg fun g=>h2 g.2.2.1]
  ·rw [if_neg h1,if_neg fun g=>h1 g.2.1]
 ·rw [if_neg h0,if_neg fun g=>h0 g.1]
def s4 (s0 s1 s2 s3:LabT') (k:Nat):LabT':=if k=0 then s0 else if k=1 then s1 else if k=2 then s2 else s3
def c4 (c0 c1 c2 c3:Int) (k:Nat):Int:=if k=0 then c0 else if k=1 then c1 else if k=2 then c2 else c3
def pS (c:Nat→Int) (g:Nat→Int):Nat→Int
 | 0=>0
 | k+1=>pS c g k+c k*g k
theorem pS_bd {c g:Nat→Int} (hc:∀ k,0≤c k∧c k≤2000000) (hg:∀ k,k<4→-13000≤g k∧g k≤13000):∀ (k:Nat),k≤4→-((k:Int)*26000000000)≤pS c g k∧pS c g k≤(k:Int)*26000000000
 | 0,_=>by
  show -(((0:Nat):Int)*26000000000)≤0∧(0:Int)≤((0:Nat):Int)*26000000000;omega
 | k+1,h=>by
  have h1:=pS_bd hc hg k (by omega);have h2:=hc k;have h3:=hg k (by omega);have h4:c k*g k≤c k*13000:=Int.mul_le_mul_of_nonneg_left h3.2 h2.1;have h5:c k*(-13000)≤c k*g k:=Int.mul_le_mul_of_nonneg_left h3.1 h2.1;rw [pS];omega
theorem pr_bd {c g:Int} (hc:0≤c∧c≤2000000) (hg:-13000≤g∧g≤13000):-26000000000≤c*g∧c*g≤26000000000:=by
 have h4:c*g≤c*13000:=Int.mul_le_mul_of_nonneg_left hg.2 hc.1;have h5:c*(-13000)≤c*g:=Int.mul_le_mul_of_nonneg_left hg.1 hc.1;omega
section
variable {fu:Nat} (hf:18446744073709551616≤fu)
include hf
theorem ref_r (c:LabT'):refspace_Check_r fu (c,())=some (if lOk c then 0 else 3,()):=by
 unfold refspace_Check_r refspace_Check_j1;simp only [joinF_eq];by_cases h:lOk c
 ·rw [if_pos h];obtain ⟨⟨a1,a2⟩,⟨b1,b2⟩,d1,d2⟩:=h;rw [bif_neg (by omega),bif_neg (by omega),bif_neg (by omega),bif_neg (by omega),bif_neg (by omega),decide_eq_false (by omega)];rfl
 ·rw [if_neg h];unfold lOk at h;by_cases a1:c.1<0
  ·rw [bif_pos a1];rfl
  rw [bif_neg a1];by_cases a2:10000<c.1
  ·rw [bif_pos a2];rfl
  rw [bif_neg a2];by_cases a3:c.2.1 < -12800
  ·rw [bif_pos a3];rfl
  rw [bif_neg a3];by_cases a4:12800<c.2.1
  ·rw [bif_pos a4];rfl
  rw [bif_neg a4];by_cases a5:c.2.2 < -12800
  ·rw [bif_pos a5];rfl
  rw [bif_neg a5,decide_eq_true (by omega)];rfl
variable {s0 s1 s2 s3:LabT'}
omit hf in
theorem s4_get {k:Nat} (hk:k<4) (d:LabT'):([s0,s1,s2,s3]:List LabT').getD k d=s4 s0 s1 s2 s3 k:=by
 rcases (show k=0∨k=1∨k=2∨k=3 by omega) with rfl | rfl | rfl | rfl <;> rfl
omit hf in
theorem c4_get {c0 c1 c2 c3:Int} {k:Nat} (hk:k<4) (d:Int):([c0,c1,c2,c3]:List Int).getD k d=c4 c0 c1 c2 c3 k:=by
 rcases (show k=0∨k=1∨k=2∨k=3 by omega) with rfl | rfl | rfl | rfl <;> rfl
def ok4 (s0 s1 s2 s3:LabT'):Prop:=lOk s0∧lOk s1∧lOk s2∧lOk s3
omit hf in
theorem ok4_at (h:ok4 s0 s1 s2 s3) (k:Nat):lOk (s4 s0 s1 s2 s3 k):=by
 unfold s4;split
 ·exact h.1
 ·split
  ·exact h.2.1
  ·split
   ·exact h.2.2.1
   ·exact h.2.2.2
theorem mean_r {W H:Nat} (hW:1≤W∧W≤1024) (hH:1≤H∧H≤1024) {M:Int→Int} (hM:∀ i,M i=0∨M i=1∨M i=2∨M i=3) :
  (ok4 s0 s1 s2 s3→sheet_Mean_r fu (((W:Int),((H:Int),tabL (W*H) M)),([s0,s1,s2,s3],()))=some ((rnd (pS (fun k=>(cnt M (k:Int) (W*H):Int)) (fun k=>(s4 s0 s1 s2 s3 k).1) 4) ((W*H:Nat):Int),(rnd (pS (fun k=>(cnt M (k:Int) (W*H):Int)) (fun k=>(s4 s0 s1 s2 s3 k).2.1) 4) ((W*H:Nat):Int),rnd (pS (fun k=>(cnt M (k:Int) (W*H):Int)) (fun k=>(s4 s0 s1 s2 s3 k).2.2) 4) ((W*H:Nat):Int))),(0,()))) ∧
  (¬ ok4 s0 s1 s2 s3→sheet_Mean_r fu (((W:Int),((H:Int),tabL (W*H) M)),([s0,s1,s2,s3],()))=some ((0,(0,0)),(3,()))):=by
 have hWH:W*H≤1024*1024:=Nat.mul_le_mul hW.2 hH.2;have hWH1:1*1≤W*H:=Nat.mul_le_mul hW.1 hH.1;have hz:IntKind.i64.wrap ((W:Int)*(H:Int))=((W*H:Nat):Int):=by rw [←Int.natCast_mul];exact s_wr (by omega) (by omega)
 have hl4:([s0,s1,s2,s3]:List LabT').length=4:=rfl
 have hcb:∀ k:Nat,0≤(cnt M (k:Int) (W*H):Int)∧(cnt M (k:Int) (W*H):Int)≤2000000:=fun k=>by
  have:=cnt_le M (k:Int) (W*H);omega

 have start:sheet_Mean_r fu (((W:Int),((H:Int),tabL (W*H) M)),([s0,s1,s2,s3],()))=loopF (sheet_Mean_l4 fu (((W:Int),((H:Int),tabL (W*H) M)),([s0,s1,s2,s3],())) 2) fu ((0:Int),((0:Int),((0:Int),(0:Int)))):=by
  have st1:∀ j,sheet_Mean_l1 fu (((W:Int),((H:Int),tabL (W*H) M)),([s0,s1,s2,s3],())) j 0=j 1:=fun j=>by
   unfold sheet_Mean_l1 sheet_Mean_j2;simp only [joinF_eq];show j (IntKind.i64.wrap ((0:Int)+1))=j 1;rw [s_wr (by omega) (by omega)];rfl
  have st2:∀ j,sheet_Mean_l1 fu (((W:Int),((H:Int),tabL (W*H) M)),([s0,s1,s2,s3],())) j 1=j 2:=fun j=>by
   unfold sheet_Mean_l1 sheet_Mean_j2;simp only [joinF_eq];show j (IntKind.i64.wrap ((1:Int)+1))=j 2;rw [s_wr (by omega) (by omega)];rfl
  unfold sheet_Mean_r;rw [check_m hf hW hH (tabL_length _ _),bindO_some];simp only;rw [bif_neg (fun g=>g rfl),loopF_un (by omega),st1,loopF_un (by omega),st2,loopF_un (by omega)];rfl
 have loop:=lab4 (f:=sheet_Mean_l4 fu (((W:Int),((H:Int),tabL (W*H) M)),([s0,s1,s2,s3],())) 2) (fu:=fu) (by omega) (st:=fun k=>((k:Int),((0:Int),((0:Int),(0:Int))))) (s:=s4 s0 s1 s2 s3) (err:=some ((0,(0,0)),(3,())))
  (fin:=loopF (sheet_Mean_l5 fu (((W:Int),((H:Int),tabL (W*H) M)),([s0,s1,s2,s3],())) [(cnt M 0 (W*H):Int),(cnt M 1 (W*H):Int),(cnt M 2 (W*H):Int),(cnt M 3 (W*H):Int)]) fu ((0:Int),((0:Int),((0:Int),(0:Int))))) (fun j k hk=>?_) (fun j=>?_)
 rotate_left
 ·unfold sheet_Mean_l4;simp only;rw [hl4,bif_pos (by omega),bif_and (by omega) (by omega),Int.toNat_natCast,s4_get hk,ref_r hf,bindO_some];simp only;by_cases h:lOk (s4 s0 s1 s2 s3 k)
  ·rw [if_pos h,if_pos h,bif_neg (fun g=>g rfl),s_wr (by omega) (by omega)];rfl
  ·rw [if_neg h,if_neg h,bif_pos (by omega)]
 ·unfold sheet_Mean_l4;simp only;rw [hl4,bif_neg (by omega),counts_r hf hW hH hM,bindO_some];simp only;rw [bif_neg (fun g=>g rfl)]
 have loop':loopF (sheet_Mean_l4 fu (((W:Int),((H:Int),tabL (W*H) M)),([s0,s1,s2,s3],())) 2) fu ((0:Int),((0:Int),((0:Int),(0:Int))))=_:=loop;refine ⟨fun h=>?_,fun h=>?_⟩
 rotate_left
 ·rw [start,loop'];exact if_neg h
 ·rw [start,loop'];refine (if_pos h).trans ?_;have b1:∀ k,k<4→-13000≤(s4 s0 s1 s2 s3 k).1∧(s4 s0 s1 s2 s3 k).1≤13000:=fun k _=>by have:=(ok4_at h k).1;omega
  have b2:∀ k,k<4→-13000≤(s4 s0 s1 s2 s3 k).2.1∧(s4 s0 s1 s2 s3 k).2.1≤13000:=fun k _=>by have:=(ok4_at h k).2.1;omega
  have b3:∀ k,k<4→-13000≤(s4 s0 s1 s2 s3 k).2.2∧(s4 s0 s1 s2 s3 k).2.2≤13000:=fun k _=>by have:=(ok4_at h k).2.2;omega
  refine Rk.stLoop (n:=4) (by omega) (st:=fun k=>((k:Int),(pS (fun k=>(cnt M (k:Int) (W*H):Int)) (fun k=>(s4 s0 s1 s2 s3 k).1) k,(pS (fun k=>(cnt M (k:Int) (W*H):Int)) (fun k=>(s4 s0 s1 s2 s3 k).2.1) k,pS (fun k=>(cnt M (k:Int) (W*H):Int)) (fun k=>(s4 s0 s1 s2 s3 k).2.2) k)))) rfl ?_ ?_
  ·intro j k hk;have p1:=pS_bd hcb b1 k (by omega);have p2:=pS_bd hcb b2 k (by omega);have p3:=pS_bd hcb b3 k (by omega);have q1:=pr_bd (hcb k) (b1 k hk);have q2:=pr_bd (hcb k) (b2 k hk);have q3:=pr_bd (hcb k) (b3 k hk);have hlc:([(cnt M 0 (W*H):Int),(cnt M 1 (W*H):Int),(cnt M 2 (W*H):Int),(cnt M 3 (W*H):Int)]:List Int).length=4:=rfl
   have hck:c4 (cnt M 0 (W*H):Int) (cnt M 1 (W*H):Int) (cnt M 2 (W*H):Int) (cnt M 3 (W*H):Int) k=(cnt M (k:Int) (W*H):Int):=by
    rcases (show k=0∨k=1∨k=2∨k=3 by omega) with rfl | rfl | rfl | rfl <;> rfl
   unfold sheet_Mean_l5;simp only;rw [hlc,hl4,bif_pos (by omega),bif_and (by omega) (by omega),bif_and (by omega) (by omega),bif_and (by omega) (by omega),bif_and (by omega) (by omega),Int.toNat_natCast,c4_get hk,s4_get hk,hck];rw [s_wr (x:=(k:Int)+1) (by omega) (by omega),s_wr (x:=(cnt M (k:Int) (W*H):Int)*(s4 s0 s1 s2 s3 k).1) (by omega) (by omega),s_wr (x:=(cnt M (k:Int) (W*H):Int)*(s4 s0 s1 s2 s3 k).2.1) (by omega) (by omega),s_wr (x:=(cnt M (k:Int) (W*H):Int)*(s4 s0 s1 s2 s3 k).2.2) (by omega) (by omega),s_wr (by omega) (by omega),s_wr (by omega) (by omega),s_wr (by omega) (by omega)];rfl
  ·intro j;have p1:=pS_bd hcb b1 4 (by omega);have p2:=pS_bd hcb b2 4 (by omega);have p3:=pS_bd hcb b3 4 (by omega);have hlc:([(cnt M 0 (W*H):Int),(cnt M 1 (W*H):Int),(cnt M 2 (W*H):Int),(cnt M 3 (W*H):Int)]:List Int).length=4:=rfl;unfold sheet_Mean_l5;simp only;rw [hlc,bif_neg (by omega),hz,nearest_s fu (by omega) (by omega) (by omega) (by omega),bindO_some,nearest_s fu (by omega) (by omega) (by omega) (by omega),bindO_some,nearest_s fu (by omega) (by omega) (by omega) (by omega),bindO_some]
theorem tones_r {a b:Int} (ha:0≤a∧a≤255) (hb:0≤b∧b≤255):overprint_check_r fu ([a,b],())=some (0,()):=by
 have ht:profile_Tones_r fu ([a,b],((2:Int),()))=some (0,()):=by
  unfold profile_Tones_r;show loopF (profile_Tones_l1 fu ([a,b],((2:Int),()))) fu 0=_;refine Rk.stLoop (n:=2) (by omega) (st:=fun k=>(k:Int)) rfl ?_ ?_
  ·intro j k hk;rcases (show k=0∨k=1 by omega) with rfl | rfl
   ·unfold profile_Tones_l1 profile_Tones_j2;simp only [joinF_eq];show (bif decide (a<0) then _ else _)=_;rw [bif_neg (by omega),show (([a,b]:List Int).getD (Int.toNat ((0:Nat):Int)) 0)=a from rfl,decide_eq_false (by omega),cond_false];show j (IntKind.i64.wrap ((0:Int)+1))=_;rw [s_wr (by omega) (by omega)];rfl
   ·unfold profile_Tones_l1 profile_Tones_j2;simp only [joinF_eq];show (bif decide (b<0) then _ else _)=_;rw [bif_neg (by omega),show (([a,b]:List Int).getD (Int.toNat ((1:Nat):Int)) 0)=b from rfl,decide_eq_false (by omega),cond_false];show j (IntKind.i64.wrap ((1:Int)+1))=_;rw [s_wr (by omega) (by omega)];rfl
  ·intro j;rfl
 unfold overprint_check_r;show (bindO (profile_Tones_r fu ([a,b],((2:Int),()))) _)=_;rw [ht,bindO_some]
theorem sh2_in {v0:Int×List Int} {v n z:Int} {j0:Int×List Int→Option (List Int×Unit)} {j:Int×List Int→Option (List Int×Unit)} {k:Nat} {w:List Int} (hk:(k:Int)<n) (hkl:k<w.length) (hw:w.length≤100) (hm:IntKind.i64.wrap (w.getD k 0*v)=z):overprint_shares_l2 fu v0 v n j0 j ((k:Int),w)=j (((k+1:Nat):Int),w++[z]):=by
 have h1:∀ x:Int,(([x]:List Int).length:Int)=1:=fun x=>rfl
 unfold overprint_shares_l2;simp only;rw [h1,bif_pos hk,bif_and (by omega) (by omega),bif_pos (by omega),Int.toNat_natCast,hm,s_wr (by omega) (by omega)];rfl
theorem sh2_out {v0:Int×List Int} {v n:Int} {j0:Int×List Int→Option (List Int×Unit)} {j:Int×List Int→Option (List Int×Unit)} {k:Int} {w:List Int} (hk:¬ k<n):overprint_shares_l2 fu v0 v n j0 j (k,w)=loopF (overprint_shares_l3 fu v0 v n j0) fu ((0:Int),w):=by
 unfold overprint_shares_l2;simp only;rw [bif_neg hk]
theorem sh3_in {v0:Int×List Int} {v n z:Int} {j0:Int×List Int→Option (List Int×Unit)} {j:Int×List Int→Option (List Int×Unit)} {k:Nat} {w:List Int} (hk:(k:Int)<n) (hkl:k<w.length) (hw:w.length≤100) (hm:IntKind.i64.wrap (w.getD k 0*IntKind.i64.wrap ((255:Int)-v))=z):overprint_shares_l3 fu v0 v n j0 j ((k:Int),w)=j (((k+1:Nat):Int),w.set k z):=by
 unfold overprint_shares_l3;simp only;rw [bif_pos hk,bif_and (by omega) (by omega),bif_and (by omega) (by omega),Int.toNat_natCast,hm,s_wr (by omega) (by omega)];rfl
theorem sh3_out {v0:Int×List Int} {v n:Int} {j0:Int×List Int→Option (List Int×Unit)} {j:Int×List Int→Option (List Int×Unit)} {k:Int} {w:List Int} (hk:¬ k<n):overprint_shares_l3 fu v0 v n j0 j (k,w)=j0 (IntKind.i64.wrap (v0.1+1),w):=by
 unfold overprint_shares_l3;simp only;rw [bif_neg hk]
theorem shares_r {a b:Int} (ha:0≤a∧a≤255) (hb:0≤b∧b≤255):overprint_shares_r fu ([a,b],())=some ([(255-a)*(255-b),a*(255-b),(255-a)*b,a*b],()):=by
 have m1:∀ {x y:Int},(0≤x∧x≤255)→(0≤y∧y≤255)→IntKind.i64.wrap (x*y)=x*y:=fun {x y} hx hy=>by
  have h1:x*y≤x*255:=Int.mul_le_mul_of_nonneg_left hy.2 hx.1;have h2:0≤x*y:=Int.mul_nonneg hx.1 hy.1;exact s_wr (by omega) (by omega)
 have w255:∀ {x:Int},(0≤x∧x≤255)→IntKind.i64.wrap ((255:Int)-x)=255-x:=fun {x} hx=>s_wr (by omega) (by omega)
 have w1:IntKind.i64.wrap ((0:Int)+1)=1:=s_wr (by omega) (by omega);have w2:IntKind.i64.wrap ((1:Int)+1)=2:=s_wr (by omega) (by omega)
 have z1:loopF (overprint_shares_l2 fu ((0:Int),[1]) a 1 (loopF (overprint_shares_l1 fu ([a,b],())) (fu-1))) fu (((0:Nat):Int),[1])=loopF (overprint_shares_l1 fu ([a,b],())) (fu-1) ((1:Int),[255-a,a]):=by
  rw [loopF_un (by omega),sh2_in hf (k:=0) (z:=a) (by omega) (by simp) (by simp) (by show IntKind.i64.wrap (1*a)=a;rw [Int.one_mul,s_wr (by omega) (by omega)]),loopF_un (by omega),sh2_out hf (by omega),loopF_un (by omega)];show overprint_shares_l3 fu _ a 1 _ _ (((0:Nat):Int),[1,a])=_;rw [sh3_in hf (k:=0) (z:=255-a) (by omega) (by simp) (by simp) (by show IntKind.i64.wrap (1*IntKind.i64.wrap ((255:Int)-a))=255-a;rw [w255 ha,Int.one_mul,s_wr (by omega) (by omega)]),loopF_un (by omega),sh3_out hf (by omega),w1];rfl
 have z2:loopF (overprint_shares_l2 fu ((1:Int),[255-a,a]) b 2 (loopF (overprint_shares_l1 fu ([a,b],())) (fu-1-1))) fu (((0:Nat):Int),[255-a,a])=loopF (overprint_shares_l1 fu ([a,b],())) (fu-1-1) ((2:Int),[(255-a)*(255-b),a*(255-b),(255-a)*b,a*b]):=by
  rw [loopF_un (by omega),sh2_in hf (k:=0) (z:=(255-a)*b) (by omega) (by simp) (by simp) (by show IntKind.i64.wrap ((255-a)*b)=_;exact m1 (by omega) hb),loopF_un (by omega),sh2_in hf (k:=1) (z:=a*b) (by omega) (by simp) (by simp) (by show IntKind.i64.wrap (a*b)=_;exact m1 ha hb),loopF_un (by omega),sh2_out hf (by omega),loopF_un (by omega)];show overprint_shares_l3 fu _ b 2 _ _ (((0:Nat):Int),[255-a,a,(255-a)*b,a*b])=_;rw [sh3_in hf (k:=0) (z:=(255-a)*(255-b)) (by omega) (by simp) (by simp) (by show IntKind.i64.wrap ((255-a)*IntKind.i64.wrap ((255:Int)-b))=_;rw [w255 hb,m1 (by omega) (by omega)]),loopF_un (by omega),sh3_in hf (k:=1) (z:=a*(255-b)) (by omega) (by simp) (by simp) (by show IntKind.i64.wrap (a*IntKind.i64.wrap ((255:Int)-b))=_;rw [w255 hb,m1 ha (by omega)]),loopF_un (by omega),sh3_out hf (by omega),w2];rfl
 have y1:∀ j,overprint_shares_l1 fu ([a,b],()) j ((0:Int),[1])=loopF (overprint_shares_l2 fu ((0:Int),[1]) a 1 j) fu (((0:Nat):Int),[1]):=fun j=>rfl
 have y2:∀ j,overprint_shares_l1 fu ([a,b],()) j ((1:Int),[255-a,a])=loopF (overprint_shares_l2 fu ((1:Int),[255-a,a]) b 2 j) fu (((0:Nat):Int),[255-a,a]):=fun j=>rfl
 unfold overprint_shares_r;rw [loopF_un (by omega),y1,z1,loopF_un (by omega),y2,z2,loopF_un (by omega)];rfl
theorem predict_r {a b:Int} (ha:0≤a∧a≤255) (hb:0≤b∧b≤255) :
  (ok4 s0 s1 s2 s3→overprint_Predict_r fu ([s0,s1,s2,s3],([a,b],()))=some ((rnd (pS (c4 ((255-a)*(255-b)) (a*(255-b)) ((255-a)*b) (a*b)) (fun k=>(s4 s0 s1 s2 s3 k).1) 4) 65025,(rnd (pS (c4 ((255-a)*(255-b)) (a*(255-b)) ((255-a)*b) (a*b)) (fun k=>(s4 s0 s1 s2 s3 k).2.1) 4) 65025,rnd (pS (c4 ((255-a)*(255-b)) (a*(255-b)) ((255-a)*b) (a*b)) (fun k=>(s4 s0 s1 s2 s3 k).2.2) 4) 65025)),(0,()))) ∧
  (¬ ok4 s0 s1 s2 s3→overprint_Predict_r fu ([s0,s1,s2,s3],([a,b],()))=some ((0,(0,0)),(3,()))):=by
 have hl4:([s0,s1,s2,s3]:List LabT').length=4:=rfl
 have m1:∀ {x y:Int},(0≤x∧x≤255)→(0≤y∧y≤255)→0≤x*y∧x*y≤65025:=fun {x y} hx hy=>by
  have h1:x*y≤x*255:=Int.mul_le_mul_of_nonneg_left hy.2 hx.1;have h2:0≤x*y:=Int.mul_nonneg hx.1 hy.1;omega
 obtain ⟨C,hC⟩:∃ C:Nat→Int,C=c4 ((255-a)*(255-b)) (a*(255-b)) ((255-a)*b) (a*b):=⟨_,rfl⟩
 have hcb:∀ k:Nat,0≤C k∧C k≤2000000:=fun k=>by
  have h1:=m1 (x:=255-a) (y:=255-b) (by omega) (by omega);have h2:=m1 (x:=a) (y:=255-b) ha (by omega);have h3:=m1 (x:=255-a) (y:=b) (by omega) hb;have h4:=m1 ha hb;rw [hC];unfold c4;split
  ·omega
  ·split
   ·omega
   ·split <;> omega
 have hall:pS C (fun _=>1) 4=65025:=by
  rw [hC];show ((((0:Int)+(255-a)*(255-b)*1)+a*(255-b)*1)+(255-a)*b*1)+a*b*1=65025
  grind
 have hCb1:=pS_bd (g:=fun _=>1) hcb (fun k _=>by omega)
 have start:overprint_Predict_r fu ([s0,s1,s2,s3],([a,b],()))=loopF (overprint_Predict_l1 fu ([s0,s1,s2,s3],([a,b],()))) fu ((0:Int),((0:Int),((0:Int),(0:Int)))):=by
  unfold overprint_Predict_r;rw [tones_r hf ha hb,bindO_some];rfl
 have loop:=lab4 (f:=overprint_Predict_l1 fu ([s0,s1,s2,s3],([a,b],()))) (fu:=fu) (by omega) (st:=fun k=>((k:Int),((0:Int),((0:Int),(0:Int))))) (s:=s4 s0 s1 s2 s3) (err:=some ((0,(0,0)),(3,())))
  (fin:=loopF (overprint_Predict_l2 fu ([s0,s1,s2,s3],([a,b],())) ([(255-a)*(255-b),a*(255-b),(255-a)*b,a*b],())) fu ((0:Int),((0:Int),((0:Int),((0:Int),(0:Int)))))) (fun j k hk=>?_) (fun j=>?_)
 rotate_left
 ·unfold overprint_Predict_l1;simp only;rw [hl4,bif_pos (by omega),bif_and (by omega) (by omega),Int.toNat_natCast,s4_get hk,ref_r hf,bindO_some];simp only;by_cases h:lOk (s4 s0 s1 s2 s3 k)
  ·rw [if_pos h,if_pos h,bif_neg (fun g=>g rfl),s_wr (by omega) (by omega)];rfl
  ·rw [if_neg h,if_neg h,bif_pos (by omega)]
 ·unfold overprint_Predict_l1;simp only;rw [hl4,bif_neg (by omega),shares_r hf ha hb,bindO_some]
 have loop':loopF (overprint_Predict_l1 fu ([s0,s1,s2,s3],([a,b],()))) fu ((0:Int),((0:Int),((0:Int),(0:Int))))=_:=loop;refine ⟨fun h=>?_,fun h=>?_⟩
 rotate_left
 ·rw [start,loop'];exact if_neg h
 ·rw [start,loop'];refine (if_pos h).trans ?_;have b1:∀ k,k<4→-13000≤(s4 s0 s1 s2 s3 k).1∧(s4 s0 s1 s2 s3 k).1≤13000:=fun k _=>by have:=(ok4_at h k).1;omega
  have b2:∀ k,k<4→-13000≤(s4 s0 s1 s2 s3 k).2.1∧(s4 s0 s1 s2 s3 k).2.1≤13000:=fun k _=>by have:=(ok4_at h k).2.1;omega
  have b3:∀ k,k<4→-13000≤(s4 s0 s1 s2 s3 k).2.2∧(s4 s0 s1 s2 s3 k).2.2≤13000:=fun k _=>by have:=(ok4_at h k).2.2;omega
  rw [←hC];refine Rk.stLoop (n:=4) (by omega) (st:=fun k=>(pS C (fun _=>1) k,((k:Int),(pS C (fun k=>(s4 s0 s1 s2 s3 k).1) k,(pS C (fun k=>(s4 s0 s1 s2 s3 k).2.1) k,pS C (fun k=>(s4 s0 s1 s2 s3 k).2.2) k))))) rfl ?_ ?_
  ·intro j k hk;have p0:=hCb1 k (by omega);have p1:=pS_bd hcb b1 k (by omega);have p2:=pS_bd hcb b2 k (by omega);have p3:=pS_bd hcb b3 k (by omega);have q0:=hcb k;have q1:=pr_bd (hcb k) (b1 k hk);have q2:=pr_bd (hcb k) (b2 k hk);have q3:=pr_bd (hcb k) (b3 k hk);have hlc:([(255-a)*(255-b),a*(255-b),(255-a)*b,a*b]:List Int).length=4:=rfl;have hck:([(255-a)*(255-b),a*(255-b),(255-a)*b,a*b]:List Int).getD k 0=C k:=by rw [hC];exact c4_get hk 0
   unfold overprint_Predict_l2;simp only;rw [hlc,hl4,bif_pos (by omega),bif_and (by omega) (by omega),bif_and (by omega) (by omega),bif_and (by omega) (by omega),bif_and (by omega) (by omega),Int.toNat_natCast,hck,s4_get hk];rw [s_wr (x:=(k:Int)+1) (by omega) (by omega),s_wr (x:=C k*(s4 s0 s1 s2 s3 k).1) (by omega) (by omega),s_wr (x:=C k*(s4 s0 s1 s2 s3 k).2.1) (by omega) (by omega),s_wr (x:=C k*(s4 s0 s1 s2 s3 k).2.2) (by omega) (by omega),s_wr (by omega) (by omega),s_wr (by omega) (by omega),s_wr (by omega) (by omega),s_wr (by omega) (by omega)];have e:pS C (fun _=>1) (k+1)=pS C (fun _=>1) k+C k:=by rw [pS,Int.mul_one]
   show _=j (pS C (fun _=>1) (k+1),_);rw [e];rfl
  ·intro j;have p1:=pS_bd hcb b1 4 (by omega);have p2:=pS_bd hcb b2 4 (by omega);have p3:=pS_bd hcb b3 4 (by omega);have hlc:([(255-a)*(255-b),a*(255-b),(255-a)*b,a*b]:List Int).length=4:=rfl;unfold overprint_Predict_l2;simp only;rw [hlc,bif_neg (by omega),hall,nearest_s fu (by omega) (by omega) (by omega) (by omega),bindO_some,nearest_s fu (by omega) (by omega) (by omega) (by omega),bindO_some,nearest_s fu (by omega) (by omega) (by omega) (by omega),bindO_some]
end
end Dm
end Go.Proofs.Ytljebnobajmjnaa
/- The residual programs. -/
/- Screens: Common,as the program and the document compute it. -/
namespace Go.Proofs.Ytljebnobajmjnaa
open Go Go.RowKit
set_option linter.unusedSimpArgs false
set_option linter.unusedSectionVars false
set_option linter.unusedVariables false
namespace Sc
theorem emod_dvd (a:Int) {n:Int}:n ∣ a % n-a:=by
 have:=Int.mul_ediv_add_emod a n;exact ⟨-(a / n),by rw [Int.mul_neg];omega⟩
theorem g_le {A B N S G:Int} (ok:ScrOk A B) (f:FormOk A B N S G):G≤20:=by
 obtain ⟨a0,a1,b0,b1,n0,n1⟩:=ok;have hG:=f.g0
 have key:∀ z z':Int,z=G*z'→0<z→G≤z:=fun z z' e h=>by
  have:0<z':=by
   rcases Int.lt_or_le 0 z' with h' | h'
   ·exact h'
   ·have:G*z'≤G*0:=Int.mul_le_mul_of_nonneg_left h' (by omega);omega
  have:G*1≤G*z':=Int.mul_le_mul_of_nonneg_left (by omega) (by omega);omega
 obtain ⟨a',ha⟩:=f.ga;obtain ⟨b',hb⟩:=f.gb;rcases Int.lt_or_le 0 A with h | h
 ·have:=key A a' ha h;omega
 ·rcases Int.lt_or_le 0 B with h' | h'
  ·have:=key B b' hb h';omega
  ·obtain rfl:A=0:=by omega
   obtain rfl:B=0:=by omega
   simp at n0
theorem quot {a b:Int} (hb:0<b) (ha:0<a) (h:b ∣ a):∃ c,a=b*c∧a.tdiv b=c∧0<c∧c≤a∧b≤a:=by
 obtain ⟨c,hc⟩:=h
 have c0:0<c:=by
  rcases Int.lt_or_le 0 c with h' | h'
  ·exact h'
  ·have:b*c≤b*0:=Int.mul_le_mul_of_nonneg_left h' (by omega);omega
 have q1:1*c≤b*c:=Int.mul_le_mul_of_nonneg_right (by omega) (by omega);have q2:b*1≤b*c:=Int.mul_le_mul_of_nonneg_left (by omega) (by omega);exact ⟨c,hc,by rw [hc];exact Int.mul_tdiv_cancel_left _ (by omega),c0,by omega,by omega⟩
theorem mul_bd {a b M N:Int} (a0:0≤a) (a1:a≤M) (b0:0≤b) (b1:b≤N):0≤a*b∧a*b≤M*N:=by
 refine ⟨Int.mul_nonneg a0 b0,?_⟩;have q1:a*b≤M*b:=Int.mul_le_mul_of_nonneg_right a1 b0;have q2:M*b≤M*N:=Int.mul_le_mul_of_nonneg_left b1 (by omega);omega
theorem mul_bd2 {a b M N:Int} (a0:-M≤a) (a1:a≤M) (b0:-N≤b) (b1:b≤N) (hM:0≤M) (hN:0≤N):-(M*N)≤a*b∧a*b≤M*N:=by
 rcases Int.le_total 0 b with h | h
 ·have q1:a*b≤M*b:=Int.mul_le_mul_of_nonneg_right a1 h;have q2:M*b≤M*N:=Int.mul_le_mul_of_nonneg_left b1 hM;have q3:-M*b≤a*b:=Int.mul_le_mul_of_nonneg_right a0 h;rw [Int.neg_mul] at q3;omega
 ·have q1:a*-b≤M*-b:=Int.mul_le_mul_of_nonneg_right a1 (by omega);have q2:M*-b≤M*N:=Int.mul_le_mul_of_nonneg_left (by omega) hM;have q3:-M*-b≤a*-b:=Int.mul_le_mul_of_nonneg_right a0 (by omega);simp only [Int.neg_mul,Int.mul_neg] at q1 q2 q3;omega
section
variable {fu:Nat} (hf:18446744073709551616≤fu) {A B A' B':Int} (ok:ScrOk A B) (ok':ScrOk A' B') (K K':Int)
include hf ok ok'
theorem common_r (hc:scE A B K=0) (hc':scE A' B' K'=0):∃ W S H,screen_Common_r fu ((A,(B,K)),((A',(B',K')),()))=some ((W,(S,H)),(0,()))∧ComOk A B A' B' W S H∧W≤160000∧H≤160000:=by
 obtain ⟨N,S,G,k1,f,hN,_⟩:=form_r hf ok K;obtain ⟨N',S',G',k1',f',hN',_⟩:=form_r hf ok' K';have hG:=g_le ok f;have hG':=g_le ok' f';have N0:=f.n0;have N0':=f'.n0;have G0:=f.g0;have G0':=f'.g0;obtain ⟨d,p,q,b1,b2,b3,b4,b5,b6,b7⟩:=bez_r hf (a:=N) (b:=N') (by omega) (by omega) (by omega) (by omega) (.inl N0);obtain ⟨g,u,v,c1,c2,c3,c4,c5,_,_⟩:=bez_r hf (a:=G) (b:=G') (by omega) (by omega) (by omega) (by omega) (.inl G0);obtain ⟨n1,hn1,tn1,n10,n11,d11⟩:=quot b2 N0 b4;obtain ⟨n2,hn2,tn2,n20,n21,d21⟩:=quot b2 N0' b5;obtain ⟨γ,hγ,tγ,γ0,γ1,_⟩:=quot c2 G0 c4;obtain ⟨γ',hγ',tγ',γ0',γ1',_⟩:=quot c2 G0' c5;have hh:γ*G'=γ'*G:=by rw [hγ,hγ'];grind
 have th1:(γ*G').tdiv G=γ':=by rw [hh,Int.mul_comm];exact Int.mul_tdiv_cancel_left _ (by omega)
 have th2:(γ*G').tdiv G'=γ:=by rw [Int.mul_comm];exact Int.mul_tdiv_cancel_left _ (by omega)
 have m1:=mul_bd (a:=γ) (b:=G') (M:=20) (N:=20) (by omega) (by omega) (by omega) (by omega);have m2:=mul_bd (a:=γ') (b:=S) (M:=20) (N:=400) (by omega) (by omega) f.s0 (by have:=f.s1;omega);have m3:=mul_bd (a:=γ) (b:=S') (M:=20) (N:=400) (by omega) (by omega) f'.s0 (by have:=f'.s1;omega);have x0:=Int.emod_nonneg (γ'*S) (show N≠0 by omega);have x1:=Int.emod_lt_of_pos (γ'*S) N0;have hx:N ∣ (γ'*S) % N-γ'*S:=emod_dvd _;have y0:=Int.emod_nonneg (γ*S') (show N'≠0 by omega);have y1:=Int.emod_lt_of_pos (γ*S') N0';have hy:N' ∣ (γ*S') % N'-γ*S':=emod_dvd _;generalize hxx:(γ'*S) % N=x at *
 generalize hyy:(γ*S') % N'=y at *
 have z0:=Int.emod_nonneg (x-y) (show d≠0 by omega);have z1:=Int.emod_lt_of_pos (x-y) b2;have hz:d ∣ (x-y) % d-(x-y):=emod_dvd _;generalize hzz:(x-y) % d=z at *
 obtain ⟨e,r,t,e1,e2,e3,e4,e5,_,_⟩:=bez_r hf (a:=d) (b:=z) z0 (by omega) (by omega) (by omega) (.inl b2);obtain ⟨m,hm,tm,m0,mm,_⟩:=quot e2 b2 e4;obtain ⟨m2',hez⟩:=e5;have w1:=mul_bd (a:=n1) (b:=N') (M:=400) (N:=400) (by omega) (by omega) (by omega) (by omega);have w0:0<n1*N':=Int.mul_pos n10 N0';have xm:=mul_bd (a:=x) (b:=m) (M:=400) (N:=400) (by omega) (by omega) (by omega) (by omega);have ym:=mul_bd (a:=y) (b:=m) (M:=400) (N:=400) (by omega) (by omega) (by omega) (by omega);have x20:=Int.emod_nonneg (x*m) (show N≠0 by omega);have x21:=Int.emod_lt_of_pos (x*m) N0;have hx2:N ∣ (x*m) % N-x*m:=emod_dvd _;have y20:=Int.emod_nonneg (y*m) (show N'≠0 by omega);have y21:=Int.emod_lt_of_pos (y*m) N0';have hy2:N' ∣ (y*m) % N'-y*m:=emod_dvd _;generalize hx2x:(x*m) % N=x2 at *
 generalize hy2y:(y*m) % N'=y2 at *
 have hdN:d ∣ N:=⟨n1,hn1⟩;have hdN':d ∣ N':=⟨n2,hn2⟩
 have hd2:d ∣ y2-x2:=by
  have h1:d ∣ z*m:=⟨m2',by rw [hez,hm];grind⟩;have h2:d ∣ (z-(x-y))*m:=Int.dvd_trans hz (Int.dvd_mul_right _ _);have h3:=Int.dvd_sub h1 h2;have h4:=Int.dvd_sub (Int.dvd_trans hdN' hy2) (Int.dvd_trans hdN hx2);have h5:=Int.dvd_sub h4 h3;have e1:y2-y*m-(x2-x*m)-(z*m-(z-(x-y))*m)=y2-x2:=by grind
  rw [e1] at h5;exact h5
 have tq:(y2-x2).tdiv d=(y2-x2) / d:=Int.tdiv_eq_ediv_of_dvd hd2
 have qb:-400≤(y2-x2) / d∧(y2-x2) / d≤400:=by
  obtain ⟨c,hc⟩:=hd2;have:(y2-x2) / d=c:=by rw [hc];exact Int.mul_ediv_cancel_left _ (by omega)
  rw [this];rcases Int.le_total 0 c with h | h
  ·have:1*c≤d*c:=Int.mul_le_mul_of_nonneg_right (by omega) h;omega
  ·have:1*-c≤d*-c:=Int.mul_le_mul_of_nonneg_right (by omega) (by omega);simp only [Int.mul_neg,Int.one_mul] at this;omega
 have pb:-400≤p∧p≤400:=by omega
 have cp:=mul_bd2 (a:=(y2-x2) / d) (b:=p) (M:=400) (N:=400) qb.1 qb.2 pb.1 pb.2 (by omega) (by omega);have k0:=Int.emod_nonneg ((y2-x2) / d*p) (show n2≠0 by omega);have k2:=Int.emod_lt_of_pos ((y2-x2) / d*p) n20;have hk:n2 ∣ ((y2-x2) / d*p) % n2-(y2-x2) / d*p:=emod_dvd _;generalize hkk:((y2-x2) / d*p) % n2=k at *
 have Nk:=mul_bd (a:=N) (b:=k) (M:=400) (N:=400) (by omega) (by omega) (by omega) (by omega);have Hm:=mul_bd (a:=γ*G') (b:=m) (M:=400) (N:=400) (by omega) (by omega) (by omega) (by omega);refine ⟨_,_,_,?_,com_ok f f' b2 b3 hn1 hn2 c2 c3 hγ hγ' hx hy hz e2 e3 hm hez hx2 hy2 hk,by omega,by omega⟩;unfold screen_Common_r;simp only [check_r,hc,hc',bindO_some,ne_eq,not_true_eq_false,decide_false,cond_false,k1,k1',b1,c1];rw [bif_pos (by omega),tγ,s_wr (x:=γ) (by omega) (by omega),s_wr (x:=γ*G') (by omega) (by omega),bif_pos (by omega),th1,s_wr (x:=γ') (by omega) (by omega),s_wr (x:=γ'*S) (by omega) (by omega),smod fu N0 (by omega),hxx];simp only [bindO_some];rw [bif_pos (by omega),th2,s_wr (x:=γ) (by omega) (by omega),s_wr (x:=γ*S') (by omega) (by omega),smod fu N0' (by omega),hyy];simp only [bindO_some];rw [s_wr (x:=x-y) (by omega) (by omega),smod fu b2 (by omega),hzz];simp only [bindO_some,e1];rw [bif_pos (by omega),tm,s_wr (x:=m) (by omega) (by omega),bif_pos (by omega),tn1,s_wr (x:=n1) (by omega) (by omega),s_wr (x:=n1*N') (by omega) (by omega),s_wr (x:=x*m) (by omega) (by omega),smod fu N0 (by omega),hx2x];simp only [bindO_some];rw [s_wr (x:=y*m) (by omega) (by omega),smod fu N0' (by omega),hy2y];simp only [bindO_some]
 rw [bif_pos (by omega),bif_pos (by omega),s_wr (x:=y2-x2) (by omega) (by omega),tq,s_wr (x:=(y2-x2) / d) (by omega) (by omega),s_wr (x:=(y2-x2) / d*p) (by omega) (by omega),tn2,s_wr (x:=n2) (by omega) (by omega),smod fu n20 (by omega),hkk];simp only [bindO_some];rw [s_wr (x:=N*k) (by omega) (by omega),s_wr (x:=x2+N*k) (by omega) (by omega),smod fu w0 (by omega)];simp only [bindO_some];rw [s_wr (x:=γ*G'*m) (by omega) (by omega)]
end
end Sc
end Go.Proofs.Ytljebnobajmjnaa
/- The common rectangle of two screens of coprime areas. -/
namespace Go.Proofs.Ytljebnobajmjnaa
open Go Go.RowKit
set_option linter.unusedSimpArgs false
set_option linter.unusedSectionVars false
set_option linter.unusedVariables false
namespace Dm
open Sc
theorem one_of {fu:Nat} (hf:18446744073709551616≤fu) {N N':Int} (h0:0<N) (h0':0<N') (h1:N≤400) (h1':N'≤400) (co:∀ d:Int,d ∣ N→d ∣ N'→d ∣ 1):∃ p q:Int,N*p+N'*q=1:=by
 obtain ⟨d,p,q,b1,b2,b3,b4,b5,-⟩:=bez_r hf (a:=N) (b:=N') (by omega) (by omega) (by omega) (by omega) (.inl h0);have h:=co d b4 b5;have:=Int.le_of_dvd (by decide) h;exact ⟨p,q,by omega⟩
theorem dims {fu:Nat} (hf:18446744073709551616≤fu) {A B N S G A' B' N' S' G' W Z H:Int} (f:FormOk A B N S G) (f':FormOk A' B' N' S' G') (hN:N≤400) (hN':N'≤400) (hG:G≤400) (hG':G'≤400) (cN:∀ d:Int,d ∣ N→d ∣ N'→d ∣ 1) (cG:∀ d:Int,d ∣ G→d ∣ G'→d ∣ 1) (C:ComOk A B A' B' W Z H):W=N*N'∧H=G*G':=by
 have n0:=f.n0;have n0':=f'.n0;have g0:=f.g0;have g0':=f'.g0;obtain ⟨p,q,hpq⟩:=one_of hf n0 n0' hN hN' cN;obtain ⟨u,v,huv⟩:=one_of hf g0 g0' hG hG' cG
 have row:∀ w:Int,bel A B w 0↔N ∣ w:=fun w=>by
  have:=bel_row f w 0;rw [Int.zero_mul,Int.zero_mul,Int.sub_zero] at this;exact this
 have row':∀ w:Int,bel A' B' w 0↔N' ∣ w:=fun w=>by
  have:=bel_row f' w 0;rw [Int.zero_mul,Int.zero_mul,Int.sub_zero] at this;exact this
 have hNN:0<N*N':=Int.mul_pos n0 n0';have hGG:0<G*G':=Int.mul_pos g0 g0';constructor
 ·have h1:=lcm_dvd (d:=1) (n':=N) (by decide) (by omega) hpq ((row W).1 C.row1) ((row' W).1 C.row2);have h2:=Int.le_of_dvd C.w0 h1;have h3:=C.least (N*N') hNN ((row _).2 (Int.dvd_mul_right _ _)) ((row' _).2 (Int.dvd_mul_left _ _));omega
 ·have h1:=lcm_dvd (d:=1) (n':=G) (by decide) (by omega) huv (bel_high f C.in1) (bel_high f' C.in2);have h2:=Int.le_of_dvd C.h0 h1;rcases Int.lt_or_le (G*G') H with h3 | h3
  ·exfalso
   refine C.high (G'*S*(N'*q)+G*S'*(N*p)) (G*G') hGG h3 ?_ ?_
   ·rw [Int.mul_comm G G',bel_row f];refine ⟨G*S'*p-G'*S*p,?_⟩;have e:N'*q=1-N*p:=by omega
    rw [e];grind
   ·rw [bel_row f'];refine ⟨G'*S*q-G*S'*q,?_⟩;have e:N*p=1-N'*q:=by omega
    rw [e];grind
  ·omega
end Dm
end Go.Proofs.Ytljebnobajmjnaa
/- Ranks are a numbering;the fixed example;flat plates. -/
set_option maxRecDepth 100000
namespace Go.Proofs.Ytljebnobajmjnaa
open Go Go.RowKit
set_option linter.unusedSimpArgs false
set_option linter.unusedSectionVars false
set_option linter.unusedVariables false
namespace Ik
open Sc Rk Ht
section
variable {fu:Nat} (hf:18446744073709551616≤fu)
include hf
theorem ranks_o {A B:Int} (ok:ScrOk A B) (K:Int):∃ (N S G:Int) (n:Nat) (O:List Nat) (L:List Int),screen_Of_r fu ((A,(B,K)),())=some ((N,(S,G)),())∧FormOk A B N S G∧N≤400∧G≤400∧A*A+B*B=(n:Int)∧Ord n O∧screen_Ranks_r fu ((A,(B,K)),())=some (L,())∧L.length=n ∧
  (∀ i,i<n→L.getD i 0=(O.idxOf i:Int))∧(K≠3→∀ i j (hi:i<O.length) (hj:j<O.length),i<j→¬ cmpK A B K N (O[j]:Int) (O[i]:Int)<0):=by
 obtain ⟨N,S,G,hO,f,hN4,hG4⟩:=form_r hf ok K;have n0:=ok.n0;have n1:=ok.n1;obtain ⟨n,hN⟩:=Int.eq_ofNat_of_zero_le (show 0≤A*A+B*B by omega);have hn0:0<n:=by omega
 have hn:n≤400:=by omega
 have get:∀ O,Ord n O→∀ i,i<n→(rankL n O n 0).getD i 0=(O.idxOf i:Int):=fun O h i hi=>by
  rw [rankL_get hi,if_pos (h.idx hi)]
 by_cases hK:K=3
 ·have h:=seq_ord (A:=A) (B:=B) (N:=N) (n:=n);exact ⟨N,S,G,n,_,_,hO,f,hN4,hG4,hN,h,ranks_r hf ok f.n0 hn0 hn hN h hO (fun _=>scatter_r hf ok f hN4 hG4 hn hN) (fun g=>absurd hK g),rankL_len _ _ _ _,get _ h,fun g=>absurd hK g⟩
 ·obtain ⟨O,h,h1,h2⟩:=sorted ok (fu:=fu) (K:=K) (S:=S) (G:=G) f.n0 hn0 hn;exact ⟨N,S,G,n,O,_,hO,f,hN4,hG4,hN,h,ranks_r hf ok f.n0 hn0 hn hN h hO (fun g=>absurd g hK) (fun _=>h1),rankL_len _ _ _ _,get _ h,fun _=>h2⟩
omit hf in
theorem idx_inj {n:Nat} {O:List Nat} (h:Ord n O):∀ i j,i<n→j<n→O.idxOf i=O.idxOf j→i=j:=fun i j hi hj e=>by
 have h1:O.idxOf i<O.length:=by rw [h.len];exact h.idx hi
 have h2:=(h.at_idx h1 hi).1 rfl;have h3:=(h.at_idx h1 hj).1 e.symm;exact h2.trans h3.symm
theorem dots_true:top_sDots_r fu ()=some (true,()):=by
 have ok:ScrOk 2 1:=⟨by decide,by decide,by decide,by decide,by decide,by decide⟩;obtain ⟨N,S,G,n,O,L,hO,f,hN4,hG4,hn,h,hR,hL,hg,hs⟩:=ranks_o hf ok 0;have hn5:n=5:=by omega
 subst hn5
 have hG:G=1:=by
  have h1:=f.gb;have h2:=f.g0;have:=Int.le_of_dvd (by decide) h1;omega
 have hN:N=5:=by have:=f.mul;rw [hG] at this;omega
 subst hG hN;have hs:=hs (by decide)
 have lt:∀ x y:Nat,x<y→y<5→O.idxOf x<O.idxOf y:=fun x y hxy hy=>by
  have i1:O.idxOf x<O.length:=by rw [h.len];exact h.idx (by omega)
  have i2:O.idxOf y<O.length:=by rw [h.len];exact h.idx hy
  refine Classical.byContradiction fun hc=>?_
  have hne:O.idxOf y≠O.idxOf x:=fun e=>by have:=idx_inj h y x hy (by omega) e;omega
  have h1:=hs _ _ i2 i1 (by omega);rw [←(h.at_idx i1 (show x<5 by omega)).1 rfl,←(h.at_idx i2 hy).1 rfl] at h1;refine h1 ?_;have:∀ y:Fin 5,∀ x:Fin 5,x<y→cmpK 2 1 0 5 ((x.val:Nat):Int) ((y.val:Nat):Int)<0:=by decide +kernel
  exact this ⟨y,hy⟩ ⟨x,by omega⟩ hxy
 have id:∀ x,x<5→O.idxOf x=x:=fun x hx=>by
  have a0:=h.idx (show 0<5 by decide);have a4:=h.idx (show 4<5 by decide);have b0:=lt 0 1 (by decide) (by decide);have b1:=lt 1 2 (by decide) (by decide);have b2:=lt 2 3 (by decide) (by decide);have b3:=lt 3 4 (by decide) (by decide)
  rcases (show x=0∨x=1∨x=2∨x=3∨x=4 by omega) with rfl | rfl | rfl | rfl | rfl <;> omega
 have hb:Bytes [128,128,128,128,128]:=fun d hd=>by
  simp only [List.mem_cons,List.not_mem_nil,or_false,or_self] at hd;omega
 have hA:=apply_r hf (w:=5) (h:=1) (A:=2) (B:=1) (K:=0) (ds:=[128,128,128,128,128]) ⟨by decide,by decide⟩ ⟨by decide,by decide⟩ (by decide) hb (by decide) ok f hN4 hG4 (by rw [hL];decide) hO hR
 have hc:canon 5 1 (prt 5 S 1 5 L [128,128,128,128,128])=canon 5 1 (fun x _=>decide (x<3)):=canon_congr (by decide) fun x y x0 x1 y0 y1=>by
  have hy:y=0:=by omega
  subst hy;unfold prt;obtain ⟨k,rfl⟩:=Int.eq_ofNat_of_zero_le x0;have hk:k<5:=by omega
  have e1:(pl 5 S 1 (k:Int) 0).toNat=k:=by
   unfold pl;simp only [Int.zero_emod,Int.zero_ediv,Int.zero_mul,Int.sub_zero,Int.zero_add];omega
  have e2:(([128,128,128,128,128]:List Int).getD ((0:Int)*5+(k:Int)).toNat 0)=128:=by
   rw [show ((0:Int)*5+(k:Int)).toNat=k by omega]
   rcases (show k=0∨k=1∨k=2∨k=3∨k=4 by omega) with rfl | rfl | rfl | rfl | rfl <;> rfl
  rw [e1,e2,hg k hk,id k hk,hL,show dots ((5:Nat):Int) 128=3 by decide]
 have hc2:canon 5 1 (fun x _=>decide (x<3))=[224]:=by decide +kernel
 have hcount:bitmap_Count_r fu ((5,(1,[224])),())=some (3,(0,())):=by
  have:=count_in hf (w:=5) (h:=1) (ds:=[224]) (fun d hd=>by rw [List.mem_singleton.1 hd];omega) (by decide +kernel);rw [this];refine congrArg (fun (x:Nat)=>some ((x:Int),((0:Int),()))) ?_;decide +kernel
 unfold top_sDots_r;rw [hA,bindO_some,hc,hc2];simp only;rw [hcount,bindO_some];rfl
theorem flat_r {n m:Nat} (hn:n≤2000) (hm:m≤2000) (v:Int):top_sFlat_r fu ((n:Int),((m:Int),(v,())))=some (((n:Int),((m:Int),List.replicate (n*m) v)),()):=by
 have hb:n*m≤2000*2000:=Nat.mul_le_mul hn hm
 have e1:IntKind.i64.wrap ((n:Int)*(m:Int))=((n*m:Nat):Int):=by
  rw [←Int.natCast_mul];generalize n*m=z at hb;exact s_wr (by omega) (by omega)
 generalize hz:n*m=z at e1 hb;unfold top_sFlat_r;simp only;rw [e1,bif_and (by omega) (by omega),Int.toNat_natCast];refine Rk.stLoop (n:=z) (by omega) (st:=fun t=>((t:Int),List.replicate t v++List.replicate (z-t) (0:Int))) rfl ?_ ?_
 ·intro j t ht;have hl:(List.replicate t v++List.replicate (z-t) (0:Int)).length=z:=by rw [List.length_append,List.length_replicate,List.length_replicate];omega
  unfold top_sFlat_l1;simp only;rw [e1,Int.toNat_natCast,List.length_replicate,hl,bif_pos (by omega),bif_and (by omega) (by omega),Int.toNat_natCast,s_wr (by omega) (by omega)];refine congrArg (fun l=>j (((t+1:Nat):Int),l)) ?_;refine List.ext_getElem (by rw [List.length_set,hl,List.length_append,List.length_replicate,List.length_replicate];omega) fun i h1 h2=>?_
  rw [List.length_set,hl] at h1;rw [List.getElem_set];by_cases e:t=i
  ·rw [if_pos e,List.getElem_append_left (by rw [List.length_replicate];omega),List.getElem_replicate]
  ·rw [if_neg e];by_cases c:i<t
   ·rw [List.getElem_append_left (by rw [List.length_replicate];omega),List.getElem_append_left (by rw [List.length_replicate];omega),List.getElem_replicate,List.getElem_replicate]
   ·rw [List.getElem_append_right (by rw [List.length_replicate];omega),List.getElem_append_right (by rw [List.length_replicate];omega),List.getElem_replicate,List.getElem_replicate]
 ·intro j;unfold top_sFlat_l1;simp only;rw [e1,Int.toNat_natCast,List.length_replicate,bif_neg (by omega),Nat.sub_self,List.replicate_zero,List.append_nil]
end
end Ik
end Go.Proofs.Ytljebnobajmjnaa
/- Residual programs of functions (printed by a program out of the code),checked by the kernel,and the contracts that follow. -/
namespace Go.Proofs.Ytljebnobajmjnaa
open Go Go.RowKit
set_option linter.unusedVariables false
noncomputable section
def top_TopDemichel_j8 (fu:Nat) (a:(Int×Int×Int)×(Int×Int×Int)×Int×Int×((Int×Int×Int)×(Int×Int×Int)×(Int×Int×Int)×Int×Int×Int)×Unit) (v2:Int) (v5:Int) (v13:Int) (v16:Int) (v32:(Int×Int×Int)×Int×Unit) (v33:Int) (v34:(Int×Int×Int)×Int×Unit) (v35:Int) (v36:Bool):Option (Bool×Unit) :=
 bif v36 then
  let v37:Bool:=(decide (v33=v35))
  some ((v37,()))
 else
 bif (decide ((IntKind.i64.wrap ((255:Int)*v13))≠(IntKind.i64.wrap ((IntKind.i64.wrap a.2.2.1)*v2)))) then
  some ((true,()))
 else
 bif (decide ((IntKind.i64.wrap ((255:Int)*v16))≠(IntKind.i64.wrap ((IntKind.i64.wrap a.2.2.2.1)*v5)))) then
  some ((true,()))
 else
 let v37:Bool:=((decide (v32.1.1=v34.1.1))&&((decide (v32.1.2.1=v34.1.2.1))&&(decide (v32.1.2.2=v34.1.2.2))))
 some ((v37,()))
def top_TopDemichel_j7 (fu:Nat) (a:(Int×Int×Int)×(Int×Int×Int)×Int×Int×((Int×Int×Int)×(Int×Int×Int)×(Int×Int×Int)×Int×Int×Int)×Unit) (v2:Int) (v5:Int) (v13:Int) (v16:Int) (v25:(Int×Int×List Int)×Int×Unit) (v31:Bool):Option (Bool×Unit) :=
 bif v31 then
  some ((false,()))
 else
 bif ((decide ((List.length ([a.2.2.2.2.1.1,a.2.2.2.2.1.2.1,a.2.2.2.2.1.2.2.1,a.2.2.2.2.1.2.2.2]:List (Int×Int×Int)):Int)=(4:Int)))&&(decide ((0:Int)≤(List.length ([a.2.2.2.2.1.1,a.2.2.2.2.1.2.1,a.2.2.2.2.1.2.2.1,a.2.2.2.2.1.2.2.2]:List (Int×Int×Int)):Int)))) then
 bindO (sheet_Mean_r fu ((v25.1,((List.drop (Int.toNat (0:Int)) (List.take (Int.toNat (List.length ([a.2.2.2.2.1.1,a.2.2.2.2.1.2.1,a.2.2.2.2.1.2.2.1,a.2.2.2.2.1.2.2.2]:List (Int×Int×Int)):Int)) ([a.2.2.2.2.1.1,a.2.2.2.2.1.2.1,a.2.2.2.2.1.2.2.1,a.2.2.2.2.1.2.2.2]:List (Int×Int×Int)))),())))) fun v32 =>
 let v33:Int:=v32.2.1
 bif ((decide ((List.length ([a.2.2.2.2.1.1,a.2.2.2.2.1.2.1,a.2.2.2.2.1.2.2.1,a.2.2.2.2.1.2.2.2]:List (Int×Int×Int)):Int)=(4:Int)))&&(decide ((0:Int)≤(List.length ([a.2.2.2.2.1.1,a.2.2.2.2.1.2.1,a.2.2.2.2.1.2.2.1,a.2.2.2.2.1.2.2.2]:List (Int×Int×Int)):Int)))) then
 bindO (overprint_Predict_r fu (((List.drop (Int.toNat (0:Int)) (List.take (Int.toNat (List.length ([a.2.2.2.2.1.1,a.2.2.2.2.1.2.1,a.2.2.2.2.1.2.2.1,a.2.2.2.2.1.2.2.2]:List (Int×Int×Int)):Int)) ([a.2.2.2.2.1.1,a.2.2.2.2.1.2.1,a.2.2.2.2.1.2.2.1,a.2.2.2.2.1.2.2.2]:List (Int×Int×Int)))),(([(IntKind.i64.wrap a.2.2.1),(IntKind.i64.wrap a.2.2.2.1)]:List Int),())))) fun v34 =>
 let v35:Int:=v34.2.1
 joinF (top_TopDemichel_j8 fu a v2 v5 v13 v16 v32 v33 v34 v35) fun j36 =>
 bif (decide (v33≠(0:Int))) then
  j36 (true)
 else
 j36 ((decide (v35≠(0:Int))))
 else none
 else none
def top_TopDemichel_j6 (fu:Nat) (a:(Int×Int×Int)×(Int×Int×Int)×Int×Int×((Int×Int×Int)×(Int×Int×Int)×(Int×Int×Int)×Int×Int×Int)×Unit) (v2:Int) (v5:Int) (v13:Int) (v16:Int) (v25:(Int×Int×List Int)×Int×Unit) (v28:List Int) (v30:Bool):Option (Bool×Unit) :=
 bif v30 then
  some ((false,()))
 else
 joinF (top_TopDemichel_j7 fu a v2 v5 v13 v16 v25) fun j31 =>
 bif (decide ((3:Int)<(List.length v28:Int))) then
 let v32:Int:=(List.getD v28 (Int.toNat (3:Int)) 0)
 bif (decide (v32≠(IntKind.i64.wrap (v13*v16)))) then
  j31 (true)
 else
 bif (decide ((1:Int)<(List.length v28:Int))) then
 let v33:Int:=(List.getD v28 (Int.toNat (1:Int)) 0)
 bif (decide (v33≠(IntKind.i64.wrap (v13*(IntKind.i64.wrap (v5-v16)))))) then
  j31 (true)
 else
 bif (decide ((2:Int)<(List.length v28:Int))) then
 let v34:Int:=(List.getD v28 (Int.toNat (2:Int)) 0)
 bif (decide (v34≠(IntKind.i64.wrap (v16*(IntKind.i64.wrap (v2-v13)))))) then
  j31 (true)
 else
 bif (decide ((0:Int)<(List.length v28:Int))) then
 let v35:Int:=(List.getD v28 (Int.toNat (0:Int)) 0)
 j31 ((decide (v35≠(IntKind.i64.wrap ((IntKind.i64.wrap (v2-v13))*(IntKind.i64.wrap (v5-v16)))))))
 else none
 else none
 else none
 else none
def top_TopDemichel_j5 (fu:Nat) (a:(Int×Int×Int)×(Int×Int×Int)×Int×Int×((Int×Int×Int)×(Int×Int×Int)×(Int×Int×Int)×Int×Int×Int)×Unit) (v2:Int) (v5:Int) (v10:(Int×Int×Int)×Int×Unit) (v13:Int) (v16:Int) (v19:Bool):Option (Bool×Unit) :=
 bif v19 then
  some ((true,()))
 else
 bindO (top_sFlat_r fu ((v10.1.1,(v10.1.2.2,(a.2.2.1,()))))) fun v20 =>
 bindO (top_sFlat_r fu ((v10.1.1,(v10.1.2.2,(a.2.2.2.1,()))))) fun v21 =>
 bindO (halftone_All_r fu ((([v20.1,v21.1]:List (Int×Int×List Int)),(([a.1,a.2.1]:List (Int×Int×Int)),())))) fun v22 =>
 let v23:List (Int×Int×List Int):=v22.1
 let v24:Int:=v22.2.1
 bindO (sheet_Print_r fu ((v23,(([(0:Int),(0:Int)]:List Int),(([((0:Int),(0:Int)),((0:Int),(0:Int))]:List (Int×Int)),()))))) fun v25 =>
 let v26:Int:=v25.2.1
 bindO (sheet_Counts_r fu ((v25.1,((2:Int),())))) fun v27 =>
 let v28:List Int:=v27.1
 let v29:Int:=v27.2.1
 joinF (top_TopDemichel_j6 fu a v2 v5 v13 v16 v25 v28) fun j30 =>
 bif (decide (v24≠(0:Int))) then
  j30 (true)
 else
 bif (decide (v26≠(0:Int))) then
  j30 (true)
 else
 bif (decide (v29≠(0:Int))) then
  j30 (true)
 else
 j30 ((decide ((List.length v28:Int)≠(4:Int))))
def top_TopDemichel_j4 (fu:Nat) (a:(Int×Int×Int)×(Int×Int×Int)×Int×Int×((Int×Int×Int)×(Int×Int×Int)×(Int×Int×Int)×Int×Int×Int)×Unit) (v2:Int) (v5:Int) (v10:(Int×Int×Int)×Int×Unit) (v13:Int) (v16:Int) (v18:Bool):Option (Bool×Unit) :=
 bif v18 then
  some ((false,()))
 else
 joinF (top_TopDemichel_j5 fu a v2 v5 v10 v13 v16) fun j19 =>
 bif (decide ((1024:Int)<v10.1.1)) then
  j19 (true)
 else
 j19 ((decide ((1024:Int)<v10.1.2.2)))
def top_TopDemichel_j3 (fu:Nat) (a:(Int×Int×Int)×(Int×Int×Int)×Int×Int×((Int×Int×Int)×(Int×Int×Int)×(Int×Int×Int)×Int×Int×Int)×Unit) (v2:Int) (v5:Int) (v9:Bool):Option (Bool×Unit) :=
 bif v9 then
  some ((true,()))
 else
 bindO (screen_Common_r fu ((a.1,(a.2.1,())))) fun v10 =>
 let v11:Int:=v10.2.1
 bindO (screen_Dots_r fu ((a.1,((IntKind.i64.wrap a.2.2.1),())))) fun v12 =>
 let v13:Int:=v12.1
 let v14:Int:=v12.2.1
 bindO (screen_Dots_r fu ((a.2.1,((IntKind.i64.wrap a.2.2.2.1),())))) fun v15 =>
 let v16:Int:=v15.1
 let v17:Int:=v15.2.1
 joinF (top_TopDemichel_j4 fu a v2 v5 v10 v13 v16) fun j18 =>
 bif (decide (v11≠(0:Int))) then
  j18 (true)
 else
 bif (decide (v14≠(0:Int))) then
  j18 (true)
 else
 bif (decide (v17≠(0:Int))) then
  j18 (true)
 else
 bif (decide (v10.1.1<(1:Int))) then
  j18 (true)
 else
 bif (decide (v10.1.2.2<(1:Int))) then
  j18 (true)
 else
 j18 ((decide ((IntKind.i64.wrap (v10.1.1*v10.1.2.2))≠(IntKind.i64.wrap (v2*v5)))))
def top_TopDemichel_l2 (fu:Nat) (a:(Int×Int×Int)×(Int×Int×Int)×Int×Int×((Int×Int×Int)×(Int×Int×Int)×(Int×Int×Int)×Int×Int×Int)×Unit) (v2:Int) (v5:Int) (j8:(Int×Int)→Option (Bool×Unit)) (v8:Int×Int):Option (Bool×Unit) :=
 bif (decide ((0:Int)<v8.2)) then
  bif (decide (v8.2≠(0:Int))) then
  let v9:Int:=v8.2
  let v10:Int:=(Int.tmod v8.1 v8.2)
  j8 ((v9,v10))
  else none
 else
 joinF (top_TopDemichel_j3 fu a v2 v5) fun j9 =>
 bif (decide (v8.1≠(1:Int))) then
  j9 (true)
 else
 j9 ((decide ((2000:Int)<(IntKind.i64.wrap (v2*v5)))))
def top_TopDemichel_j1 (fu:Nat) (a:(Int×Int×Int)×(Int×Int×Int)×Int×Int×((Int×Int×Int)×(Int×Int×Int)×(Int×Int×Int)×Int×Int×Int)×Unit) (v2:Int) (v5:Int) (v7:Bool):Option (Bool×Unit) :=
 bif v7 then
  let v8:Bool:=(decide ((IntKind.i64.wrap (v2*v5))=(0:Int)))
  some ((v8,()))
 else
 loopF (top_TopDemichel_l2 fu a v2 v5) fu ((v2,v5))
def top_TopDemichel_r (fu:Nat) (a:(Int×Int×Int)×(Int×Int×Int)×Int×Int×((Int×Int×Int)×(Int×Int×Int)×(Int×Int×Int)×Int×Int×Int)×Unit):Option (Bool×Unit) :=
 bindO (top_sDots_r fu (())) fun v0 =>
 bif (!v0.1) then
  some ((false,()))
 else
 bindO (screen_Area_r fu ((a.1,()))) fun v1 =>
 let v2:Int:=v1.1
 let v3:Int:=v1.2.1
 bindO (screen_Area_r fu ((a.2.1,()))) fun v4 =>
 let v5:Int:=v4.1
 let v6:Int:=v4.2.1
 joinF (top_TopDemichel_j1 fu a v2 v5) fun j7 =>
 bif (decide (v3≠(0:Int))) then
  j7 (true)
 else
 j7 ((decide (v6≠(0:Int))))
def top_TopDemichel_an:An:=(.n none .z (.n none (.n none .z (.n none (.n none .z .z) .z)) (.n none .z (.n none .z (.n none (.n (some ⟨[13,3,11,2,9,6,5],[0,1,2],[],[.reg 50 .bool],0,[]⟩) .z (.n none (.n none .z .z) .z)) (.n none .z (.n none (.n none (.n (some ⟨[13,3,11,2,9,6,5],[0,1,2],[],[.reg 15 (.int .i64),.reg 16 (.int .i64)],0,[]⟩) (.n none (.n none .z .z) (.n none (.dr [] []) .z)) .z) .z) (.n none (.n (some ⟨[5,6,9,2,11,3,13],[0,1,2],[],[.reg 70 .bool],0,[]⟩) .z (.n none (.n none .z .z) .z)) (.n none .z (.n none .z (.n none .z (.n none (.n (some ⟨[17,5,6,9,19,2,11,21,3,13],[2,1,0,3],[],[.reg 121 .bool],0,[]⟩) .z (.n none (.n none .z .z) .z)) (.n none (.n (some ⟨[17,5,6,9,19,2,11,21,3,13],[2,1,0,3],[],[.reg 129 .bool],0,[]⟩) .z (.n none (.n none .z .z) .z)) (.n none (.dr [] []) (.n none .z (.n none .z (.n none (.n (some ⟨[27,25,9,19,2,11,21,3,13],[2,1,0,3,4,5,6,7,8],[],[.reg 178 .bool],0,[]⟩) .z (.n none (.n none .z .z) .z)) (.n none (.n (some ⟨[25,9,19,2,11,21,3,13],[2,8],[],[.reg 220 .bool],0,[]⟩) .z (.n none (.n none .z .z) .z)) (.n none (.dr [] []) (.n none .z (.n none (.n (some ⟨[32,30,19,2,11,21,3,13,29,31],[8,9,2,10,11],[],[.reg 242 .bool],0,[]⟩) .z (.n none (.n none .z .z) .z)) (.n none .z .z))))))))))))))))))))))
noncomputable def top_TopDemichel_dc:List (Nat×Ctr):=[(4,top_sDots_ctr),(5,screen_Area_ctr),(6,screen_Common_ctr),(7,screen_Dots_ctr),(8,halftone_All_ctr),(9,top_sFlat_ctr),(10,sheet_Print_ctr),(11,sheet_Counts_ctr),(12,sheet_Mean_ctr),(13,overprint_Predict_ctr)]
def top_TopDemichel_ctr:Ctr:=⟨(.pair (.agg (.pair (.int .i64) (.pair (.int .i64) (.int .i64)))) (.pair (.agg (.pair (.int .i64) (.pair (.int .i64) (.int .i64)))) (.pair (.int .u8) (.pair (.int .u8) (.pair (.agg (.pair (.pair (.int .i64) (.pair (.int .i64) (.int .i64))) (.pair (.pair (.int .i64) (.pair (.int .i64) (.int .i64))) (.pair (.pair (.int .i64) (.pair (.int .i64) (.int .i64))) (.pair (.int .i64) (.pair (.int .i64) (.int .i64))))))) .unit))))),(.pair .bool .unit),top_TopDemichel_r,3⟩
theorem top_TopDemichel_ok:CtrOk Try.prog 3 top_TopDemichel_ctr:=ctr_ok (l:=top_TopDemichel_dc) (f:=12) (an:=top_TopDemichel_an) ⟨top_sDots_ok,⟨screen_Area_ok,⟨screen_Common_ok,⟨screen_Dots_ok,⟨halftone_All_ok,⟨top_sFlat_ok,⟨sheet_Print_ok,⟨sheet_Counts_ok,⟨sheet_Mean_ok,⟨overprint_Predict_ok,trivial⟩⟩⟩⟩⟩⟩⟩⟩⟩⟩ fun fu x=>by kernel_rfl
end
end Go.Proofs.Ytljebnobajmjnaa
/- TopDemichel: the parts of the law. -/
set_option maxRecDepth 100000
namespace Go.Proofs.Ytljebnobajmjnaa
open Go Go.RowKit
set_option linter.unusedSimpArgs false
set_option linter.unusedSectionVars false
set_option linter.unusedVariables false
namespace Dm
open Sc Rk Ht Ik
section
variable {fu:Nat} (hf:18446744073709551616≤fu)
include hf
omit hf in
theorem sq_ok {A B:Int} (ok:ScrOk A B):IntKind.i64.wrap (IntKind.i64.wrap (A*A)+IntKind.i64.wrap (B*B))=A*A+B*B:=by
 have n1:=ok.n1;have:=Int.mul_nonneg ok.a0 ok.a0;have:=Int.mul_nonneg ok.b0 ok.b0;rw [s_wr (x:=A*A) (by omega) (by omega),s_wr (x:=B*B) (by omega) (by omega),s_wr (by omega) (by omega)]
omit hf in
theorem area_ok {A B K:Int} (h:scE A B K=0):screen_Area_r fu ((A,(B,K)),())=some (A*A+B*B,(0,())):=by
 unfold screen_Area_r;rw [Sc.check_r,bindO_some];simp only;rw [bif_neg (fun g=>g h),sq_ok (scE_ok h)]
omit hf in
theorem area_no {A B K:Int} (h:scE A B K≠0):screen_Area_r fu ((A,(B,K)),())=some (0,(scE A B K,())):=by
 unfold screen_Area_r;rw [Sc.check_r,bindO_some];simp only;rw [bif_pos h]
omit hf in
theorem dots_s {A B K v:Int} {n:Nat} (h:scE A B K=0) (hn:A*A+B*B=(n:Int)) (v0:0≤v) (v1:v≤255):∃ d:Nat,screen_Dots_r fu ((A,(B,K)),(v,()))=some ((d:Int),(0,()))∧dots (n:Int) v=(d:Int)∧d≤n:=by
 have ok:=scE_ok h;have n1:=ok.n1;have h1:v*(n:Int)≤255*(n:Int):=Int.mul_le_mul_of_nonneg_right v1 (by omega);have h2:0≤v*(n:Int):=Int.mul_nonneg v0 (by omega)
 obtain ⟨d,hd⟩:∃ d:Nat,rnd (v*(n:Int)) 255=(d:Int):=Int.eq_ofNat_of_zero_le (by
  unfold rnd
  exact Int.ediv_nonneg (by omega) (by decide))
 refine ⟨d,?_,hd,?_⟩
 ·unfold screen_Dots_r screen_Dots_j1;simp only [joinF_eq];rw [Sc.check_r,bindO_some];simp only;rw [bif_neg (fun g=>g h),bif_neg (by omega),decide_eq_false (by omega),cond_false,sq_ok ok,hn,s_wr (x:=v*(n:Int)) (by omega) (by omega),nearest_s fu (by omega) (by omega) (by omega) (by omega),bindO_some,hd]
 ·unfold rnd at hd;generalize v*(n:Int)=z at *
  omega
theorem gcd_loop {a:(Int×Int×Int)×(Int×Int×Int)×Int×Int×((Int×Int×Int)×(Int×Int×Int)×(Int×Int×Int)×Int×Int×Int)×Unit} {m n:Nat} (hn:n≤400) :
  loopF (top_TopDemichel_l2 fu a (m:Int) (n:Int)) fu ((m:Int),(n:Int))=bif decide ((Nat.gcd m n:Int)≠1) then top_TopDemichel_j3 fu a m n true else top_TopDemichel_j3 fu a m n (decide ((2000:Int)<IntKind.i64.wrap ((m:Int)*(n:Int)))):=by
 refine postLoop (f:=top_TopDemichel_l2 fu a (m:Int) (n:Int)) (fun s=>s.2.toNat) (fun s=>∃ x y:Nat,s=((x:Int),(y:Int))∧Nat.gcd x y=Nat.gcd m n) (fun r=>r=bif decide ((Nat.gcd m n:Int)≠1) then top_TopDemichel_j3 fu a m n true else top_TopDemichel_j3 fu a m n (decide ((2000:Int)<IntKind.i64.wrap ((m:Int)*(n:Int))))) ?_ fu _ ⟨m,n,rfl,rfl⟩ (by simp only [Int.toNat_natCast];omega)
 rintro j _ ⟨x,y,rfl,h⟩
 by_cases hy:0<y
 ·left
  refine ⟨((y:Int),((x % y:Nat):Int)),⟨y,x % y,rfl,?_⟩,?_,?_⟩
  ·rw [←h,Nat.gcd_comm y,←Nat.gcd_rec,Nat.gcd_comm]
  ·simp only [Int.toNat_natCast];exact Nat.mod_lt _ hy
  ·unfold top_TopDemichel_l2;simp only;rw [bif_pos (by omega),bif_pos (by omega),Int.tmod_eq_emod_of_nonneg (by omega),Int.natCast_emod]
 ·right
  obtain rfl:y=0:=by omega
  rw [Nat.gcd_zero_right] at h;unfold top_TopDemichel_l2;simp only [joinF_eq];rw [bif_neg (by omega),h]
theorem all_s {p q b c:Int×Int×List Int} {s t:Int×Int×Int} (h1:halftone_Apply_r fu (p,(s,()))=some (b,(0,()))) (h2:halftone_Apply_r fu (q,(t,()))=some (c,(0,()))):halftone_All_r fu ([p,q],([s,t],()))=some ([b,c],(0,())):=by
 have hl:([p,q]:List (Int×Int×List Int)).length=2:=rfl;have hl2:([s,t]:List (Int×Int×Int)).length=2:=rfl;unfold halftone_All_r;simp only;rw [hl,hl2,bif_neg (by omega),bif_neg (fun g=>g rfl),bif_and (by omega) (by omega)]
 have st0:∀ j,halftone_All_l1 fu ([p,q],([s,t],())) j ((0:Int),List.replicate (Int.toNat ((2:Nat):Int)) ((0:Int),((0:Int),([]:List Int))))=j ((1:Int),[b,((0:Int),((0:Int),([]:List Int)))]):=fun j=>by
  unfold halftone_All_l1;simp only;rw [hl,hl2,bif_pos (by omega),bif_and (by omega) (by omega),bif_and (by omega) (by omega)];show (bindO (halftone_Apply_r fu (p,(s,()))) _)=_;rw [h1,bindO_some];simp only;rw [List.length_replicate,bif_and (by omega) (by omega),bif_neg (fun g=>g rfl),s_wr (by omega) (by omega)];rfl
 have st1:∀ j,halftone_All_l1 fu ([p,q],([s,t],())) j ((1:Int),[b,((0:Int),((0:Int),([]:List Int)))])=j ((2:Int),[b,c]):=fun j=>by
  have hl3:([b,((0:Int),((0:Int),([]:List Int)))]:List (Int×Int×List Int)).length=2:=rfl;unfold halftone_All_l1;simp only;rw [hl,hl2,bif_pos (by omega),bif_and (by omega) (by omega),bif_and (by omega) (by omega)];show (bindO (halftone_Apply_r fu (q,(t,()))) _)=_;rw [h2,bindO_some];simp only;rw [hl3,bif_and (by omega) (by omega),bif_neg (fun g=>g rfl),s_wr (by omega) (by omega)];rfl
 rw [loopF_un (by omega),st0,loopF_un (by omega),st1,loopF_un (by omega)];unfold halftone_All_l1;simp only;rw [hl,bif_neg (by omega)]
omit hf in
theorem pS_4 (c:Nat→Int) (g:Nat→Int):pS c g 4=((c 0*g 0+c 1*g 1)+c 2*g 2)+c 3*g 3:=by
 show ((((0:Int)+c 0*g 0)+c 1*g 1)+c 2*g 2)+c 3*g 3=_;rw [Int.zero_add]
omit hf in
theorem Mv_3 (W:Nat) (P Q:Int→Int→Bool) (i:Int):bn (decide (Mv W P Q i=3))=bn (P (i % W) (i / W))*bn (Q (i % W) (i / W)):=by
 unfold Mv Rv
 cases P (i % W) (i / W) <;> cases Q (i % W) (i / W) <;> decide
omit hf in
theorem Mv_1 (W:Nat) (P Q:Int→Int→Bool) (i:Int):bn (decide (Mv W P Q i=1))=bn (P (i % W) (i / W))*(1-bn (Q (i % W) (i / W))):=by
 unfold Mv Rv
 cases P (i % W) (i / W) <;> cases Q (i % W) (i / W) <;> decide
omit hf in
theorem Mv_2 (W:Nat) (P Q:Int→Int→Bool) (i:Int):bn (decide (Mv W P Q i=2))=(1-bn (P (i % W) (i / W)))*bn (Q (i % W) (i / W)):=by
 unfold Mv Rv
 cases P (i % W) (i / W) <;> cases Q (i % W) (i / W) <;> decide
omit hf in
theorem Mv_0 (W:Nat) (P Q:Int→Int→Bool) (i:Int):bn (decide (Mv W P Q i=0))=(1-bn (P (i % W) (i / W)))*(1-bn (Q (i % W) (i / W))):=by
 unfold Mv Rv
 cases P (i % W) (i / W) <;> cases Q (i % W) (i / W) <;> decide
omit hf in
theorem Mv_in (W:Nat) (P Q:Int→Int→Bool) (i:Int):Mv W P Q i=0∨Mv W P Q i=1∨Mv W P Q i=2∨Mv W P Q i=3:=by
 unfold Mv Rv
 cases P (i % W) (i / W) <;> cases Q (i % W) (i / W) <;> decide
omit hf in
theorem bn_le (b:Bool):bn b≤1:=by cases b <;> decide
omit hf in
theorem cnts {N G N' G':Nat} {S S':Int} (hN:0<N) (hN':0<N') (hG:0<G) (hG':0<G') (cN:Nat.Coprime N N') (cG:Nat.Coprime G G') {ρ σ:Nat→Nat} {d k:Nat}
  (r1:∀ i,i<G*N→ρ i<G*N) (r2:∀ i j,i<G*N→j<G*N→ρ i=ρ j→i=j) (s1:∀ i,i<G'*N'→σ i<G'*N') (s2:∀ i j,i<G'*N'→j<G'*N'→σ i=σ j→i=j) (hd:d≤G*N) (hk:k≤G'*N')
  {P Q:Int→Int→Bool} (hP:P=fun x y=>decide (ρ (pl N S G x y).toNat<d)) (hQ:Q=fun x y=>decide (σ (pl N' S' G' x y).toNat<k)) :
  cnt (Mv (N*N') P Q) 3 ((N*N')*(G*G'))=d*k∧cnt (Mv (N*N') P Q) 1 ((N*N')*(G*G'))=d*(G'*N'-k)∧cnt (Mv (N*N') P Q) 2 ((N*N')*(G*G'))=(G*N-d)*k∧cnt (Mv (N*N') P Q) 0 ((N*N')*(G*G'))=(G*N-d)*(G'*N'-k):=by
 have e1:=exact_d r1 r2 hd;have e2:=exact_d s1 s2 hk;have c1:=(compl (f:=fun i=>bn (decide (ρ i<d))) (fun i=>bn_le _) (G*N)).1;have c2:=(compl (f:=fun i=>bn (decide (σ i<k))) (fun i=>bn_le _) (G'*N')).1;rw [e1] at c1;rw [e2] at c2;subst hP hQ;unfold cnt;refine ⟨?_,?_,?_,?_⟩
 ·rw [sumN_congr fun i _=>Mv_3 _ _ _ _];refine (pairs hN hN' hG hG' cN cG (S:=S) (S':=S') (fun i=>bn (decide (ρ i<d))) (fun i=>bn (decide (σ i<k)))).trans ?_;rw [e1,e2]
 ·rw [sumN_congr fun i _=>Mv_1 _ _ _ _];refine (pairs hN hN' hG hG' cN cG (S:=S) (S':=S') (fun i=>bn (decide (ρ i<d))) (fun i=>1-bn (decide (σ i<k)))).trans ?_;rw [e1,c2]
 ·rw [sumN_congr fun i _=>Mv_2 _ _ _ _];refine (pairs hN hN' hG hG' cN cG (S:=S) (S':=S') (fun i=>1-bn (decide (ρ i<d))) (fun i=>bn (decide (σ i<k)))).trans ?_;rw [c1,e2]
 ·rw [sumN_congr fun i _=>Mv_0 _ _ _ _];refine (pairs hN hN' hG hG' cN cG (S:=S) (S':=S') (fun i=>1-bn (decide (ρ i<d))) (fun i=>1-bn (decide (σ i<k)))).trans ?_;rw [c1,c2]
theorem plate_s {A B K:Int} {W H n d:Nat} {N S G v:Int} {O:List Nat} {L:List Int} (hW:1≤W∧W≤1024) (hH:1≤H∧H≤1024) (hS:scE A B K=0) (f:FormOk A B N S G) (hN:N≤400) (hG:G≤400) (hAB:A*A+B*B=(n:Int)) (hO:screen_Of_r fu ((A,(B,K)),())=some ((N,(S,G)),()))
  (h:Ord n O) (hR:screen_Ranks_r fu ((A,(B,K)),())=some (L,())) (hL:L.length=n) (hg:∀ i,i<n→L.getD i 0=(O.idxOf i:Int)) (v0:0≤v) (v1:v≤255) (hd:dots (n:Int) v=(d:Int)) :
  halftone_Apply_r fu (((W:Int),((H:Int),List.replicate (W*H) v)),((A,(B,K)),()))=some (((W:Int),((H:Int),canon W H (fun x y=>decide (O.idxOf (pl N S G x y).toNat<d)))),(0,())):=by
 have hlen:((List.replicate (W*H) v).length:Int)=(W:Int)*(H:Int):=by rw [List.length_replicate,Int.natCast_mul]
 have hb:Bytes (List.replicate (W*H) v):=fun d hd=>by rw [List.eq_of_mem_replicate hd];exact ⟨v0,v1⟩
 rw [apply_r hf (w:=(W:Int)) (h:=(H:Int)) (A:=A) (B:=B) (K:=K) (ds:=List.replicate (W*H) v) (by omega) (by omega) hlen hb hS (scE_ok hS) f hN hG (by rw [hL,hAB]) hO hR];refine congrArg (fun z=>some (((W:Int),((H:Int),z)),((0:Int),()))) (canon_congr (by omega) fun x y x0 x1 y0 y1=>?_);obtain ⟨x,rfl⟩:=Int.eq_ofNat_of_zero_le x0;obtain ⟨y,rfl⟩:=Int.eq_ofNat_of_zero_le y0
 have hi:y*W+x<W*H:=by
  have:(y+1)*W≤H*W:=Nat.mul_le_mul_right _ (by omega);rw [Nat.mul_comm H W,Nat.succ_mul] at this;omega
 obtain ⟨p0,p1⟩:=pl_bd hf f (by rw [hL,hAB]) (x:Int) (y:Int);unfold prt;rw [show ((y:Int)*(W:Int)+(x:Int)).toNat=y*W+x by rw [←Int.natCast_mul];omega,show (List.replicate (W*H) v).getD (y*W+x) 0=v by rw [List.getD_eq_getElem?_getD,List.getElem?_replicate,if_pos hi];rfl,hL,hd,hg _ (by omega)];refine decide_eq_decide.2 ?_;omega
end
end Dm
end Go.Proofs.Ytljebnobajmjnaa
/- TopDemichel: the law in plain words. -/
set_option maxRecDepth 100000
namespace Go.Proofs.Ytljebnobajmjnaa
open Go Go.RowKit
set_option linter.unusedSimpArgs false
set_option linter.unusedSectionVars false
set_option linter.unusedVariables false
namespace Dm
open Sc Rk Ht Ik
section
variable {fu:Nat} (hf:18446744073709551616≤fu)
include hf
theorem fin_law {s0 s1 s2 s3:LabT'} {sc1 sc2:Int×Int×Int} {a b:Int} (ha:0≤a∧a≤255) (hb:0≤b∧b≤255) {W H m n d k:Nat} (hW:1≤W∧W≤1024) (hH:1≤H∧H≤1024) (hm:m≤400) (hn:n≤400) (hd:d≤m) (hk:k≤n) (hWH:W*H=m*n) {M:Int→Int} (hM:∀ i,M i=0∨M i=1∨M i=2∨M i=3)
  (k3:cnt M 3 (W*H)=d*k) (k1:cnt M 1 (W*H)=d*(n-k)) (k2:cnt M 2 (W*H)=(m-d)*k) (k0:cnt M 0 (W*H)=(m-d)*(n-k)) :
  top_TopDemichel_j7 fu (sc1,(sc2,(a,(b,((s0,(s1,(s2,s3))),()))))) m n d k (((W:Int),((H:Int),tabL (W*H) M)),(0,())) false=some (true,()):=by
 obtain ⟨M1,M2⟩:=mean_r hf (s0:=s0) (s1:=s1) (s2:=s2) (s3:=s3) hW hH hM;obtain ⟨P1,P2⟩:=predict_r hf (s0:=s0) (s1:=s1) (s2:=s2) (s3:=s3) ha hb;have hl4:([s0,s1,s2,s3]:List LabT').length=4:=rfl;have e4:List.drop (Int.toNat (0:Int)) (List.take (Int.toNat ((4:Nat):Int)) ([s0,s1,s2,s3]:List LabT'))=[s0,s1,s2,s3]:=rfl;have hm1:1*1≤m*n:=by rw [←hWH];exact Nat.mul_le_mul hW.1 hH.1
 unfold top_TopDemichel_j7;simp only [cond_false,joinF_eq];rw [hl4,bif_and (by omega) (by omega),e4,s_wr (x:=a) (by omega) (by omega),s_wr (x:=b) (by omega) (by omega)];by_cases h:ok4 s0 s1 s2 s3
 ·rw [M1 h,bindO_some,bif_and (by omega) (by omega),P1 h,bindO_some];simp only;rw [bif_neg (fun g=>g rfl),decide_eq_false (fun g=>g rfl)];unfold top_TopDemichel_j8;simp only [cond_false];have b1:a*(m:Int)≤255*(m:Int):=Int.mul_le_mul_of_nonneg_right ha.2 (by omega);have b2:b*(n:Int)≤255*(n:Int):=Int.mul_le_mul_of_nonneg_right hb.2 (by omega);have b3:0≤a*(m:Int):=Int.mul_nonneg ha.1 (by omega);have b4:0≤b*(n:Int):=Int.mul_nonneg hb.1 (by omega);rw [s_wr (x:=a) (by omega) (by omega),s_wr (x:=b) (by omega) (by omega),s_wr (x:=a*(m:Int)) (by omega) (by omega),s_wr (x:=b*(n:Int)) (by omega) (by omega),s_wr (x:=(255:Int)*(d:Int)) (by omega) (by omega),s_wr (x:=(255:Int)*(k:Int)) (by omega) (by omega)];by_cases h1:(255:Int)*(d:Int)=a*(m:Int)
  rotate_left
  ·rw [bif_pos h1]
  by_cases h2:(255:Int)*(k:Int)=b*(n:Int)
  rotate_left
  ·rw [bif_neg (fun g=>g h1),bif_pos h2]
  rw [bif_neg (fun g=>g h1),bif_neg (fun g=>g h2)]
  have key:∀ g:Nat→Int,rnd (pS (fun k=>(cnt M (k:Int) (W*H):Int)) g 4) ((W*H:Nat):Int)=rnd (pS (c4 ((255-a)*(255-b)) (a*(255-b)) ((255-a)*b) (a*b)) g 4) 65025:=fun g=>by
   refine rnd_eq (by omega) ?_;rw [pS_4,pS_4]
   have q0:((cnt M ((0:Nat):Int) (W*H):Nat):Int)=((m:Int)-d)*((n:Int)-k):=by
    show ((cnt M 0 (W*H):Nat):Int)=_;rw [k0,Int.natCast_mul,Int.ofNat_sub hd,Int.ofNat_sub hk]
   have q1:((cnt M ((1:Nat):Int) (W*H):Nat):Int)=(d:Int)*((n:Int)-k):=by
    show ((cnt M 1 (W*H):Nat):Int)=_;rw [k1,Int.natCast_mul,Int.ofNat_sub hk]
   have q2:((cnt M ((2:Nat):Int) (W*H):Nat):Int)=(k:Int)*((m:Int)-d):=by
    show ((cnt M 2 (W*H):Nat):Int)=_;rw [k2,Int.natCast_mul,Int.ofNat_sub hd,Int.mul_comm]
   have q3:((cnt M ((3:Nat):Int) (W*H):Nat):Int)=(d:Int)*(k:Int):=by
    show ((cnt M 3 (W*H):Nat):Int)=_;rw [k3,Int.natCast_mul]
   rw [q0,q1,q2,q3,hWH,Int.natCast_mul];exact shares4 h1 h2
  rw [key,key,key,decide_eq_true rfl,decide_eq_true rfl,decide_eq_true rfl];rfl
 ·rw [M2 h,bindO_some,bif_and (by omega) (by omega),P2 h,bindO_some];rfl
theorem law {A B K A' B' K' a b:Int} (ha:0≤a∧a≤255) (hb:0≤b∧b≤255) (s0 s1 s2 s3:LabT') :
  top_TopDemichel_r fu ((A,(B,K)),((A',(B',K')),(a,(b,((s0,(s1,(s2,s3))),())))))=some (true,()):=by
 have wa:IntKind.i64.wrap a=a:=s_wr (by omega) (by omega);have wb:IntKind.i64.wrap b=b:=s_wr (by omega) (by omega);unfold top_TopDemichel_r;rw [dots_true hf,bindO_some];simp only [Bool.not_true,cond_false,joinF_eq];by_cases hS:scE A B K=0
 rotate_left
 ·rw [area_no hS,bindO_some];simp only
  have:∀ z:Int,top_TopDemichel_j1 fu ((A,(B,K)),((A',(B',K')),(a,(b,((s0,(s1,(s2,s3))),()))))) 0 z true=some (true,()):=fun z=>by
   unfold top_TopDemichel_j1;simp only [cond_true];rw [Int.zero_mul,s_wr (by omega) (by omega)];rfl
  by_cases hS':scE A' B' K'=0
  ·rw [area_ok hS',bindO_some];simp only;rw [bif_pos hS,this]
  ·rw [area_no hS',bindO_some];simp only;rw [bif_pos hS,this]
 rw [area_ok hS,bindO_some];simp only;by_cases hS':scE A' B' K'=0
 rotate_left
 ·rw [area_no hS',bindO_some];simp only;rw [bif_neg (fun g=>g rfl),decide_eq_true hS'];unfold top_TopDemichel_j1;simp only [cond_true];rw [Int.mul_zero,s_wr (by omega) (by omega)];rfl
 rw [area_ok hS',bindO_some];simp only;rw [bif_neg (fun g=>g rfl),decide_eq_false (fun g=>g rfl)];have ok:=scE_ok hS;have ok':=scE_ok hS';have n1:=ok.n1;have n1':=ok'.n1;have n0:=ok.n0;have n0':=ok'.n0;obtain ⟨N,S,G,m,O,L,hO,f,hN4,hG4,hm,h,hR,hL,hg,-⟩:=ranks_o hf ok K;obtain ⟨N',S',G',n,O',L',hO',f',hN4',hG4',hn,h',hR',hL',hg',-⟩:=ranks_o hf ok' K';obtain ⟨d,hD,hd,hdm⟩:=dots_s (fu:=fu) hS hm ha.1 ha.2;obtain ⟨k,hE,hk,hkn⟩:=dots_s (fu:=fu) hS' hn hb.1 hb.2;rw [hm,hn];unfold top_TopDemichel_j1;simp only [cond_false];rw [gcd_loop hf (by omega)];by_cases hgcd:Nat.gcd m n=1
 rotate_left
 ·rw [bif_pos (by omega)];rfl
 rw [bif_neg (by omega)];have hmn:m*n≤400*400:=Nat.mul_le_mul (by omega) (by omega);have wmn:IntKind.i64.wrap ((m:Int)*(n:Int))=((m*n:Nat):Int):=by rw [←Int.natCast_mul,s_wr (by omega) (by omega)]
 rw [wmn];by_cases hbig:(2000:Int)<((m*n:Nat):Int)
 ·rw [decide_eq_true hbig];rfl
 rw [decide_eq_false hbig];obtain ⟨W',Z,H',hC,C,hW',hH'⟩:=common_r hf ok ok' K K' hS hS'

 have fN:=f.n0;have fG:=f.g0;have fN':=f'.n0;have fG':=f'.g0;obtain ⟨N,rfl⟩:=Int.eq_ofNat_of_zero_le (show 0≤N by omega);obtain ⟨G,rfl⟩:=Int.eq_ofNat_of_zero_le (show 0≤G by omega);obtain ⟨N',rfl⟩:=Int.eq_ofNat_of_zero_le (show 0≤N' by omega);obtain ⟨G',rfl⟩:=Int.eq_ofNat_of_zero_le (show 0≤G' by omega);have hmG:m=G*N:=by have:=f.mul;rw [hm,←Int.natCast_mul] at this;omega
 have hnG:n=G'*N':=by have:=f'.mul;rw [hn,←Int.natCast_mul] at this;omega
 have cmn:Nat.Coprime (G*N) (G'*N'):=by rw [←hmG,←hnG];exact hgcd
 have cN:Nat.Coprime N N':=(cmn.coprime_dvd_left (Nat.dvd_mul_left _ _)).coprime_dvd_right (Nat.dvd_mul_left _ _);have cG:Nat.Coprime G G':=(cmn.coprime_dvd_left (Nat.dvd_mul_right _ _)).coprime_dvd_right (Nat.dvd_mul_right _ _)
 have toI:∀ {x y:Nat},Nat.Coprime x y→∀ e:Int,e ∣ (x:Int)→e ∣ (y:Int)→e ∣ 1:=fun {x y} c e h1 h2=>by
  have:=Int.dvd_coe_gcd h1 h2;rw [Int.gcd_natCast_natCast,c] at this;exact this
 obtain ⟨hWn,hHn⟩:=dims hf f f' hN4 hN4' hG4 hG4' (toI cN) (toI cG) C;obtain ⟨W,hWe⟩:∃ W:Nat,W=N*N':=⟨_,rfl⟩;obtain ⟨H,hHe⟩:∃ H:Nat,H=G*G':=⟨_,rfl⟩;obtain rfl:W'=(W:Int):=by rw [hWn,hWe,Int.natCast_mul]
 obtain rfl:H'=(H:Int):=by rw [hHn,hHe,Int.natCast_mul]
 have w0:=C.w0;have h0:=C.h0;have hWH:W*H=m*n:=by rw [hWe,hHe,hmG,hnG];simp only [Nat.mul_comm,Nat.mul_left_comm,Nat.mul_assoc]
 have wWH:IntKind.i64.wrap ((W:Int)*(H:Int))=((m*n:Nat):Int):=by rw [←Int.natCast_mul,hWH,s_wr (by omega) (by omega)]
 unfold top_TopDemichel_j3;simp only [cond_false,joinF_eq];rw [hC,bindO_some,wa,hD,bindO_some,wb,hE,bindO_some];simp only;rw [bif_neg (fun g=>g rfl),bif_neg (fun g=>g rfl),bif_neg (fun g=>g rfl),bif_neg (by omega),bif_neg (by omega),wWH,wmn,decide_eq_false (fun g=>g rfl)];unfold top_TopDemichel_j4;simp only [cond_false,joinF_eq];by_cases hW4:(1024:Int)<(W:Int)
 ·rw [bif_pos hW4];rfl
 rw [bif_neg hW4];by_cases hH4:(1024:Int)<(H:Int)
 ·rw [decide_eq_true hH4];rfl
 rw [decide_eq_false hH4];have hW2:1≤W∧W≤1024:=by omega
 have hH2:1≤H∧H≤1024:=by omega
 unfold top_TopDemichel_j5;simp only [cond_false,joinF_eq];rw [flat_r hf (by omega) (by omega),bindO_some,flat_r hf (by omega) (by omega),bindO_some];simp only;have hA1:=plate_s hf hW2 hH2 hS f (by omega) (by omega) hm hO h hR hL hg ha.1 ha.2 hd;have hA2:=plate_s hf hW2 hH2 hS' f' (by omega) (by omega) hn hO' h' hR' hL' hg' hb.1 hb.2 hk;rw [all_s hf hA1 hA2,bindO_some];simp only;rw [print_r hf hW2 hH2,bindO_some];simp only;rw [counts_r hf hW2 hH2 (Mv_in _ _ _),bindO_some];simp only;have hc:=cnts (ρ:=fun i=>O.idxOf i) (σ:=fun i=>O'.idxOf i) (d:=d) (k:=k) (S:=S) (S':=S') (by omega) (by omega) (by omega) (by omega) cN cG (by rw [←hmG];exact fun i hi=>h.idx hi) (by rw [←hmG];exact idx_inj h) (by rw [←hnG];exact fun i hi=>h'.idx hi) (by rw [←hnG];exact idx_inj h') (by omega) (by omega) rfl rfl;rw [←hWe,←hHe,←hmG,←hnG] at hc;obtain ⟨k3,k1,k2,k0⟩:=hc;have hfin:=fin_law hf (s0:=s0) (s1:=s1) (s2:=s2) (s3:=s3) (sc1:=(A,(B,K))) (sc2:=(A',(B',K'))) ha hb hW2 hH2 (by omega) (by omega) hdm hkn hWH (Mv_in _ _ _) k3 k1 k2 k0;rw [bif_neg (fun g=>g rfl),bif_neg (fun g=>g rfl),bif_neg (fun g=>g rfl)];unfold top_TopDemichel_j6;simp only [joinF_eq];have hl4:∀ x y z t:Int,([x,y,z,t]:List Int).length=4:=fun _ _ _ _=>rfl
 rw [hl4,decide_eq_false (show ¬ (((4:Nat):Int)≠4) by omega),cond_false,k0,k1,k2,k3];have g0:∀ x y z t:Int,([x,y,z,t]:List Int).getD (Int.toNat (0:Int)) 0=x:=fun _ _ _ _=>rfl
 have g1:∀ x y z t:Int,([x,y,z,t]:List Int).getD (Int.toNat (1:Int)) 0=y:=fun _ _ _ _=>rfl
 have g2:∀ x y z t:Int,([x,y,z,t]:List Int).getD (Int.toNat (2:Int)) 0=z:=fun _ _ _ _=>rfl
 have g3:∀ x y z t:Int,([x,y,z,t]:List Int).getD (Int.toNat (3:Int)) 0=t:=fun _ _ _ _=>rfl
 have mb:∀ {x y:Nat},x≤400→y≤400→IntKind.i64.wrap ((x:Int)*(y:Int))=((x*y:Nat):Int):=fun {x y} hx hy=>by
  have:x*y≤400*400:=Nat.mul_le_mul hx hy;rw [←Int.natCast_mul,s_wr (by omega) (by omega)]
 have u1:IntKind.i64.wrap ((n:Int)-(k:Int))=((n-k:Nat):Int):=by rw [s_wr (by omega) (by omega)];omega
 have u2:IntKind.i64.wrap ((m:Int)-(d:Int))=((m-d:Nat):Int):=by rw [s_wr (by omega) (by omega)];omega
 rw [g0,g1,g2,g3,u1,u2,mb (by omega) (by omega),mb (by omega) (by omega),mb (by omega) (by omega),mb (by omega) (by omega),Nat.mul_comm k (m-d),bif_pos (by omega),bif_neg (fun g=>g rfl),bif_pos (by omega),bif_neg (fun g=>g rfl),bif_pos (by omega),bif_neg (fun g=>g rfl),bif_pos (by omega),decide_eq_false (fun g=>g rfl)];exact hfin
end
end Dm
end Go.Proofs.Ytljebnobajmjnaa
/- The step from a walk to a law's row,once for all laws of the seat: a law that returns true and leaves all that was there as it was. -/
namespace Go.Proofs.Ytljebnobajmjnaa
open Go.ChangeShapes Go.WideShapes Go.ChangeAt Go.RowKit

theorem own:ownKnob Try.prog.godebug=none:=by kernel_rfl
theorem laidOut:laidOutB Try.prog=true:=by kernel_rfl
theorem boolT:Try.prog.underlying 4=some .bool:=Try.underlying4

theorem trodAll_stays {H:Type} {enc:TypeId×Value→H} {P:Program} (hl:laidOutB P=true) {W W':World} (hb:Below W.heap.size W W') :
  ∀ {ts:List TypeId} {vs:List Value} {ds:List (DataW H)} {ps:List MemPlace},(∀ t ∈ ts,P.readableRec t=true∧t<P.types.size)→DataW.TrodAll enc P W 0 (fun _=>true) true ts vs ds ps →
   (∀ x ∈ ps,x.block<W.heap.size)→DataW.TrodAll enc P W' 0 (fun b=>decide (b<W.heap.size)) true ts vs ds ps
 | [],[],[],_,_,h,_=>h
 | t::ts,v::vs,d::ds,_,hr,⟨p,q,h1,h2,e⟩,hlt =>
  ⟨p,q,Below.trod hl (hr t (by simp)).1 (hr t (by simp)).2 h1 hb (fun x hx=>hlt x (by rw [e];simp [hx])),
   trodAll_stays hl hb (fun t' ht=>hr t' (by simp [ht])) h2 (fun x hx=>hlt x (by rw [e];simp [hx])),e⟩
 | [],[],_::_,_,_,h,_=>h.elim
 | [],_::_,_,_,_,h,_=>h.elim
 | _::_,[],_,_,_,h,_=>h.elim
 | _::_,_::_,[],_,_,h,_=>h.elim

def readsAll (P:Program) (ts:List TypeId):Bool:=ts.all fun t=>P.readableRec t&&decide (t<P.types.size)
theorem readsAll_all {P:Program} {ts:List TypeId} (h:readsAll P ts=true):∀ t ∈ ts,P.readableRec t=true∧t<P.types.size:=by
 intro t ht;have:=List.all_eq_true.1 h t ht;simpa using this

theorem trodAll_length {H:Type} {enc:TypeId×Value→H} {P:Program} {W:World} {base:Nat} {spare:Nat→Bool} {held:Bool} :
  ∀ {ts:List TypeId} {vs:List Value} {ds:List (DataW H)} {ps:List MemPlace},DataW.TrodAll enc P W base spare held ts vs ds ps→ds.length=ts.length
 | [],[],[],_,_=>rfl
 | _::_,_::_,_::_,_,⟨_,_,_,h2,_⟩=>by simp [trodAll_length h2]
 | [],[],_::_,_,h=>h.elim
 | [],_::_,_,_,h=>h.elim
 | _::_,[],_,_,h=>h.elim
 | _::_,_::_,[],_,h=>h.elim

set_option maxRecDepth 100000 in
theorem law_lifted {os:Os} (started:os.Started) {H:Type} {enc:TypeId×Value→H} {f:FuncId} {fn:Func} {s:ChangeSpec}
  (noInit:Try.checked.prog.inits.idxOf? f=none) (hfn:Try.checked.prog.funcs[f]?=some fn)
  (witness:∃ (w:World) (tape:Tape) (i:Input),w.os=os∧(w.forCall tape i).Shaped Try.checked.prog∧i.vars=[]∧Input.okWide Try.checked.prog (w.forCall tape i) .any w.heap.size f i ∧
   s.pre6 enc Try.checked.prog fn [] false (w.forCall tape i).memory i.args∧({}:Assume).holds Try.checked.prog (lone (Frame.enter Try.checked.prog f i.args .normal) [] (w.forCall tape i)))
  (hvars:s.vars=[]) (hres:fn.resultTypes=#[4]) (hread:readsAll Try.prog fn.params.toList=true)
  (hspec:∀ ds:List (DataW H),ds.length=fn.params.toList.length→s.fn H ds={ results:=[.lit (.bool true)],args:=ds })
  (walk:∀ (W:World) (base:Nat) (args:List Value) (ds:List (DataW H)) (ps:List MemPlace),
   (∀ (j:Nat) t v,fn.params[j]?=some t→args[j]?=some v→Value.okWide Try.prog W .any base t v)→DataW.TrodAll enc Try.prog W 0 (fun _=>true) true fn.params.toList args ds ps →
   (DataW.weightsEach Try.prog fn.params.toList ds).all (·≤reachBytes)=true→(∀ x ∈ ps,x.block<W.heap.size) →
   Calls Try.prog f args.toArray W fun e W'=>e=.returned (.bool true)∧Below W.heap.size W W') :
  ReturnsInHanded {} Try.checked os f .any (s.pre6 enc Try.checked.prog fn [] false) (s.post enc Try.checked.prog fn false true false false):=by
 refine returnsInHanded_of_change_sized (C:=Try.checked) own started noInit hfn witness ?_;intro W base args ds gs before hval hW _ hsz _;have hW':=hW;obtain ⟨p,q,hA0,hV,rfl,hfz,hnd⟩:=hW;rw [hvars] at hV;obtain ⟨rfl,rfl⟩:=trodVars_none hV;have hA:DataW.TrodAll enc Try.prog W 0 (fun _=>true) true fn.params.toList args.toList ds p:=hA0;have hlen:ds.length=fn.params.toList.length:=trodAll_length hA;have hlt:∀ x ∈ p,x.block<W.heap.size:=fun x hx=>hW'.lt x (by simpa using hx)
 have hargs:args.toList.toArray=args:=by simp
 have hsz':(DataW.weightsEach Try.prog fn.params.toList ds).all (·≤reachBytes)=true:=by
  have h:=hsz;have hvt:s.plain.varTypes Try.checked.prog=[]:=by simp [DataSpec.varTypes,ChangeSpec.plain,hvars]
  rw [hvt] at h;simp only [List.append_nil] at h;exact h
 have hw:=walk W base args.toList ds p (fun j t v ht hv=>hval j t v ht (by simpa using hv)) hA hsz' hlt;rw [hargs] at hw;refine hw.mono fun e W' ⟨he,hb⟩=>⟨.bool true,he,?_⟩
 have hsf:s.fn H (ds++[])={ results:=[.lit (.bool true)],args:=ds }:=by rw [List.append_nil];exact hspec ds hlen
 refine ⟨ds,[],p++[],[],p,[],hW',?_,?_,?_,hb.frame _,fun h=>by cases h⟩
 ·rw [hsf,hres];exact trodAll_mk1 (shut_bool boolT true)
 ·rw [hsf];exact trodAll_stays laidOut hb (readsAll_all hread) hA hlt
 ·rw [hsf,hvars];rfl
end Go.Proofs.Ytljebnobajmjnaa
/- Arguments opened: what slices and structs of numbers read as. -/
set_option maxRecDepth 100000
namespace Go.Proofs.Ytljebnobajmjnaa
open Go.ChangeShapes Go.WideShapes Go.ChangeAt Go.RowKit Go.Deep

theorem choose_list {α:Type} {n:Nat} {Q:Nat→α→Prop} (h:∀ i,i<n→∃ p,Q i p):∃ l:List α,l.length=n∧∀ i p,l[i]?=some p→Q i p:=by
 induction n with
 | zero=>exact ⟨[],rfl,by intro i p hi;simp at hi⟩
 | succ n ih =>
  obtain ⟨l,hl,hq⟩:=ih (fun i hi=>h i (by omega));obtain ⟨p,hp⟩:=h n (by omega);refine ⟨l++[p],by simp [hl],fun i q hi=>?_⟩;rcases Nat.lt_trichotomy i n with hlt | rfl | hgt
  ·rw [List.getElem?_append_left (by omega)] at hi;exact hq i q hi
  ·rw [List.getElem?_append_right (by omega),hl] at hi;simp at hi;subst hi;exact hp
  ·rw [List.getElem?_eq_none (by simp;omega)] at hi;cases hi

section
variable {H:Type} {enc:TypeId×Value→H} {P:Program} {w:World} {base:Nat} {spare:Nat→Bool} {held:Bool}
theorem rd_slice {t e:TypeId} {fuel:Nat} {v:Value} {x:DataW H×List MemPlace} (ht:P.underlying t=some (.slice e)) (hc:0<P.cellsOf e) (h:DataW.trod enc P w base spare held fuel t [v]=some x) :
  ∃ A n c,v=.slice A n c∧n≤c∧c≤maxLen∧∀ i,i<n→∃ b o cs n' x',A=some ⟨b,o,none⟩∧cs.length=P.cellsOf e∧(∀ j u,cs[j]?=some u→w.cell? ⟨b,o+i*P.cellsOf e+j,none⟩=some u) ∧
   DataW.trod enc P w base spare held n' e cs=some x':=by
 rcases open_slice ht h with ⟨h0,_⟩ | ⟨a,len,cap,m,n',D,Pl,hcs,_,hl,hm,hmm,_,hi⟩
 ·simp at h0;subst h0;exact ⟨none,0,0,rfl,by omega,by unfold maxLen;omega,by intro i hi;omega⟩
 ·simp at hcs;subst hcs;refine ⟨some a,len,cap,rfl,hl,hm,fun i hil=>?_⟩
  have hlm:len≤m:=by rw [hmm];split <;> omega
  obtain ⟨cs,h1,h2⟩:=hi i (by omega);obtain ⟨hb,hlen,hat⟩:=World.cells?_some h1;obtain ⟨b,o,spot⟩:=a;have h00:=hat 0 (by omega)
  have hsp:spot=none:=by
   obtain ⟨cs0,g1,_⟩:=hi 0 (by omega);obtain ⟨_,gl,gat⟩:=World.cells?_some g1;have hx:=gat 0 (by omega);rw [List.getElem?_eq_getElem (by omega)] at hx;simpa [Addr.add] using World.cell?_spot hx
  subst hsp;refine ⟨b,o,cs,n',_,rfl,hlen,?_,h2⟩;intro j u hu;have hjl:j<P.cellsOf e:=by rw [←hlen];exact (List.getElem?_eq_some_iff.1 hu).1
  have:=hat j hjl;rw [hu,Addr.add_lit,Addr.add_lit] at this;exact this
end

end Go.Proofs.Ytljebnobajmjnaa
/- Arguments opened,as abstract values. -/
set_option maxRecDepth 100000
namespace Go.Proofs.Ytljebnobajmjnaa
open Go Go.ChangeShapes Go.WideShapes Go.ChangeAt Go.RowKit Go.Deep

section
variable {H:Type} {enc:TypeId×Value→H} {P:Program} {w:World} {base:Nat} {spare:Nat→Bool} {held:Bool}
abbrev RelC (w:World):AV→Value→Prop:=RelD w (fun _=>False) w.heap.size
def Reads {α:Type} (w:World) (sz:Nat) (ec:α→List AV) (Q:α→Prop) (cs:List Value):Prop :=
 ∃ p,Q p∧(ec p).length=sz∧∀ (j:Nat) (a:AV) (u:Value),(ec p)[j]?=some a→cs[j]?=some u→RelC w a u
theorem ro_slice {α:Type} (ec:α→List AV) (Q:α→Prop) {t e:TypeId} {sz fuel:Nat} {v:Value} {x:DataW H×List MemPlace} (ht:P.underlying t=some (.slice e)) (hz:P.cellsOf e=sz) (hc:0<sz)
  (hel:∀ (fuel:Nat) (cs:List Value) (x:DataW H×List MemPlace),cs.length=sz→DataW.trod enc P w base spare held fuel e cs=some x→Reads w sz ec Q cs) (h:DataW.trod enc P w base spare held fuel t [v]=some x) :
  ∃ xs:List α,(∀ p ∈ xs,Q p)∧RelC w (.ro false sz (xs.map ec)) v:=by
 subst hz;obtain ⟨A,n,c,rfl,hn,hm,hi⟩:=rd_slice ht hc h
 obtain ⟨xs,hl,hq⟩:=choose_list (Q:=fun i (p:α)=>Q p∧∃ (b o:Nat) (cs:List Value),A=some ⟨b,o,none⟩∧cs.length=P.cellsOf e∧(∀ (j:Nat) (u:Value),cs[j]?=some u→w.cell? ⟨b,o+i*P.cellsOf e+j,none⟩=some u)∧(ec p).length=P.cellsOf e∧∀ (j:Nat) (a:AV) (u:Value),(ec p)[j]?=some a→cs[j]?=some u→RelC w a u) (n:=n) (by
  intro i hil;obtain ⟨b,o,cs,n',x',hA,hlen,hat,htr⟩:=hi i hil;obtain ⟨p,h1,h2,h3⟩:=hel n' cs x' hlen htr
  exact ⟨p,h1,b,o,cs,hA,hlen,hat,h2,h3⟩)
 subst hl;refine ⟨xs,fun p hp=>?_,?_⟩
 ·obtain ⟨i,hi⟩:=List.mem_iff_getElem?.1 hp;exact (hq i p hi).1
 have key:∀ (i:Nat) (row:List AV) (j:Nat) (a:AV),(xs.map ec)[i]?=some row→row[j]?=some a→∃ b o u,A=some ⟨b,o,none⟩∧w.cell? ⟨b,o+i*P.cellsOf e+j,none⟩=some u∧RelC w a u:=by
  intro i row j a hr ha;rw [List.getElem?_map] at hr;obtain ⟨p,hp,rfl⟩:=Option.map_eq_some_iff.1 hr;obtain ⟨_,b,o,cs,hA,hlen,hat,hel,hrel⟩:=hq i p hp;have hj:j<cs.length:=by rw [hlen,←hel];exact (List.getElem?_eq_some_iff.1 ha).1
  have hu:cs[j]?=some cs[j]:=List.getElem?_eq_getElem hj;exact ⟨b,o,cs[j],hA,hat j _ hu,hrel j a _ ha hu⟩
 have hcon:=RelD.ro (w:=w) (own:=fun _=>False) (bs:=w.heap.size) false (P.cellsOf e) (xs.map ec) A c (fun i j=>match A with
  | some ⟨b,o,_⟩=>(w.cell? ⟨b,o+i*P.cellsOf e+j,none⟩).getD undef
  | none=>undef) (by simpa using hn) hm (fun i hi hA=>by
   have hi:i<xs.length:=by simpa using hi
   obtain ⟨_,b,o,_,h1,_⟩:=hq i xs[i] (List.getElem?_eq_getElem hi)
   rw [hA] at h1;cases h1) (fun i row j a hr ha=>by
   obtain ⟨b,o,u,hA,hu,_⟩:=key i row j a hr ha;subst hA
   exact ⟨b,o,rfl,fun h=>h.elim,(fun h=>by cases h),by simp [hu]⟩) (fun i row j a hr ha=>by
   obtain ⟨b,o,u,hA,hu,hr⟩:=key i row j a hr ha;subst hA
   simpa [hu] using hr)
 rw [List.length_map] at hcon;exact hcon
end
theorem AF.yes {P:Program} {F:FuncId} {xs:List AV} {vs:Array Value} {w:World} (h:AF P F xs (.bool true)) (ha:ArgsV w (Gh.none w.heap.size) xs vs):Calls P F vs w fun e w'=>e=.returned (.bool true)∧Below w.heap.size w w' :=
 (h.out w vs ha).mono fun e w' ⟨v,he,hb,hv⟩=>⟨by rw [he,hv.bool'],hb⟩
end Go.Proofs.Ytljebnobajmjnaa
