/- Symbolic walks: function values, strings out of bytes, strings compared, least and greatest, elements of array values. No program in sight. -/
import Derived.Test.YtljebnobajmjnaaZDM1
import Derived.Laws.BytesArg
import Derived.Laws.Strings
import Derived.Lib.ConvBytes
import Derived.Lib.AppendStr
import Derived.Lib.AppendZerosOnto
/- Symbolic walks: function values,strings out of bytes,strings compared,least and greatest,elements of array values. No program in sight. -/
namespace Go.Proofs.Ytljebnobajmjnaa
open Go Go.RowKit

section
variable {P:Program} {n:Nat} {st:ASt} {d:Option Nat} {ty:TypeId} {ps:String} {af:Array Edge} {g:Option (Nat×Bool)} {x y:Operand} {t t':TypeId}
theorem op_mkfunc {F:FuncId} {caps:Array Operand} (hd:dok d n=true):OpR P n ⟨d,.makeFunc (.func F) #[] caps,ty,ps,af,g⟩ st (.fn F (caps.toList.map st.ev)) :=
 .mk hd fun K a w G rr=>by
  refine ⟨.func (.func F) #[] (caps.map a.eval),fun w' _=>by simp [execOp,Instr.makeFunc],.fn _ _ _ _ rfl (by simp) fun i x v hx hv=>?_⟩;refine list_ev rr caps.toList i x v hx ?_;rw [List.getElem?_map,Array.getElem?_toList];rw [Array.getElem?_map] at hv;exact hv
theorem op_min {k:IntKind} {m q:Int} {tt:Array TypeId} (hx:st.ev x=.int k m) (hy:st.ev y=.int k q) (hd:dok d n=true) :
  OpR P n ⟨d,.call {callee:=.builtin .min,args:=#[x,y],argTypes:=tt },ty,ps,af,g⟩ st (.int k (min m q)) :=
 .mk hd fun K a w G rr=>by
  obtain ⟨e1,e2⟩:=ints2 rr hx hy;refine ⟨.int k (min m q),fun w' _=>?_,rI _ _ _ _⟩
  have:(if q<m then q else m)=min m q:=by split <;> omega
  simp [execOp,resolve,invoke,builtin,e1,e2,Builtin.min_,Builtin.min2,this]
theorem op_max {k:IntKind} {m q:Int} {tt:Array TypeId} (hx:st.ev x=.int k m) (hy:st.ev y=.int k q) (hd:dok d n=true) :
  OpR P n ⟨d,.call {callee:=.builtin .max,args:=#[x,y],argTypes:=tt },ty,ps,af,g⟩ st (.int k (max m q)) :=
 .mk hd fun K a w G rr=>by
  obtain ⟨e1,e2⟩:=ints2 rr hx hy;refine ⟨.int k (max m q),fun w' _=>?_,rI _ _ _ _⟩
  have:(if m<q then q else m)=max m q:=by split <;> omega
  simp [execOp,resolve,invoke,builtin,e1,e2,Builtin.max_,Builtin.max2,this]
theorem op_bytesStr {e:TypeId} {ns:List Int} (hs:SrcA st.heap 1 (st.ev x) (ns.map (eI .u8))) (hT:P.underlying t=some (.slice e)) (hE:P.underlying e=some (.int .u8)) (hT':P.underlying t'=some .string) (hd:dok d n=true) :
  OpR P n ⟨d,.convert t t' x,ty,ps,af,g⟩ st (.str (strOfNums ns)) :=
 .mk hd fun K a w G rr=>by
  obtain ⟨A,c,news,f1,f2,f3,f4,f5⟩:=hs.real rr (by omega) (rr.ev x);refine ⟨.string (strOfNums ns),fun w' hb=>?_,.dat (.str _)⟩
  have hcell:∀ j,j<ns.length→∃ b o,A=some ⟨b,o,none⟩∧w.cell? ⟨b,o+j,none⟩=some (.int .u8 (ns.getD j 0)):=by
   intro j hj;have h1:(ns.map (eI .u8))[j]?=some (eI .u8 ns[j]):=enc_at (List.getElem?_eq_getElem hj);obtain ⟨v,h2,h3⟩:=(f2.rel j _ h1).2 0 _ rfl;rw [Nat.mul_one,Nat.add_zero] at h2;obtain ⟨b,o,h4,h5⟩:=f5 j v h2;have h3:=h3.int';subst h3;exact ⟨b,o,h4,by rw [h5];simp [List.getD,List.getElem?_eq_getElem hj]⟩
  have key:(convert t t' (.slice A (ns.map (eI .u8)).length c)).run P w'=.ok (.string (strOfNums ns)) w':=by
   cases A with
   | none =>
    have h0:=f3 rfl;have:ns=[]:=List.eq_nil_of_length_eq_zero (by simpa using h0);subst this;rw [run_convert_bytes_nil w' t e hT hE _ _ t' hT'];rfl
   | some ad =>
    rcases Nat.eq_zero_or_pos ns.length with h0 | h0
    ·have:ns=[]:=List.eq_nil_of_length_eq_zero h0;subst this;show (convert t t' (.slice (some ad) 0 c)).run P w'=_;rw [run_convert_bytes_string w' t t' e (some ad) 0 c hT hE hT',run_bytesToString w' ad 0 c [] (by simp [loadCells,loadCellsFrom])];rfl
    ·obtain ⟨b,o,h4,_⟩:=hcell 0 h0;injection h4 with h4
     subst h4;refine run_convert_bytes_arg w' t e hT hE b o _ c ns (by simp) (fun j hj=>?_) t' hT';obtain ⟨b',o',h5,h6⟩:=hcell j (by simpa using hj);injection h5 with h5
     injection h5 with h5 h7 _
     subst h5;subst h7
     exact (hb.cell (cell_lt h6)).trans h6
  simp only [execOp,f1,Sem.run_bind,key,Result.andThen_ok,Sem.run_pure]
def eqBy (a b:ByteArray):Bool:=decide (a.data.toList=b.data.toList)
theorem eqBy_ok (a b:ByteArray):(a.toList==b.toList)=eqBy a b:=by
 unfold eqBy;rw [ByteArray.toList_eq,ByteArray.toList_eq,Bool.eq_iff_iff,beq_iff_eq,decide_eq_true_eq]
theorem op_streql {a b:ByteArray} (hx:st.ev x=.str a) (hy:st.ev y=.str b) (hd:dok d n=true):OpR P n ⟨d,.binOp .eql t x y t',ty,ps,af,g⟩ st (.bool (eqBy a b)) :=
 .mk hd fun K a' w G rr=>by
  have e1:=rr.ev x;rw [hx] at e1;have e2:=rr.ev y;rw [hy] at e2;refine ⟨.bool (eqBy a b),fun w' _=>?_,rB _ _ _⟩;simp [execOp,e1.str',e2.str',eqGuard,binOp_string_eql,←eqBy_ok]
theorem op_strneq {a b:ByteArray} (hx:st.ev x=.str a) (hy:st.ev y=.str b) (hd:dok d n=true):OpR P n ⟨d,.binOp .neq t x y t',ty,ps,af,g⟩ st (.bool (!eqBy a b)) :=
 .mk hd fun K a' w G rr=>by
  have e1:=rr.ev x;rw [hx] at e1;have e2:=rr.ev y;rw [hy] at e2;refine ⟨.bool (!eqBy a b),fun w' _=>?_,rB _ _ _⟩;simp [execOp,e1.str',e2.str',eqGuard,binOp_string_neq,←eqBy_ok]
theorem op_index_str {s:ByteArray} {k:IntKind} {i:Int} {c:UInt8} (hx:st.ev x=.str s) (hy:st.ev y=.int k i) (hT:P.underlying t=some .string) (h0:0≤i) (hc:s.data.toList[i.toNat]?=some c) (hd:dok d n=true) :
  OpR P n ⟨d,.index t x y,ty,ps,af,g⟩ st (.int .u8 c.toNat) :=
 .mk hd fun K a' w G rr=>by
  have e1:=rr.ev x;rw [hx] at e1;have e2:=rr.ev y;rw [hy] at e2;refine ⟨.int .u8 c.toNat,fun w' _=>?_,rI _ _ _ _⟩;have hlt:i.toNat<s.data.toList.length:=(List.getElem?_eq_some_iff.1 hc).1
  have hlt2:i.toNat<s.size:=by
   have h1:s.data.toList.length=s.size:=Array.length_toList;omega
  have hg:s[i.toNat]=c:=by
   have:=(List.getElem?_eq_some_iff.1 hc).2;rw [Array.getElem_toList] at this;exact this
  have:=run_index_string (P:=P) w' t s k i hT;rw [dif_pos ⟨h0,by omega⟩] at this;simp only [execOp,e1.str',e2.int',Sem.run_bind,this,Result.andThen_ok,Sem.run_pure,hg]
theorem op_index_agg {cs:List AV} {e:TypeId} {D:TypeDesc} {z:Option Value} {s b L:Nat} {k:IntKind} {i:Int} {v:AV} (hx:st.ev x=.agg cs) (hy:st.ev y=.int k i) (hT:P.underlying t=some (.array L e)) (hE:P.underlying e=some D) (hI:tyI P e=some (z,s,b)) (h0:0≤i) (h1:i<(L:Int)) (hv:partA cs (i.toNat*s) s (aggB D)=some v) (hd:dok d n=true) :
  OpR P n ⟨d,.index t x y,ty,ps,af,g⟩ st v :=
 .mk hd fun K a w G rr=>by
  have e1:=rr.ev x;rw [hx] at e1;have e2:=rr.ev y;rw [hy] at e2;have e2:=e2.int';obtain ⟨us,e1,hl,hr⟩:=e1.agg';have hsz:=run_sizeOf' hI
  cases hD:aggB D with
  | true =>
   rw [hD] at hv;simp only [partA,if_true] at hv;split at hv
   ·rename_i hle;injection hv with hv
    subst hv;refine ⟨.agg (us.extract (i.toNat*s) (i.toNat*s+s)),fun w' _=>?_,.agg _ _ (by simp;omega) fun j a u ha hu=>?_⟩
    ·simp [execOp,e1,e2,Instr.index,asIntOf,run_underlying hT,h0,h1,hsz,part,run_isAgg' hE,hD]
    ·rw [List.getElem?_take] at ha;split at ha
     ·rw [List.getElem?_drop] at ha;rw [Array.getElem?_extract] at hu;split at hu
      ·exact hr _ a u ha hu
      ·cases hu
     ·cases ha
   ·cases hv
  | false =>
   rw [hD] at hv;simp only [partA,Bool.false_eq_true,if_false] at hv;have hlt:i.toNat*s<us.size:=by rw [hl];exact (List.getElem?_eq_some_iff.1 hv).1
   refine ⟨us[i.toNat*s],fun w' _=>?_,hr _ v _ hv (Array.getElem?_eq_getElem hlt)⟩;simp [execOp,e1,e2,Instr.index,asIntOf,run_underlying hT,h0,h1,hsz,part,run_isAgg' hE,hD,hlt]
end
end Go.Proofs.Ytljebnobajmjnaa
/- Symbolic walks: slices of data and of strings,strings joined;arrays in boxes as rows. No program in sight. -/
namespace Go.Proofs.Ytljebnobajmjnaa
open Go Go.RowKit

section
variable {P:Program} {n:Nat} {st:ASt} {d:Option Nat} {ty:TypeId} {ps:String} {af:Array Edge} {g:Option (Nat×Bool)} {x y:Operand} {t t':TypeId}
inductive BndA (st:ASt) (dflt:Int):Option Operand→Int→Prop
 | no:BndA st dflt none dflt
 | yes {o:Operand} {k:IntKind} {i:Int} (h:st.ev o=.int k i):BndA st dflt (some o) i
theorem run_bnds {isS:Bool} {len cap:Nat} {lo hi:Option Value} {l h:Int} (w:World) (hl:(lo=none∧l=0)∨∃ k,lo=some (.int k l)) (hh:(hi=none∧h=len)∨∃ k,hi=some (.int k h)) (h0:0≤l) (h1:l≤h) (h2:h≤len) (h3:len≤cap) :
  (Instr.sliceBounds isS len cap lo hi none).run P w=.ok (l.toNat,h.toNat,cap) w:=by
 have eh:((h.toNat:Nat):Int)=h:=Int.toNat_of_nonneg (by omega)
 rcases hl with ⟨rfl,rfl⟩ | ⟨k,rfl⟩ <;> rcases hh with ⟨rfl,rfl⟩ | ⟨k',rfl⟩
 ·simp [Instr.sliceBounds]
 ·simp [Instr.sliceBounds,run_sliceBound w k' h cap _ (by omega) (by omega)]
 ·simp [Instr.sliceBounds,run_sliceBound w k l len _ (by omega) (by omega)]
 ·simp [Instr.sliceBounds,run_sliceBound w k' h cap _ (by omega) (by omega),run_sliceBound w k l h.toNat _ (by omega) (by omega)]
theorem BndA.val {K:Kn} {a:Act} {w:World} {G:Gh} (r:RelG K n st a w G) {o:Option Operand} {dflt i:Int} (h:BndA st dflt o i):(o.map a.eval=none∧i=dflt)∨∃ k,o.map a.eval=some (.int k i):=by
 cases h with
 | no=>exact .inl ⟨rfl,rfl⟩
 | yes h =>
  rename_i o k;have e:=r.ev o;rw [h] at e;exact .inr ⟨k,by rw [Option.map_some,e.int']⟩
theorem ro_sub {w:World} {G:Gh} {fr:Bool} {sz:Nat} {rows:List (List AV)} {v:Value} {l h:Nat} (hv:RelD w G.own G.bs (.ro fr sz rows) v) (h1:l≤h) (h2:h≤rows.length) :
  ∃ A c,v=.slice A rows.length c∧rows.length≤c∧RelD w G.own G.bs (.ro fr sz ((rows.take h).drop l)) (sliced A l h c sz):=by
 cases hv with
 | ro fr sz rows A c f hc hm h0 g1 g2 =>
  refine ⟨A,c,rfl,hc,?_⟩;have hlen:((rows.take h).drop l).length=h-l:=by rw [List.length_drop,List.length_take];omega
  have get:∀ (i:Nat) (row:List AV),((rows.take h).drop l)[i]?=some row→rows[l+i]?=some row∧i<h-l:=by
   intro i row hi;have hlt:=(List.getElem?_eq_some_iff.1 hi).1;rw [hlen] at hlt;rw [List.getElem?_drop,List.getElem?_take_of_lt (by omega)] at hi;exact ⟨hi,hlt⟩
  have key:=RelD.ro (w:=w) (own:=G.own) (bs:=G.bs) fr sz ((rows.take h).drop l) (if c=l then A else A.map (·.add (l*sz))) (c-l) (fun i j=>f (l+i) j) (by rw [hlen];omega) (by omega) (fun i hi=>by
    rw [hlen] at hi;rw [if_neg (by omega)];have:=h0 (l+i) (by omega)
    cases A with
    | none=>exact absurd rfl this
    | some a=>simp) (fun i row j a hr ha=>by
    obtain ⟨hr',hi⟩:=get i row hr;obtain ⟨b,o,e,ho,hfr,hcell⟩:=g1 (l+i) row j a hr' ha;refine ⟨b,o+l*sz,?_,ho,hfr,?_⟩
    ·rw [if_neg (by omega),e,Option.map_some,addr_add]
    ·rw [←hcell,show o+l*sz+i*sz+j=o+(l+i)*sz+j by rw [Nat.add_mul];omega]) (fun i row j a hr ha=>g2 (l+i) row j a (get i row hr).1 ha)
  rw [hlen] at key;exact key
theorem op_slice_ro {lo hi:Option Operand} {l h:Int} {fr:Bool} {sz b:Nat} {rows:List (List AV)} {e:TypeId} {z:Option Value} (hx:st.ev x=.ro fr sz rows) (hlo:BndA st 0 lo l) (hhi:BndA st rows.length hi h) (hT:P.underlying t=some (.slice e)) (hI:tyI P e=some (z,sz,b))
  (h0:0≤l) (h1:l≤h) (h2:h≤rows.length) (hd:dok d n=true) :
  OpR P n ⟨d,.slice t x lo hi none,ty,ps,af,g⟩ st (.ro fr sz ((rows.take h.toNat).drop l.toNat)):=.mk hd fun K a w G rr=>by
 have e1:=rr.ev x;rw [hx] at e1
 cases e1 with
 | dat e1 =>
  obtain ⟨A,c,ev,hc,hr⟩:=ro_sub (l:=l.toNat) (h:=h.toNat) e1 (by omega) (by omega);refine ⟨_,fun w' _=>?_,.dat hr⟩;have hb:=fun w=>run_bnds (P:=P) (isS:=true) (len:=rows.length) (cap:=c) w (hlo.val rr) (hhi.val rr) h0 h1 h2 hc
  simp [execOp,Instr.sliceAt,Instr.slice,ev,run_underlying hT,hb,run_sizeOf' hI,sliced]
theorem makeC_rows {w:World} {G:Gh} {z:Value} {sz L C:Nat} {zr:List AV} (hz:z.cells.toList.map avOf=zr) (hs:zr.length=sz) (h0:0<sz) (h1:allOne zr=true) (hLC:L≤C):RowsV w G sz (List.replicate L zr) ((madeCells z.cells (C*sz)).toList.take (L*sz)):=by
 have hfull:=madeCells_rows (w:=w) (G:=G) (L:=C) hz hs h0 h1;have hle:L*sz≤C*sz:=Nat.mul_le_mul_right sz hLC;refine ⟨by rw [List.length_take,hfull.len,List.length_replicate,List.length_replicate];omega,fun v hv=>hfull.one v (List.mem_of_mem_take hv),fun k row hk=>?_⟩;rw [List.getElem?_replicate] at hk;split at hk
 ·rename_i hkL;injection hk with hk
  subst hk;obtain ⟨g1,g2⟩:=hfull.rel k zr (by rw [List.getElem?_replicate,if_pos (by omega)]);refine ⟨g1,fun j a hj=>?_⟩;have hjs:j<sz:=by rw [←hs];exact (List.getElem?_eq_some_iff.1 hj).1
  rw [List.getElem?_take_of_lt (flat_lt hkL hjs)];exact g2 j a hj
 ·cases hk
theorem makeC_owns {w:World} {e:TypeId} {z:Value} {sz L C:Nat} (hLC:L≤C) (hm:C≤maxLen):ownsM (w.alloc (.cells (madeCells z.cells (C*sz)) e)) w.heap.size e sz (.slice (some ⟨w.heap.size,0,none⟩) L C) L ((madeCells z.cells (C*sz)).toList.take (L*sz)):=by
 have hle:L*sz≤C*sz:=Nat.mul_le_mul_right sz hLC;exact ⟨by rw [List.length_take,Array.length_toList,size_madeCells];omega,.inr ⟨w.heap.size,C,_,rfl,Nat.le_refl _,.of (heap_alloc_new w _),hLC,hm,size_madeCells _ _,rfl⟩⟩
theorem op_makeC {e:TypeId} {z:Value} {sz b:Nat} {zr:List AV} {kl kc:IntKind} {L C:Int} (hT:P.underlying t=some (.slice e)) (hI:tyI P e=some (some z,sz,b)) (hz:z.cells.toList.map avOf=zr) (hs:zr.length=sz) (hs0:0<sz) (h1:allOne zr=true) (hx:st.ev x=.int kl L) (hy:st.ev y=.int kc C)
  (h0:0≤L) (hLC:L≤C) (hb:(b:Int)*C≤281474976710656) (hm:C≤9223372036854775807) (hd:dok d n=true) :
  OpV P n ⟨d,.makeSlice t x y,ty,ps,af,g⟩ st ((st.hnew (.row sz (List.replicate L.toNat zr) e)).put d (.osl st.nx L.toNat)):=.mk fun K a w ⟨G,r⟩=>by
 obtain ⟨e1,e2⟩:a.eval x=.int kl L∧a.eval y=.int kc C:=by
  have e1:=r.ev x;have e2:=r.ev y;rw [hx] at e1;rw [hy] at e2;exact ⟨e1.int',e2.int'⟩
 obtain ⟨i,hi,hz0,hz1,hz2⟩:=tyI_info hI;have hr:=run_make (P:=P) w t e i z hT hi hz0 kl kc L C h0 hLC (by rw [hz2];exact hb) hm;rw [hz1] at hr;have hlr:(List.replicate L.toNat zr).length=L.toNat:=by simp
 obtain ⟨r2,hv⟩:=r.newRow (below_alloc' _ _) (rows:=List.replicate L.toNat zr) (sz:=sz) (e:=e) hs0 (by rw [hlr];exact makeC_owns (C:=C.toNat) (by omega) (by simp [maxLen];omega)) (makeC_rows hz hs hs0 h1 (by omega));rw [hlr] at hv r2;exact ⟨_,_,.inl (by simp [execOp,e1,e2,hr]),_,r2.put (dok_lt hd) hv⟩
theorem opN_makeC {e:TypeId} {z:Value} {sz b:Nat} {kl kc:IntKind} {L C:Int} (hT:P.underlying t=some (.slice e)) (hI:tyI P e=some (some z,sz,b)) (hs:(z.cells.toList.map avOf).length=sz) (hs0:0<sz) (h1:allOne (z.cells.toList.map avOf)=true) (hx:st.ev x=.int kl L) (hy:st.ev y=.int kc C)
  (h0:0≤L) (hLC:L≤C) (hb:(b:Int)*C≤281474976710656) (hm:C≤9223372036854775807) (hd:dok d n=true) :
  OpN P n ⟨d,.makeSlice t x y,ty,ps,af,g⟩ st (.row sz (List.replicate L.toNat (z.cells.toList.map avOf)) e):=⟨hd,fun K a w G r=>by
 obtain ⟨e1,e2⟩:a.eval x=.int kl L∧a.eval y=.int kc C:=by
  have e1:=r.ev x;have e2:=r.ev y;rw [hx] at e1;rw [hy] at e2;exact ⟨e1.int',e2.int'⟩
 obtain ⟨i,hi,hz0,hz1,hz2⟩:=tyI_info hI;have hr:=run_make (P:=P) w t e i z hT hi hz0 kl kc L C h0 hLC (by rw [hz2];exact hb) hm;rw [hz1] at hr;have hlr:(List.replicate L.toNat (z.cells.toList.map avOf)).length=L.toNat:=by simp
 exact ⟨_,_,by simp [execOp,e1,e2,hr];exact ⟨rfl,rfl⟩,.row _ _ _ _ _ _ (below_alloc' _ _) hs0 (by rw [hlr];exact makeC_owns (C:=C.toNat) (by omega) (by simp [maxLen];omega)) (makeC_rows rfl hs hs0 h1 (by omega))⟩⟩
theorem opN_append_nil {e:TypeId} {z:Value} {sz b:Nat} {new:List (List AV)} {xv:AV} (hx:st.ev x=.nils) (hy:st.ev y=xv) (hs:SrcA st.heap sz xv new)
  (hT:P.underlying t=some (.slice e)) (hI:tyI P e=some (some z,sz,b)) (h0:0<sz) (hz:z.cells.size=sz) (h63:new.length*bmul b≤140737488355328) (hd:dok d n=true) :
  OpN P n ⟨d,.call ⟨.builtin .append,#[x,y],#[t,t]⟩,ty,ps,af,g⟩ st (.row sz new e):=⟨hd,fun K a w G r=>by
 have e1:=r.ev x;rw [hx] at e1;have e1:=e1.nils';have e2:=r.ev y;rw [hy] at e2;obtain ⟨A,c,news,f1,f2,f3,f4,f5⟩:=hs.real r h0 e2;obtain ⟨i,hi,hz0,hz1,hz2⟩:=tyI_info hI;have hmul:new.length≤new.length*bmul b:=Nat.le_mul_of_pos_right _ (bmul_pos b);have hmul2:new.length*b≤new.length*bmul b:=Nat.mul_le_mul_left _ (bmul_le b);obtain ⟨v',w',p1,p2,p3,p4,p5⟩:=run_append_v (P:=P) w w.heap.size t ty e i z sz b hT hi hz0 hz1 hz2 hz (.slice none 0 0) 0 [] (ownsM.nil w _ _ _) A new.length c news f2.len f3 f5 f2.one (by simp only [maxLen];omega) (by rw [Nat.zero_add];omega) (Nat.le_refl _) f4;rw [Nat.zero_add,List.nil_append] at p2
 exact ⟨v',w',by simp [execOp,resolve,invoke,builtin,e1,f1,p1],.row _ _ _ _ _ _ (grown_below p3 (Nat.le_refl _) (fun g hg=>by simp [Value.ownBlock] at hg)) h0 p2 f2⟩⟩
theorem vsl_mk {w:World} {G:Gh} {id m lo l h sz c:Nat} {A:Option Addr} (hid:id<G.nx) (hs:0<G.sz id) (hsz:G.sz id=sz) (hn:m≤G.ln id) (hle:lo+h≤m) (hlh:l≤h) (hc:h≤c) (hcm:c≤maxLen) (hA:m=G.ln id→0<h→∃ g c',G.ρ id=.slice (some ⟨g,0,none⟩) m c'∧A=some ⟨g,lo*sz,none⟩) :
  RelV w G (.vsl id m (lo+l) (h-l)) (sliced A l h c sz) :=
 .vsl _ _ _ _ _ hid hs hn (by omega) ⟨_,_,rfl⟩ fun e=>⟨_,_,rfl,by omega,by omega,fun hpos=>by
  obtain ⟨g,c',e1,e2⟩:=hA e (by omega)
  exact ⟨g,c',e1,by rw [if_neg (by omega),e2,Option.map_some,addr_add,hsz,Nat.add_mul]⟩⟩
theorem op_slice_osl {lo hi:Option Operand} {l h:Int} {sz b id m:Nat} {rows:List (List AV)} {e e':TypeId} {z:Option Value} (hx:st.ev x=.osl id m) (hb:look .dead st.heap id=.row sz rows e') (hm:m=rows.length) (hlo:BndA st 0 lo l) (hhi:BndA st m hi h) (hT:P.underlying t=some (.slice e)) (hI:tyI P e=some (z,sz,b))
  (h0:0≤l) (h1:l≤h) (h2:h≤m) (hd:dok d n=true) :
  OpR P n ⟨d,.slice t x lo hi none,ty,ps,af,g⟩ st (.vsl id m l.toNat (h.toNat-l.toNat)):=.mk hd fun K a w G rr=>by
 have e1:=rr.ev x;rw [hx] at e1;have hk:=rr.hr.blk id;rw [hb] at hk;obtain ⟨q1,q2,q3,q4,flat,q5,q6,q7⟩:=hk;generalize he:a.eval x=v at e1
 cases e1 with
 | dat h=>cases h
 | osl _ _ _ hid hs hn hv hh =>
  have e3:=hh (by rw [q4,hm])
  have hsh:∃ A c,v=.slice A m c∧m≤c∧c≤maxLen∧(0<m→∃ g c',G.ρ id=.slice (some ⟨g,0,none⟩) m c'∧A=some ⟨g,0*sz,none⟩):=by
   rcases q5.2 with ⟨e1,e2⟩ | ⟨gg,cap,cur,e1,_,_,hcap,hcm,_,_⟩
   ·have:m=0:=by omega
    subst this;exact ⟨none,0,by rw [e3,e1],Nat.le_refl _,by simp [maxLen],fun h=>absurd h (Nat.lt_irrefl _)⟩
   ·exact ⟨_,cap,by rw [e3,e1,hm],by omega,hcm,fun _=>⟨gg,cap,by rw [e1,hm],by rw [Nat.zero_mul]⟩⟩
  obtain ⟨A,c,rfl,hc,hcm,hA⟩:=hsh;have hbd:=fun w=>run_bnds (P:=P) (isS:=true) (len:=m) (cap:=c) w (hlo.val rr) (hhi.val rr) h0 h1 h2 hc
  have key:=vsl_mk (w:=w) (G:=G) (id:=id) (m:=m) (lo:=0) (l:=l.toNat) (h:=h.toNat) (sz:=sz) (c:=c) (A:=A) hid hs q3 hn (by omega) (by omega) (by omega) hcm (fun _ hp=>hA (by omega));rw [Nat.zero_add] at key;refine ⟨_,fun w' _=>?_,key⟩;simp [execOp,Instr.sliceAt,Instr.slice,he,run_underlying hT,hbd,run_sizeOf' hI,sliced]
def Gh.kl (G:Gh) (id:Nat):Gh:=⟨fun i=>if i=id then .slice Option.none 0 0 else G.ρ i,G.own,fun i=>if i=id then G.ln i+1 else G.ln i,G.sz,G.nx,G.bs,G.far⟩
def Gh.ad (G:Gh) (v:Value) (ln sz:Nat):Gh:=⟨fun i=>if i=G.nx then v else G.ρ i,G.own,fun i=>if i=G.nx then ln else G.ln i,fun i=>if i=G.nx then sz else G.sz i,G.nx+1,G.bs,G.far⟩
theorem Ext.kl {w:World} {G:Gh} {id:Nat} (hs:0<G.sz id):Ext w G w (G.kl id):=⟨Nat.le_refl _,fun _ _ _=>rfl,fun b h=>.inl h,Nat.le_refl _,⟨rfl,rfl⟩,fun i hi=>by
 by_cases e:i=id
 ·subst e;have e1:(G.kl i).ln i=G.ln i+1:=if_pos rfl;exact ⟨by omega,rfl,fun h=>by omega,fun h=>by omega⟩
 ·have e1:(G.kl id).ρ i=G.ρ i:=if_neg e;have e2:(G.kl id).ln i=G.ln i:=if_neg e;rw [e1,e2]
  exact ⟨Nat.le_refl _,rfl,fun _=>rfl,fun _=>rfl⟩⟩
theorem Ext.ad (w:World) (G:Gh) (v:Value) (ln sz:Nat):Ext w G w (G.ad v ln sz):=⟨Nat.le_refl _,fun _ _ _=>rfl,fun b h=>.inl h,Nat.le_succ _,⟨rfl,rfl⟩,fun i hi=>by
 have e:i≠G.nx:=by omega
 simp [Gh.ad,e]⟩
theorem trunc_rel {K:Kn} {n:Nat} {st:ASt} {a:Act} {w:World} {G:Gh} (r:RelG K n st a w G) {id sz k:Nat} {rows:List (List AV)} {e:TypeId} (hb:look .dead st.heap id=.row sz rows e) (hk:k≤rows.length) {v:Value}
  (hv:(G.ρ id=.slice Option.none 0 0∧v=.slice Option.none 0 0)∨∃ gg n c,G.ρ id=.slice (some ⟨gg,0,Option.none⟩) n c∧v=.slice (some ⟨gg,0,Option.none⟩) k c) :
  RelG K n ⟨st.regs,(st.nx,.row sz (rows.take k) e)::(id,.dead)::st.heap,st.nx+1⟩ a w ((G.kl id).ad v k sz)∧RelV w ((G.kl id).ad v k sz) (.osl st.nx k) v:=by
 have hblk:=r.hr.blk id;rw [hb] at hblk;obtain ⟨q1,q2,q3,q4,flat,q5,q6,q7⟩:=hblk;have hs:0<G.sz id:=by rw [q3];exact q2
 have hnx:=r.nx;have x1:Ext w G w (G.kl id):=Ext.kl hs;have x2:Ext w (G.kl id) w ((G.kl id).ad v k sz):=Ext.ad w _ v k sz;have hkl:(rows.take k).length=k:=by rw [List.length_take];omega
 have hvo:∀ g,ownBlk v=some g→ownBlk (G.ρ id)=some g:=by
  intro g hg;rcases hv with ⟨_,rfl⟩ | ⟨gg,n',c,e1,rfl⟩
  ·simp [ownBlk] at hg
  ·rw [e1];exact hg
 have h1:HR K.w0 w (G.kl id) ((id,.dead)::st.heap):=by
  refine r.hr.update x1 (fun _ h=>h) (Below.refl _ _) id .dead (fun i hne hi=>?_) (fun i hi _=>hi) (fun b hb=>r.hr.ownlt b hb) trivial (fun i g _ _ hg=>?_) (fun g _ hg=>?_)
  ·exact ⟨if_neg hne,if_neg hne,fun _ _=>rfl⟩
  ·have:(G.kl id).ρ id=.slice Option.none 0 0:=if_pos rfl;rw [this] at hg;simp [ownBlk] at hg
  ·have:(G.kl id).ρ id=.slice Option.none 0 0:=if_pos rfl;rw [this] at hg;simp [ownBlk] at hg
 have hρ:((G.kl id).ad v k sz).ρ (G.kl id).nx=v:=if_pos rfl;have hln:((G.kl id).ad v k sz).ln (G.kl id).nx=k:=if_pos rfl;have hsz:((G.kl id).ad v k sz).sz (G.kl id).nx=sz:=if_pos rfl;have hne:∀ i,i<G.nx→i≠(G.kl id).nx:=fun i hi e=>by have e:i=G.nx:=e;omega
 have hown:ownsM w K.w0.heap.size e sz v k (flat.take (k*sz)):=by
  have hfl:(flat.take (k*sz)).length=k*sz:=by
   rw [List.length_take,q5.1];exact Nat.min_eq_left (Nat.mul_le_mul_right _ hk)
  refine ⟨hfl,?_⟩;rcases q5.2 with ⟨e1,e2⟩ | ⟨gg,cap,cur,e1,hbs,hh,hcap,hcm,hcs,hct⟩
  ·rcases hv with ⟨_,rfl⟩ | ⟨gg,n',c,e3,_⟩
   ·exact .inl ⟨rfl,by omega⟩
   ·rw [e1] at e3;cases e3
  ·rcases hv with ⟨e3,_⟩ | ⟨gg',n',c,e3,rfl⟩
   ·rw [e1] at e3;cases e3
   ·rw [e1] at e3;injection e3 with e3 e4 e5
    injection e3 with e3
    injection e3 with e3
    subst e3;subst e5
    refine .inr ⟨gg,cap,cur,rfl,hbs,hh,by omega,hcm,hcs,?_⟩;rw [←hct,List.take_take,Nat.min_eq_left (Nat.mul_le_mul_right _ hk)]
 have h2:HR K.w0 w ((G.kl id).ad v k sz) (((G.kl id).nx,.row sz (rows.take k) e)::(id,.dead)::st.heap):=by
  refine h1.update x2 (fun _ h=>h) (Below.refl _ _) (G.kl id).nx _ (fun i hne' hi=>?_) (fun i hi hne'=>?_) (fun b hb=>r.hr.ownlt b hb) ?_ (fun i g hi hne' hg=>?_) (fun g _ hg=>?_)
  ·exact ⟨if_neg hne',if_neg hne',fun _ _=>rfl⟩
  ·have:i<(G.kl id).nx+1:=hi;omega
  ·refine ⟨Nat.lt_succ_self _,q2,hsz,by rw [hln,hkl],flat.take (k*sz),by rw [hρ,hkl];exact hown,fun u hu=>q6 u (List.mem_of_mem_take hu),fun i row hi=>?_⟩;have hik:i<k:=by have:=(List.getElem?_eq_some_iff.1 hi).1;omega
   rw [List.getElem?_take_of_lt hik] at hi;obtain ⟨g1,g2⟩:=q7 i row hi;refine ⟨g1,fun j x hj=>?_⟩;obtain ⟨u,g3,g4⟩:=g2 j x hj;have hjs:j<sz:=by rw [←g1];exact (List.getElem?_eq_some_iff.1 hj).1
   refine ⟨u,?_,(g4.ext x1).ext x2⟩;rw [List.getElem?_take_of_lt (flat_lt hik hjs)];exact g3
  ·rw [hρ] at hg;have hg':=hvo g hg;by_cases ei:i=id
   ·subst ei;have:(G.kl i).ρ i=.slice Option.none 0 0:=if_pos rfl;rw [this];simp [ownBlk]
   ·have e1:(G.kl id).ρ i=G.ρ i:=if_neg ei;rw [e1];exact r.hr.dist id i g q1 hi (Ne.symm ei) hg'
  ·rw [hρ] at hg;exact r.hr.ownhas' id g q1 (hvo g hg)
 have hnn:(G.kl id).nx=st.nx:=hnx;rw [hnn] at h2 hρ hln hsz;refine ⟨r.turn (st.nx+1) (by show G.nx+1=_;omega) h2 (x1.trans x2),.osl _ _ _ (by show st.nx<G.nx+1;omega) (by rw [hsz];exact q2) (by rw [hln];exact Nat.le_refl _) ?_ (fun _=>hρ.symm)⟩;rcases hv with ⟨h0,rfl⟩ | ⟨gg,n',c,_,rfl⟩
 ·have:k=0:=by
   rcases q5.2 with ⟨_,e2⟩ | ⟨gg,cap,cur,e1,_⟩
   ·omega
   ·rw [e1] at h0;cases h0
  subst this;exact ⟨_,_,rfl⟩
 ·exact ⟨_,_,rfl⟩
theorem op_trunc {lo hi:Option Operand} {h:Int} {sz b id m:Nat} {rows:List (List AV)} {e e':TypeId} {z:Option Value} (hx:st.ev x=.osl id m) (hb:look .dead st.heap id=.row sz rows e') (hm:m=rows.length) (hlo:BndA st 0 lo 0) (hhi:BndA st m hi h) (hT:P.underlying t=some (.slice e)) (hI:tyI P e=some (z,sz,b))
  (h0:0≤h) (h2:h≤m) (hd:dok d n=true) :
  OpV P n ⟨d,.slice t x lo hi none,ty,ps,af,g⟩ st ((⟨st.regs,(st.nx,.row sz (rows.take h.toNat) e')::(id,.dead)::st.heap,st.nx+1⟩:ASt).put d (.osl st.nx h.toNat)):=.mk fun K a w ⟨G,rr⟩=>by
 have e1:=rr.ev x;rw [hx] at e1;have hk:=rr.hr.blk id;rw [hb] at hk;obtain ⟨q1,q2,q3,q4,flat,q5,q6,q7⟩:=hk;generalize he:a.eval x=v at e1
 cases e1 with
 | dat h=>cases h
 | osl _ _ _ hid hs hn hv hh =>
  have e3:=hh (by rw [q4,hm])
  have hsh:∃ A c,v=.slice A m c∧m≤c∧((G.ρ id=.slice Option.none 0 0∧sliced A 0 h.toNat c sz=.slice Option.none 0 0)∨∃ gg n c',G.ρ id=.slice (some ⟨gg,0,Option.none⟩) n c'∧sliced A 0 h.toNat c sz=.slice (some ⟨gg,0,Option.none⟩) h.toNat c'):=by
   rcases q5.2 with ⟨e4,e5⟩ | ⟨gg,cap,cur,e4,_,_,hcap,hcm,_,_⟩
   ·have:m=0:=by omega
    subst this;refine ⟨none,0,by rw [e3,e4],Nat.le_refl _,.inl ⟨e4,?_⟩⟩;rw [show h.toNat=0 by omega];rfl
   ·refine ⟨_,cap,by rw [e3,e4,hm],by omega,.inr ⟨gg,_,cap,e4,?_⟩⟩;have ea:(some (⟨gg,0,Option.none⟩:Addr)).map (·.add (0*sz))=some ⟨gg,0,Option.none⟩:=by rw [Option.map_some,addr_add,Nat.zero_mul]
    unfold sliced;rw [ea,ite_self];rfl
  obtain ⟨A,c,rfl,hc,hA⟩:=hsh;have hbd:=fun w=>run_bnds (P:=P) (isS:=true) (len:=m) (cap:=c) w (hlo.val rr) (hhi.val rr) (Int.le_refl 0) h0 h2 hc
  obtain ⟨r2,hv2⟩:=trunc_rel rr hb (k:=h.toNat) (by omega) hA;refine ⟨_,w,.inl ?_,_,r2.put (dok_lt hd) hv2⟩;simp [execOp,Instr.sliceAt,Instr.slice,he,run_underlying hT,hbd,run_sizeOf' hI,sliced]
theorem op_slice_arr {lo hi:Option Operand} {l h:Int} {sz b id m:Nat} {rows:List (List AV)} {e e':TypeId} {z:Option Value} (hx:st.ev x=.elt id m 0 0) (hb:look .dead st.heap id=.row sz rows e') (hm:m=rows.length) (hlo:BndA st 0 lo l) (hhi:BndA st m hi h) (hT:P.underlying t=some (.array m e)) (hI:tyI P e=some (z,sz,b))
  (h0:0≤l) (h1:l≤h) (h2:h≤m) (h3:0<m) (hd:dok d n=true) :
  OpR P n ⟨d,.slice t x lo hi none,ty,ps,af,g⟩ st (.vsl id m l.toNat (h.toNat-l.toNat)):=.mk hd fun K a w G rr=>by
 have e1:=rr.ev x;rw [hx] at e1;obtain ⟨gg,c,flat,q1,q2,q3,q4,q5,q6,q7,q8⟩:=rr.rowAt hb hm h3
 have hml:m≤maxLen:=by
  rcases q6.2 with ⟨e1,e2⟩ | ⟨gg',cap,cur,e1,_,_,hcap,hcm,_,_⟩
  ·omega
  ·omega
 generalize he:a.eval x=v at e1
 cases e1 with
 | dat h=>cases h
 | elt _ _ _ _ _ hid hin hs hn hv hh =>
  obtain ⟨gg',c',e3,rfl⟩:=hh (by rw [q5,hm]);rw [q1] at e3;injection e3 with e3 _ _
  injection e3 with e3
  injection e3 with e3 _ _
  subst e3;have hbd:=fun w=>run_bnds (P:=P) (isS:=false) (len:=m) (cap:=m) w (hlo.val rr) (hhi.val rr) h0 h1 h2 (Nat.le_refl _)
  have key:=vsl_mk (w:=w) (G:=G) (id:=id) (m:=m) (lo:=0) (l:=l.toNat) (h:=h.toNat) (sz:=sz) (c:=m) (A:=some ⟨gg,0,none⟩) hid hs q3 hn (by omega) (by omega) (by omega) hml (fun _ _=>⟨gg,c,by rw [q1,hm],by rw [Nat.zero_mul]⟩);rw [Nat.zero_add] at key;refine ⟨_,fun w' _=>?_,key⟩;rw [q3] at he
  have es:sliced (some ⟨gg,0,none⟩) l.toNat h.toNat m sz=.slice (some (if m=l.toNat then ⟨gg,0*sz+0,none⟩ else (⟨gg,0*sz+0,none⟩:Addr).add (l.toNat*sz))) (h.toNat-l.toNat) (m-l.toNat):=by
   unfold sliced;rw [Nat.zero_mul]
   split <;> rfl
  rw [es];simp [execOp,Instr.sliceAt,Instr.sureAddr,he,run_underlying hT,hbd,run_sizeOf' hI]
theorem op_slice_peek {sz b m:Nat} {row:List AV} {e:TypeId} {z:Option Value} (hx:st.ev x=.peek row 0) (hm:m=row.length) (hT:P.underlying t=some (.array m e)) (hI:tyI P e=some (z,sz,b)) (hsz:sz=1) (h0:0<m) (hml:m≤maxLen) (hd:dok d n=true) :
  OpR P n ⟨d,.slice t x none none none,ty,ps,af,g⟩ st (.ro false 1 (row.map fun a=>[a])):=.mk hd fun K a w G rr=>by
 subst hsz;have e1:=rr.ev x;rw [hx] at e1;generalize he:a.eval x=v at e1
 cases e1 with
 | dat h=>cases h
 | peek _ _ bk o f hr hb h1 h2 =>
  have hbd:=fun w=>run_bnds (P:=P) (isS:=false) (len:=m) (cap:=m) (lo:=none) (hi:=none) (l:=0) (h:=(m:Int)) w (.inl ⟨rfl,rfl⟩) (.inl ⟨rfl,rfl⟩) (Int.le_refl _) (by omega) (Int.le_refl _) (Nat.le_refl _)
  have hr':RelD w G.own G.bs (.ro false 1 (row.map fun a=>[a])) (.slice (some ⟨bk,o,none⟩) (row.map fun a=>[a]).length m):=by
   refine .ro false 1 _ _ m (fun i _=>f i) (by rw [List.length_map,hm];exact Nat.le_refl _) hml (fun _ _=>by simp) (fun i rw' j a' g1 g2=>?_) (fun i rw' j a' g1 g2=>?_)
   ·rw [List.getElem?_map] at g1;obtain ⟨a1,g3,rfl⟩:=Option.map_eq_some_iff.1 g1
    cases j with
    | succ j=>simp at g2
    | zero =>
     simp at g2;subst g2;exact ⟨bk,o,rfl,hb,fun h=>(by cases h),by simpa using h1 i a1 g3⟩
   ·rw [List.getElem?_map] at g1;obtain ⟨a1,g3,rfl⟩:=Option.map_eq_some_iff.1 g1
    cases j with
    | succ j=>simp at g2
    | zero =>
     simp at g2;subst g2;exact h2 i a1 g3
  rw [List.length_map,←hm] at hr';refine ⟨_,fun w' _=>?_,.dat hr'⟩;have hne:¬ (m=0):=by omega
  simp [execOp,Instr.sliceAt,Instr.sureAddr,he,run_underlying hT,hbd,run_sizeOf' hI,hne,Addr.add]
theorem op_slice_vsl {lo hi:Option Operand} {l h:Int} {sz b id m p len:Nat} {rows:List (List AV)} {e e':TypeId} {z:Option Value} (hx:st.ev x=.vsl id m p len) (hb:look .dead st.heap id=.row sz rows e') (hm:m=rows.length) (hlo:BndA st 0 lo l) (hhi:BndA st len hi h) (hT:P.underlying t=some (.slice e)) (hI:tyI P e=some (z,sz,b))
  (h0:0≤l) (h1:l≤h) (h2:h≤len) (hd:dok d n=true) :
  OpR P n ⟨d,.slice t x lo hi none,ty,ps,af,g⟩ st (.vsl id m (p+l.toNat) (h.toNat-l.toNat)):=.mk hd fun K a w G rr=>by
 have e1:=rr.ev x;rw [hx] at e1;have hk:=rr.hr.blk id;rw [hb] at hk;obtain ⟨q1,q2,q3,q4,flat,q5,q6,q7⟩:=hk;generalize he:a.eval x=v at e1
 cases e1 with
 | dat h=>cases h
 | vsl _ _ _ _ _ hid hs hn hle hv hh =>
  obtain ⟨A,c,rfl,hc,hcm,hA⟩:=hh (by rw [q4,hm]);have hbd:=fun w=>run_bnds (P:=P) (isS:=true) (len:=len) (cap:=c) w (hlo.val rr) (hhi.val rr) h0 h1 h2 hc
  have key:=vsl_mk (w:=w) (G:=G) (id:=id) (m:=m) (lo:=p) (l:=l.toNat) (h:=h.toNat) (sz:=sz) (c:=c) (A:=A) hid hs q3 hn (by omega) (by omega) (by omega) hcm (fun _ hp=>by
   obtain ⟨g,c',e1,e2⟩:=hA (by omega)
   exact ⟨g,c',e1,by rw [e2,q3]⟩)
  refine ⟨_,fun w' _=>?_,key⟩;simp [execOp,Instr.sliceAt,Instr.slice,he,run_underlying hT,hbd,run_sizeOf' hI,sliced]
theorem op_index_vsl {e e':TypeId} {z:Option Value} {sz sz' b id m p len:Nat} {rows:List (List AV)} {k:IntKind} {i:Int} (hx:st.ev x=.vsl id m p len) (hb:look .dead st.heap id=.row sz rows e') (hm:m=rows.length) (hy:st.ev y=.int k i) (hT:P.underlying t=some (.slice e)) (hI:tyI P e=some (z,sz',b)) (hsz:sz'=sz) (h0:0≤i) (hlt:i<(len:Int)) (hd:dok d n=true) :
  OpR P n ⟨d,.indexAddr t x y,ty,ps,af,g⟩ st (.elt id m (p+i.toNat) 0) :=
 .mk hd fun K a w G rr=>by
  subst hsz;have e1:=rr.ev x;rw [hx] at e1;have e2:=rr.ev y;rw [hy] at e2;have e2:=e2.int';have hk:=rr.hr.blk id;rw [hb] at hk;obtain ⟨q1,q2,q3,q4,flat,q5,q6,q7⟩:=hk;generalize he:a.eval x=v at e1
  cases e1 with
  | dat h=>cases h
  | vsl _ _ _ _ _ hid hs hn hle hv hh =>
   obtain ⟨A,c,rfl,hc,hcm,hA⟩:=hh (by rw [q4,hm]);obtain ⟨gg,c',e3,rfl⟩:=hA (by omega);refine ⟨.pointer (some ⟨gg,p*G.sz id+i.toNat*sz',none⟩),?_,.elt _ _ _ _ _ hid (by omega) hs hn ⟨_,rfl⟩ fun _=>⟨gg,c',e3,by rw [q3,Nat.add_mul];simp⟩⟩;intro w' _;simp [execOp,he,e2,Instr.indexAt,asIntOf,run_underlying hT,run_sizeOf' hI,h0,hlt,addr_add]
theorem op_index_box {e:TypeId} {z:Option Value} {sz b id p L:Nat} {k:IntKind} {i:Int} (hx:st.ev x=.box id p) (hy:st.ev y=.int k i) (hT:P.underlying t=some (.array L e)) (hI:tyI P e=some (z,sz,b)) (h0:0≤i) (hlt:i<(L:Int)) (hd:dok d n=true) :
  OpR P n ⟨d,.indexAddr t x y,ty,ps,af,g⟩ st (.box id (p+i.toNat*sz)) :=
 .mk hd fun K a w G rr=>by
  have e1:=rr.ev x;rw [hx] at e1;have e2:=rr.ev y;rw [hy] at e2;have e2:=e2.int';generalize he:a.eval x=v at e1
  cases e1 with
  | dat h=>cases h
  | box _ _ gg hid hs' h =>
   refine ⟨.pointer (some ⟨gg,p+i.toNat*sz,none⟩),?_,.box _ _ _ hid hs' h⟩;intro w' _;simp [execOp,he,e2,Instr.indexAt,asIntOf,run_underlying hT,run_sizeOf' hI,h0,hlt,addr_add,Instr.sureAddr]
theorem op_slice_str {lo hi:Option Operand} {l h:Int} {s:ByteArray} (hx:st.ev x=.str s) (hlo:BndA st 0 lo l) (hhi:BndA st s.size hi h) (hT:P.underlying t=some .string) (h0:0≤l) (h1:l≤h) (h2:h≤s.size) (hd:dok d n=true) :
  OpR P n ⟨d,.slice t x lo hi none,ty,ps,af,g⟩ st (.str (s.extract l.toNat h.toNat)):=.mk hd fun K a w G rr=>by
 have e1:=rr.ev x;rw [hx] at e1;have ev:=e1.str';refine ⟨_,fun w' _=>?_,.dat (.str _)⟩;have hb:=fun w=>run_bnds (P:=P) (isS:=false) (len:=s.size) (cap:=s.size) w (hlo.val rr) (hhi.val rr) h0 h1 h2 (Nat.le_refl _)
 simp [execOp,Instr.sliceAt,Instr.slice,ev,run_underlying hT,hb]
theorem op_cat {s r:ByteArray} (hx:st.ev x=.str s) (hy:st.ev y=.str r) (hl:((s.size+r.size:Nat):Int)≤9223372036854775807) (hd:dok d n=true):OpR P n ⟨d,.binOp .add t x y t',ty,ps,af,g⟩ st (.str (s++r)):=.mk hd fun K a w G rr=>by
 have e1:=rr.ev x;rw [hx] at e1;have e2:=rr.ev y;rw [hy] at e2;refine ⟨_,fun w' _=>?_,.dat (.str _)⟩;have hm:¬ 9223372036854775807<(s.size:Int)+(r.size:Int):=by omega
 simp [execOp,e1.str',e2.str',eqGuard,binOp,Op.stringOp,hm]
theorem ext_list (s:List UInt8) (l h:Nat):(⟨⟨s⟩⟩:ByteArray).extract l h=⟨⟨(s.take h).drop l⟩⟩:=by
 apply ByteArray.ext;rw [ByteArray.data_extract];apply Array.ext';simp [List.drop_take]
theorem cat_list (s r:List UInt8):(⟨⟨s⟩⟩:ByteArray)++⟨⟨r⟩⟩=⟨⟨s++r⟩⟩:=by
 apply ByteArray.ext;rw [ByteArray.data_append];apply Array.ext';simp
theorem flatten_at {rows:List (List AV)} {sz:Nat} (hs:∀ r ∈ rows,r.length=sz):∀ {j:Nat} {a:AV},rows.flatten[j]?=some a→∃ i k row,j=i*sz+k∧rows[i]?=some row∧row[k]?=some a:=by
 induction rows with
 | nil=>intro j a h;simp at h
 | cons r l ih =>
  intro j a h;have hr:=hs r (by simp);rw [List.flatten_cons] at h;by_cases hj:j<r.length
  ·rw [List.getElem?_append_left hj] at h;exact ⟨0,j,r,by omega,rfl,h⟩
  ·rw [List.getElem?_append_right (by omega)] at h;obtain ⟨i,k,row,e,h1,h2⟩:=ih (fun r h=>hs r (List.mem_cons_of_mem _ h)) h;exact ⟨i+1,k,row,by rw [Nat.add_mul,Nat.one_mul];omega,by simpa using h1,h2⟩
theorem flatten_get {rows:List (List AV)} {sz:Nat} (hs:∀ r ∈ rows,r.length=sz):∀ {i k:Nat} {row:List AV},rows[i]?=some row→k<sz→rows.flatten[i*sz+k]?=row[k]?:=by
 induction rows with
 | nil=>intro i k row h _;simp at h
 | cons r l ih =>
  intro i k row h hk;have hr:=hs r (by simp);rw [List.flatten_cons]
  cases i with
  | zero =>
   simp at h;subst h;rw [Nat.zero_mul,Nat.zero_add,List.getElem?_append_left (by omega)]
  | succ i =>
   rw [List.getElem?_append_right (by rw [Nat.add_mul];omega),hr,Nat.add_mul,show i*sz+1*sz+k-sz=i*sz+k by omega];exact ih (fun r h=>hs r (List.mem_cons_of_mem _ h)) (by simpa using h) hk
theorem flatten_len {rows:List (List AV)} {sz:Nat} (hs:∀ r ∈ rows,r.length=sz):rows.flatten.length=rows.length*sz:=by
 induction rows with
 | nil=>simp
 | cons r l ih=>rw [List.flatten_cons,List.length_append,ih (fun r h=>hs r (List.mem_cons_of_mem _ h)),hs r (by simp),List.length_cons,Nat.add_mul];omega
theorem rowsV_flat {w:World} {G:Gh} {sz:Nat} {rows:List (List AV)} {vs:Array Value} (hs:∀ r ∈ rows,r.length=sz) (h:CellsV w G rows.flatten vs):RowsV w G sz rows vs.toList:=by
 have hsz:=h.size;refine ⟨by rw [Array.length_toList,hsz,flatten_len hs],fun v hv=>?_,fun i row hi=>⟨hs row (List.mem_of_getElem? hi),fun j a hj=>?_⟩⟩
 ·obtain ⟨i,hi,rfl⟩:=List.getElem_of_mem hv;exact h.one i _ (by simp)
 ·have hr:=hs row (List.mem_of_getElem? hi);have hjs:j<sz:=by rw [←hr];exact (List.getElem?_eq_some_iff.1 hj).1
  have hf:=flatten_get hs hi hjs;rw [hj] at hf;have hlt:i*sz+j<vs.size:=by rw [hsz];exact (List.getElem?_eq_some_iff.1 hf).1
  exact ⟨vs[i*sz+j],by simp [hlt],h.rel _ _ _ hf (Array.getElem?_eq_getElem hlt)⟩
theorem newArr {K:Kn} {a:Act} {w:World} {G:Gh} (r:RelG K n st a w G) {sz:Nat} {rows:List (List AV)} {vs:Array Value} (h0:0<sz) (hn:0<rows.length) (hm:rows.length≤maxLen) (hs:∀ r ∈ rows,r.length=sz) (h:CellsV w G rows.flatten vs) (e:TypeId) :
  ∃ G',RelG K n (st.hnew (.row sz rows e)) a (w.alloc (.cells vs e)) G'∧RelV (w.alloc (.cells vs e)) G' (.elt st.nx rows.length 0 0) (.pointer (some ⟨w.heap.size,0,none⟩)):=by
 have ho:=ownsM.of (World.ownsRow_lit (base:=w.heap.size) (e:=e) (size:=sz) w vs rows.length (Nat.le_refl _) hm (by rw [h.size,flatten_len hs]));obtain ⟨r2,hv⟩:=r.newRow (below_alloc' _ _) (rows:=rows) (sz:=sz) (e:=e) h0 ho (rowsV_flat hs h);refine ⟨_,r2,?_⟩
 cases hv with
 | dat hv=>cases hv
 | osl _ _ _ hid hsz hnn hvv hh =>
  refine .elt _ _ _ _ _ hid hn hsz hnn ⟨_,rfl⟩ fun e=>⟨w.heap.size,rows.length,(hh e).symm,by simp⟩
theorem op_alloc_arr {e:TypeId} {z:Value} {s b sz:Nat} {rows:List (List AV)} (hz:tyI P e=some (some z,s,b)) (hcs:z.cells.toList.map avOf=rows.flatten) (h1:allOne rows.flatten=true) (h0:0<sz) (hn:0<rows.length) (hm:rows.length≤maxLen) (hs:∀ r ∈ rows,r.length=sz) (hd:dok d n=true) :
  OpV P n ⟨d,.alloc e,ty,ps,af,g⟩ st ((st.hnew (.row sz rows e)).put d (.elt st.nx rows.length 0 0)):=.mk fun K a w ⟨G,r⟩=>by
 have hc:=cellsV_const w G (vs:=z.cells) (by rw [hcs];exact h1);rw [hcs] at hc;obtain ⟨G',r2,hv⟩:=newArr r h0 hn hm hs hc e;refine ⟨_,_,.inl ?_,_,r2.put (dok_lt hd) hv⟩;simp [execOp,Instr.alloc,run_zeroValue' hz,newVar,newRow]
theorem op_box_arr {e:TypeId} {sz:Nat} {rows:List (List AV)} (hc:(st.ev x).cells=rows.flatten) (h1:allOne rows.flatten=true) (h0:0<sz) (hn:0<rows.length) (hm:rows.length≤maxLen) (hs:∀ r ∈ rows,r.length=sz) (hd:dok d n=true) :
  OpV P n ⟨d,.box e x,ty,ps,af,g⟩ st ((st.hnew (.row sz rows e)).put d (.elt st.nx rows.length 0 0)):=.mk fun K a w ⟨G,r⟩=>by
 have hcv:=(r.ev x).cellsV (by rw [hc];exact h1);rw [hc] at hcv;obtain ⟨G',r2,hv⟩:=newArr r h0 hn hm hs hcv e;refine ⟨_,_,.inl ?_,_,r2.put (dok_lt hd) hv⟩;simp [execOp,Instr.box,newVar,newRow]
theorem op_index_arr {e e':TypeId} {z:Option Value} {sz b id m L:Nat} {rows:List (List AV)} {k:IntKind} {i:Int} (hx:st.ev x=.elt id m 0 0) (hb:look .dead st.heap id=.row sz rows e') (hm:m=rows.length) (hy:st.ev y=.int k i) (hT:P.underlying t=some (.array L e)) (hI:tyI P e=some (z,sz,b)) (h0:0≤i) (hL:i<(L:Int)) (hlt:i<(m:Int)) (hd:dok d n=true) :
  OpR P n ⟨d,.indexAddr t x y,ty,ps,af,g⟩ st (.elt id m i.toNat 0) :=
 .mk hd fun K a w G rr=>by
  have e1:=rr.ev x;rw [hx] at e1;have e2:=rr.ev y;rw [hy] at e2;have e2:=e2.int';obtain ⟨gg,c,flat,q1,q2,q3,q4,q5,q6,q7,q8⟩:=rr.rowAt hb hm (by omega);generalize he:a.eval x=v at e1
  cases e1 with
  | dat h=>cases h
  | elt _ _ _ _ _ hid hin hs hn hv h =>
   obtain ⟨gg',c',e3,rfl⟩:=h (by rw [q5,hm]);rw [q1] at e3;injection e3 with e3 _ _
   injection e3 with e3
   injection e3 with e3 _ _
   subst e3;refine ⟨.pointer (some ⟨gg,0+i.toNat*sz,none⟩),?_,.elt _ _ _ _ _ hid (by omega) hs hn ⟨_,rfl⟩ fun _=>⟨gg,c,by rw [q1,hm],by rw [q3];simp⟩⟩;intro w' _;simp [execOp,he,e2,Instr.indexAt,asIntOf,run_underlying hT,run_sizeOf' hI,h0,hL,addr_add,Instr.sureAddr]
theorem op_load_arr {D:TypeDesc} {z:Option Value} {s b id m sz:Nat} {rows:List (List AV)} {e:TypeId} (hx:st.ev x=.elt id m 0 0) (hb:look .dead st.heap id=.row sz rows e) (hm:m=rows.length) (h0:0<m) (hT:P.underlying t=some D) (hD:aggB D=true) (hI:tyI P t=some (z,s,b)) (hs:s=m*sz) (hd:dok d n=true) :
  OpR P n ⟨d,.load t x,ty,ps,af,g⟩ st (.agg rows.flatten) :=
 .mk hd fun K a w G rr=>by
  have e1:=rr.ev x;rw [hx] at e1;obtain ⟨gg,c,flat,q1,q2,q3,q4,q5,q6,q7,q8⟩:=rr.rowAt hb hm h0
  have hrs:∀ r ∈ rows,r.length=sz:=fun r hr=>by
   obtain ⟨i,hi⟩:=List.mem_iff_getElem?.1 hr;exact (q8 i r hi).1
  generalize he:a.eval x=u at e1
  cases e1 with
  | dat h=>cases h
  | elt _ _ _ _ _ hid hin hs' hn hv' h =>
   obtain ⟨gg',c',e2,rfl⟩:=h (by rw [q5,hm]);rw [q1] at e2;injection e2 with e2 _ _
   injection e2 with e2
   injection e2 with e2 _ _
   subst e2;rw [q3] at he;have hl:rows.flatten.length=s:=by rw [flatten_len hrs,hs,hm]
   have hp:partA rows.flatten 0 s (aggB D)=some (.agg rows.flatten):=by
    unfold partA;rw [hD,if_pos rfl,if_pos (by omega),List.drop_zero,List.take_of_length_le (by omega)]
   refine load_core (bb:=gg) (o:=0) (f:=fun j=>flat.getD j undef) hT hI hp (by rw [he];simp) (fun j c hj=>?_) (fun j c hj=>?_) rr
   ·obtain ⟨i,k,row,e,h1,h2⟩:=flatten_at hrs hj;obtain ⟨u,g1,g2,_⟩:=(q8 i row h1).2 k c h2;subst e;rw [Nat.zero_add,g2,List.getD_eq_getElem?_getD,g1];rfl
   ·obtain ⟨i,k,row,e,h1,h2⟩:=flatten_at hrs hj;obtain ⟨u,g1,_,g3⟩:=(q8 i row h1).2 k c h2;subst e;rw [List.getD_eq_getElem?_getD,g1];exact g3
def setF (sz:Nat) (rows:List (List AV)) (p:Nat):List AV→List (List AV)
 | []=>rows
 | v::l=>setF sz (rows.set (p / sz) ((rows.getD (p / sz) []).set (p % sz) v)) (p+1) l
theorem setF_row (sz:Nat):∀ (l:List AV) (rows:List (List AV)) (p:Nat),(∀ r ∈ rows,r.length=sz)→∀ r ∈ setF sz rows p l,r.length=sz
 | [],_,_,h=>h
 | v::l,rows,p,h=>by
  rw [setF];refine setF_row sz l _ _ fun r hr=>?_
  by_cases hi:p / sz<rows.length
  ·rcases List.mem_or_eq_of_mem_set hr with hr | rfl
   ·exact h r hr
   ·rw [List.length_set,List.getD_eq_getElem?_getD,List.getElem?_eq_getElem hi];exact h _ (List.getElem_mem hi)
  ·rw [List.set_eq_of_length_le (by omega)] at hr;exact h r hr
theorem setF_at (sz:Nat) (h0:0<sz):∀ (l:List AV) (rows:List (List AV)) (p:Nat),(∀ r ∈ rows,r.length=sz)→p+l.length≤rows.length*sz→∀ q,(setF sz rows p l).flatten[q]?=if p≤q∧q<p+l.length then l[q-p]? else rows.flatten[q]?
 | [],rows,p,_,_,q=>by rw [setF,if_neg (by simp only [List.length_nil];omega)]
 | v::l,rows,p,h,hl,q=>by
  rw [List.length_cons] at hl;have hi:p / sz<rows.length:=Nat.div_lt_of_lt_mul (by rw [Nat.mul_comm];omega);have hk:p % sz<sz:=Nat.mod_lt _ h0;have hg:rows.getD (p / sz) []=rows[p / sz]:=by rw [List.getD_eq_getElem?_getD,List.getElem?_eq_getElem hi];rfl
  have hrl:=h _ (List.getElem_mem hi)
  have h':∀ r ∈ rows.set (p / sz) ((rows.getD (p / sz) []).set (p % sz) v),r.length=sz:=by
   intro r hr;rcases List.mem_or_eq_of_mem_set hr with hr | rfl
   ·exact h r hr
   ·rw [List.length_set,hg];exact hrl
  have hpd:p / sz*sz+p % sz=p:=by rw [Nat.mul_comm];exact Nat.div_add_mod p sz
  have one:∀ q,(rows.set (p / sz) ((rows.getD (p / sz) []).set (p % sz) v)).flatten[q]?=if q=p then some v else rows.flatten[q]?:=by
   intro q;by_cases hq:q<rows.length*sz
   ·have hqd:q / sz*sz+q % sz=q:=by rw [Nat.mul_comm];exact Nat.div_add_mod q sz
    have hqi:q / sz<rows.length:=Nat.div_lt_of_lt_mul (by rw [Nat.mul_comm];exact hq);have hqk:q % sz<sz:=Nat.mod_lt _ h0;have e2:=flatten_get h (List.getElem?_eq_getElem hqi) hqk;rw [hqd] at e2;by_cases e:q / sz=p / sz
    ·have e1:=flatten_get h' (i:=q / sz) (k:=q % sz) (row:=(rows.getD (p / sz) []).set (p % sz) v) (by rw [e,List.getElem?_set_self hi]) hqk;rw [hqd] at e1;rw [e1];by_cases e3:q % sz=p % sz
     ·rw [if_pos (by rw [←hqd,←hpd,e,e3]),e3,List.getElem?_set_self (by rw [hg,hrl];exact hk)]
     ·rw [if_neg (by rintro rfl;exact e3 rfl),List.getElem?_set_ne (fun a=>e3 a.symm),e2,hg];simp only [e]
    ·have e1:=flatten_get h' (i:=q / sz) (k:=q % sz) (row:=rows[q / sz]) (by rw [List.getElem?_set_ne (fun a=>e a.symm),List.getElem?_eq_getElem hqi]) hqk;rw [hqd] at e1;rw [e1,if_neg (by rintro rfl;exact e rfl),e2]
   ·rw [List.getElem?_eq_none (by rw [flatten_len h',List.length_set];omega),if_neg (by omega),List.getElem?_eq_none (by rw [flatten_len h];omega)]
  rw [setF,setF_at sz h0 l _ (p+1) h' (by rw [List.length_set];omega) q,one q,List.length_cons];by_cases e:q=p
  ·subst e;rw [if_neg (by omega),if_pos rfl,if_pos (by omega),Nat.sub_self];rfl
  ·by_cases e2:p+1≤q∧q<p+1+l.length
   ·rw [if_pos e2,if_pos (by omega),show q-p=(q-(p+1))+1 by omega,List.getElem?_cons_succ]
   ·rw [if_neg e2,if_neg e,if_neg (by omega)]
theorem rows_eq {sz:Nat} (h0:0<sz):∀ {a b:List (List AV)},(∀ r ∈ a,r.length=sz)→(∀ r ∈ b,r.length=sz)→a.flatten=b.flatten→a=b
 | [],[],_,_,_=>rfl
 | [],r::b,_,hb,h=>by
  have h1:=hb r (by simp);rw [List.flatten_cons] at h;have h2:=congrArg List.length h;rw [List.length_append,List.flatten_nil,List.length_nil] at h2;omega
 | r::a,[],ha,_,h=>by
  have h1:=ha r (by simp);rw [List.flatten_cons] at h;have h2:=congrArg List.length h;rw [List.length_append,List.flatten_nil,List.length_nil] at h2;omega
 | r::a,r'::b,ha,hb,h=>by
  rw [List.flatten_cons,List.flatten_cons] at h;have hl:r.length=r'.length:=by rw [ha r (by simp),hb r' (by simp)]
  obtain ⟨e1,e2⟩:=List.append_inj h hl;rw [e1,rows_eq h0 (fun x hx=>ha x (List.mem_cons_of_mem _ hx)) (fun x hx=>hb x (List.mem_cons_of_mem _ hx)) e2]
theorem setF_all {sz:Nat} (h0:0<sz) {rows rows':List (List AV)} (h:∀ r ∈ rows,r.length=sz) (h':∀ r ∈ rows',r.length=sz) (hl:rows.length=rows'.length):setF sz rows 0 rows'.flatten=rows':=by
 refine rows_eq h0 (setF_row sz _ _ _ h) h' (List.ext_getElem? fun q=>?_);have e:=flatten_len h';rw [←hl] at e;rw [setF_at sz h0 _ _ _ h (by omega)];by_cases c:q<rows'.flatten.length
 ·rw [if_pos (by omega)];rfl
 ·rw [if_neg (by omega),List.getElem?_eq_none (by rw [flatten_len h];omega),List.getElem?_eq_none (by omega)]
theorem RelG.storeFlat {K:Kn} {a:Act} {G:Gh} {id sz gg c:Nat} {e:TypeId} (h0:0<sz) (hρ:∀ L,L=G.ln id→G.ρ id=.slice (some ⟨gg,0,none⟩) L c):∀ (xs:List AV) (vs:List Value) (k:Nat) (rows:List (List AV)) (w:World) (st:ASt),RelG K n st a w G→look .dead st.heap id=.row sz rows e→k+vs.length≤rows.length*sz→vs.length=xs.length →
  (∀ v ∈ vs,v.oneCell'=true)→(∀ (j:Nat) (x:AV) (v:Value),xs[j]?=some x→vs[j]?=some v→RelV w G x v) →
  ∃ w',(storeCells ⟨gg,0,none⟩ vs k).run P w=.ok () w'∧RelG K n (st.hset id (.row sz (setF sz rows k xs) e)) a w' G:=by
 intro xs
 induction xs with
 | nil =>
  intro vs k rows w st r hb _ hl _ _;have:vs=[]:=List.eq_nil_of_length_eq_zero hl;subst this;exact ⟨w,rfl,r.hself hb⟩
 | cons x xs ih =>
  intro vs k rows w st r hb hle hl h1 hr
  obtain ⟨v,vs,rfl⟩:∃ v l,vs=v::l:=by match vs,hl with | v::l,_=>exact ⟨v,l,rfl⟩
  have hv1:=h1 v (by simp);have hvr:=hr 0 x v rfl rfl;have hk:=r.hr.blk id;rw [hb] at hk;obtain ⟨q1,q2,q3,q4,flat,q5,q6,q7⟩:=hk;have hρ':=hρ rows.length q4.symm;have hog:G.own gg:=r.hr.ownhas id gg q1 (by rw [hρ'];rfl);have hnf:¬ G.far gg:=r.hr.nofar id gg q1 (by rw [hρ'];rfl);rw [List.length_cons] at hle;have hi:k / sz<rows.length:=Nat.div_lt_of_lt_mul (by rw [Nat.mul_comm];omega);have hj:k % sz<sz:=Nat.mod_lt _ h0;have hkd:k / sz*sz+k % sz=k:=by rw [Nat.mul_comm];exact Nat.div_add_mod k sz
  have hg:rows.getD (k / sz) []=rows[k / sz]:=by rw [List.getD_eq_getElem?_getD,List.getElem?_eq_getElem hi];rfl
  have r2:=r.setElt (i:=k / sz) (j:=k % sz) hb hρ' (List.getElem?_eq_getElem hi) hj hvr hv1;have q5':=q5;rw [hρ'] at q5';have hc:=q5'.cellAt k (by omega);have hfl':k<flat.length:=by rw [q5.1];omega
  rw [List.getElem?_eq_getElem hfl'] at hc;have hf:=q5'.frozenAt k (by omega);rw [hkd] at r2
  have hst:(store ((⟨gg,0,none⟩:Addr).add k) v).run P w=.ok () (w.setCell ⟨gg,k,none⟩ v):=by
   rw [addr_add,Nat.zero_add,run_store P w _ v _ hv1,hc];simp [hf]
  obtain ⟨w',e1,r3⟩:=ih vs (k+1) (rows.set (k / sz) (rows[k / sz].set (k % sz) x)) _ (st.hset id (.row sz (rows.set (k / sz) (rows[k / sz].set (k % sz) x)) e)) r2 (look_self _ _ _ _) (by rw [List.length_set];omega) (by simpa using hl) (fun u hu=>h1 u (by simp [hu]))
   (fun j y u hy hu=>(hr (j+1) y u (by simpa using hy) (by simpa using hu)).ext (Ext.setCell hog hnf v))
  refine ⟨w',?_,?_⟩
  ·simp only [storeCells,Sem.run_bind,hst,Result.andThen_ok,e1]
  ·have:=r3.hset2;rw [setF,hg];exact this
theorem op_store_arr {z:Option Value} {s b:Nat} {id m sz:Nat} {rows rows':List (List AV)} {e:TypeId} (hx:st.ev x=.elt id m 0 0) (hb:look .dead st.heap id=.row sz rows e) (hm:m=rows.length) (h0:0<m) (hy:(st.ev y).cells=rows'.flatten) (h1:allOne rows'.flatten=true) (hI:tyI P t=some (z,s,b)) (hs:rows'.flatten.length=s) (hl:rows'.length=m) (hr':∀ r ∈ rows',r.length=sz) :
  OpV P n ⟨none,.store t x y,ty,ps,af,g⟩ st (st.hset id (.row sz rows' e)):=.mk fun K a w ⟨G,r⟩=>by
 have e1:=r.ev x;rw [hx] at e1;have hcv:=(r.ev y).cellsV (by rw [hy];exact h1);rw [hy] at hcv;obtain ⟨gg,c,flat,q1,q2,q3,q4,q5,q6,q7,q8⟩:=r.rowAt hb hm h0
 have hrs:∀ r ∈ rows,r.length=sz:=fun r hr=>by
  obtain ⟨i,hi⟩:=List.mem_iff_getElem?.1 hr;exact (q8 i r hi).1
 generalize he:a.eval x=u at e1
 cases e1 with
 | dat h=>cases h
 | elt _ _ _ _ _ hid hin hs' hn hv' h =>
  obtain ⟨gg',c',e2,rfl⟩:=h (by rw [q5,hm]);rw [q1] at e2;injection e2 with e2 _ _
  injection e2 with e2
  injection e2 with e2 _ _
  subst e2;rw [q3] at he
  obtain ⟨w',hrun,r2⟩:=RelG.storeFlat (P:=P) (K:=K) (n:=n) (a:=a) (G:=G) (id:=id) (sz:=sz) (gg:=gg) (c:=c) (e:=e) q4 (fun L hL=>by rw [q5] at hL;subst hL;exact q1) rows'.flatten (a.eval y).cells.toList 0 rows w st r hb (by rw [Array.length_toList,hcv.size,flatten_len hr'];rw [hl,hm];omega) (by simpa using hcv.size) (fun v hv=>by
   obtain ⟨i,hi,hv⟩:=List.getElem_of_mem hv
   exact hcv.one i v (by rw [←hv];simp)) (fun j x' v hx' hv=>hcv.rel j x' v hx' (by simpa using hv))
  rw [setF_all q4 hrs hr' (by omega)] at r2;refine ⟨undef,w',.inr ⟨?_,rfl⟩,G,r2⟩;simp [execOp,Instr.storeAt,he,Instr.sureAddr,run_storeVar' hI (show (a.eval y).cells.size=s by rw [hcv.size,hs]),hrun]
theorem flatten_take {rows:List (List AV)} {sz:Nat} (hs:∀ r ∈ rows,r.length=sz) (k:Nat) (hk:k≤rows.length):(rows.take k).flatten=rows.flatten.take (k*sz):=by
 have h:=congrArg List.flatten (List.take_append_drop k rows);rw [List.flatten_append] at h;have hl:=flatten_len (fun r hr=>hs r (List.mem_of_mem_take hr):∀ r ∈ rows.take k,r.length=sz);rw [List.length_take,Nat.min_eq_left hk] at hl;rw [←h,List.take_left' hl]
theorem flatten_drop {rows:List (List AV)} {sz:Nat} (hs:∀ r ∈ rows,r.length=sz) (k:Nat) (hk:k≤rows.length):(rows.drop k).flatten=rows.flatten.drop (k*sz):=by
 have h:=congrArg List.flatten (List.take_append_drop k rows);rw [List.flatten_append] at h;have hl:=flatten_len (fun r hr=>hs r (List.mem_of_mem_take hr):∀ r ∈ rows.take k,r.length=sz);rw [List.length_take,Nat.min_eq_left hk] at hl;rw [←h,List.drop_left' hl]
theorem setF_copy {sz:Nat} (h0:0<sz) {rows new:List (List AV)} (h:∀ r ∈ rows,r.length=sz) (h':∀ r ∈ new,r.length=sz) (hl:new.length≤rows.length):setF sz rows 0 new.flatten=new++rows.drop new.length:=by
 have hn:=flatten_len h';have hr:=flatten_len h;have hle:=Nat.mul_le_mul_right sz hl;refine rows_eq h0 (setF_row sz _ _ _ h) (fun r hr=>?_) (List.ext_getElem? fun q=>?_)
 ·rcases List.mem_append.1 hr with hr | hr
  ·exact h' r hr
  ·exact h r (List.mem_of_mem_drop hr)
 ·rw [setF_at sz h0 _ _ _ h (by omega),List.flatten_append,flatten_drop h _ hl];by_cases c:q<new.flatten.length
  ·rw [if_pos (by omega),List.getElem?_append_left c,Nat.sub_zero]
  ·rw [if_neg (by omega),List.getElem?_append_right (by omega),List.getElem?_drop,show new.length*sz+(q-new.flatten.length)=q by omega]
theorem RowsV.takeR {w:World} {G:Gh} {sz:Nat} {rows:List (List AV)} {flat:List Value} (h:RowsV w G sz rows flat) (k:Nat) (hk:k≤rows.length):RowsV w G sz (rows.take k) (flat.take (k*sz)):=by
 have hle:=Nat.mul_le_mul_right sz hk;refine ⟨by rw [List.length_take,List.length_take,h.len,Nat.min_eq_left hk];omega,fun v hv=>h.one v (List.mem_of_mem_take hv),fun i row hi=>?_⟩;have hil:i<k:=by have:=(List.getElem?_eq_some_iff.1 hi).1;rw [List.length_take] at this;omega
 rw [List.getElem?_take_of_lt hil] at hi;obtain ⟨g1,g2⟩:=h.rel i row hi;refine ⟨g1,fun j a hj=>?_⟩;have hjs:j<sz:=by rw [←g1];exact (List.getElem?_eq_some_iff.1 hj).1
 rw [List.getElem?_take_of_lt (flat_lt hil hjs)];exact g2 j a hj
theorem RowsV.flat {w:World} {G:Gh} {sz:Nat} {rows:List (List AV)} {flat:List Value} (h:RowsV w G sz rows flat):∀ (j:Nat) (x:AV) (v:Value),rows.flatten[j]?=some x→flat[j]?=some v→RelV w G x v:=by
 intro j x v hx hv
 have hs:∀ r ∈ rows,r.length=sz:=fun r hr=>by
  obtain ⟨i,hi⟩:=List.mem_iff_getElem?.1 hr;exact (h.rel i r hi).1
 obtain ⟨i,k,row,rfl,h1,h2⟩:=flatten_at hs hx;obtain ⟨u,g1,g2⟩:=(h.rel i row h1).2 k x h2;rw [hv] at g1;injection g1 with g1
 rw [g1];exact g2
theorem op_copy {e:TypeId} {z:Option Value} {sz b id m:Nat} {e':TypeId} {rows new:List (List AV)} {xv:AV} (hx:st.ev x=.osl id m) (hb:look .dead st.heap id=.row sz rows e') (hm:m=rows.length) (hy:st.ev y=xv) (hs:SrcA st.heap sz xv new) (hT:P.underlying t=some (.slice e)) (hI:tyI P e=some (z,sz,b)) (hd:dok d n=true) :
  OpV P n ⟨d,.call ⟨.builtin .copy,#[x,y],#[t,t']⟩,ty,ps,af,g⟩ st ((st.hset id (.row sz (new.take (Nat.min new.length m)++rows.drop (Nat.min new.length m)) e')).put d (.int .i64 (Nat.min new.length m:Nat))):=.mk fun K a w ⟨G,r⟩=>by
 subst hm;have e1:=r.ev x;rw [hx] at e1;have ey:=r.ev y;rw [hy] at ey;have hk:=r.hr.blk id;rw [hb] at hk;obtain ⟨q1,q2,q3,q4,flat,q5,q6,q7⟩:=hk
 have hrs:∀ r ∈ rows,r.length=sz:=fun r hr=>by
  obtain ⟨i,hi⟩:=List.mem_iff_getElem?.1 hr;exact (q7 i r hi).1
 obtain ⟨A,c,news,ev,hN,hA0,hA1,hA2⟩:=hs.real r q2 ey;obtain ⟨k,hkd⟩:∃ k,k=Nat.min new.length rows.length:=⟨_,rfl⟩;rw [←hkd];have hk1:k≤new.length:=by rw [hkd];exact Nat.min_le_left _ _
 have hk2:k≤rows.length:=by rw [hkd];exact Nat.min_le_right _ _
 have hT':=hN.takeR k hk1
 have hns:∀ r ∈ new.take k,r.length=sz:=fun r hr=>by
  obtain ⟨i,hi⟩:=List.mem_iff_getElem?.1 hr;exact (hT'.rel i r hi).1
 have hnl:(new.take k).length=k:=by rw [List.length_take];omega
 have hrv:∃ c0 A0,a.eval x=.slice A0 rows.length c0∧((A0=none∧rows=[])∨∃ gg,A0=some ⟨gg,0,none⟩∧G.ρ id=.slice (some ⟨gg,0,none⟩) rows.length c0):=by
  generalize he:a.eval x=v at e1
  cases e1 with
  | dat h=>cases h
  | osl _ _ _ hid hs' hn hv hh =>
   have e3:=hh (by rw [q4]);rcases q5.2 with ⟨g1,g2⟩ | ⟨gg,cap,cur,g1,_,_,_,_,_,_⟩
   ·exact ⟨0,none,by rw [e3,g1,g2],.inl ⟨rfl,List.eq_nil_of_length_eq_zero g2⟩⟩
   ·exact ⟨cap,_,by rw [e3,g1],.inr ⟨gg,rfl,g1⟩⟩
 obtain ⟨c0,A0,ex,hA⟩:=hrv

 have hld:(Builtin.firstCells sz k (.slice A new.length c)).run P w=.ok (news.take (k*sz)).toArray w:=by
  cases A with
  | none =>
   have h0:=hA0 rfl;have:k=0:=by omega
   subst this;simp [Builtin.firstCells]
  | some aa =>
   have hl:(news.take (k*sz)).length=k*sz:=by rw [hT'.len,hnl]
   have:=run_loadCells_list (P:=P) w aa (news.take (k*sz)) (fun j v hj=>by
    have hjl:j<k*sz:=by rw [←hl];exact (List.getElem?_eq_some_iff.1 hj).1
    rw [List.getElem?_take_of_lt hjl] at hj;obtain ⟨bb,o,e1,e2⟩:=hA2 j v hj;injection e1 with e1
    rw [e1,addr_add]
    exact e2)
   rw [hl] at this;simp [Builtin.firstCells,this]

 have hwr:∃ w',(if let some a:=A0 then storeCells a (news.take (k*sz)) else pure ():Sem Unit).run P w=.ok () w'∧RelG K n (st.hset id (.row sz (new.take k++rows.drop k) e')) a w' G:=by
  rcases hA with ⟨rfl,hr0⟩ | ⟨gg,rfl,hρ⟩
  ·subst hr0;have hk0:k=0:=by have:k≤0:=hk2;omega
   subst hk0;exact ⟨w,rfl,r.hself hb⟩
  ·have hvl:(news.take (k*sz)).length=(new.take k).flatten.length:=by rw [hT'.len,flatten_len hns]
   obtain ⟨w',h1,h2⟩:=RelG.storeFlat (P:=P) (K:=K) (n:=n) (a:=a) (G:=G) (id:=id) (sz:=sz) (gg:=gg) (c:=c0) (e:=e') q2 (fun L hL=>by rw [q4] at hL;rw [hL];exact hρ) (new.take k).flatten (news.take (k*sz)) 0 rows w st r hb (by
    rw [hT'.len,hnl,Nat.zero_add];exact Nat.mul_le_mul_right sz hk2) hvl hT'.one hT'.flat
   rw [setF_copy q2 hrs hns (by rw [hnl];exact hk2),hnl] at h2;exact ⟨w',h1,h2⟩
 obtain ⟨w',h1,h2⟩:=hwr;refine ⟨.int .i64 k,w',.inl ?_,G,h2.put (dok_lt hd) (rI _ _ _ _)⟩;have hkm:Nat.min new.length rows.length=k:=hkd.symm
 cases A0 with
 | none =>
  have h1:Result.ok () w=Result.ok () w':=h1;injection h1 with _ h1
  subst h1;simp [execOp,resolve,invoke,ex,ev,run_underlying hT,run_sizeOf' hI,Builtin.copy_,Builtin.lenOf,hkm,hld,goInt,builtin]
 | some aa =>
  have h1:(storeCells aa (news.take (k*sz))).run P w=.ok () w':=h1;simp [execOp,resolve,invoke,ex,ev,run_underlying hT,run_sizeOf' hI,Builtin.copy_,Builtin.lenOf,hkm,hld,goInt,builtin,h1]
theorem op_build_arr {z:Value} {s b ss bb L:Nat} {e:TypeId} {ze:Option Value} {parts:Array (Nat×Operand)} {zs out:List AV} (hU:P.underlying t=some (.array L e)) (hI:tyI P t=some (some z,s,b)) (hE:tyI P e=some (ze,ss,bb)) (hz:z.cells.toList.map avOf=zs) (hz1:allOne zs=true) (hf:fillA (fun i=>some (i*ss,ss)) zs (evParts st parts.toList)=some out) (hd:dok d n=true) :
  OpR P n ⟨d,.build t parts,ty,ps,af,g⟩ st (.agg out) :=
 .mk hd fun K a w G rr=>by
  subst hz;rw [evParts_map] at hf;obtain ⟨os,g1,g2⟩:=fill_rel (fun i=>some (i*ss,ss)) _ (parts.toList.map fun p=>(p.1,a.eval p.2)) _ out z.cells (by simp) (fun j p u hp hu=>parts_rel rr parts.toList j p u hp hu) (cellsV_const w G hz1) hf;refine ⟨.agg os,?_,.agg _ _ g2.size g2.rel⟩;intro w' _;simp only [execOp,Instr.build,Sem.run_bind,run_zeroValue' hI,Result.andThen_ok,run_underlying hU,run_sizeOf' hE];simp only [Array.toList_map,g1];rfl
end
end Go.Proofs.Ytljebnobajmjnaa
/- Symbolic walks: strings turned into bytes,rows marked,a string's bytes appended. No program in sight. -/
namespace Go.Proofs.Ytljebnobajmjnaa
open Go Go.RowKit Go.Lib
set_option linter.unusedSimpArgs false
set_option linter.unusedSectionVars false
set_option linter.unusedVariables false
section
variable {P:Program} {n:Nat} {st:ASt} {d:Option Nat} {ty:TypeId} {ps:String} {af:Array Edge} {g:Option (Nat×Bool)} {x y:Operand} {t t':TypeId}
end
end Go.Proofs.Ytljebnobajmjnaa
/- Symbolic walks: an append of zeros (append of a made slice). No program in sight. -/
namespace Go.Proofs.Ytljebnobajmjnaa
open Go Go.RowKit Go.Lib
set_option linter.unusedSimpArgs false
set_option linter.unusedSectionVars false
set_option linter.unusedVariables false
theorem zeroCells_one {z:Array Value} {c:Value} (hz:z=#[c]) (k:Nat):Builtin.zeroCells z k=(List.replicate k c).toArray:=by
 subst hz;apply Array.ext';unfold Builtin.zeroCells;simp only [Array.toList_map,Array.toList_range];apply List.ext_getElem
 ·simp
 ·intro i h1 h2;simp [Nat.mod_one]
section
variable {P:Program} {n:Nat} {st:ASt} {d:Option Nat} {ty:TypeId} {ps:String} {af:Array Edge} {g:Option (Nat×Bool)} {x y:Operand} {t t':TypeId}
theorem run_append_room_zerosM (w:World) (t u ty e:TypeId) (i:TypeInfo) (z c:Value) (kq kn:IntKind) (ht:P.underlying t=some (.slice e)) (hu:P.underlying u=some (.int kn)) (hi:P.info? e=some i) (hz:i.zero=some z) (hs1:i.size=1) (hby:i.bytes=1)
  (hc:z.cells=#[c]) (h1:c.oneCell'=true) (g sLen sCap:Nat) (cur:Array Value) (hg:HasC w g cur e) (k:Nat) (hk:0<k) (hk2:k≤1000000) (hroom:sLen+k≤sCap) (hfit:sLen+k≤cur.size) :
  (Builtin.append_ #[t,u] ty #[.slice (some ⟨g,0,none⟩) sLen sCap,.int kq k]).run P w =
   .ok (.slice (some ⟨g,0,none⟩) (sLen+k) sCap) (w.setRow g (cur.toList.take sLen++List.replicate k c++cur.toList.drop (sLen+k)).toArray):=by
 have hst:=run_storeCells_M (P:=P) g sLen e (List.replicate k c) 0 cur w hg (by simpa using hfit) (fun v hv=>by rw [(List.mem_replicate.1 hv).2];exact h1);simp only [Nat.add_zero,List.length_replicate] at hst;have hw:IntKind.i64.wrap (k:Int)=k:=by rw [IntKind.wrap_i64];omega
 have hneg:¬ ((k:Int)<0):=by omega
 have h48i:¬ (281474976710656<(k:Int)):=by omega
 have hk0:¬ (k=0):=by omega
 simp [Builtin.append_,run_underlying ht,run_underlying hu,sizeOf,typeInfo,zeroValue,hi,hz,hs1,hby,asInt,asIntOf,hw,hneg,h48i,hk0,hroom,zeroCells_one hc,Addr.add_lit,hst]
theorem run_append_zeros (w:World) (base:Nat) (t u ty e:TypeId) (i:TypeInfo) (z c:Value) (kq kn:IntKind) (ht:P.underlying t=some (.slice e)) (hu:P.underlying u=some (.int kn)) (hi:P.info? e=some i) (hz:i.zero=some z)
  (hsize:i.size=1) (hby:i.bytes=1) (hc:z.cells=#[c]) (h1:c.oneCell'=true) (v:Value) (n:Nat) (xs:List Value) (hown:ownsM w base e 1 v n xs) (k:Nat) (hk:0<k) (hk2:n+k≤1000000)
  (hbase:base≤w.heap.size) :
  ∃ v' w',(Builtin.append_ #[t,u] ty #[v,.int kq k]).run P w=.ok v' w'∧ownsM w' base e 1 v' (n+k) (xs++List.replicate k c)∧w.grownBy w' v.ownBlock∧(∀ g,ownBlk v'=some g→ownBlk v=some g∨w.heap.size≤g):=by
 have hxl:xs.length=n:=by simpa using hown.1
 have hzs:z.cells.size=1:=by rw [hc];rfl
 have hlen:(xs++List.replicate k c).length=(n+k)*1:=by rw [List.length_append,hxl,List.length_replicate,Nat.mul_one]
 have grown:∀ (old:Nat),old<n+k→∀ (row:Option Nat),
   ownsM (w.drew.alloc (.cells (xs.toArray++(List.replicate k c).toArray++Builtin.zeroCells z.cells (grownCap w (n+k) old e-(n+k))) e)) base e 1
    (.slice (some ⟨w.heap.size,0,none⟩) (n+k) (grownCap w (n+k) old e)) (n+k) (xs++List.replicate k c) ∧
   w.grownBy (w.drew.alloc (.cells (xs.toArray++(List.replicate k c).toArray++Builtin.zeroCells z.cells (grownCap w (n+k) old e-(n+k))) e)) row:=by
  intro old ho row;have hge:=grownCap_ge w (n+k) old e;have hcm:grownCap w (n+k) old e≤maxLen:=grownCap_le_maxLen w (n+k) old e (by simp only [maxLen];omega);refine ⟨⟨hlen,.inr ⟨w.heap.size,_,_,rfl,hbase,.of (heap_alloc_new w.drew _),hge,hcm,?_,?_⟩⟩,⟨rfl,rfl,rfl,by simp,fun k hk _=>Below.heap_alloc w.drew _ k hk⟩⟩
  ·simp only [Array.size_append,List.size_toArray,size_zeroCells,hzs,hxl,List.length_replicate];omega
  ·simp only [Array.toList_append,List.append_assoc];rw [←List.append_assoc,←hlen];exact List.take_left
 rcases hown.2 with ⟨rfl,rfl⟩ | ⟨g,cap,cur,rfl,hbg,hg,hnc,hcm,hcs,htake⟩
 ·have hx:xs=[]:=List.eq_nil_of_length_eq_zero hxl;subst hx;have hr:=run_append_nil_zeros (P:=P) w t u ty e i z kq kn ht hu hi hz k hk (by omega) (by omega) (by rw [hby];omega);have hgr:=grown 0 (by omega) (Value.ownBlock (.slice none 0 0));simp only [Nat.zero_add,List.nil_append,Array.empty_append] at hgr ⊢;rw [zeroCells_one hc k] at hr;exact ⟨_,_,hr,hgr.1,hgr.2,fun g hg=>(by simp [ownBlk] at hg;right;omega)⟩
 ·by_cases hroom:n+k≤cap
  ·have hcs':cur.size=cap:=by simpa using hcs
   have hr:=run_append_room_zerosM (P:=P) w t u ty e i z c kq kn ht hu hi hz hsize hby hc h1 g n cap cur hg k hk (by omega) hroom (by omega);refine ⟨_,_,hr,⟨hlen,.inr ⟨g,cap,_,rfl,hbg,hg.setRow ?_,hroom,hcm,?_,?_⟩⟩,⟨rfl,rfl,rfl,by simp,fun k _ hk=>setRow_other w g k _ (fun e=>hk (by simp [Value.ownBlock,e]))⟩,fun g' hg'=>.inl hg'⟩
   ·simp only [List.size_toArray,List.length_append,List.length_take,List.length_drop,Array.length_toList,List.length_replicate];omega
   ·simp only [List.size_toArray,List.length_append,List.length_take,List.length_drop,Array.length_toList,List.length_replicate];omega
   ·have ht':cur.toList.take n=xs:=by simpa using htake
    rw [ht',←hlen];exact List.take_left
  ·have holds:∀ j u,xs[j]?=some u→w.cell? ((⟨g,0,none⟩:Addr).add j)=some u:=hown.cells (g:=g) rfl;have hfo:=run_firstCells_some (P:=P) w.drew i.size n ⟨g,0,none⟩ n cap xs (by rw [hsize];simpa using hxl) (by simpa using holds);have hr:=run_append_grow_zeros (P:=P) w t u ty e i z kq kn ht hu hi hz (some ⟨g,0,none⟩) n cap xs hfo k hk (by omega) (by omega) (by omega) (by rw [hby];omega) (by rw [hby];exact growslice_fits (by omega) (by omega));rw [zeroCells_one hc k] at hr;have hgr:=grown cap (by omega) (Value.ownBlock (.slice (some ⟨g,0,none⟩) n cap));exact ⟨_,_,hr,hgr.1,hgr.2,fun g' hg'=>(by simp [ownBlk] at hg';right;omega)⟩
theorem zeros_ok (w:World) (G:Gh) {c:Value} {a:AV} (ha:avOf c=a) (h1:c.oneCell'=true) (k:Nat):RowsV w G 1 (List.replicate k [a]) (List.replicate k c):=by
 refine ⟨by simp,fun v hv=>by rw [(List.mem_replicate.1 hv).2];exact h1,fun i row hi=>?_⟩;rw [List.getElem?_replicate] at hi;split at hi
 ·rename_i hik;injection hi with hi
  subst hi;refine ⟨rfl,fun j b hj=>?_⟩;obtain rfl:j=0:=by have:=(List.getElem?_eq_some_iff.1 hj).1;simp at this;omega
  injection hj with hj
  subst hj;refine ⟨c,by rw [List.getElem?_replicate,if_pos (by omega)],?_⟩;rw [←ha];exact avOf_rel w G c
 ·cases hi
theorem op_append_zeros {e:TypeId} {z c:Value} {ca:AV} {kn kq:IntKind} {id m:Nat} {L:Int} {rows:List (List AV)} (hx:st.ev x=.osl id m) (hb:look .dead st.heap id=.row 1 rows e) (hm:m=rows.length) (hy:st.ev y=.int kq L) (hpos:0<L)
  (hT:P.underlying t=some (.slice e)) (hU:P.underlying t'=some (.int kn)) (hI:tyI P e=some (some z,1,1)) (hc:z.cells.toList=[c]) (hca:avOf c=ca) (h1c:c.oneCell'=true) (h63:rows.length+L.toNat≤1000000) (hd:dok d n=true) :
  OpV P n ⟨d,.call {callee:=.builtin .append,args:=#[x,y],argTypes:=#[t,t'] },ty,ps,af,g⟩ st ((st.hset id (.row 1 (rows++List.replicate L.toNat [ca]) e)).put d (.osl id (rows.length+L.toNat))):=.mk fun K a w ⟨G,r⟩=>by
 have e1:=r.ev x;rw [hx] at e1;have e2:=r.ev y;rw [hy] at e2;have e2:=e2.int';obtain ⟨k,rfl⟩:∃ k:Nat,L=k:=⟨L.toNat,by omega⟩;rw [Int.toNat_natCast] at h63 ⊢;have hzc:z.cells=#[c]:=Array.ext' hc;have hk:=r.hr.blk id;rw [hb] at hk;obtain ⟨q1,q2,q3,q4,flat,q5,q6,q7⟩:=hk
 have ev:a.eval x=G.ρ id:=by
  cases e1 with
  | dat h=>cases h
  | osl _ _ _ _ _ _ _ hh=>exact hh (by rw [q4,hm])
 obtain ⟨i,hi,hz0,hz1,hz2⟩:=tyI_info hI;obtain ⟨v',w',p1,p2,p3,p4⟩:=run_append_zeros (P:=P) w K.w0.heap.size t t' ty e i z c kq kn hT hU hi hz0 hz1 hz2 hzc h1c (G.ρ id) rows.length flat q5 k (by omega) h63 r.hr.below.size;have hob:=ownBlock_eq q5;rw [hob] at p3;have hoo:∀ g,ownBlk (G.ρ id)=some g→G.own g:=fun g hg=>r.hr.ownhas id g q1 hg
 let G':Gh:=⟨fun j=>if j=id then v' else G.ρ j,fun b=>G.own b∨ownBlk v'=some b,fun j=>if j=id then rows.length+k else G.ln j,G.sz,G.nx,G.bs,G.far⟩
 have hρ:G'.ρ id=v':=if_pos rfl;have hln:G'.ln id=rows.length+k:=if_pos rfl
 have hsl:∃ A c,v'=.slice A (rows.length+k) c:=by
  rcases p2.2 with ⟨h1,h2⟩ | ⟨gg,cap,cur,h1,_⟩
  ·rw [h1,h2];exact ⟨_,_,rfl⟩
  ·rw [h1];exact ⟨_,_,rfl⟩
 have hext:Ext w G w' G':=by
  refine ⟨p3.size,fun b hb hl=>p3.block b hl (fun e=>hb.elim (fun hb=>hb (hoo b e.symm)) (fun hf=>r.hr.nofar id b q1 e.symm hf)),fun b h=>?_,Nat.le_refl _,⟨rfl,rfl⟩,fun j hj=>?_⟩
  ·rcases h with h | h
   ·exact .inl h
   ·exact (p4 b h).imp (hoo b) (fun h=>h)
  ·by_cases e:j=id
   ·subst e;exact ⟨by rw [hln,q4];omega,rfl,fun h=>by rw [hln,q4] at h;omega,fun h=>by omega⟩
   ·have h1:G'.ln j=G.ln j:=if_neg e;have h2:G'.ρ j=G.ρ j:=if_neg e;exact ⟨by omega,rfl,fun _=>h2,fun _=>h1⟩
 have hRV:RowsV w G 1 rows flat:=⟨q5.1,q6,q7⟩;have hRV2:=(hRV.append (zeros_ok w G hca h1c k)).ext hext;have hlr:(rows++List.replicate k [ca]).length=rows.length+k:=by rw [List.length_append,List.length_replicate]
 have hHR:HR K.w0 w' G' ((id,.row 1 (rows++List.replicate k [ca]) e)::st.heap):=by
  refine r.hr.update hext (fun b h=>.inl h) (grown_below p3 r.hr.below.size (fun g hg=>(r.hr.ownlt g (hoo g hg)).1)) id _ (fun j hne hj=>⟨if_neg hne,if_neg hne,fun g hg=>p3.block g (r.hr.ownlt g (r.hr.ownhas j g hj hg)).2 (fun e=>?_)⟩) (fun j h _=>h) (fun b hb=>?_)
   ⟨q1,q2,q3,by rw [hln,hlr],flat++List.replicate k c,by rw [hρ,hlr];exact p2,hRV2.one,hRV2.rel⟩ (fun j g hj hne hg he=>?_) (fun g _ hg=>?_)
  ·exact r.hr.dist j id g hj q1 hne hg e.symm
  ·rcases hb with hb | hb
   ·have:=r.hr.ownlt b hb;have:=p3.size;omega
   ·rcases p4 b hb with h | h
    ·have:=r.hr.ownlt b (hoo b h);have:=p3.size;omega
    ·have h2:b<w'.heap.size:=by
      rcases p2.2 with ⟨h1,_⟩ | ⟨gg,cap,cur,h1,_,h3,_⟩
      ·rw [h1] at hb;simp [ownBlk] at hb
      ·rw [h1] at hb;simp [ownBlk] at hb;subst hb;exact h3.lt
     have:=r.hr.below.size;omega
  ·rw [hρ] at hg;rcases p4 g hg with h | h
   ·exact r.hr.dist j id g hj q1 hne he h
   ·have:=(r.hr.ownlt g (r.hr.ownhas j g hj he)).2;omega
  ·rw [hρ] at hg;refine ⟨.inr hg,?_⟩;rcases p4 g hg with h | h
   ·exact r.hr.nofar id g q1 h
   ·exact r.hr.newFar h
 have hnx:G'.nx=st.nx:=r.nx;refine ⟨v',w',.inl ?_,G',(r.turn st.nx hnx hHR hext).put (dok_lt hd) (RelV.osl (w:=w') (G:=G') id _ v' q1 (by show 0<G.sz id;omega) (by rw [hln];exact Nat.le_refl _) hsl (fun _=>hρ.symm))⟩;simp [execOp,resolve,invoke,builtin,ev,e2,p1]
theorem op_append_zeros0 {e:TypeId} {z:Value} {b:Nat} {kn kq:IntKind} {id m:Nat} {rows:List (List AV)} (hx:st.ev x=.osl id m) (hb:look .dead st.heap id=.row 1 rows e) (hm:m=rows.length) (hy:st.ev y=.int kq 0)
  (hT:P.underlying t=some (.slice e)) (hU:P.underlying t'=some (.int kn)) (hI:tyI P e=some (some z,1,b)) (hd:dok d n=true) :
  OpV P n ⟨d,.call {callee:=.builtin .append,args:=#[x,y],argTypes:=#[t,t'] },ty,ps,af,g⟩ st (st.put d (.osl id rows.length)):=.mk fun K a w ⟨G,r⟩=>by
 have e1:=r.ev x;rw [hx] at e1;have e2:=r.ev y;rw [hy] at e2;have e2:=e2.int';have hk:=r.hr.blk id;rw [hb] at hk;obtain ⟨q1,q2,q3,q4,flat,q5,q6,q7⟩:=hk
 have ev:a.eval x=G.ρ id:=by
  cases e1 with
  | dat h=>cases h
  | osl _ _ _ _ _ _ _ hh=>exact hh (by rw [q4,hm])
 obtain ⟨v,hv⟩:∃ v,v=G.ρ id:=⟨_,rfl⟩
 have hsl:∃ A c,v=.slice A rows.length c∧rows.length≤c:=by
  rw [hv];rcases q5.2 with ⟨h1,h2⟩ | ⟨gg,cap,cur,h1,_,_,h4,_⟩
  ·rw [h1,h2];exact ⟨_,_,rfl,Nat.le_refl _⟩
  ·rw [h1];exact ⟨_,_,rfl,h4⟩
 obtain ⟨A,c,hsv,hle⟩:=hsl;have hw0:IntKind.i64.wrap (0:Int)=0:=by rw [IntKind.wrap_i64];omega
 refine ⟨v,w,.inl ?_,G,r.put (dok_lt hd) (RelV.osl (w:=w) (G:=G) id _ v q1 (by omega) (by rw [q4];exact Nat.le_refl _) ⟨A,c,hsv⟩ (fun _=>hv))⟩;rw [←hv] at ev;rw [hsv] at ev ⊢;obtain ⟨i,hi,hz0,hz1,hz2⟩:=tyI_info hI
 cases A <;> simp [execOp,resolve,invoke,builtin,ev,e2,Builtin.append_,run_underlying hT,run_underlying hU,sizeOf,typeInfo,hi,hz1,asInt,asIntOf,hw0,hle,storeCells]
theorem op_append_zerosG {e:TypeId} {z c:Value} {ca:AV} {kn kq:IntKind} {id m:Nat} {L:Int} {rows:List (List AV)} (hx:st.ev x=.osl id m) (hb:look .dead st.heap id=.row 1 rows e) (hm:m=rows.length) (hy:st.ev y=.int kq L) (hpos:0≤L)
  (hT:P.underlying t=some (.slice e)) (hU:P.underlying t'=some (.int kn)) (hI:tyI P e=some (some z,1,1)) (hc:z.cells.toList=[c]) (hca:avOf c=ca) (h1c:c.oneCell'=true) (h63:rows.length+L.toNat≤1000000) (hd:dok d n=true) :
  OpV P n ⟨d,.call {callee:=.builtin .append,args:=#[x,y],argTypes:=#[t,t'] },ty,ps,af,g⟩ st ((st.hset id (.row 1 (rows++List.replicate L.toNat [ca]) e)).put d (.osl id (rows.length+L.toNat))):=by
 by_cases h0:L=0
 ·subst h0;have h:=op_append_zeros0 (P:=P) (n:=n) (d:=d) (ty:=ty) (ps:=ps) (af:=af) (g:=g) hx hb hm hy hT hU hI hd;refine .mk fun K a w r=>?_
  obtain ⟨v,w',h1,G,h2⟩:=h.out K a w r;refine ⟨v,w',h1,G,?_⟩;have e0:((0:Int).toNat)=0:=rfl;rw [e0,List.replicate_zero,List.append_nil,Nat.add_zero]
  have hb':look .dead (st.put d (.osl id rows.length)).heap id=.row 1 rows e:=by cases d <;> exact hb
  have:=h2.hself hb'
  cases d <;> exact this
 ·exact op_append_zeros hx hb hm hy (by omega) hT hU hI hc hca h1c h63 hd
theorem run_storeCells_shift (P:Program) (gg k:Nat):∀ (vs:List Value) (j:Nat) (w:World),(storeCells ⟨gg,k,none⟩ vs j).run P w=(storeCells ⟨gg,0,none⟩ vs (k+j)).run P w
 | [],j,w=>rfl
 | v::vs,j,w=>by
  simp only [storeCells,Sem.run_bind];have e:((⟨gg,k,none⟩:Addr).add j)=((⟨gg,0,none⟩:Addr).add (k+j)):=by rw [addr_add,addr_add,Nat.zero_add]
  rw [e];congr 1
  funext _ w1
  rw [run_storeCells_shift P gg k vs (j+1) w1,Nat.add_assoc]
theorem setF_copyV {sz lo:Nat} (h0:0<sz) {rows new:List (List AV)} (h:∀ r ∈ rows,r.length=sz) (h':∀ r ∈ new,r.length=sz) (hl:lo+new.length≤rows.length):setF sz rows (lo*sz) new.flatten=rows.take lo++(new++rows.drop (lo+new.length)):=by
 have hn:=flatten_len h';have hr:=flatten_len h;have hle:=Nat.mul_le_mul_right sz hl;rw [Nat.add_mul] at hle;refine rows_eq h0 (setF_row sz _ _ _ h) (fun r hr=>?_) (List.ext_getElem? fun q=>?_)
 ·rcases List.mem_append.1 hr with hr | hr
  ·exact h r (List.mem_of_mem_take hr)
  ·rcases List.mem_append.1 hr with hr | hr
   ·exact h' r hr
   ·exact h r (List.mem_of_mem_drop hr)
 ·have ht:(rows.take lo).flatten.length=lo*sz:=by rw [flatten_take h _ (by omega),List.length_take];omega
  rw [setF_at sz h0 _ _ _ h (by omega),List.flatten_append,List.flatten_append,flatten_drop h _ hl];by_cases c0:q<lo*sz
  ·rw [if_neg (by omega),List.getElem?_append_left (by omega),flatten_take h _ (by omega),List.getElem?_take_of_lt c0]
  ·rw [List.getElem?_append_right (by omega),ht];by_cases c:q<lo*sz+new.flatten.length
   ·rw [if_pos (by omega),List.getElem?_append_left (by omega)]
   ·rw [if_neg (by omega),List.getElem?_append_right (by omega),List.getElem?_drop,show (lo+new.length)*sz+(q-lo*sz-new.flatten.length)=q by rw [Nat.add_mul];omega]
theorem op_copyV {e:TypeId} {z:Option Value} {sz b id m lo len:Nat} {e':TypeId} {rows new:List (List AV)} {xv:AV} (hx:st.ev x=.vsl id m lo len) (hb:look .dead st.heap id=.row sz rows e') (hm:m=rows.length) (hy:st.ev y=xv) (hs:SrcA st.heap sz xv new) (hT:P.underlying t=some (.slice e)) (hI:tyI P e=some (z,sz,b)) (hd:dok d n=true) :
  OpV P n ⟨d,.call ⟨.builtin .copy,#[x,y],#[t,t']⟩,ty,ps,af,g⟩ st ((st.hset id (.row sz (rows.take lo++(new.take (Nat.min new.length len)++rows.drop (lo+Nat.min new.length len))) e')).put d (.int .i64 (Nat.min new.length len:Nat))):=.mk fun K a w ⟨G,r⟩=>by
 subst hm;have e1:=r.ev x;rw [hx] at e1;have ey:=r.ev y;rw [hy] at ey;have hk:=r.hr.blk id;rw [hb] at hk;obtain ⟨q1,q2,q3,q4,flat,q5,q6,q7⟩:=hk
 have hrs:∀ r ∈ rows,r.length=sz:=fun r hr=>by
  obtain ⟨i,hi⟩:=List.mem_iff_getElem?.1 hr;exact (q7 i r hi).1
 obtain ⟨A,c,news,ev,hN,hA0,hA1,hA2⟩:=hs.real r q2 ey;obtain ⟨k,hkd⟩:∃ k,k=Nat.min new.length len:=⟨_,rfl⟩;rw [←hkd];have hk1:k≤new.length:=by rw [hkd];exact Nat.min_le_left _ _
 have hk2:k≤len:=by rw [hkd];exact Nat.min_le_right _ _
 have hT':=hN.takeR k hk1
 have hns:∀ r ∈ new.take k,r.length=sz:=fun r hr=>by
  obtain ⟨i,hi⟩:=List.mem_iff_getElem?.1 hr;exact (hT'.rel i r hi).1
 have hnl:(new.take k).length=k:=by rw [List.length_take];omega
 have hrv:∃ c0 A0,a.eval x=.slice A0 len c0∧lo+len≤rows.length∧(0<len→∃ gg c1,A0=some ⟨gg,lo*sz,none⟩∧G.ρ id=.slice (some ⟨gg,0,none⟩) rows.length c1):=by
  generalize he:a.eval x=v at e1
  cases e1 with
  | dat h=>cases h
  | vsl _ _ _ _ _ hid hs' hn hle hv hh =>
   obtain ⟨A0,c0,e3,_,_,e4⟩:=hh (by rw [q4]);refine ⟨c0,A0,e3,hle,fun hl=>?_⟩;obtain ⟨gg,c1,g1,g2⟩:=e4 hl;exact ⟨gg,c1,by rw [g2,q3],g1⟩
 obtain ⟨c0,A0,ex,hlen,hA⟩:=hrv

 have hld:(Builtin.firstCells sz k (.slice A new.length c)).run P w=.ok (news.take (k*sz)).toArray w:=by
  cases A with
  | none =>
   have h0:=hA0 rfl;have:k=0:=by omega
   subst this;simp [Builtin.firstCells]
  | some aa =>
   have hl:(news.take (k*sz)).length=k*sz:=by rw [hT'.len,hnl]
   have:=run_loadCells_list (P:=P) w aa (news.take (k*sz)) (fun j v hj=>by
    have hjl:j<k*sz:=by rw [←hl];exact (List.getElem?_eq_some_iff.1 hj).1
    rw [List.getElem?_take_of_lt hjl] at hj;obtain ⟨bb,o,e1,e2⟩:=hA2 j v hj;injection e1 with e1
    rw [e1,addr_add]
    exact e2)
   rw [hl] at this;simp [Builtin.firstCells,this]

 have hwr:∃ w',(if let some a:=A0 then storeCells a (news.take (k*sz)) else pure ():Sem Unit).run P w=.ok () w'∧RelG K n (st.hset id (.row sz (rows.take lo++(new.take k++rows.drop (lo+k))) e')) a w' G:=by
  by_cases hk0:k=0
  ·have e0:news.take (k*sz)=[]:=by rw [hk0,Nat.zero_mul];rfl
   have e2:rows.take lo++(new.take k++rows.drop (lo+k))=rows:=by
    rw [hk0,List.take_zero,List.nil_append,Nat.add_zero];exact List.take_append_drop lo rows
   rw [e0,e2]
   cases A0 <;> exact ⟨w,rfl,r.hself hb⟩
  ·obtain ⟨gg,c1,rfl,hρ⟩:=hA (by omega);have hvl:(news.take (k*sz)).length=(new.take k).flatten.length:=by rw [hT'.len,flatten_len hns]
   obtain ⟨w',h1,h2⟩:=RelG.storeFlat (P:=P) (K:=K) (n:=n) (a:=a) (G:=G) (id:=id) (sz:=sz) (gg:=gg) (c:=c1) (e:=e') q2 (fun L hL=>by rw [q4] at hL;rw [hL];exact hρ) (new.take k).flatten (news.take (k*sz)) (lo*sz) rows w st r hb (by
    rw [hT'.len,hnl,←Nat.add_mul];exact Nat.mul_le_mul_right sz (by omega)) hvl hT'.one hT'.flat
   rw [setF_copyV q2 hrs hns (by rw [hnl];omega),hnl] at h2;refine ⟨w',?_,h2⟩;show (storeCells ⟨gg,lo*sz,none⟩ (news.take (k*sz)) 0).run P w=_;rw [run_storeCells_shift,Nat.add_zero];exact h1
 obtain ⟨w',h1,h2⟩:=hwr;refine ⟨.int .i64 k,w',.inl ?_,G,h2.put (dok_lt hd) (rI _ _ _ _)⟩;have hkm:Nat.min new.length len=k:=hkd.symm
 cases A0 with
 | none =>
  have h1:Result.ok () w=Result.ok () w':=h1;injection h1 with _ h1
  subst h1;simp [execOp,resolve,invoke,ex,ev,run_underlying hT,run_sizeOf' hI,Builtin.copy_,Builtin.lenOf,hkm,hld,goInt,builtin]
 | some aa =>
  have h1:(storeCells aa (news.take (k*sz))).run P w=.ok () w':=h1;simp [execOp,resolve,invoke,ex,ev,run_underlying hT,run_sizeOf' hI,Builtin.copy_,Builtin.lenOf,hkm,hld,goInt,builtin,h1]
end
end Go.Proofs.Ytljebnobajmjnaa
/- Decompiling: types of data,data as abstract values,what says less. No program in sight. -/
namespace Go.Proofs.Ytljebnobajmjnaa
open Go Go.RowKit

inductive Ty where
 | int (k:IntKind)
 | bool
 | str
 | list (t:Ty)
 | unit
 | pair (a b:Ty)
 | agg (t:Ty)
 | ptr (t:Ty)
 | aix
@[reducible] def Ty.den:Ty→Type
 | .int _=>Int
 | .bool=>Bool
 | .str=>List UInt8
 | .list t=>List t.den
 | .unit=>Unit
 | .pair a b=>a.den×b.den
 | .agg t=>t.den
 | .ptr t=>t.den
 | .aix=>Int×Int
def Ty.dflt:(t:Ty)→t.den
 | .int _=>(0:Int)
 | .bool=>false
 | .str=>([]:List UInt8)
 | .list _=>[]
 | .unit=>()
 | .pair a b=>(a.dflt,b.dflt)
 | .agg t=>t.dflt
 | .ptr t=>t.dflt
 | .aix=>((-1:Int),(0:Int))
def Ty.size:Ty→Nat
 | .pair a b=>a.size+b.size
 | .agg t=>t.size
 | .unit=>0
 | _=>1
def bigA:Nat:=4294967296
def aixAV (x:Int×Int):AV:=bif decide (0≤x.1)&&decide (x.1<(bigA:Int)) then .osl x.1.toNat x.2.toNat else .nils
theorem aixAV_one (x:Int×Int):(aixAV x).one=true:=by
 unfold aixAV
 cases decide (0≤x.1)&&decide (x.1<(bigA:Int)) <;> rfl
theorem aixAV_cells (x:Int×Int):(aixAV x).cells=[aixAV x]:=by
 unfold aixAV
 cases decide (0≤x.1)&&decide (x.1<(bigA:Int)) <;> rfl
def aeltAV (x:Int×Int) (j:Nat):AV:=bif decide (0≤x.1)&&decide (x.1<(bigA:Int)) then .elt x.1.toNat x.2.toNat j 0 else .nilp
theorem aeltAV_one (x:Int×Int) (j:Nat):(aeltAV x j).one=true:=by
 unfold aeltAV
 cases decide (0≤x.1)&&decide (x.1<(bigA:Int)) <;> rfl
theorem aeltAV_cells (x:Int×Int) (j:Nat):(aeltAV x j).cells=[aeltAV x j]:=by
 unfold aeltAV
 cases decide (0≤x.1)&&decide (x.1<(bigA:Int)) <;> rfl
theorem aixAV_old (x:Int×Int):(aixAV x).old=aixAV x:=by
 unfold aixAV
 cases decide (0≤x.1)&&decide (x.1<(bigA:Int)) <;> simp only [cond_true,cond_false,AV.old]
def Ty.cells (fr:Bool):(t:Ty)→t.den→List AV
 | .int k,n=>[.int k n]
 | .bool,b=>[.bool b]
 | .str,s=>[.str ⟨⟨s⟩⟩]
 | .list t,xs=>[.ro fr t.size (xs.map (Ty.cells fr t))]
 | .unit,_=>[]
 | .pair a b,x=>Ty.cells fr a x.1++Ty.cells fr b x.2
 | .agg t,x=>Ty.cells fr t x
 | .ptr _,_=>[.any]
 | .aix,x=>[aixAV x]
def Ty.av (fr:Bool):(t:Ty)→t.den→AV
 | .int k,n=>.int k n
 | .bool,b=>.bool b
 | .str,s=>.str ⟨⟨s⟩⟩
 | .list t,xs=>.ro fr t.size (xs.map (Ty.cells fr t))
 | .agg t,x=>.agg (Ty.cells fr t x)
 | .ptr t,x=>.peek (Ty.cells fr t x) 0
 | .unit,_=>.any
 | .pair _ _,_=>.any
 | .aix,x=>aixAV x
def Ty.avs (fr:Bool):(t:Ty)→t.den→List AV
 | .pair a b,x=>Ty.av fr a x.1::Ty.avs fr b x.2
 | _,_=>[]
theorem Ty.cells_length (fr:Bool):∀ (t:Ty) (x:t.den),(t.cells fr x).length=t.size
 | .int _,_=>rfl
 | .bool,_=>rfl
 | .str,_=>rfl
 | .list _,_=>rfl
 | .unit,_=>rfl
 | .pair a b,x=>by
  rw [Ty.cells,List.length_append,Ty.cells_length fr a,Ty.cells_length fr b];rfl
 | .agg t,x=>Ty.cells_length fr t x
 | .ptr _,_=>rfl
 | .aix,_=>rfl

def Ty.flat:Ty→Bool
 | .ptr _=>false
 | .aix=>false
 | .pair a b=>a.flat&&b.flat
 | .agg t=>t.flat
 | .list t=>t.flat
 | _=>true
def Ty.flatA:Ty→Bool
 | .ptr _=>false
 | .pair a b=>a.flatA&&b.flatA
 | .agg t=>t.flatA
 | .list t=>t.flat
 | _=>true
def Ty.dat:Ty→Bool
 | .aix=>false
 | .pair a b=>a.dat&&b.dat
 | .agg t=>t.dat
 | .list t=>t.dat
 | _=>true
theorem Ty.flat_dat:∀ (t:Ty),t.flat=true→t.dat=true
 | .int _,_=>rfl
 | .bool,_=>rfl
 | .str,_=>rfl
 | .unit,_=>rfl
 | .list t,h=>by rw [Ty.flat] at h;rw [Ty.dat];exact Ty.flat_dat t h
 | .pair a b,h=>by
  rw [Ty.flat,Bool.and_eq_true] at h;rw [Ty.dat,Ty.flat_dat a h.1,Ty.flat_dat b h.2];rfl
 | .agg t,h=>by rw [Ty.flat] at h;rw [Ty.dat];exact Ty.flat_dat t h
 | .ptr _,h=>by cases h
 | .aix,h=>by cases h
theorem Ty.cells_isD (fr:Bool):∀ (t:Ty) (x:t.den),t.dat=true→∀ a ∈ t.cells fr x,isD a=true
 | .int _,_,_=>by intro a h;rw [Ty.cells] at h;simp at h;subst h;rfl
 | .bool,_,_=>by intro a h;rw [Ty.cells] at h;simp at h;subst h;rfl
 | .str,_,_=>by intro a h;rw [Ty.cells] at h;simp at h;subst h;rfl
 | .list t,_,_=>by intro a h;rw [Ty.cells] at h;simp at h;subst h;rfl
 | .unit,_,_=>by intro a h;rw [Ty.cells] at h;simp at h
 | .pair a b,x,hd=>by
  intro c h;rw [Ty.dat,Bool.and_eq_true] at hd;rw [Ty.cells] at h;rcases List.mem_append.1 h with h | h
  ·exact Ty.cells_isD fr a x.1 hd.1 c h
  ·exact Ty.cells_isD fr b x.2 hd.2 c h
 | .agg t,x,hd=>by intro a h;rw [Ty.cells] at h;rw [Ty.dat] at hd;exact Ty.cells_isD fr t x hd a h
 | .ptr _,_,_=>by intro a h;rw [Ty.cells] at h;simp at h;subst h;rfl
 | .aix,_,hd=>by rw [Ty.dat] at hd;cases hd
theorem Ty.cells_one (fr:Bool):∀ (t:Ty) (x:t.den),t.flatA=true→allOne (t.cells fr x)=true
 | .int _,_,_=>rfl
 | .bool,_,_=>rfl
 | .str,_,_=>rfl
 | .list _,_,_=>rfl
 | .unit,_,_=>rfl
 | .pair a b,x,h=>by
  rw [Ty.flatA,Bool.and_eq_true] at h;have ha:=Ty.cells_one fr a x.1 h.1;have hb:=Ty.cells_one fr b x.2 h.2;rw [Ty.cells];generalize Ty.cells fr a x.1=l at ha ⊢
  induction l with
  | nil=>exact hb
  | cons c l ih =>
   rw [List.cons_append,allOne,Bool.and_eq_true];rw [allOne,Bool.and_eq_true] at ha;exact ⟨ha.1,ih ha.2⟩
 | .agg t,x,h=>Ty.cells_one fr t x (by rw [Ty.flatA] at h;exact h)
 | .ptr _,_,h=>by rw [Ty.flatA] at h;cases h
 | .aix,x,_=>by rw [Ty.cells,allOne,aixAV_one,allOne];rfl
theorem oldR_append (l m:List AV):oldR (l++m)=oldR l++oldR m:=by rw [oldR_map,oldR_map,oldR_map,List.map_append]
mutual
theorem Ty.cells_old (fr:Bool):∀ (t:Ty) (x:t.den),oldR (t.cells fr x)=t.cells false x
 | .int _,_=>by simp only [Ty.cells,oldR,AV.old]
 | .bool,_=>by simp only [Ty.cells,oldR,AV.old]
 | .str,_=>by simp only [Ty.cells,oldR,AV.old]
 | .list t,xs=>by
  simp only [Ty.cells,oldR,AV.old];rw [Ty.rows_old fr t xs]
 | .unit,_=>by simp only [Ty.cells,oldR]
 | .pair a b,x=>by
  rw [Ty.cells,Ty.cells,oldR_append,Ty.cells_old fr a,Ty.cells_old fr b]
 | .agg t,x=>by rw [Ty.cells,Ty.cells,Ty.cells_old fr t]
 | .ptr _,_=>by simp only [Ty.cells,oldR,AV.old]
 | .aix,_=>by simp only [Ty.cells,oldR,aixAV_old]
theorem Ty.rows_old (fr:Bool):∀ (t:Ty) (xs:List t.den),oldRR (xs.map (t.cells fr))=xs.map (t.cells false)
 | t,xs=>by
  rw [oldRR_map,List.map_map];exact List.map_congr_left fun x _=>Ty.cells_old fr t x
end

def Ty.eqd:(a b:Ty)→Option (PLift (a=b))
 | .int k,.int k'=>if h:k=k' then some ⟨by rw [h]⟩ else none
 | .bool,.bool=>some ⟨rfl⟩
 | .str,.str=>some ⟨rfl⟩
 | .unit,.unit=>some ⟨rfl⟩
 | .list a,.list b=>match Ty.eqd a b with
  | some ⟨h⟩=>some ⟨by rw [h]⟩
  | none=>none
 | .agg a,.agg b=>match Ty.eqd a b with
  | some ⟨h⟩=>some ⟨by rw [h]⟩
  | none=>none
 | .ptr a,.ptr b=>match Ty.eqd a b with
  | some ⟨h⟩=>some ⟨by rw [h]⟩
  | none=>none
 | .aix,.aix=>some ⟨rfl⟩
 | .pair a b,.pair c d=>match Ty.eqd a c,Ty.eqd b d with
  | some ⟨h⟩,some ⟨h'⟩=>some ⟨by rw [h,h']⟩
  | _,_=>none
 | _,_=>none

theorem cells_rel {w:World} {own:Nat→Prop} {bs:Nat}:∀ (t:Ty) (x:t.den) (i:Nat) (a b:AV) (v:Value),(t.cells false x)[i]?=some a→(t.cells true x)[i]?=some b→RelD w own bs b v→RelD w own bs a v
 | .int k,n,i,a,b,v,h1,h2,h=>by
  rw [Ty.cells] at h1 h2;rw [h1] at h2;injection h2 with h2;subst h2;exact h
 | .bool,n,i,a,b,v,h1,h2,h=>by
  rw [Ty.cells] at h1 h2;rw [h1] at h2;injection h2 with h2;subst h2;exact h
 | .str,n,i,a,b,v,h1,h2,h=>by
  rw [Ty.cells] at h1 h2;rw [h1] at h2;injection h2 with h2;subst h2;exact h
 | .unit,n,i,a,b,v,h1,h2,h=>by
  rw [Ty.cells] at h1;simp at h1
 | .ptr _,n,i,a,b,v,h1,h2,h=>by
  rw [Ty.cells] at h1 h2;rw [h1] at h2;injection h2 with h2;subst h2;exact h
 | .aix,n,i,a,b,v,h1,h2,h=>by
  rw [Ty.cells] at h1 h2;rw [h1] at h2;injection h2 with h2;subst h2;exact h
 | .agg t,n,i,a,b,v,h1,h2,h=>by
  rw [Ty.cells] at h1 h2;exact cells_rel t n i a b v h1 h2 h
 | .pair c d,x,i,a,b,v,h1,h2,h=>by
  rw [Ty.cells] at h1 h2;by_cases hi:i<c.size
  ·rw [List.getElem?_append_left (by rw [Ty.cells_length];exact hi)] at h1 h2;exact cells_rel c x.1 i a b v h1 h2 h
  ·rw [List.getElem?_append_right (by rw [Ty.cells_length];omega),Ty.cells_length] at h1 h2;exact cells_rel d x.2 _ a b v h1 h2 h
 | .list t,xs,i,a,b,v,h1,h2,h=>by
  rw [Ty.cells] at h1 h2
  cases i with
  | succ i=>simp at h1
  | zero =>
   simp only [List.getElem?_cons_zero,Option.some.injEq] at h1 h2;subst h1;subst h2
   have key:∀ (rows:List (List AV)),rows=xs.map (t.cells true)→∀ v,RelD w own bs (.ro true t.size rows) v→RelD w own bs (.ro false t.size (xs.map (t.cells false))) v:=by
    intro rows hrows v h
    cases h with
    | ro fr sz rows A c f hc hm h0 g1 g2 =>
     subst hrows;have hl:(xs.map (t.cells true)).length=(xs.map (t.cells false)).length:=by simp
     rw [hl]
     have get:∀ (i:Nat) (row:List AV) (j:Nat) (a:AV),(xs.map (t.cells false))[i]?=some row→row[j]?=some a→∃ x b,xs[i]?=some x∧(t.cells false x)[j]?=some a∧(t.cells true x)[j]?=some b:=by
      intro i row j a hr ha;rw [List.getElem?_map] at hr;obtain ⟨x,hx,e⟩:=Option.map_eq_some_iff.1 hr;subst e
      have hj:j<(t.cells true x).length:=by
       have:=(List.getElem?_eq_some_iff.1 ha).1;rw [Ty.cells_length] at this ⊢;exact this
      exact ⟨x,_,hx,ha,List.getElem?_eq_getElem hj⟩
     refine .ro false _ _ A c f (by rw [←hl];exact hc) hm (fun i hi=>h0 i (by rw [hl];exact hi)) (fun i row j a hr ha=>?_) (fun i row j a hr ha=>?_)
     ·obtain ⟨x,b,hx,_,hb⟩:=get i row j a hr ha;obtain ⟨bb,o,e1,e2,_,e4⟩:=g1 i (t.cells true x) j b (by rw [List.getElem?_map,hx];rfl) hb;exact ⟨bb,o,e1,e2,(fun e=>by cases e),e4⟩
     ·obtain ⟨x,b,hx,ha',hb⟩:=get i row j a hr ha;exact cells_rel t x j a b _ ha' hb (g2 i (t.cells true x) j b (by rw [List.getElem?_map,hx];rfl) hb)
   exact key _ rfl v h
structure Les (a b:AV):Prop where
 rel:∀ {w:World} {G:Gh} {v:Value},RelV w G b v→RelV w G a v
theorem Les.any (x:AV):Les .any x:=⟨fun _=>.dat (.any _)⟩
theorem Les.refl (x:AV):Les x x:=⟨fun h=>h⟩
theorem Les.of {x y:AV} (h:x=y):Les x y:=h ▸ .refl x
theorem Les.trans {a b c:AV} (h:Les a b) (k:Les b c):Les a c:=⟨fun r=>h.rel (k.rel r)⟩
structure LesL (cs cs':List AV):Prop where
 len:cs.length=cs'.length
 at':∀ (i:Nat) (a b:AV),cs[i]?=some a→cs'[i]?=some b→Les a b
theorem LesL.refl (cs:List AV):LesL cs cs:=⟨rfl,fun i a b h1 h2=>by rw [h1] at h2;injection h2 with h2;subst h2;exact .refl _⟩
theorem LesL.nil:LesL [] []:=.refl []
theorem LesL.cons {a b:AV} {l m:List AV} (h:Les a b) (k:LesL l m):LesL (a::l) (b::m):=⟨by simp [k.len],fun i x y hx hy=>by
 cases i with
 | zero=>simp at hx hy;subst hx;subst hy;exact h
 | succ i=>exact k.at' i x y (by simpa using hx) (by simpa using hy)⟩
theorem LesL.append {l m l' m':List AV} (h:LesL l m) (k:LesL l' m'):LesL (l++l') (m++m'):=⟨by simp [h.len,k.len],fun i x y hx hy=>by
 by_cases hi:i<l.length
 ·rw [List.getElem?_append_left hi] at hx;rw [List.getElem?_append_left (by rw [←h.len];exact hi)] at hy;exact h.at' i x y hx hy
 ·rw [List.getElem?_append_right (by omega)] at hx;rw [List.getElem?_append_right (by rw [←h.len];omega),←h.len] at hy
  exact k.at' _ x y hx hy⟩
theorem LesL.trans {a b c:List AV} (h:LesL a b) (k:LesL b c):LesL a c:=⟨h.len.trans k.len,fun i x z hx hz=>by
 have hi:i<b.length:=by rw [k.len];exact (List.getElem?_eq_some_iff.1 hz).1
 exact (h.at' i x _ hx (List.getElem?_eq_getElem hi)).trans (k.at' i _ z (List.getElem?_eq_getElem hi) hz)⟩
theorem Les.agg {cs cs':List AV} (h:LesL cs cs'):Les (.agg cs) (.agg cs'):=⟨fun {w G v} r=>by
 obtain ⟨us,rfl,hs,hr⟩:=RelV.agg' r;have hl:=h.len;refine .agg _ _ (by omega) fun i a v ha hv=>?_
 have hi:i<cs'.length:=by have:=(List.getElem?_eq_some_iff.1 ha).1;omega
 exact (h.at' i a _ ha (List.getElem?_eq_getElem hi)).rel (hr i _ v (List.getElem?_eq_getElem hi) hv)⟩
theorem Les.tup {cs cs':List AV} (h:LesL cs cs'):Les (.tup cs) (.tup cs'):=⟨fun {w G v} r=>by
 obtain ⟨us,rfl,hs,hr⟩:=RelV.tup' r;have hl:=h.len;refine .tup _ _ (by omega) fun i a v ha hv=>?_
 have hi:i<cs'.length:=by have:=(List.getElem?_eq_some_iff.1 ha).1;omega
 exact (h.at' i a _ ha (List.getElem?_eq_getElem hi)).rel (hr i _ v (List.getElem?_eq_getElem hi) hv)⟩
theorem Les.fn (f:FuncId) {cs cs':List AV} (h:LesL cs cs'):Les (.fn f cs) (.fn f cs'):=⟨fun {w G v} r=>by
 obtain ⟨us,rfl,hs,hr⟩:=RelV.fn' r;have hl:=h.len;refine .fn _ _ _ _ rfl (by omega) fun i a v ha hv=>?_
 have hi:i<cs'.length:=by have:=(List.getElem?_eq_some_iff.1 ha).1;omega
 exact (h.at' i a _ ha (List.getElem?_eq_getElem hi)).rel (hr i _ v (List.getElem?_eq_getElem hi) hv)⟩
theorem Les.nilro (fr:Bool) (sz:Nat):Les (.ro fr sz []) .nils:=⟨fun {w G v} r=>by
 have:=r.nils';subst this
 exact .dat (.ro fr sz [] none 0 (fun _ _=>undef) (Nat.le_refl _) (by decide) (fun i h=>by simp at h) (fun i row j a h=>by simp at h) (fun i row j a h=>by simp at h))⟩
theorem Les.unfr (t:Ty) (xs:List t.den):Les (.ro false t.size (xs.map (t.cells false))) (.ro true t.size (xs.map (t.cells true))):=⟨fun {w G v} r=>by
 cases r with
 | dat r=>exact .dat (cells_rel (.list t) xs 0 _ _ v rfl rfl r)⟩
theorem Ty.cells_unfr:∀ (t:Ty) (x:t.den),LesL (t.cells false x) (t.cells true x)
 | .int _,_=>.refl _
 | .bool,_=>.refl _
 | .str,_=>.refl _
 | .list t,xs=>.cons (.unfr t xs) .nil
 | .unit,_=>.nil
 | .pair a b,x=>by rw [Ty.cells,Ty.cells];exact .append (Ty.cells_unfr a x.1) (Ty.cells_unfr b x.2)
 | .agg t,x=>by rw [Ty.cells,Ty.cells];exact Ty.cells_unfr t x
 | .ptr _,_=>.refl _
 | .aix,_=>.refl _
structure LesB (b b':AB):Prop where
 ok:∀ {w0 w:World} {G:Gh} {id:Nat},ABok w0 w G id b'→ABok w0 w G id b
theorem LesB.dead (b:AB):LesB .dead b:=⟨fun _=>trivial⟩
theorem LesB.refl (b:AB):LesB b b:=⟨fun h=>h⟩
theorem LesB.trans {a b c:AB} (h:LesB a b) (k:LesB b c):LesB a c:=⟨fun r=>h.ok (k.ok r)⟩
theorem LesB.box {cs cs':List AV} (e:TypeId) (h:LesL cs cs'):LesB (.box cs e) (.box cs' e):=⟨fun {w0 w G id} k=>by
 obtain ⟨h1,h2,g,vs,h3,h4,h5,h6⟩:=k;have hl:=h.len;refine ⟨h1,h2,g,vs,h3,h4,by omega,fun i a ha=>?_⟩;have hi:i<cs'.length:=by have:=(List.getElem?_eq_some_iff.1 ha).1;omega
 obtain ⟨v,e1,e2,e3⟩:=h6 i _ (List.getElem?_eq_getElem hi)
 exact ⟨v,e1,e2,(h.at' i a _ ha (List.getElem?_eq_getElem hi)).rel e3⟩⟩
theorem LesB.row (sz:Nat) {rows rows':List (List AV)} (e:TypeId) (hl:rows.length=rows'.length) (h:∀ (i:Nat) (row row':List AV),rows[i]?=some row→rows'[i]?=some row'→LesL row row'):LesB (.row sz rows e) (.row sz rows' e):=⟨fun {w0 w G id} k=>by
 obtain ⟨h1,h2,h3,h4,flat,h5,h6,h7⟩:=k;refine ⟨h1,h2,h3,by omega,flat,by rw [hl];exact h5,h6,fun i row hr=>?_⟩;have hi:i<rows'.length:=by have:=(List.getElem?_eq_some_iff.1 hr).1;omega
 obtain ⟨e1,e2⟩:=h7 i _ (List.getElem?_eq_getElem hi);have hk:=h i row _ hr (List.getElem?_eq_getElem hi);have hlen:=hk.len;refine ⟨by omega,fun j a ha=>?_⟩;have hj:j<(rows'[i]).length:=by have:=(List.getElem?_eq_some_iff.1 ha).1;omega
 obtain ⟨v,e3,e4⟩:=e2 j _ (List.getElem?_eq_getElem hj)
 exact ⟨v,e3,(hk.at' j a _ ha (List.getElem?_eq_getElem hj)).rel e4⟩⟩
structure LeS (s s':ASt):Prop where
 regs:∀ d,Les (look .any s.regs d) (look .any s'.regs d)
 heap:∀ k,LesB (look .dead s.heap k) (look .dead s'.heap k)
 nx:s.nx=s'.nx
theorem LeS.trans {a b c:ASt} (h:LeS a b) (k:LeS b c):LeS a c:=⟨fun d=>(h.regs d).trans (k.regs d),fun d=>(h.heap d).trans (k.heap d),h.nx.trans k.nx⟩
theorem LeS.refl (s:ASt):LeS s s:=⟨fun _=>.refl _,fun _=>.refl _,rfl⟩
section
variable {P:Program} {n:Nat} {s s':ASt} {K:Kn} {a:Act} {w:World} {G:Gh}
theorem RelG.les (h:LeS s s') (r:RelG K n s' a w G):RelG K n s a w G :=
 ⟨r.nx.trans h.nx.symm,⟨r.hr.bs,r.hr.below,r.hr.ownlt',fun id=>(h.heap id).ok (r.hr.blk id),r.hr.dist,r.hr.ownhas'⟩,r.ext,r.size,r.defers,fun d=>(h.regs d).rel (r.regs d)⟩
theorem Rel.les (h:LeS s s') (r:Rel K n s' a w):Rel K n s a w:=by
 obtain ⟨G,r⟩:=r;exact ⟨G,r.les h⟩
theorem OpR.le {o:Oper} {x:AV} (h:LeS s s') (k:OpR P n o s x):OpR P n o s' x:=⟨k.dst,fun K a w G r=>k.out K a w G (r.les h)⟩
theorem LeS.put {d:Option Nat} {x y:AV} (h:LeS s s') (hx:Les x y):LeS (s.put d x) (s'.put d y):=by
 cases d with
 | none=>exact h
 | some d =>
  refine ⟨fun i=>?_,h.heap,h.nx⟩;show Les (look .any ((d,x)::s.regs) i) (look .any ((d,y)::s'.regs) i);rw [look_cons,look_cons];split
  ·exact hx
  ·exact h.regs i
end
end Go.Proofs.Ytljebnobajmjnaa
/- Decompiling: terms,values and states over terms,and the abstract states that they stand for. No program in sight. -/
namespace Go.Proofs.Ytljebnobajmjnaa
open Go Go.RowKit

inductive IB where
 | add | sub | mul | tdiv | tmod | and | or | xor | andNot | min | max
inductive IC where
 | lt | le | eq | ne
inductive BB where
 | and | or | eq | ne
inductive E (V:Ty→Type):Ty→Type where
 | var {t:Ty} (v:V t):E V t
 | iL (k:IntKind) (n:Int):E V (.int k)
 | bL (b:Bool):E V .bool
 | sL (s:List UInt8):E V .str
 | uni:E V .unit
 | ib {k:IntKind} (o:IB) (a b:E V (.int k)):E V (.int k)
 | ic {k k':IntKind} (o:IC) (a:E V (.int k)) (b:E V (.int k')):E V .bool
 | neg {k:IntKind} (a:E V (.int k)):E V (.int k)
 | wrap {k:IntKind} (k':IntKind) (a:E V (.int k)):E V (.int k')
 | shl {k k':IntKind} (a:E V (.int k)) (b:E V (.int k')):E V (.int k)
 | shr {k k':IntKind} (a:E V (.int k)) (b:E V (.int k')):E V (.int k)
 | bb (o:BB) (a b:E V .bool):E V .bool
 | not (a:E V .bool):E V .bool
 | ite {t:Ty} (c:E V .bool) (a b:E V t):E V t
 | pair {a b:Ty} (x:E V a) (y:E V b):E V (.pair a b)
 | fst {a b:Ty} (x:E V (.pair a b)):E V a
 | snd {a b:Ty} (x:E V (.pair a b)):E V b
 | aggI {t:Ty} (x:E V t):E V (.agg t)
 | aggE {t:Ty} (x:E V (.agg t)):E V t
 | ptrI {t:Ty} (x:E V t):E V (.ptr t)
 | ptrE {t:Ty} (x:E V (.ptr t)):E V t
 | aixI (k n:E V (.int .i64)):E V .aix
 | aixK (x:E V .aix):E V (.int .i64)
 | aixN (x:E V .aix):E V (.int .i64)
 | nil (t:Ty):E V (.list t)
 | cons {t:Ty} (x:E V t) (xs:E V (.list t)):E V (.list t)
 | app {t:Ty} (xs ys:E V (.list t)):E V (.list t)
 | len {t:Ty} (xs:E V (.list t)):E V (.int .i64)
 | at {t:Ty} {k:IntKind} (xs:E V (.list t)) (i:E V (.int k)):E V t
 | set {t:Ty} {k:IntKind} (xs:E V (.list t)) (i:E V (.int k)) (x:E V t):E V (.list t)
 | rep {t:Ty} {k:IntKind} (n:E V (.int k)) (x:E V t):E V (.list t)
 | sub {t:Ty} {k k':IntKind} (xs:E V (.list t)) (lo:E V (.int k)) (hi:E V (.int k')):E V (.list t)
 | sLen (s:E V .str):E V (.int .i64)
 | sAt {k:IntKind} (s:E V .str) (i:E V (.int k)):E V (.int .u8)
 | sEq (s r:E V .str):E V .bool
 | sCat (s r:E V .str):E V .str
 | sSub {k k':IntKind} (s:E V .str) (lo:E V (.int k)) (hi:E V (.int k')):E V .str
 | ofB (xs:E V (.list (.int .u8))):E V .str
 | toB (s:E V .str):E V (.list (.int .u8))

def IB.den (o:IB) (k:IntKind) (a b:Int):Int:=match o with
 | .add=>a+b
 | .sub=>a-b
 | .mul=>a*b
 | .tdiv=>a.tdiv b
 | .tmod=>a.tmod b
 | .and=>bits .and k a b
 | .or=>bits .or k a b
 | .xor=>bits .xor k a b
 | .andNot=>bits .andNot k a b
 | .min=>Min.min a b
 | .max=>Max.max a b
def IC.den (o:IC) (a b:Int):Bool:=match o with
 | .lt=>decide (a<b)
 | .le=>decide (a≤b)
 | .eq=>decide (a=b)
 | .ne=>decide (a≠b)
def BB.den (o:BB) (a b:Bool):Bool:=match o with
 | .and=>a&&b
 | .or=>a||b
 | .eq=>a==b
 | .ne=>a != b
def bytesOf (xs:List Int):List UInt8:=xs.map fun n=>UInt8.ofNat n.toNat
def numsB (s:List UInt8):List Int:=s.map fun c=>(c.toNat:Int)
abbrev D:Ty→Type:=Ty.den
def E.den:{t:Ty}→E D t→t.den
 | _,.var v=>v
 | _,.iL _ n=>n
 | _,.bL b=>b
 | _,.sL s=>s
 | _,.uni=>()
 | .int k,.ib o a b=>o.den k a.den b.den
 | _,.ic o a b=>o.den a.den b.den
 | _,.neg a=>- (a.den:Int)
 | _,.wrap k' a=>k'.wrap a.den
 | _,.shl a b=>(a.den:Int)*2 ^ (b.den:Int).toNat
 | _,.shr a b=>(a.den:Int) / 2 ^ (b.den:Int).toNat
 | _,.bb o a b=>o.den a.den b.den
 | _,.not a=>! (a.den:Bool)
 | _,.ite c a b=>bif c.den then a.den else b.den
 | _,.pair x y=>(x.den,y.den)
 | _,.fst x=>x.den.1
 | _,.snd x=>x.den.2
 | _,.aggI x=>x.den
 | _,.aggE x=>x.den
 | _,.ptrI x=>x.den
 | _,.ptrE x=>x.den
 | _,.aixI k n=>((k.den:Int),(n.den:Int))
 | _,.aixK x=>(x.den:Int×Int).1
 | _,.aixN x=>(x.den:Int×Int).2
 | _,.nil _=>[]
 | _,.cons x xs=>x.den::xs.den
 | _,.app xs ys=>xs.den++ys.den
 | _,.len xs=>((xs.den:List _).length:Int)
 | t,.at xs i=>(xs.den:List t.den).getD (i.den:Int).toNat t.dflt
 | .list t,.set xs i x=>(xs.den:List t.den).set (i.den:Int).toNat x.den
 | _,.rep n x=>List.replicate (n.den:Int).toNat x.den
 | .list t,.sub xs lo hi=>((xs.den:List t.den).take (hi.den:Int).toNat).drop (lo.den:Int).toNat
 | _,.sLen s=>((s.den:List UInt8).length:Int)
 | _,.sAt s i=>(((s.den:List UInt8).getD (i.den:Int).toNat 0).toNat:Int)
 | _,.sEq s r=>decide ((s.den:List UInt8)=r.den)
 | _,.sCat s r=>(s.den:List UInt8)++r.den
 | _,.sSub s lo hi=>((s.den:List UInt8).take (hi.den:Int).toNat).drop (lo.den:Int).toNat
 | _,.ofB xs=>bytesOf xs.den
 | _,.toB s=>numsB s.den

inductive SV (V:Ty→Type) where
 | any
 | und
 | int (k:IntKind) (e:E V (.int k))
 | bool (e:E V .bool)
 | str (e:E V .str)
 | nilp
 | nils
 | nilf
 | box (id off:Nat)
 | elt (id ver:Nat) {k:IntKind} (i:E V (.int k)) (off:Nat)
 | pk (fr:Bool) (t:Ty) (e:E V t) (off:Nat)
 | osl (id ver:Nat)
 | vsl (id ver:Nat) (lo hi:E V (.int .i64))
 | ro (fr:Bool) (t:Ty) (e:E V (.list t))
 | aosl (e:E V .aix)
 | aelt (e:E V .aix) {k:IntKind} (i:E V (.int k))
 | agg (cs:List (SV V))
 | tup (cs:List (SV V))
 | fn (f:FuncId) (cs:List (SV V))
inductive SB (V:Ty→Type) where
 | dead
 | box (cs:List (SV V)) (e:TypeId)
 | row (fr:Bool) (t:Ty) (xs:E V (.list t)) (e:TypeId) (ver:Nat)
 | arn (t:Ty) (xs:E V (.list (.list t))) (e:TypeId)
structure SSt (V:Ty→Type) where
 regs:List (Nat×SV V)
 kp:List (Nat×SV V)
 heap:List (Nat×SB V)
 hk:List (Nat×SB V)
 fr:List (List (Nat×SV V))
 nx:Nat
section
variable {V:Ty→Type}
def SSt.get (st:SSt V) (d:Nat):SV V:=look (look .any st.kp d) st.regs d
def SSt.blk (st:SSt V) (k:Nat):SB V:=look (look .dead st.hk k) st.heap k
theorem look_append {α:Type} (d:α) (l m:List (Nat×α)) (i:Nat):look d (l++m) i=look (look d m i) l i:=by
 induction l with
 | nil=>rfl
 | cons p l ih =>
  obtain ⟨j,v⟩:=p;rw [List.cons_append,look_cons,look_cons,ih]
theorem look_mapp {α β:Type} (d:α) (f:α→β) (l:List (Nat×α)) (i:Nat):look (f d) (l.map fun p=>(p.1,f p.2)) i=f (look d l i):=by
 induction l with
 | nil=>rfl
 | cons p l ih =>
  obtain ⟨j,v⟩:=p;rw [List.map_cons,look_cons,look_cons,ih]
  split <;> rfl
end
def rowLen (H:Nat→SB D) (id ver:Nat):Option Nat:=match H id with
 | .row _ _ xs _ ver'=>bif Nat.beq ver ver' then some (List.length xs.den) else none
 | _=>none
def isBox (H:Nat→SB D) (id:Nat):Bool:=match H id with
 | .box ..=>true
 | _=>false
mutual
def SV.enc (m:Nat→Nat) (H:Nat→SB D):SV D→AV
 | .any=>.any
 | .und=>.und
 | .int k e=>.int k e.den
 | .bool e=>.bool e.den
 | .str e=>.str ⟨⟨e.den⟩⟩
 | .nilp=>.nilp
 | .nils=>.nils
 | .nilf=>.nilf
 | .box id off=>bif isBox H id then .box (m id) off else .any
 | .elt id ver i off=>match rowLen H id ver with
  | some n=>.elt (m id) n (i.den:Int).toNat off
  | none=>.any
 | .pk fr t e off=>.peek (t.cells fr e.den) off
 | .osl id ver=>match rowLen H id ver with
  | some n=>.osl (m id) n
  | none=>.any
 | .vsl id ver lo hi=>match rowLen H id ver with
  | some n=>.vsl (m id) n (lo.den:Int).toNat ((hi.den:Int).toNat-(lo.den:Int).toNat)
  | none=>.any
 | .ro fr t e=>.ro fr t.size ((e.den:List t.den).map (t.cells fr))
 | .aosl e=>aixAV e.den
 | .aelt e i=>aeltAV e.den (i.den:Int).toNat
 | .agg cs=>.agg (SV.encL m H cs)
 | .tup cs=>.tup (SV.encL m H cs)
 | .fn f cs=>.fn f (SV.encL m H cs)
def SV.encL (m:Nat→Nat) (H:Nat→SB D):List (SV D)→List AV
 | []=>[]
 | c::l=>SV.enc m H c::SV.encL m H l
end
theorem encL_map (m:Nat→Nat) (H:Nat→SB D) (l:List (SV D)):SV.encL m H l=l.map (SV.enc m H):=by
 induction l with
 | nil=>rw [SV.encL];rfl
 | cons c l ih=>rw [SV.encL,ih];rfl
def SB.enc (m:Nat→Nat) (H:Nat→SB D):SB D→AB
 | .dead=>.dead
 | .box cs e=>.box (SV.encL m H cs) e
 | .row fr t xs e _=>.row t.size ((xs.den:List t.den).map (t.cells fr)) e
 | .arn ..=>.dead
def arnRow (t:Ty) (e:TypeId) (xs:List (List t.den)) (i:Nat):AB:=.row t.size ((xs.getD i []).map (t.cells false)) e
def SB.rows (B:Nat):SB D→List (Nat×AB)
 | .arn t xs e=>(List.range B).map fun i=>(i,arnRow t e xs.den i)
 | _=>[]
def SB.isA {V:Ty→Type}:SB V→Bool
 | .arn ..=>true
 | _=>false
structure SB.norm (b:SB D):Prop where
 ne:b≠.dead
 nA:b.isA=false
theorem SB.norm_box (cs:List (SV D)) (e:TypeId):(SB.box cs e).norm:=⟨by simp,rfl⟩
theorem SB.norm_row (fr:Bool) (t:Ty) (xs:E D (.list t)) (e:TypeId) (ver:Nat):(SB.row fr t xs e ver).norm:=⟨by simp,rfl⟩
def encR (m:Nat→Nat) (H:Nat→SB D) (l:List (Nat×SV D)):List (Nat×AV):=l.map fun p=>(p.1,p.2.enc m H)
def encH (m:Nat→Nat) (H:Nat→SB D) (l:List (Nat×SB D)):List (Nat×AB):=l.map fun p=>(m p.1,p.2.enc m H)
def SSt.enc (st:SSt D) (m:Nat→Nat) (nx:Nat):ASt:=⟨encR m st.blk (st.regs++st.kp),encH m st.blk (st.heap++st.hk)++(st.blk 0).rows (m 0),nx⟩
theorem look_encR (m:Nat→Nat) (H:Nat→SB D) (l:List (Nat×SV D)) (d:Nat):look .any (encR m H l) d=(look .any l d).enc m H :=
 look_mapp SV.any (SV.enc m H) l d
theorem enc_get (st:SSt D) (m:Nat→Nat) (nx d:Nat):look .any (st.enc m nx).regs d=(st.get d).enc m st.blk:=by
 show look .any (encR m st.blk (st.regs++st.kp)) d=_;rw [look_encR,look_append];rfl
structure MOk (m:Nat→Nat) (nx:Nat) (st:SSt D):Prop where
 lt:∀ k,st.blk k≠.dead→m k<nx
 inj:∀ k k',st.blk k≠.dead→st.blk k'≠.dead→m k=m k'→k=k'
 keys:∀ p ∈ st.heap++st.hk,p.1<st.nx∧p.2≠.dead
 ar':(st.blk 0).isA=true→m 0=bigA
 ge:bigA≤nx∧∀ k,st.blk k≠.dead→bigA≤m k
theorem MOk.ar {m:Nat→Nat} {nx:Nat} {st:SSt D} (h:MOk m nx st) (hA:(st.blk 0).isA=true):bigA≤m 0∧∀ k,st.blk k≠.dead→m 0≤m k:=⟨h.ge.2 0 (fun e=>by rw [e] at hA;cases hA),fun k hk=>by rw [h.ar' hA];exact h.ge.2 k hk⟩
theorem key_live {l:List (Nat×SB D)} (h:∀ p ∈ l,p.2≠.dead):∀ p ∈ l,look .dead l p.1≠.dead:=by
 induction l with
 | nil=>intro p hp;cases hp
 | cons q l ih =>
  intro p hp;obtain ⟨j,b⟩:=q;rw [look_cons];split
  ·exact h (j,b) (by simp)
  ·rename_i hne;rcases List.mem_cons.1 hp with rfl | hp
   ·exact absurd rfl hne
   ·exact ih (fun p hp=>h p (List.mem_cons_of_mem _ hp)) p hp
theorem look_encH {m:Nat→Nat} {H:Nat→SB D} {k:Nat}:∀ (l:List (Nat×SB D)),(∀ p ∈ l,m p.1=m k→p.1=k)→look .dead (encH m H l) (m k)=(look .dead l k).enc m H
 | [],_=>rfl
 |(j,b)::l,inj=>by
  show look .dead ((m j,b.enc m H)::encH m H l) (m k)=_;rw [look_cons,look_cons,look_encH l (fun p hp=>inj p (List.mem_cons_of_mem _ hp))];by_cases e:j=k
  ·subst e;simp
  ·rw [if_neg e,if_neg fun e'=>e (inj (j,b) (by simp) e')]
theorem map_look (f:Nat→AB) (d:AB):∀ (l:List Nat) (i:Nat),look d (l.map fun j=>(j,f j)) i=if i ∈ l then f i else d
 | [],i=>by simp [look]
 | a::l,i=>by
  rw [List.map_cons,look_cons,map_look f d l];by_cases e:a=i
  ·subst e;simp
  ·rw [if_neg e];simp [List.mem_cons,Ne.symm e]
theorem rows_look {b:SB D} {B i:Nat}:look .dead (b.rows B) i=(match b with | .arn t xs e=>if i<B then arnRow t e xs.den i else .dead | _=>.dead):=by
 cases b with
 | arn t xs e =>
  show look .dead ((List.range B).map fun i=>(i,arnRow t e xs.den i)) i=_;rw [map_look];simp only [List.mem_range]
 | _=>rfl
theorem rows_dead {b:SB D} {B i:Nat} (h:B≤i):look .dead (b.rows B) i=.dead:=by
 rw [rows_look]
 cases b with
 | arn t xs e=>show (if i<B then _ else AB.dead)=_;rw [if_neg (by omega)]
 | _=>rfl
theorem isA_rows {b:SB D} (h:b.isA=false) (B:Nat):b.rows B=[]:=by cases b <;> first | rfl | cases h
theorem look_absent {α:Type} {d:α} {l:List (Nat×α)} {i:Nat} (h:∀ p ∈ l,p.1≠i):look d l i=d:=by
 induction l with
 | nil=>rfl
 | cons p l ih =>
  obtain ⟨j,v⟩:=p;rw [look_cons,if_neg (h (j,v) (by simp)),ih fun p hp=>h p (List.mem_cons_of_mem _ hp)]
theorem blk_look (st:SSt D) (k:Nat):st.blk k=look .dead (st.heap++st.hk) k:=(look_append _ _ _ _).symm
theorem MOk.key_live {st:SSt D} {m:Nat→Nat} {nx:Nat} (h:MOk m nx st) {p:Nat×SB D} (hp:p ∈ st.heap++st.hk):st.blk p.1≠.dead:=by
 rw [blk_look];exact Go.Proofs.Ytljebnobajmjnaa.key_live (fun p hp=>(h.keys p hp).2) p hp
theorem encH_key {st:SSt D} {m:Nat→Nat} {nx:Nat} (h:MOk m nx st) (hA:(st.blk 0).isA=true):∀ p ∈ encH m st.blk (st.heap++st.hk),m 0≤p.1:=by
 intro p hp;obtain ⟨q,hq,rfl⟩:=List.mem_map.1 hp;exact (h.ar hA).2 _ (h.key_live hq)
theorem enc_look {st:SSt D} {m:Nat→Nat} {nx:Nat} (h:MOk m nx st) (i:Nat):look .dead (st.enc m nx).heap i=bif (st.blk 0).isA&&Nat.blt i (m 0) then look .dead ((st.blk 0).rows (m 0)) i else look .dead (encH m st.blk (st.heap++st.hk)) i:=by
 show look .dead (encH m st.blk (st.heap++st.hk)++(st.blk 0).rows (m 0)) i=_;rw [look_append]
 cases hA:(st.blk 0).isA with
 | false=>rw [isA_rows hA];rfl
 | true =>
  cases hi:Nat.blt i (m 0) with
  | true =>
   refine look_absent fun p hp e=>?_
   have h1:=encH_key h hA p hp;rw [Nat.blt_eq] at hi;omega
  | false =>
   have hi:¬ i<m 0:=fun hlt=>by rw [←Nat.blt_eq] at hlt;rw [hlt] at hi;cases hi
   rw [rows_dead (by omega)];rfl
theorem enc_look_m {st:SSt D} {m:Nat→Nat} {nx:Nat} (h:MOk m nx st) {k:Nat} (hk:st.blk k≠.dead):look .dead (st.enc m nx).heap (m k)=look .dead (encH m st.blk (st.heap++st.hk)) (m k):=by
 rw [enc_look h]
 cases hA:(st.blk 0).isA with
 | false=>rfl
 | true =>
  have:=(h.ar hA).2 k hk;rw [show Nat.blt (m k) (m 0)=false by rw [←Bool.not_eq_true,Nat.blt_eq];omega];rfl
theorem enc_blk {st:SSt D} {m:Nat→Nat} {nx:Nat} (h:MOk m nx st) {k:Nat} (hk:st.blk k≠.dead):look .dead (st.enc m nx).heap (m k)=(st.blk k).enc m st.blk:=by
 rw [enc_look_m h hk,look_encH _ (fun p hp e=>h.inj _ _ (h.key_live hp) hk e),blk_look]
theorem MOk.live {st:SSt D} {m:Nat→Nat} {nx:Nat} (h:MOk m nx st) {k:Nat} (hk:st.blk k≠.dead):k<st.nx:=by
 rw [blk_look] at hk;exact (h.keys _ (look_mem (rfl:look SB.dead (st.heap++st.hk) k=_) hk)).1
def svOf {V:Ty→Type}:Value→SV V
 | .int k n=>.int k (.iL k n)
 | .bool b=>.bool (.bL b)
 | .string s=>.str (.sL s.data.toList)
 | .pointer none=>.nilp
 | .slice none 0 0=>.nils
 | .nilFunc=>.nilf
 | _=>.any
theorem svOf_enc (m:Nat→Nat) (H:Nat→SB D) (v:Value):(svOf v).enc m H=avOf v:=by
 unfold svOf;split
 all_goals rw [SV.enc]
 all_goals try rfl
 rename_i h1 h2 h3 h4 h5 h6;unfold avOf;split
 ·exact absurd rfl (h1 _ _)
 ·exact absurd rfl (h2 _)
 ·exact absurd rfl (h3 _)
 ·exact absurd rfl h4
 ·exact absurd rfl h5
 ·exact absurd rfl h6
 ·rfl
def SSt.ev {V:Ty→Type} (st:SSt V):Operand→SV V
 | .tmp t=>st.get t
 | .const v=>svOf v
 | .global _=>.any
 | .func f=>.fn f []
theorem enc_ev (st:SSt D) (m:Nat→Nat) (nx:Nat) (x:Operand):(st.enc m nx).ev x=(st.ev x).enc m st.blk:=by
 cases x with
 | tmp t=>exact enc_get st m nx t
 | const v=>exact (svOf_enc m st.blk v).symm
 | global g=>show AV.any=_;rw [SSt.ev,SV.enc]
 | func f=>show AV.fn f []=_;rw [SSt.ev,SV.enc,SV.encL]
section
variable {V:Ty→Type}
def SSt.put (st:SSt V) (d:Option Nat) (v:SV V):SSt V:=match d with
 | some d=>⟨(d,v)::st.regs,st.kp,st.heap,st.hk,st.fr,st.nx⟩
 | none=>st
def SSt.hset (st:SSt V) (id:Nat) (b:SB V):SSt V:=⟨st.regs,st.kp,(id,b)::st.heap,st.hk,st.fr,st.nx⟩
def SSt.hnew (st:SSt V) (b:SB V):SSt V:=⟨st.regs,st.kp,(st.nx,b)::st.heap,st.hk,st.fr,st.nx+1⟩
end
theorem put_blk (st:SSt D) (d:Option Nat) (v:SV D):(st.put d v).blk=st.blk:=by cases d <;> rfl
theorem put_enc (st:SSt D) (d:Option Nat) (v:SV D) (m:Nat→Nat) (nx:Nat):(st.put d v).enc m nx=(st.enc m nx).put d (v.enc m st.blk):=by
 cases d with
 | none=>rfl
 | some d=>rfl
theorem put_mok {st:SSt D} {m:Nat→Nat} {nx:Nat} (h:MOk m nx st) (d:Option Nat) (v:SV D):MOk m nx (st.put d v):=by
 cases d with
 | none=>exact h
 | some d=>exact ⟨h.lt,h.inj,h.keys,h.ar',h.ge⟩
end Go.Proofs.Ytljebnobajmjnaa
/- Decompiling: the operations that read,over terms. No program in sight. -/
namespace Go.Proofs.Ytljebnobajmjnaa
open Go Go.RowKit

section
variable {V:Ty→Type}
def E.fst' {a b:Ty} (e:E V (.pair a b)):E V a:=match e with
 | .pair x _=>x
 | e=>.fst e
def E.snd' {a b:Ty} (e:E V (.pair a b)):E V b:=match e with
 | .pair _ y=>y
 | e=>.snd e
def E.aggE' {a:Ty} (e:E V (.agg a)):E V a:=match e with
 | .aggI x=>x
 | e=>.aggE e
def E.ptrE' {a:Ty} (e:E V (.ptr a)):E V a:=match e with
 | .ptrI x=>x
 | e=>.ptrE e
def E.aixK' (e:E V .aix):E V (.int .i64):=match e with
 | .aixI k _=>k
 | e=>.aixK e
def E.aixN' (e:E V .aix):E V (.int .i64):=match e with
 | .aixI _ n=>n
 | e=>.aixN e
def okT:E V .bool:=.bL true
def andE (a b:E V .bool):E V .bool:=match a,b with
 | .bL true,b=>b
 | a,.bL true=>a
 | a,b=>.bb .and a b
def notE (a:E V .bool):E V .bool:=match a with
 | .bL b=>.bL (!b)
 | a=>.not a
def iteB (c a b:E V .bool):E V .bool:=match c,a,b with
 | .bL true,a,_=>a
 | .bL false,_,b=>b
 | c,.bL true,.bL false=>c
 | c,.bL false,.bL true=>notE c
 | c,.bL true,b=>.bb .or c b
 | c,a,.bL false=>.bb .and c a
 | c,.bL false,b=>.bb .and (notE c) b
 | c,a,.bL true=>.bb .or (notE c) a
 | c,a,b=>.ite c a b
def inr {t:Ty} {k:IntKind} (i:E V (.int k)) (xs:E V (.list t)):E V .bool:=match i with
 | .iL _ n=>bif decide (0≤n) then .ic .lt (.iL .i64 n) (.len xs) else .bL false
 | i=>.bb .and (.ic .le (.iL k 0) i) (.ic .lt i (.len xs))
def inrS {k:IntKind} (i:E V (.int k)) (s:E V .str):E V .bool:=match i with
 | .iL _ n=>bif decide (0≤n) then .ic .lt (.iL .i64 n) (.sLen s) else .bL false
 | i=>.bb .and (.ic .le (.iL k 0) i) (.ic .lt i (.sLen s))
def shiftOk {k':IntKind} (k:IntKind) (b:E V (.int k')):E V .bool:=match b with
 | .iL _ n=>.bL (decide (0≤n)&&decide (n≤(k.bits:Int)))
 | b=>.bb .and (.ic .le (.iL k' 0) b) (.ic .le b (.iL .i64 k.bits))
def divOk {k:IntKind} (b:E V (.int k)):E V .bool:=match b with
 | .iL _ n=>.bL (decide (n≠0))
 | b=>.ic .ne b (.iL k 0)
end
theorem fst'_den {a b:Ty} (e:E D (.pair a b)):e.fst'.den=e.den.1:=by cases e <;> rfl
theorem snd'_den {a b:Ty} (e:E D (.pair a b)):e.snd'.den=e.den.2:=by cases e <;> rfl
theorem aggE'_den {a:Ty} (e:E D (.agg a)):e.aggE'.den=e.den:=by cases e <;> rfl
theorem ptrE'_den {a:Ty} (e:E D (.ptr a)):e.ptrE'.den=e.den:=by cases e <;> rfl
theorem aixK'_den (e:E D .aix):(e.aixK'.den:Int)=(e.den:Int×Int).1:=by cases e <;> rfl
theorem aixN'_den (e:E D .aix):(e.aixN'.den:Int)=(e.den:Int×Int).2:=by cases e <;> rfl
theorem andE_den (a b:E D .bool):(andE a b).den=(a.den&&b.den):=by
 unfold andE;split
 ·simp [E.den]
 ·simp [E.den]
 ·rfl
theorem notE_den (a:E D .bool):(notE a).den=!a.den:=by
 unfold notE;split
 ·rfl
 ·rfl
theorem bl3 (x:Bool):x=bif x then true else false:=by cases x <;> rfl
theorem bl4 (x:Bool):(!x)=bif x then false else true:=by cases x <;> rfl
theorem bl5 (x y:Bool):(x||y)=bif x then true else y:=by cases x <;> rfl
theorem bl6 (x y:Bool):(x&&y)=bif x then y else false:=by cases x <;> rfl
theorem bl7 (x y:Bool):(!x&&y)=bif x then false else y:=by cases x <;> rfl
theorem bl8 (x y:Bool):(!x||y)=bif x then y else true:=by cases x <;> rfl
theorem iteB_den (c a b:E D .bool):(iteB c a b).den=bif c.den then a.den else b.den:=by
 unfold iteB;split
 ·rfl
 ·rfl
 ·exact bl3 _
 ·rw [notE_den];exact bl4 _
 ·exact bl5 _ _
 ·exact bl6 _ _
 ·exact (congrArg (fun z:Bool=>z&&_) (notE_den _)).trans (bl7 _ _)
 ·exact (congrArg (fun z:Bool=>z||_) (notE_den _)).trans (bl8 _ _)
 ·rfl
theorem andB {x y:Bool} (h:(x&&y)=true):x=true∧y=true:=by cases x <;> cases y <;> simp_all
theorem inr_den {t:Ty} {k:IntKind} {i:E D (.int k)} {xs:E D (.list t)} (h:(inr i xs).den=true):(0:Int)≤i.den∧i.den<(List.length xs.den:Int):=by
 unfold inr at h;split at h
 ·rename_i n
  cases hc:decide (0≤n) with
  | false=>rw [hc] at h;cases h
  | true=>rw [hc] at h;exact ⟨of_decide_eq_true hc,of_decide_eq_true h⟩
 ·obtain ⟨h1,h2⟩:=andB h;exact ⟨of_decide_eq_true h1,of_decide_eq_true h2⟩
theorem inrS_den {k:IntKind} {i:E D (.int k)} {xs:E D .str} (h:(inrS i xs).den=true):(0:Int)≤i.den∧i.den<(List.length xs.den:Int):=by
 unfold inrS at h;split at h
 ·rename_i n
  cases hc:decide (0≤n) with
  | false=>rw [hc] at h;cases h
  | true=>rw [hc] at h;exact ⟨of_decide_eq_true hc,of_decide_eq_true h⟩
 ·obtain ⟨h1,h2⟩:=andB h;exact ⟨of_decide_eq_true h1,of_decide_eq_true h2⟩
theorem shiftOk_den {k k':IntKind} {b:E D (.int k')} (h:(shiftOk k b).den=true):(0:Int)≤b.den∧b.den≤(k.bits:Int):=by
 unfold shiftOk at h;split at h
 ·obtain ⟨h1,h2⟩:=andB h;exact ⟨of_decide_eq_true h1,of_decide_eq_true h2⟩
 ·obtain ⟨h1,h2⟩:=andB h;exact ⟨of_decide_eq_true h1,of_decide_eq_true h2⟩
theorem divOk_den {k:IntKind} {b:E D (.int k)} (h:(divOk b).den=true):b.den≠(0:Int):=by
 unfold divOk at h;split at h
 ·exact of_decide_eq_true h
 ·exact of_decide_eq_true h

section
variable {V:Ty→Type}
def cellsE (fr:Bool):(t:Ty)→E V t→List (SV V)
 | .int k,e=>[.int k e]
 | .bool,e=>[.bool e]
 | .str,e=>[.str e]
 | .list t,e=>[.ro fr t e]
 | .unit,_=>[]
 | .pair a b,e=>cellsE fr a e.fst'++cellsE fr b e.snd'
 | .agg t,e=>cellsE fr t e.aggE'
 | .ptr _,_=>[.any]
 | .aix,e=>[.aosl e]
def partS (cs:List (SV V)) (off s:Nat) (agg:Bool):Option (SV V):=if agg then (if off+s≤cs.length then some (.agg ((cs.drop off).take s)) else none) else cs[off]?
def SV.cells:SV V→List (SV V)
 | .agg cs=>cs
 | a=>[a]
def oneS (st:SSt V):SV V→Bool
 | .any | .und | .agg _ | .tup _=>false
 | .box id _=>match st.blk id with
  | .box ..=>true
  | _=>false
 | .osl id ver=>match st.blk id with
  | .row _ _ _ _ v=>Nat.beq ver v
  | _=>false
 | .elt id ver _ _=>match st.blk id with
  | .row _ _ _ _ v=>Nat.beq ver v
  | _=>false
 | .vsl id ver _ _=>match st.blk id with
  | .row _ _ _ _ v=>Nat.beq ver v
  | _=>false
 | _=>true
def allOneS (st:SSt V):List (SV V)→Bool
 | []=>true
 | a::l=>oneS st a&&allOneS st l
def setRS (cs:List (SV V)) (off:Nat):List (SV V)→List (SV V)
 | []=>cs
 | v::l=>setRS (cs.set off v) (off+1) l
def fillS (st:SSt V) (place:Nat→Option (Nat×Nat)) (cells:List (SV V)):List (Nat×SV V)→Option (List (SV V))
 | []=>some cells
 |(i,v)::rest =>
  match place i with
  | none=>none
  | some (off,size)=>bif Nat.beq v.cells.length size&&Nat.ble (off+v.cells.length) cells.length&&allOneS st v.cells then fillS st place (setRS cells off v.cells) rest else none
def evPartsS (st:SSt V):List (Nat×Operand)→List (Nat×SV V)
 | []=>[]
 |(i,x)::l=>(i,st.ev x)::evPartsS st l
def zeroS (z:Value):List (SV V):=z.cells.toList.map svOf
def evS (st:SSt V):List Operand→List (SV V)
 | []=>[]
 | x::l=>st.ev x::evS st l
end
section
variable {m:Nat→Nat} {H:Nat→SB D}
theorem cellsE_enc (fr:Bool):∀ (t:Ty) (e:E D t),SV.encL m H (cellsE fr t e)=t.cells fr e.den
 | .int k,e=>by simp only [cellsE,SV.encL,SV.enc,Ty.cells]
 | .bool,e=>by simp only [cellsE,SV.encL,SV.enc,Ty.cells]
 | .str,e=>by simp only [cellsE,SV.encL,SV.enc,Ty.cells]
 | .list t,e=>by simp only [cellsE,SV.encL,SV.enc,Ty.cells]
 | .unit,e=>by simp only [cellsE,SV.encL,Ty.cells]
 | .pair a b,e=>by
  rw [cellsE,encL_map,List.map_append,←encL_map,←encL_map,cellsE_enc fr a,cellsE_enc fr b,fst'_den,snd'_den,Ty.cells]
 | .agg t,e=>by rw [cellsE,cellsE_enc fr t,aggE'_den,Ty.cells]
 | .ptr t,e=>by simp only [cellsE,SV.encL,SV.enc,Ty.cells]
 | .aix,e=>by simp only [cellsE,SV.encL,SV.enc,Ty.cells]
theorem encL_get {cs:List (SV D)} {i:Nat} {x:SV D} (h:cs[i]?=some x):(SV.encL m H cs)[i]?=some (x.enc m H):=by
 rw [encL_map,List.getElem?_map,h];rfl
theorem encL_length (cs:List (SV D)):(SV.encL m H cs).length=cs.length:=by rw [encL_map,List.length_map]
theorem partS_enc {cs:List (SV D)} {off s:Nat} {agg:Bool} {x:SV D} (h:partS cs off s agg=some x):partA (SV.encL m H cs) off s agg=some (x.enc m H):=by
 unfold partS at h;unfold partA;split at h
 ·rename_i ha;rw [if_pos ha,encL_length];split at h
  ·rename_i hb;rw [if_pos hb];injection h with h
   subst h;rw [SV.enc,encL_map,encL_map,←List.map_drop,←List.map_take]
  ·cases h
 ·rename_i ha;rw [if_neg ha];exact encL_get h
theorem enc_cells (x:SV D):(x.enc m H).cells=SV.encL m H x.cells:=by
 have key:∀ (y:SV D) (a:AV),y.cells=[y]→a=y.enc m H→a.cells=[a]→a.cells=SV.encL m H y.cells:=by
  intro y a h1 h2 h3;rw [h1,h3,SV.encL,SV.encL,h2]
 cases x with
 | agg cs=>rw [SV.enc];rfl
 | box id off =>
  refine key _ _ rfl rfl ?_;rw [SV.enc]
  cases isBox H id <;> rfl
 | elt id ver i off =>
  refine key _ _ rfl rfl ?_;rw [SV.enc]
  cases rowLen H id ver <;> rfl
 | osl id ver =>
  refine key _ _ rfl rfl ?_;rw [SV.enc]
  cases rowLen H id ver <;> rfl
 | vsl id ver lo hi =>
  refine key _ _ rfl rfl ?_;rw [SV.enc]
  cases rowLen H id ver <;> rfl
 | aosl e=>refine key _ _ rfl rfl ?_;rw [SV.enc];exact aixAV_cells _
 | aelt e i=>refine key _ _ rfl rfl ?_;rw [SV.enc];exact aeltAV_cells _ _
 | _=>refine key _ _ rfl rfl ?_;rw [SV.enc];rfl
theorem setRS_enc:∀ (l cs:List (SV D)) (off:Nat),SV.encL m H (setRS cs off l)=setR (SV.encL m H cs) off (SV.encL m H l)
 | [],cs,off=>by rw [setRS,SV.encL,setR]
 | v::l,cs,off=>by
  rw [setRS,setRS_enc l,SV.encL,setR];congr 1;rw [encL_map,encL_map,List.map_set]
theorem zeroS_enc (z:Value):SV.encL m H (zeroS z)=z.cells.toList.map avOf:=by
 rw [encL_map,zeroS,List.map_map];exact List.map_congr_left fun v _=>svOf_enc m H v
end
section
variable {st:SSt D} {m:Nat→Nat} {nx:Nat}
theorem oneS_enc {x:SV D} (h:oneS st x=true):(x.enc m st.blk).one=true:=by
 cases x with
 | any=>cases h
 | und=>cases h
 | agg _=>cases h
 | tup _=>cases h
 | box id off =>
  simp only [oneS] at h;rw [SV.enc]
  have:isBox st.blk id=true:=by
   unfold isBox;split at h
   ·rename_i e;rw [e]
   ·cases h
  rw [this];rfl
 | elt id ver i off =>
  simp only [oneS] at h;rw [SV.enc];split at h
  ·rename_i e;rw [show rowLen st.blk id ver=some _ by unfold rowLen;rw [e];simp only [h];rfl];rfl
  ·cases h
 | osl id ver =>
  simp only [oneS] at h;rw [SV.enc];split at h
  ·rename_i e;rw [show rowLen st.blk id ver=some _ by unfold rowLen;rw [e];simp only [h];rfl];rfl
  ·cases h
 | vsl id ver lo hi =>
  simp only [oneS] at h;rw [SV.enc];split at h
  ·rename_i e;rw [show rowLen st.blk id ver=some _ by unfold rowLen;rw [e];simp only [h];rfl];rfl
  ·cases h
 | aosl e=>rw [SV.enc];exact aixAV_one _
 | aelt e i=>rw [SV.enc];exact aeltAV_one _ _
 | _=>rw [SV.enc];rfl
theorem allOneS_enc {cs:List (SV D)} (h:allOneS st cs=true):allOne (SV.encL m st.blk cs)=true:=by
 induction cs with
 | nil=>rw [SV.encL];rfl
 | cons a l ih =>
  rw [allOneS,Bool.and_eq_true] at h;rw [SV.encL,allOne,oneS_enc h.1,ih h.2];rfl
theorem evPartsS_enc (l:List (Nat×Operand)):evParts (st.enc m nx) l=(evPartsS st l).map fun p=>(p.1,p.2.enc m st.blk):=by
 induction l with
 | nil=>rfl
 | cons p l ih =>
  obtain ⟨i,x⟩:=p;rw [evParts,evPartsS,List.map_cons,ih,enc_ev]
theorem evS_enc (l:List Operand):l.map (st.enc m nx).ev=SV.encL m st.blk (evS st l):=by
 induction l with
 | nil=>rw [evS,SV.encL];rfl
 | cons x l ih=>rw [List.map_cons,ih,enc_ev,evS,SV.encL]
theorem fillS_enc {place:Nat→Option (Nat×Nat)}:∀ {ps:List (Nat×SV D)} {cs out:List (SV D)},fillS st place cs ps=some out→fillA place (SV.encL m st.blk cs) (ps.map fun p=>(p.1,p.2.enc m st.blk))=some (SV.encL m st.blk out)
 | [],cs,out,h=>by rw [fillS] at h;injection h with h;subst h;rfl
 |(i,v)::ps,cs,out,h=>by
  rw [fillS] at h;rw [List.map_cons,fillA]
  cases hp:place i with
  | none=>rw [hp] at h;cases h
  | some os =>
   obtain ⟨off,size⟩:=os;rw [hp] at h;simp only at h ⊢
   cases hc:(Nat.beq v.cells.length size&&Nat.ble (off+v.cells.length) cs.length&&allOneS st v.cells) with
   | false=>rw [hc] at h;cases h
   | true =>
    rw [hc] at h;simp only [cond_true] at h;rw [Bool.and_eq_true,Bool.and_eq_true] at hc;rw [enc_cells,encL_length,encL_length,allOneS_enc hc.2,hc.1.1,hc.1.2,←setRS_enc];exact fillS_enc h
end
section
variable {V:Ty→Type}
def intsS (k:IntKind):List (SV V)→Option (List (E V (.int k)))
 | []=>some []
 | .int k' e::l=>if h:k'=k then (match intsS k l with | some r=>some ((h ▸ e)::r) | none=>none) else none
 | _=>none
def kdS:List (SV V)→IntKind
 | .int k _::_=>k
 | _=>.i64
def eqsE {k:IntKind}:List (E V (.int k))→List (E V (.int k))→E V .bool
 | [],[]=>.bL true
 | [a],[b]=>.ic .eq a b
 | a::l,b::m=>.bb .and (.ic .eq a b) (eqsE l m)
 | _,_=>.bL false
end
def densI {k:IntKind} (l:List (E D (.int k))):List Int:=l.map fun e=>e.den
theorem intsS_enc {m:Nat→Nat} {H:Nat→SB D} {k:IntKind}:∀ {cs:List (SV D)} {es:List (E D (.int k))},intsS k cs=some es→intsOf k (SV.encL m H cs)=some (densI es)
 | [],es,h=>by rw [intsS] at h;injection h with h;subst h;rw [SV.encL];rfl
 | c::l,es,h=>by
  cases c with
  | int k' e =>
   rw [intsS] at h;split at h
   ·rename_i hk;subst hk;split at h
    ·rename_i r hr;injection h with h
     subst h;rw [SV.encL,SV.enc,intsOf,if_pos rfl,intsS_enc hr];rfl
    ·cases h
   ·cases h
  | _=>simp [intsS] at h
theorem eqsE_den {k:IntKind}:∀ (l r:List (E D (.int k))),(eqsE l r).den=decide (densI l=densI r)
 | [],[]=>rfl
 | [],_::_=>by simp [eqsE,E.den,densI]
 | _::_,[]=>by
  rename_i a l
  cases l <;> simp [eqsE,E.den,densI]
 | [a],[b]=>by simp [eqsE,E.den,IC.den,densI]
 | [a],b::c::r=>by simp [eqsE,E.den,IC.den,BB.den,densI]
 | a::c::l,[b]=>by
  rw [eqsE]
  ·have:=eqsE_den (c::l) [];simp [E.den,BB.den,this,densI]
  ·intro x y;simp at x
 | a::c::l,b::d::r=>by
  rw [eqsE]
  ·have:=eqsE_den (c::l) (d::r);simp [E.den,BB.den,IC.den,this,densI]
  ·intro x y;simp at x
section
variable {V:Ty→Type}
abbrev RS (V:Ty→Type):=Option (SV V×E V .bool)
def E.litI {k:IntKind} (e:E V (.int k)):Option Int:=match e with
 | .iL _ n=>some n
 | _=>none
def icE {k:IntKind} (o:IC) (a b:E V (.int k)):E V .bool:=match a.litI,b.litI with
 | some n,some m=>.bL (o.den n m)
 | _,_=>.ic o a b
def binI (op:BinOp) {k:IntKind} (a b:E V (.int k)):RS V:=match op with
 | .add=>some (.int k (.wrap k (.ib .add a b)),okT)
 | .sub=>some (.int k (.wrap k (.ib .sub a b)),okT)
 | .mul=>some (.int k (.wrap k (.ib .mul a b)),okT)
 | .quo=>some (.int k (.wrap k (.ib .tdiv a b)),divOk b)
 | .rem=>some (.int k (.ib .tmod a b),divOk b)
 | .and=>some (.int k (.ib .and a b),okT)
 | .or=>some (.int k (.ib .or a b),okT)
 | .xor=>some (.int k (.ib .xor a b),okT)
 | .andNot=>some (.int k (.ib .andNot a b),okT)
 | .lss=>some (.bool (icE .lt a b),okT)
 | .leq=>some (.bool (icE .le a b),okT)
 | .gtr=>some (.bool (icE .lt b a),okT)
 | .geq=>some (.bool (icE .le b a),okT)
 | .eql=>some (.bool (icE .eq a b),okT)
 | .neq=>some (.bool (icE .ne a b),okT)
 | _=>none
def binS (T:Tab) (op:BinOp) (t:TypeId):SV V→SV V→RS V
 | .int k a,.int k' b=>match op with
  | .shl=>some (.int k (.wrap k (.shl a b)),shiftOk k b)
  | .shr=>some (.int k (.shr a b),shiftOk k b)
  | op=>if h:k'=k then binI op a (h ▸ b) else none
 | .bool a,.bool b=>match op,lk T.und t with
  | .eql,some .bool=>some (.bool (.bb .eq a b),okT)
  | .neq,some .bool=>some (.bool (.bb .ne a b),okT)
  | _,_=>none
 | .str a,.str b=>match op with
  | .eql=>some (.bool (.sEq a b),okT)
  | .neq=>some (.bool (.not (.sEq a b)),okT)
  | _=>none
 | .agg cs,.agg cs'=>match lk T.eqs t,intsS (kdS cs) cs,intsS (kdS cs) cs' with
  | some L,some ns,some ms=>bif Nat.beq ns.length L&&Nat.beq ms.length L then (match op with
   | .eql=>some (.bool (eqsE ns ms),okT)
   | .neq=>some (.bool (.not (eqsE ns ms)),okT)
   | _=>none) else none
  | _,_,_=>none
 | _,_=>none
end
section
variable {P:Program} {n:Nat} {T:Tab} {st:SSt D} {m:Nat→Nat} {nx:Nat} {d:Option Nat} {ty:TypeId} {ps:String} {af:Array Edge} {g:Option (Nat×Bool)} {t t':TypeId} {y z:Operand} {x:SV D} {gd:E D .bool}
theorem litI_den {k:IntKind} {e:E D (.int k)} {n:Int} (h:e.litI=some n):(e.den:Int)=n:=by
 unfold E.litI at h;split at h
 ·injection h
 ·cases h
theorem icE_den {k:IntKind} (o:IC) (a b:E D (.int k)):((icE o a b).den:Bool)=o.den a.den b.den:=by
 unfold icE;split
 ·rename_i n m h1 h2;rw [litI_den h1,litI_den h2];rfl
 ·rfl
theorem binI_ok {op:BinOp} {k:IntKind} {a b:E D (.int k)} (ha:(st.enc m nx).ev y=.int k a.den) (hb:(st.enc m nx).ev z=.int k b.den) (h:binI op a b=some (x,gd)) (hg:gd.den=true) (hd:dok d n=true) :
  OpR P n ⟨d,.binOp op t y z t',ty,ps,af,g⟩ (st.enc m nx) (x.enc m st.blk):=by
 cases op <;> simp only [binI,Option.some.injEq,Prod.mk.injEq,reduceCtorEq] at h <;> obtain ⟨rfl,rfl⟩:=h <;> rw [SV.enc]
 ·exact op_add ha hb rfl hd
 ·exact op_sub ha hb rfl hd
 ·exact op_mul ha hb rfl hd
 ·exact op_quo ha hb (divOk_den hg) rfl hd
 ·exact op_rem ha hb (divOk_den hg) hd
 ·exact op_bits (by simp) ha hb rfl hd
 ·exact op_bits (by simp) ha hb rfl hd
 ·exact op_bits (by simp) ha hb rfl hd
 ·exact op_bits (by simp) ha hb rfl hd
 ·rw [icE_den];exact op_eql ha hb hd
 ·rw [icE_den];exact op_neq ha hb hd
 ·rw [icE_den];exact op_lss ha hb hd
 ·rw [icE_den];exact op_leq ha hb hd
 ·rw [icE_den];exact op_gtr ha hb hd
 ·rw [icE_den];exact op_geq ha hb hd
theorem binS_ok {op:BinOp} {a b:SV D} (hT:T.ok P) (ha:st.ev y=a) (hb:st.ev z=b) (h:binS T op t a b=some (x,gd)) (hg:gd.den=true) (hd:dok d n=true) :
  OpR P n ⟨d,.binOp op t y z t',ty,ps,af,g⟩ (st.enc m nx) (x.enc m st.blk):=by
 have ea:=enc_ev st m nx y;have eb:=enc_ev st m nx z;rw [ha] at ea;rw [hb] at eb;unfold binS at h;split at h
 ·rename_i k a k' b;rw [SV.enc] at ea eb;split at h
  ·simp only [Option.some.injEq,Prod.mk.injEq] at h;obtain ⟨rfl,rfl⟩:=h;rw [SV.enc];obtain ⟨h0,h1⟩:=shiftOk_den hg;exact op_shl ea eb h0 h1 rfl hd
  ·simp only [Option.some.injEq,Prod.mk.injEq] at h;obtain ⟨rfl,rfl⟩:=h;rw [SV.enc];obtain ⟨h0,h1⟩:=shiftOk_den hg;exact op_shr ea eb h0 h1 hd
  ·split at h
   ·rename_i hk;subst hk;exact binI_ok ea eb h hg hd
   ·cases h
 ·rename_i a b;rw [SV.enc] at ea eb;split at h
  ·rename_i hu;simp only [Option.some.injEq,Prod.mk.injEq] at h;obtain ⟨rfl,rfl⟩:=h;rw [SV.enc];exact op_beql ea eb (allP_at hT.und hu) hd
  ·rename_i hu;simp only [Option.some.injEq,Prod.mk.injEq] at h;obtain ⟨rfl,rfl⟩:=h;rw [SV.enc];exact op_bneq ea eb (allP_at hT.und hu) hd
  ·cases h
 ·rename_i a b;rw [SV.enc] at ea eb;split at h
  ·simp only [Option.some.injEq,Prod.mk.injEq] at h;obtain ⟨rfl,rfl⟩:=h;rw [SV.enc];exact op_streql ea eb hd
  ·simp only [Option.some.injEq,Prod.mk.injEq] at h;obtain ⟨rfl,rfl⟩:=h;rw [SV.enc];exact op_strneq ea eb hd
  ·cases h
 ·rename_i cs cs';rw [SV.enc] at ea eb;split at h
  ·rename_i L ns ms h1 h2 h3
   cases hc:(Nat.beq ns.length L&&Nat.beq ms.length L) with
   | false=>rw [hc] at h;cases h
   | true =>
    rw [hc] at h;simp only [cond_true] at h;rw [Bool.and_eq_true] at hc;obtain ⟨e1,e2⟩:=allP_at hT.eqs h1;have l1:(densI ns).length=L:=by rw [densI,List.length_map];exact Nat.eq_of_beq_eq_true hc.1
    have l2:(densI ms).length=L:=by rw [densI,List.length_map];exact Nat.eq_of_beq_eq_true hc.2
    split at h
    ·simp only [Option.some.injEq,Prod.mk.injEq] at h;obtain ⟨rfl,rfl⟩:=h;rw [SV.enc,eqsE_den];exact op_eqs (neq:=false) ea eb (intsS_enc h2) (intsS_enc h3) e1 e2 l1 l2 hd
    ·simp only [Option.some.injEq,Prod.mk.injEq] at h;obtain ⟨rfl,rfl⟩:=h;rw [SV.enc,E.den,eqsE_den];exact op_eqs (neq:=true) ea eb (intsS_enc h2) (intsS_enc h3) e1 e2 l1 l2 hd
    ·cases h
  ·cases h
 ·cases h
end
end Go.Proofs.Ytljebnobajmjnaa
/- Decompiling: one function for the operations that read. No program in sight. -/
namespace Go.Proofs.Ytljebnobajmjnaa
open Go Go.RowKit

section
variable {V:Ty→Type}
def loadS (T:Tab) (st:SSt V) (t:TypeId):SV V→Option (SV V)
 | .box id o=>match st.blk id,lk T.und t,lk T.inf t with
  | .box cs _,some D,some (_,s,_)=>partS cs o s (aggB D)
  | _,_,_=>none
 | .pk fr ty e o=>match lk T.und t,lk T.inf t with
  | some D,some (_,s,_)=>partS (cellsE fr ty e) o s (aggB D)
  | _,_=>none
 | .elt id ver i o=>match st.blk id,lk T.und t,lk T.inf t with
  | .row fr ty xs _ v,some D,some (_,s,_)=>bif Nat.beq ver v then partS (cellsE fr ty (.at xs i)) o s (aggB D) else none
  | _,_,_=>none
 | _=>none
def fldS (T:Tab) (st:SSt V) (t:TypeId) (f:Nat) (x:SV V):Option (SV V):=match lk T.fld t with
 | some fl=>match fl[f]? with
  | some (off,s,_)=>bif Nat.beq s 0 then none else (match x with
   | .box id o=>match st.blk id with
    | .box ..=>some (.box id (o+off))
    | _=>none
   | .pk fr ty e o=>some (.pk fr ty e (o+off))
   | .elt id ver i o=>match st.blk id with
    | .row _ _ _ _ v=>bif Nat.beq ver v then some (.elt id ver i (o+off)) else none
    | _=>none
   | _=>none)
  | none=>none
 | none=>none
def idxS (T:Tab) (st:SSt V) (t:TypeId) (x y:SV V):RS V:=match y,lk T.und t with
 | .int _ i,some (.slice e)=>match lk T.inf e with
  | some (_,sz,_)=>match x with
   | .ro fr ty xs=>bif Nat.beq sz ty.size&&Nat.blt 0 sz then some (.pk fr ty (.at xs i) 0,inr i xs) else none
   | .osl id ver=>match st.blk id with
    | .row _ ty xs _ v=>bif Nat.beq ver v&&Nat.beq sz ty.size then some (.elt id ver i 0,inr i xs) else none
    | _=>none
   | _=>none
  | none=>none
 | _,_=>none
def lenS (T:Tab) (st:SSt V) (t:TypeId) (x:SV V):Option (SV V):=match lk T.und t with
 | some (.slice _)=>match x with
  | .ro _ _ xs=>some (.int .i64 (.len xs))
  | .osl id ver=>match st.blk id with
   | .row _ _ xs _ v=>bif Nat.beq ver v then some (.int .i64 (.len xs)) else none
   | _=>none
  | .nils=>some (.int .i64 (.iL .i64 0))
  | _=>none
 | some .string=>match x with
  | .str s=>some (.int .i64 (.sLen s))
  | _=>none
 | _=>none
def intsL {k:IntKind}:List (E V (.int k))→E V (.list (.int k))
 | []=>.nil _
 | a::l=>.cons a (intsL l)
def hdK:List (SV V)→Option IntKind
 | .int k _::_=>some k
 | _=>none
def elemS (T:Tab) (t:TypeId) (x y:SV V):RS V:=match y,lk T.und t with
 | .int k i,some (.array L e)=>match x,lk T.und e,lk T.inf e with
  | .agg cs,some D,some (_,s,_)=>match i with
   | .iL _ c=>bif decide (0≤c)&&decide (c<(L:Int)) then (match partS cs (c.toNat*s) s (aggB D) with
    | some v=>some (v,okT)
    | none=>none) else none
   | i=>bif Nat.beq s 1&&(!aggB D)&&Nat.beq cs.length L then (match hdK cs with
    | some k'=>match intsS k' cs with
     | some es=>some (.int k' (.at (intsL es) i),.bb .and (.ic .le (.iL k 0) i) (.ic .lt i (.iL .i64 L)))
     | none=>none
    | none=>none) else none
  | _,_,_=>none
 | .int _ i,some .string=>match x with
  | .str s=>some (.int .u8 (.sAt s i),inrS i s)
  | _=>none
 | _,_=>none
def minS (o:IB):SV V→SV V→RS V
 | .int k a,.int k' b=>if h:k'=k then some (.int k (.ib o a (h ▸ b)),okT) else none
 | _,_=>none
def buildS (T:Tab) (st:SSt V) (t:TypeId) (parts:List (Nat×Operand)):Option (SV V):=match lk T.inf t,lk T.fld t with
 | some (some z,_,_),some fl=>bif allOne (z.cells.toList.map avOf) then (match fillS st (placeS fl) (zeroS z) (evPartsS st parts) with
  | some out=>some (.agg out)
  | none=>none) else none
 | _,_=>none
def pickS (c a b:SV V):Option (SV V):=match c with
 | .bool (.bL true)=>some a
 | .bool (.bL false)=>some b
 | .bool c=>match a,b with
  | .bool x,.bool y=>some (.bool (iteB c x y))
  | .int k x,.int k' y=>if h:k'=k then some (.int k (.ite c x (h ▸ y))) else none
  | _,_=>none
 | _=>none
def convS (T:Tab) (st:SSt V) (t t':TypeId) (x:SV V):Option (SV V):=match x,lk T.und t,lk T.und t' with
 | .int _ e,some _,some (.int k')=>some (.int k' (.wrap k' e))
 | .ro _ (.int .u8) xs,some (.slice e),some .string=>match lk T.und e with
  | some (.int .u8)=>some (.str (.ofB xs))
  | _=>none
 | .osl id ver,some (.slice e),some .string=>match lk T.und e,st.blk id with
  | some (.int .u8),.row _ (.int .u8) xs _ v=>bif Nat.beq ver v then some (.str (.ofB xs)) else none
  | _,_=>none
 | .vsl id ver lo hi,some (.slice e),some .string=>match lk T.und e,st.blk id with
  | some (.int .u8),.row _ (.int .u8) xs _ v=>bif Nat.beq ver v then some (.str (.ofB (.sub xs lo hi))) else none
  | _,_=>none
 | _,_,_=>none
def rd0 (T:Tab) (st:SSt V):Op→RS V
 | .move x | .assign x=>some (st.ev x,okT)
 | .pick c a b=>(pickS (st.ev c) (st.ev a) (st.ev b)).map fun v=>(v,okT)
 | .binOp op t x y _=>binS T op t (st.ev x) (st.ev y)
 | .unOp .not _ x=>match st.ev x with
  | .bool b=>some (.bool (notE b),okT)
  | _=>none
 | .unOp .neg _ x=>match st.ev x with
  | .int k a=>some (.int k (.wrap k (.neg a)),okT)
  | _=>none
 | .convert t t' x=>(convS T st t t' (st.ev x)).map fun v=>(v,okT)
 | .extract x i=>match st.ev x with
  | .tup vs=>(vs[i]?).map fun v=>(v,okT)
  | _=>none
 | .fieldAddr t x f=>(fldS T st t f (st.ev x)).map fun v=>(v,okT)
 | .nilCheck x=>match st.ev x with
  | .box id o=>match st.blk id with
   | .box ..=>some (.box id o,okT)
   | _=>none
  | .pk fr ty e o=>some (.pk fr ty e o,okT)
  | .elt id ver i o=>match st.blk id with
   | .row _ _ _ _ v=>bif Nat.beq ver v then some (.elt id ver i o,okT) else none
   | _=>none
  | _=>none
 | .field t x f=>match st.ev x,lk T.fld t with
  | .agg cs,some fl=>match fl[f]? with
   | some (off,s,b)=>(partS cs off s b).map fun v=>(v,okT)
   | none=>none
  | _,_=>none
 | .load t x=>(loadS T st t (st.ev x)).map fun v=>(v,okT)
 | .build t parts=>(buildS T st t parts.toList).map fun v=>(v,okT)
 | .makeFunc (.func F) ⟨[]⟩ caps=>some (.fn F (evS st caps.toList),okT)
 | .call ⟨.builtin .len,⟨[x]⟩,⟨[t]⟩⟩=>(lenS T st t (st.ev x)).map fun v=>(v,okT)
 | .call ⟨.builtin .min,⟨[x,y]⟩,_⟩=>minS .min (st.ev x) (st.ev y)
 | .call ⟨.builtin .max,⟨[x,y]⟩,_⟩=>minS .max (st.ev x) (st.ev y)
 | .indexAddr t x y=>idxS T st t (st.ev x) (st.ev y)
 | .index t x y=>elemS T t (st.ev x) (st.ev y)
 | _=>none
def E.zero? {k:IntKind} (e:E V (.int k)):Bool:=match e with
 | .iL _ n=>decide (n=0)
 | _=>false
def bndE (dflt:E V (.int .i64)):Option (SV V)→Option (Sigma fun k=>E V (.int k))
 | none=>some ⟨.i64,dflt⟩
 | some (.int k e)=>some ⟨k,e⟩
 | some _=>none
def leF {k k':IntKind} (a:E V (.int k)) (b:E V (.int k')):E V .bool:=match a with
 | .iL _ n=>(match b with
  | .iL _ m=>.bL (decide (n≤m))
  | _=>.ic .le a b)
 | _=>.ic .le a b
def bndG {k k':IntKind} (l:E V (.int k)) (h:E V (.int k')) (n:E V (.int .i64)) (all:Bool):E V .bool:=andE (leF (.iL .i64 0) l) (andE (leF l h) (bif all then okT else leF h n))
def sliceS (T:Tab) (t:TypeId) (x:SV V) (lo hi:Option (SV V)):RS V:=match lk T.und t with
 | some (.slice e)=>match x,lk T.inf e with
  | .ro fr ty xs,some (_,sz,_)=>match bndE (.iL .i64 0) lo,bndE (.len xs) hi with
   | some ⟨_,l⟩,some ⟨_,h⟩=>bif Nat.beq sz ty.size then some (.ro fr ty (.sub xs l h),bndG l h (.len xs) hi.isNone) else none
   | _,_=>none
  | _,_=>none
 | some .string=>match x with
  | .str s=>match bndE (.iL .i64 0) lo,bndE (.sLen s) hi with
   | some ⟨_,l⟩,some ⟨_,h⟩=>some (.str (.sSub s l h),bndG l h (.sLen s) hi.isNone)
   | _,_=>none
  | _=>none
 | _=>none
def catS:SV V→SV V→RS V
 | .str a,.str b=>some (.str (.sCat a b),leF (.ib .add (.sLen a) (.sLen b)) (.iL .i64 9223372036854775807))
 | _,_=>none
def ltL {k:IntKind} (a:E V (.int k)) (L:Nat):E V .bool:=match a with
 | .iL _ n=>.bL (decide (n<(L:Int)))
 | _=>.ic .lt a (.iL .i64 L)
def isBoxV (st:SSt V) (id:Nat):Bool:=match st.blk id with
 | .box ..=>true
 | _=>false
def idxA (T:Tab) (st:SSt V) (t:TypeId) (x y:SV V):RS V:=match y,lk T.und t with
 | .int _ j,some (.array L e)=>match lk T.inf e,x with
  | some (_,sz,_),.elt id ver i o=>match st.blk id with
   | .row _ ty xs _ v=>bif Nat.beq ver v&&i.zero?&&Nat.beq o 0&&Nat.beq sz ty.size then some (.elt id ver j 0,andE (inr j xs) (ltL j L)) else none
   | _=>none
  | some (_,sz,_),.box id o=>match j with
   | .iL _ q=>bif decide (0≤q)&&decide (q<(L:Int))&&isBoxV st id then some (.box id (o+q.toNat*sz),okT) else none
   | _=>none
  | _,_=>none
 | _,_=>none
def cellsN (fr:Bool) (ty:Ty) (xs:E V (.list ty)):Nat→Nat→List (SV V)
 | 0,_=>[]
 | n+1,k=>cellsE fr ty (.at xs (.iL .i64 k))++cellsN fr ty xs n (k+1)
def loadA (T:Tab) (st:SSt V) (t:TypeId) (x:SV V):RS V:=match lk T.und t with
 | some (.array L _)=>match lk T.inf t,x with
  | some (_,s,_),.elt id ver i o=>match st.blk id with
   | .row fr ty xs _ v=>bif Nat.beq ver v&&i.zero?&&Nat.beq o 0&&Nat.beq s (L*ty.size)&&Nat.blt 0 L then some (.agg (cellsN fr ty xs L 0),.ic .eq (.len xs) (.iL .i64 L)) else none
   | _=>none
  | _,_=>none
 | _=>none
def buildA (T:Tab) (st:SSt V) (t:TypeId) (parts:List (Nat×Operand)):Option (SV V):=match lk T.und t with
 | some (.array _ e)=>match lk T.inf t,lk T.inf e with
  | some (some z,_,_),some (_,s,_)=>bif allOne (z.cells.toList.map avOf) then (match fillS st (fun i=>some (i*s,s)) (zeroS z) (evPartsS st parts) with
   | some out=>some (.agg out)
   | none=>none) else none
  | _,_=>none
 | _=>none
def colE (k:IntKind) (s:Nat):Nat→List (SV V)→Option (List (E V (.int k)))
 | 0,_=>some []
 | L+1,cs=>match cs with
  | .int k' e::_=>if h:k'=k then (match colE k s L (cs.drop s) with | some r=>some ((h ▸ e)::r) | none=>none) else none
  | _=>none
def colsE {ki:IntKind} (i:E V (.int ki)) (s L:Nat):Nat→List (SV V)→Option (List (SV V))
 | 0,_=>some []
 | m+1,cs=>match hdK cs with
  | some k=>match colE k s L cs with
   | some es=>match colsE i s L m (cs.drop 1) with
    | some r=>some (.int k (.at (intsL es) i)::r)
    | none=>none
   | none=>none
  | none=>none
def elemA (T:Tab) (t:TypeId) (x y:SV V):RS V:=match y,lk T.und t with
 | .int k i,some (.array L e)=>match x,lk T.und e,lk T.inf e with
  | .agg cs,some D,some (_,s,_)=>bif aggB D&&Nat.beq cs.length (L*s) then (match colsE i s L s cs with
   | some out=>some (.agg out,.bb .and (.ic .le (.iL k 0) i) (.ic .lt i (.iL .i64 L)))
   | none=>none) else none
  | _,_,_=>none
 | _,_=>none
def asI {k:IntKind} (e:E V (.int k)):Option (E V (.int .i64)):=if h:k=.i64 then some (h ▸ e) else none
def bndI (dflt:E V (.int .i64)) (x:Option (SV V)):Option (E V (.int .i64)):=match bndE dflt x with
 | some ⟨_,e⟩=>asI e
 | none=>none
def sliceV (T:Tab) (st:SSt V) (t:TypeId) (x:SV V) (lo hi:Option (SV V)):RS V:=match lk T.und t with
 | some (.slice e)=>match x,lk T.inf e with
  | .osl id ver,some (_,sz,_)=>match st.blk id with
   | .row _ ty xs _ v=>match bndI (.iL .i64 0) lo,bndI (.len xs) hi with
    | some l,some h=>bif Nat.beq ver v&&Nat.beq sz ty.size then some (.vsl id ver l h,bndG l h (.len xs) hi.isNone) else none
    | _,_=>none
   | _=>none
  | .vsl id ver p q,some (_,sz,_)=>match st.blk id with
   | .row _ ty _ _ v=>match bndI (.iL .i64 0) lo,bndI (.ib .sub q p) hi with
    | some l,some h=>bif Nat.beq ver v&&Nat.beq sz ty.size then some (.vsl id ver (.ib .add p l) (.ib .add p h),andE (leF (.iL .i64 0) p) (bndG l h (.ib .sub q p) hi.isNone)) else none
    | _,_=>none
   | _=>none
  | _,_=>none
 | some (.array L e)=>match x,lk T.inf e with
  | .elt id ver i o,some (_,sz,_)=>match st.blk id with
   | .row _ ty xs _ v=>match bndI (.iL .i64 0) lo,bndI (.len xs) hi with
    | some l,some h=>bif Nat.beq ver v&&i.zero?&&Nat.beq o 0&&Nat.beq sz ty.size&&Nat.blt 0 L then some (.vsl id ver l h,andE (.ic .eq (.len xs) (.iL .i64 L)) (bndG l h (.len xs) hi.isNone)) else none
    | _,_=>none
   | _=>none
  | .pk fr ty ex o,some (_,sz,_)=>bif Nat.beq o 0&&Nat.beq sz 1&&Nat.beq ty.size L&&Nat.blt 0 L&&Nat.ble L 1000&&lo.isNone&&hi.isNone then (match hdK (cellsE fr ty ex) with
   | some k=>match intsS k (cellsE fr ty ex) with
    | some es=>some (.ro false (.int k) (intsL es),okT)
    | none=>none
   | none=>none) else none
  | _,_=>none
 | _=>none
def idxV (T:Tab) (st:SSt V) (t:TypeId) (x y:SV V):RS V:=match y,lk T.und t with
 | .int _ i,some (.slice e)=>match lk T.inf e,x with
  | some (_,sz,_),.vsl id ver lo hi=>match st.blk id with
   | .row _ ty _ _ v=>match asI i with
    | some i=>bif Nat.beq ver v&&Nat.beq sz ty.size then some (.elt id ver (.ib .add lo i) 0,andE (leF (.iL .i64 0) lo) (andE (leF (.iL .i64 0) i) (.ic .lt (.ib .add lo i) hi))) else none
    | none=>none
   | _=>none
  | _,_=>none
 | _,_=>none
def lenV (T:Tab) (st:SSt V) (t:TypeId) (x:SV V):RS V:=match lk T.und t with
 | some (.slice _)=>match x with
  | .vsl id ver lo hi=>match st.blk id with
   | .row _ _ _ _ v=>bif Nat.beq ver v then some (.int .i64 (.ib .sub hi lo),andE (leF (.iL .i64 0) lo) (leF lo hi)) else none
   | _=>none
  | _=>none
 | _=>none
def orN (a b:RS V):RS V:=match a with
 | some r=>some r
 | none=>b
def complS:SV V→RS V
 | .int k a=>some (.int k (.ib .xor (.iL k (if k.signed then -1 else k.max)) a),okT)
 | _=>none
def rdN (T:Tab) (st:SSt V):Op→RS V
 | .slice t x lo hi none=>orN (sliceS T t (st.ev x) (lo.map st.ev) (hi.map st.ev)) (sliceV T st t (st.ev x) (lo.map st.ev) (hi.map st.ev))
 | .call ⟨.builtin .len,⟨[x]⟩,⟨[t]⟩⟩=>lenV T st t (st.ev x)
 | .binOp .add _ x y _=>catS (st.ev x) (st.ev y)
 | .indexAddr t x y=>orN (idxA T st t (st.ev x) (st.ev y)) (idxV T st t (st.ev x) (st.ev y))
 | .load t x=>loadA T st t (st.ev x)
 | .build t parts=>(buildA T st t parts.toList).map fun v=>(v,okT)
 | .index t x y=>elemA T t (st.ev x) (st.ev y)
 | .unOp .xor _ x=>complS (st.ev x)
 | _=>none
def arnOf (st:SSt V):Option (Sigma fun t=>E V (.list (.list t))):=match st.blk 0 with
 | .arn t xs _=>some ⟨t,xs⟩
 | _=>none
def arnG {t:Ty} (xs:E V (.list (.list t))) (e:E V .aix):E V .bool:=andE (leF (.iL .i64 0) e.aixK') (andE (ltL e.aixK' bigA) (.ic .eq e.aixN' (.len (.at xs e.aixK'))))
def arnN {t:Ty} (xs:E V (.list (.list t))) (e:E V .aix):E V .bool:=.ite (leF (.iL .i64 0) e.aixK') (andE (ltL e.aixK' bigA) (.ic .eq e.aixN' (.len (.at xs e.aixK')))) okT
def lenA (T:Tab) (st:SSt V) (t:TypeId) (x:SV V):RS V:=match lk T.und t,x with
 | some (.slice _),.aosl e=>match arnOf st with
  | some ⟨_,xs⟩=>some (.int .i64 (.len (.at xs e.aixK')),arnG xs e)
  | none=>none
 | _,_=>none
def idxArn (T:Tab) (st:SSt V) (t:TypeId) (x y:SV V):RS V:=match y,lk T.und t with
 | .int _ i,some (.slice el)=>match lk T.inf el,x with
  | some (_,sz,_),.aosl e=>match arnOf st with
   | some ⟨ty,xs⟩=>bif Nat.beq sz ty.size then some (.aelt e i,andE (arnG xs e) (inr i (.at xs e.aixK'))) else none
   | none=>none
  | _,_=>none
 | _,_=>none
def loadArn (T:Tab) (st:SSt V) (t:TypeId) (x:SV V):RS V:=match x,lk T.und t,lk T.inf t with
 | .aelt e i,some D,some (_,s,_)=>match arnOf st with
  | some ⟨ty,xs⟩=>match partS (cellsE false ty (.at (.at xs e.aixK') i)) 0 s (aggB D) with
   | some v=>some (v,arnG xs e)
   | none=>none
  | none=>none
 | _,_,_=>none
def rdA (T:Tab) (st:SSt V):Op→RS V
 | .call ⟨.builtin .len,⟨[x]⟩,⟨[t]⟩⟩=>lenA T st t (st.ev x)
 | .indexAddr t x y=>idxArn T st t (st.ev x) (st.ev y)
 | .load t x=>loadArn T st t (st.ev x)
 | _=>none
def rd (T:Tab) (st:SSt V) (o:Op):RS V:=match rd0 T st o with
 | some r=>some r
 | none=>orN (rdN T st o) (rdA T st o)
end
section
variable {P:Program} {n:Nat} {T:Tab} {st:SSt D} {m:Nat→Nat} {nx:Nat} {d:Option Nat} {ty:TypeId} {ps:String} {af:Array Edge} {g:Option (Nat×Bool)} {t t':TypeId} {y z:Operand} {x v:SV D} {gd:E D .bool}
theorem op_load_elt' {s:ASt} {D:TypeDesc} {Z:Option Value} {sz b:Nat} {id q i o sr:Nat} {rows:List (List AV)} {e:TypeId} {a:AV} (hx:s.ev y=.elt id q i o) (hb:look .dead s.heap id=.row sr rows e) (hm:q=rows.length) (hT:P.underlying t=some D) (hI:tyI P t=some (Z,sz,b)) (hv:∀ row,rows[i]?=some row→partA row o sz (aggB D)=some a) (hd:dok d n=true) :
  OpR P n ⟨d,.load t y,ty,ps,af,g⟩ s a:=.mk hd fun K A w G rr=>by
 have e1:=rr.ev y;rw [hx] at e1
 have hi:i<rows.length:=by
  cases e1 with
  | dat h=>cases h
  | elt _ _ _ _ _ _ hin=>omega
 exact (op_load_elt hx hb hm (List.getElem?_eq_getElem hi) hT hI (hv _ (List.getElem?_eq_getElem hi)) hd).out K A w G rr
theorem rowLen_eq {H:Nat→SB D} {id ver:Nat} {fr:Bool} {t:Ty} {xs:E D (.list t)} {e v:Nat} (h:H id=.row fr t xs e v) (hv:Nat.beq ver v=true):rowLen H id ver=some (List.length xs.den):=by
 unfold rowLen;rw [h];simp only [hv];rfl
theorem rows_len {fr:Bool} {t:Ty} (xs:List t.den):(xs.map (t.cells fr)).length=xs.length:=List.length_map _
theorem at_row {fr:Bool} {t:Ty} {xs:List t.den} {i:Nat} {row:List AV} (h:(xs.map (t.cells fr))[i]?=some row):row=t.cells fr (xs.getD i t.dflt):=by
 rw [List.getElem?_map] at h;obtain ⟨x,hx,e⟩:=Option.map_eq_some_iff.1 h;rw [List.getD_eq_getElem?_getD,hx];exact e.symm
theorem loadS_ok (hT:T.ok P) (hm:MOk m nx st) (h:loadS T st t (st.ev y)=some x) (hd:dok d n=true):OpR P n ⟨d,.load t y,ty,ps,af,g⟩ (st.enc m nx) (x.enc m st.blk):=by
 have ey:=enc_ev st m nx y;generalize st.ev y=v at h ey
 cases v <;> simp only [loadS,reduceCtorEq] at h
 ·rename_i id o;split at h
  ·rename_i cs e D Z s b h1 h2 h3;have hi:isBox st.blk id=true:=by unfold isBox;rw [h1]
   rw [SV.enc,hi] at ey;have hb:=enc_blk hm (k:=id) (by rw [h1];simp);rw [h1,SB.enc] at hb;exact op_load_box ey hb (allP_at hT.und h2) (allP_at hT.inf h3) (partS_enc h) hd
  ·cases h
 ·rename_i id ver k i o;split at h
  ·rename_i fr rt xs e v D Z s b h1 h2 h3
   cases hv:Nat.beq ver v with
   | false=>rw [hv] at h;cases h
   | true =>
    rw [hv] at h;rw [SV.enc,rowLen_eq h1 hv] at ey;have hb:=enc_blk hm (k:=id) (by rw [h1];simp);rw [h1,SB.enc] at hb;refine op_load_elt' ey hb (rows_len _).symm (allP_at hT.und h2) (allP_at hT.inf h3) (fun row hr=>?_) hd;have hp:=partS_enc (m:=m) (H:=st.blk) h;rw [cellsE_enc] at hp;rw [at_row hr];exact hp
  ·cases h
 ·rename_i fr pt e o;split at h
  ·rename_i D Z s b h2 h3;rw [SV.enc] at ey;have hp:=partS_enc (m:=m) (H:=st.blk) h;rw [cellsE_enc] at hp;exact op_load_peek ey (allP_at hT.und h2) (allP_at hT.inf h3) hp hd
  ·cases h
theorem fldS_ok {f:Nat} (hT:T.ok P) (hm:MOk m nx st) (h:fldS T st t f (st.ev y)=some x) (hd:dok d n=true):OpR P n ⟨d,.fieldAddr t y f,ty,ps,af,g⟩ (st.enc m nx) (x.enc m st.blk):=by
 have ey:=enc_ev st m nx y;generalize st.ev y=v at h ey;unfold fldS at h;split at h
 ·rename_i fl hF;split at h
  ·rename_i off s b hf
   cases hs:Nat.beq s 0 with
   | true=>rw [hs] at h;cases h
   | false =>
    rw [hs] at h;have hs0:s≠0:=fun e=>by subst e;cases hs
    have hF:=allP_at hT.fld hF;simp only [cond_false] at h;split at h
    ·rename_i id o;split at h
     ·rename_i h1;injection h with h
      subst h;have hi:isBox st.blk id=true:=by unfold isBox;rw [h1]
      rw [SV.enc,hi] at ey;rw [SV.enc,hi];exact op_fieldAddr_box ey hF hf hs0 hd
     ·cases h
    ·rename_i fr pt e o;injection h with h
     subst h;rw [SV.enc] at ey;rw [SV.enc];exact op_fieldAddr_peek ey hF hf hs0 hd
    ·rename_i id ver k i o;split at h
     ·rename_i fr rt xs e v h1
      cases hv:Nat.beq ver v with
      | false=>rw [hv] at h;cases h
      | true =>
       rw [hv] at h;injection h with h
       subst h;rw [SV.enc,rowLen_eq h1 hv] at ey;rw [SV.enc,rowLen_eq h1 hv];have hb:=enc_blk hm (k:=id) (by rw [h1];simp);rw [h1,SB.enc] at hb;exact op_fieldAddr_elt ey hF hf hs0 ⟨_,_,_,hb,(rows_len _).symm⟩ hd
     ·cases h
    ·cases h
  ·cases h
 ·cases h
theorem idxS_ok (hT:T.ok P) (hm:MOk m nx st) (h:idxS T st t (st.ev y) (st.ev z)=some (x,gd)) (hg:gd.den=true) (hd:dok d n=true):OpR P n ⟨d,.indexAddr t y z,ty,ps,af,g⟩ (st.enc m nx) (x.enc m st.blk):=by
 have ey:=enc_ev st m nx y;have ez:=enc_ev st m nx z;generalize st.ev y=v at h ey;generalize st.ev z=u at h ez;unfold idxS at h;split at h
 ·rename_i k i e hu;split at h
  ·rename_i Z sz b hI;rw [SV.enc] at ez;split at h
   ·rename_i fr rt xs
    cases hc:(Nat.beq sz rt.size&&Nat.blt 0 sz) with
    | false=>rw [hc] at h;cases h
    | true =>
     rw [hc] at h;simp only [cond_true,Option.some.injEq,Prod.mk.injEq] at h;obtain ⟨rfl,rfl⟩:=h;rw [Bool.and_eq_true] at hc;have hsz:=Nat.eq_of_beq_eq_true hc.1;subst hsz;obtain ⟨h0,h1⟩:=inr_den hg;rw [SV.enc] at ey;rw [SV.enc]
     have hr:(List.map (rt.cells fr) xs.den)[Int.toNat i.den]?=some (rt.cells fr (E.at xs i).den):=by
      have hlt:(Int.toNat i.den)<List.length xs.den:=(Int.toNat_lt h0).2 h1;rw [List.getElem?_map,List.getElem?_eq_getElem hlt];show some _=some (rt.cells fr (List.getD xs.den _ _));rw [List.getD_eq_getElem?_getD,List.getElem?_eq_getElem hlt];rfl
     refine op_index_ro ey ez (allP_at hT.und hu) (allP_at hT.inf hI) h0 hr ?_ hd;intro e;have:=rt.cells_length fr (E.at xs i).den;rw [e] at this;have h2:=hc.2;rw [←this] at h2;cases h2
   ·rename_i id ver;split at h
    ·rename_i fr rt xs e' v h1
     cases hc:(Nat.beq ver v&&Nat.beq sz rt.size) with
     | false=>rw [hc] at h;cases h
     | true =>
      rw [hc] at h;simp only [cond_true,Option.some.injEq,Prod.mk.injEq] at h;obtain ⟨rfl,rfl⟩:=h;rw [Bool.and_eq_true] at hc;have hsz:=Nat.eq_of_beq_eq_true hc.2;obtain ⟨g0,g1⟩:=inr_den hg;rw [SV.enc,rowLen_eq h1 hc.1] at ey;rw [SV.enc,rowLen_eq h1 hc.1];have hb:=enc_blk hm (k:=id) (by rw [h1];simp);rw [h1,SB.enc] at hb;exact op_index_osl ey hb (rows_len _).symm ez (allP_at hT.und hu) (allP_at hT.inf hI) hsz g0 g1 hd
    ·cases h
   ·cases h
  ·cases h
 ·cases h
theorem lenS_ok (hT:T.ok P) (h:lenS T st t (st.ev y)=some x) (hd:dok d n=true):OpR P n ⟨d,.call ⟨.builtin .len,⟨[y]⟩,⟨[t]⟩⟩,ty,ps,af,g⟩ (st.enc m nx) (x.enc m st.blk):=by
 have ey:=enc_ev st m nx y;generalize st.ev y=v at h ey;unfold lenS at h;split at h
 ·rename_i e hu;split at h
  ·rename_i fr rt xs;injection h with h
   subst h;rw [SV.enc] at ey;rw [SV.enc];exact op_len (m:=List.length xs.den) (by rw [ey,AV.lenA,rows_len]) (allP_at hT.und hu) hd
  ·rename_i id ver;split at h
   ·rename_i fr rt xs e' v h1
    cases hv:Nat.beq ver v with
    | false=>rw [hv] at h;cases h
    | true =>
     rw [hv] at h;injection h with h
     subst h;rw [SV.enc,rowLen_eq h1 hv] at ey;rw [SV.enc];exact op_len (m:=List.length xs.den) (by rw [ey,AV.lenA]) (allP_at hT.und hu) hd
   ·cases h
  ·injection h with h
   subst h;rw [SV.enc] at ey;rw [SV.enc];exact op_len (m:=0) (by rw [ey,AV.lenA]) (allP_at hT.und hu) hd
  ·cases h
 ·rename_i hu;split at h
  ·rename_i s;injection h with h
   subst h;rw [SV.enc] at ey;rw [SV.enc];have:=op_len_str (ty:=ty) (ps:=ps) (af:=af) (g:=g) ey (allP_at hT.und hu) hd;exact this
  ·cases h
 ·cases h
theorem minS_ok {o:IB} {b:Builtin} {tt:Array TypeId} (ho:(o=.min∧b=.min)∨(o=.max∧b=.max)) (h:minS o (st.ev y) (st.ev z)=some (x,gd)) (hd:dok d n=true):OpR P n ⟨d,.call ⟨.builtin b,⟨[y,z]⟩,tt⟩,ty,ps,af,g⟩ (st.enc m nx) (x.enc m st.blk):=by
 have ey:=enc_ev st m nx y;have ez:=enc_ev st m nx z;generalize st.ev y=v at h ey;generalize st.ev z=u at h ez;unfold minS at h;split at h
 ·rename_i k a k' b';split at h
  ·rename_i hk;subst hk;simp only [Option.some.injEq,Prod.mk.injEq] at h;obtain ⟨rfl,rfl⟩:=h;rw [SV.enc] at ey;rw [SV.enc] at ez;rw [SV.enc];rcases ho with ⟨rfl,rfl⟩ | ⟨rfl,rfl⟩
   ·exact op_min ey ez hd
   ·exact op_max ey ez hd
  ·cases h
 ·cases h
theorem intsL_den {k:IntKind} (l:List (E D (.int k))):(intsL l).den=densI l:=by
 induction l with
 | nil=>rfl
 | cons a l ih=>rw [intsL,E.den,ih];rfl
theorem intsOf_len {k:IntKind} {cs:List AV} {ns:List Int} (h:intsOf k cs=some ns):ns.length=cs.length:=by rw [intsOf_eq h,List.length_map]
theorem elemS_ok (hT:T.ok P) (h:elemS T t (st.ev y) (st.ev z)=some (x,gd)) (hg:gd.den=true) (hd:dok d n=true):OpR P n ⟨d,.index t y z,ty,ps,af,g⟩ (st.enc m nx) (x.enc m st.blk):=by
 have ey:=enc_ev st m nx y;have ez:=enc_ev st m nx z;generalize st.ev y=v at h ey;generalize st.ev z=u at h ez;unfold elemS at h;split at h
 ·rename_i k i L e hu;split at h
  ·rename_i cs Dd Z s b h2 h3;rw [SV.enc] at ey;rw [SV.enc] at ez;split at h
   ·rename_i c
    cases hc:(decide (0≤c)&&decide (c<(L:Int))) with
    | false=>rw [hc] at h;cases h
    | true =>
     rw [hc] at h;simp only [cond_true] at h;simp only [Bool.and_eq_true,decide_eq_true_eq] at hc;split at h
     ·rename_i v hv;simp only [Option.some.injEq,Prod.mk.injEq] at h;obtain ⟨rfl,rfl⟩:=h;exact op_index_agg ey ez (allP_at hT.und hu) (allP_at hT.und h2) (allP_at hT.inf h3) hc.1 hc.2 (partS_enc hv) hd
     ·cases h
   ·cases hc:(Nat.beq s 1&&(!aggB Dd)&&Nat.beq cs.length L) with
    | false=>rw [hc] at h;cases h
    | true =>
     rw [hc] at h;simp only [cond_true] at h;rw [Bool.and_eq_true,Bool.and_eq_true] at hc;obtain ⟨⟨hs1,ha⟩,hL⟩:=hc;have hs1:=Nat.eq_of_beq_eq_true hs1;subst hs1;have hL:=Nat.eq_of_beq_eq_true hL;have ha:aggB Dd=false:=by simpa using ha
     split at h
     ·rename_i k' hk;split at h
      ·rename_i es hes;simp only [Option.some.injEq,Prod.mk.injEq] at h;obtain ⟨rfl,rfl⟩:=h;obtain ⟨h0,h1⟩:=andB hg;have h0:(0:Int)≤i.den:=of_decide_eq_true h0;have h1:i.den<(L:Int):=of_decide_eq_true h1;have hi:=intsS_enc (m:=m) (H:=st.blk) hes;have hl:=intsOf_len hi;rw [encL_length,hL] at hl;refine op_index_agg ey ez (allP_at hT.und hu) (allP_at hT.und h2) (allP_at hT.inf h3) h0 h1 ?_ hd;have hlt:(Int.toNat i.den)<(densI es).length:=by rw [hl];exact (Int.toNat_lt h0).2 h1
       rw [partA,ha,if_neg (by decide),Nat.mul_one,intsOf_eq hi,List.getElem?_map,List.getElem?_eq_getElem hlt,SV.enc];show some _=some (AV.int k' (List.getD (intsL es).den _ _));rw [intsL_den,List.getD_eq_getElem?_getD,List.getElem?_eq_getElem hlt];rfl
      ·cases h
     ·cases h
  ·cases h
 ·rename_i k i hu;split at h
  ·rename_i s;simp only [Option.some.injEq,Prod.mk.injEq] at h;obtain ⟨rfl,rfl⟩:=h;obtain ⟨h0,h1⟩:=inrS_den hg;rw [SV.enc] at ey;rw [SV.enc] at ez;rw [SV.enc];have hlt:(Int.toNat i.den)<List.length s.den:=(Int.toNat_lt h0).2 h1
   have hc:(⟨⟨s.den⟩⟩:ByteArray).data.toList[Int.toNat i.den]?=some (List.getD s.den (Int.toNat i.den) 0):=by
    show (s.den:List UInt8)[Int.toNat i.den]?=_;rw [List.getD_eq_getElem?_getD,List.getElem?_eq_getElem hlt];rfl
   exact op_index_str ey ez (allP_at hT.und hu) h0 hc hd
  ·cases h
 ·cases h
theorem buildS_ok {parts:Array (Nat×Operand)} (hT:T.ok P) (h:buildS T st t parts.toList=some x) (hd:dok d n=true):OpR P n ⟨d,.build t parts,ty,ps,af,g⟩ (st.enc m nx) (x.enc m st.blk):=by
 unfold buildS at h;split at h
 ·rename_i Z s b fl h1 h2
  cases hc:allOne (Z.cells.toList.map avOf) with
  | false=>rw [hc] at h;cases h
  | true =>
   rw [hc] at h;simp only [cond_true] at h;split at h
   ·rename_i out hf;injection h with h
    subst h;rw [SV.enc];have hf:=fillS_enc (m:=m) hf;rw [zeroS_enc,←evPartsS_enc (nx:=nx)] at hf;exact op_build (allP_at hT.inf h1) rfl hc (allP_at hT.fld h2) hf hd
   ·cases h
 ·cases h
theorem pickS_ok {c:Operand} (h:pickS (st.ev c) (st.ev y) (st.ev z)=some x) (hd:dok d n=true):OpR P n ⟨d,.pick c y z,ty,ps,af,g⟩ (st.enc m nx) (x.enc m st.blk):=by
 have ec:=enc_ev st m nx c;have ey:=enc_ev st m nx y;have ez:=enc_ev st m nx z;generalize st.ev c=w at h ec;generalize st.ev y=v at h ey;generalize st.ev z=u at h ez;unfold pickS at h;split at h
 ·injection h with h
  subst h;rw [SV.enc] at ec;exact op_pick ec (by rw [ey];rfl) hd
 ·injection h with h
  subst h;rw [SV.enc] at ec;exact op_pick ec (by rw [ez];rfl) hd
 ·rename_i c _ _;rw [SV.enc] at ec;split at h
  ·rename_i a b;injection h with h
   subst h;rw [SV.enc] at ey;rw [SV.enc] at ez;rw [SV.enc];refine op_pick ec ?_ hd;rw [ey,ez,iteB_den];generalize (c.den:Bool)=q
   cases q <;> rfl
  ·rename_i k a k' b;split at h
   ·rename_i hk;subst hk;injection h with h
    subst h;rw [SV.enc] at ey;rw [SV.enc] at ez;rw [SV.enc];refine op_pick ec ?_ hd;rw [ey,ez,E.den];generalize (c.den:Bool)=q
    cases q <;> rfl
   ·cases h
  ·cases h
 ·cases h
theorem rows_u8 {fr:Bool} (xs:List Int):xs.map ((Ty.int .u8).cells fr)=xs.map (eI .u8):=List.map_congr_left fun x _=>by rw [Ty.cells];rfl
theorem convS_ok (hT:T.ok P) (hm:MOk m nx st) (h:convS T st t t' (st.ev y)=some x) (hd:dok d n=true):OpR P n ⟨d,.convert t t' y,ty,ps,af,g⟩ (st.enc m nx) (x.enc m st.blk):=by
 have ey:=enc_ev st m nx y;generalize st.ev y=v at h ey;unfold convS at h;split at h
 ·rename_i k e s k' h1 h2;injection h with h
  subst h;rw [SV.enc] at ey;rw [SV.enc];exact op_conv ey (allP_at hT.und h1) (allP_at hT.und h2) rfl hd
 ·rename_i fr xs e h1 h2;split at h
  ·rename_i h3;injection h with h
   subst h;rw [SV.enc] at ey;rw [SV.enc]
   have hs:SrcA (st.enc m nx).heap 1 ((st.enc m nx).ev y) ((xs.den:List Int).map (eI .u8)):=by
    rw [ey,rows_u8]
    exact .ro _ _ (fun row hr=>by
     obtain ⟨x,_,rfl⟩:=List.mem_map.1 hr
     exact ⟨rfl,rfl⟩)
   exact op_bytesStr hs (allP_at hT.und h1) (allP_at hT.und h3) (allP_at hT.und h2) hd
  ·cases h
 ·rename_i id ver e h1 h2;split at h
  ·rename_i fr xs e' v h3 h4
   cases hv:Nat.beq ver v with
   | false=>rw [hv] at h;cases h
   | true =>
    rw [hv] at h;injection h with h
    subst h;rw [SV.enc,rowLen_eq h4 hv] at ey;rw [SV.enc];have hb:=enc_blk hm (k:=id) (by rw [h4];simp);rw [h4,SB.enc,rows_u8] at hb
    have hs:SrcA (st.enc m nx).heap 1 ((st.enc m nx).ev y) ((xs.den:List Int).map (eI .u8)):=by
     rw [ey];exact .osl _ _ _ _ hb (by rw [List.length_map])
    exact op_bytesStr hs (allP_at hT.und h1) (allP_at hT.und h3) (allP_at hT.und h2) hd
  ·cases h
 ·rename_i id ver lo hi e h1 h2;split at h
  ·rename_i fr xs e' v h3 h4
   cases hv:Nat.beq ver v with
   | false=>rw [hv] at h;cases h
   | true =>
    rw [hv] at h;injection h with h
    subst h;rw [SV.enc,rowLen_eq h4 hv] at ey;rw [SV.enc];have hb:=enc_blk hm (k:=id) (by rw [h4];simp);rw [h4,SB.enc,rows_u8] at hb
    have hs:SrcA (st.enc m nx).heap 1 ((st.enc m nx).ev y) ((((xs.den:List Int).take (hi.den:Int).toNat).drop (lo.den:Int).toNat).map (eI .u8)):=by
     rw [ey];refine .vsl _ _ _ _ _ _ _ hb (by rw [List.length_map]) ?_;rw [←List.map_drop,←List.map_take,List.drop_take]
    exact op_bytesStr hs (allP_at hT.und h1) (allP_at hT.und h3) (allP_at hT.und h2) hd
  ·cases h
 ·cases h
theorem map_some {α β:Type} {f:α→β} {o:Option α} {b:β} (h:o.map f=some b):∃ a,o=some a∧f a=b:=Option.map_eq_some_iff.1 h
theorem rd0_ok {o:Oper} (hT:T.ok P) (hm:MOk m nx st) (h:rd0 T st o.op=some (x,gd)) (hg:gd.den=true) (hd:dok o.dst n=true):OpR P n o (st.enc m nx) (x.enc m st.blk):=by
 obtain ⟨d,op,ty,ps,af,g⟩:=o;simp only at h;have hd:dok d n=true:=hd;unfold rd0 at h;split at h
 ·simp only [Option.some.injEq,Prod.mk.injEq] at h;obtain ⟨rfl,rfl⟩:=h;exact op_move (enc_ev st m nx _) hd
 ·simp only [Option.some.injEq,Prod.mk.injEq] at h;obtain ⟨rfl,rfl⟩:=h;exact op_assign (enc_ev st m nx _) hd
 ·obtain ⟨v,h1,h2⟩:=map_some h;simp only [Prod.mk.injEq] at h2;obtain ⟨rfl,rfl⟩:=h2;exact pickS_ok h1 hd
 ·exact binS_ok hT rfl rfl h hg hd
 ·rename_i t y;have ey:=enc_ev st m nx y;split at h
  ·rename_i b hb;simp only [Option.some.injEq,Prod.mk.injEq] at h;obtain ⟨rfl,rfl⟩:=h;rw [hb,SV.enc] at ey;rw [SV.enc,notE_den];exact op_not ey hd
  ·cases h
 ·rename_i t y;have ey:=enc_ev st m nx y;split at h
  ·rename_i k a hb;simp only [Option.some.injEq,Prod.mk.injEq] at h;obtain ⟨rfl,rfl⟩:=h;rw [hb,SV.enc] at ey;rw [SV.enc];exact op_neg ey rfl hd
  ·cases h
 ·obtain ⟨v,h1,h2⟩:=map_some h;simp only [Prod.mk.injEq] at h2;obtain ⟨rfl,rfl⟩:=h2;exact convS_ok hT hm h1 hd
 ·rename_i y i;have ey:=enc_ev st m nx y;split at h
  ·rename_i vs hb;obtain ⟨v,h1,h2⟩:=map_some h;simp only [Prod.mk.injEq] at h2;obtain ⟨rfl,rfl⟩:=h2;rw [hb,SV.enc] at ey;exact op_extract ey (encL_get h1) hd
  ·cases h
 ·obtain ⟨v,h1,h2⟩:=map_some h;simp only [Prod.mk.injEq] at h2;obtain ⟨rfl,rfl⟩:=h2;exact fldS_ok hT hm h1 hd
 ·rename_i y;have ey:=enc_ev st m nx y;split at h
  ·rename_i id o hb;split at h
   ·rename_i h1;simp only [Option.some.injEq,Prod.mk.injEq] at h;obtain ⟨rfl,rfl⟩:=h;have hi:isBox st.blk id=true:=by unfold isBox;rw [h1]
    rw [hb,SV.enc,hi] at ey;rw [SV.enc,hi];exact op_nilCheck_box ey hd
   ·cases h
  ·rename_i fr pt e o hb;simp only [Option.some.injEq,Prod.mk.injEq] at h;obtain ⟨rfl,rfl⟩:=h;rw [hb,SV.enc] at ey;rw [SV.enc];exact op_nilCheck_peek ey hd
  ·rename_i id ver k i o hb;split at h
   ·rename_i fr rt xs e v h1
    cases hv:Nat.beq ver v with
    | false=>rw [hv] at h;cases h
    | true =>
     rw [hv] at h;simp only [cond_true,Option.some.injEq,Prod.mk.injEq] at h;obtain ⟨rfl,rfl⟩:=h;rw [hb,SV.enc,rowLen_eq h1 hv] at ey;rw [SV.enc,rowLen_eq h1 hv];exact op_nilCheck_elt ey hd
   ·cases h
  ·cases h
 ·rename_i t y f;have ey:=enc_ev st m nx y;split at h
  ·rename_i cs fl hb hF;split at h
   ·rename_i off s b hf;obtain ⟨v,h1,h2⟩:=map_some h;simp only [Prod.mk.injEq] at h2;obtain ⟨rfl,rfl⟩:=h2;rw [hb,SV.enc] at ey;exact op_field ey (allP_at hT.fld hF) hf (partS_enc h1) hd
   ·cases h
  ·cases h
 ·obtain ⟨v,h1,h2⟩:=map_some h;simp only [Prod.mk.injEq] at h2;obtain ⟨rfl,rfl⟩:=h2;exact loadS_ok hT hm h1 hd
 ·obtain ⟨v,h1,h2⟩:=map_some h;simp only [Prod.mk.injEq] at h2;obtain ⟨rfl,rfl⟩:=h2;exact buildS_ok hT h1 hd
 ·simp only [Option.some.injEq,Prod.mk.injEq] at h;obtain ⟨rfl,rfl⟩:=h;rw [SV.enc,←evS_enc (nx:=nx)];exact op_mkfunc hd
 ·obtain ⟨v,h1,h2⟩:=map_some h;simp only [Prod.mk.injEq] at h2;obtain ⟨rfl,rfl⟩:=h2;exact lenS_ok hT h1 hd
 ·exact minS_ok (.inl ⟨rfl,rfl⟩) h hd
 ·exact minS_ok (.inr ⟨rfl,rfl⟩) h hd
 ·exact idxS_ok hT hm h hg hd
 ·exact elemS_ok hT h hg hd
 ·cases h
theorem zero_den {k:IntKind} {e:E D (.int k)} (h:e.zero?=true):(e.den:Int)=0:=by
 unfold E.zero? at h;split at h
 ·exact of_decide_eq_true h
 ·cases h
theorem leF_den {k k':IntKind} {a:E D (.int k)} {b:E D (.int k')} (h:(leF a b).den=true):(a.den:Int)≤(b.den:Int):=by
 unfold leF at h;split at h
 ·split at h <;> exact of_decide_eq_true h
 ·exact of_decide_eq_true h
theorem leF_dec {k k':IntKind} {a:E D (.int k)} {b:E D (.int k')}:(leF a b).den=decide ((a.den:Int)≤(b.den:Int)):=by
 unfold leF;split
 ·split <;> rfl
 ·rfl
theorem ltL_den {k:IntKind} {a:E D (.int k)} {L:Nat} (h:(ltL a L).den=true):(a.den:Int)<(L:Int):=by
 unfold ltL at h
 split at h <;> exact of_decide_eq_true h
theorem andE_b {a b:E D .bool} (h:(andE a b).den=true):a.den=true∧b.den=true:=by
 rw [andE_den] at h;exact Bool.and_eq_true _ _ ▸ h
theorem bndG_den {k k':IntKind} {l:E D (.int k)} {h:E D (.int k')} {n:E D (.int .i64)} {all:Bool} (hg:(bndG l h n all).den=true) (ha:all=true→(h.den:Int)≤(n.den:Int)):0≤(l.den:Int)∧(l.den:Int)≤(h.den:Int)∧(h.den:Int)≤(n.den:Int):=by
 unfold bndG at hg;obtain ⟨g1,g2⟩:=andE_b hg;obtain ⟨g2,g3⟩:=andE_b g2;refine ⟨leF_den g1,leF_den g2,?_⟩
 cases all with
 | true=>exact ha rfl
 | false=>exact leF_den g3
theorem bndE_ok {dflt:E D (.int .i64)} {lo:Option Operand} {k:IntKind} {e:E D (.int k)} (h:bndE dflt (lo.map st.ev)=some ⟨k,e⟩):BndA (st.enc m nx) (dflt.den:Int) lo (e.den:Int)∧(lo.isNone=true→(e.den:Int)=dflt.den):=by
 cases lo with
 | none =>
  simp only [Option.map_none,bndE,Option.some.injEq,Sigma.mk.injEq] at h;obtain ⟨rfl,h⟩:=h;have h:=eq_of_heq h;subst h;exact ⟨.no,fun _=>rfl⟩
 | some o =>
  rw [Option.map_some] at h;have eo:=enc_ev st m nx o;generalize st.ev o=v at h eo;unfold bndE at h;split at h
  ·rename_i e1;cases e1
  ·rename_i k' e' e1;injection e1 with e1
   subst e1;simp only [Option.some.injEq,Sigma.mk.injEq] at h;obtain ⟨rfl,h⟩:=h;have h:=eq_of_heq h;subst h;rw [SV.enc] at eo;exact ⟨.yes eo,fun h=>by cases h⟩
  ·cases h
theorem sliceS_ok {lo hi:Option Operand} (hT:T.ok P) (h:sliceS T t (st.ev y) (lo.map st.ev) (hi.map st.ev)=some (x,gd)) (hg:gd.den=true) (hd:dok d n=true):OpR P n ⟨d,.slice t y lo hi none,ty,ps,af,g⟩ (st.enc m nx) (x.enc m st.blk):=by
 have ey:=enc_ev st m nx y;generalize st.ev y=v at h ey;unfold sliceS at h;split at h
 ·rename_i e hu;split at h
  ·rename_i fr rt xs Z sz b hI;split at h
   ·rename_i k l k' hh h1 h2
    cases hc:Nat.beq sz rt.size with
    | false=>rw [hc] at h;cases h
    | true =>
     rw [hc] at h;simp only [cond_true,Option.some.injEq,Prod.mk.injEq] at h;obtain ⟨rfl,rfl⟩:=h;have hsz:=Nat.eq_of_beq_eq_true hc;subst hsz;obtain ⟨b1,_⟩:=bndE_ok (m:=m) (nx:=nx) h1;obtain ⟨b2,b3⟩:=bndE_ok (m:=m) (nx:=nx) h2
     have hn:(hi.map st.ev).isNone=hi.isNone:=by cases hi <;> rfl
     rw [hn] at hg;obtain ⟨g1,g2,g3⟩:=bndG_den hg (fun ha=>by rw [b3 ha];exact Int.le_refl _);rw [SV.enc] at ey;rw [SV.enc];have hl:((xs.den:List rt.den).map (rt.cells fr)).length=List.length xs.den:=List.length_map _;have key:=op_slice_ro (ty:=ty) (ps:=ps) (af:=af) (g:=g) ey b1 (by rw [hl];exact b2) (allP_at hT.und hu) (allP_at hT.inf hI) g1 g2 (by rw [hl];exact g3) hd;rw [←List.map_take,←List.map_drop] at key;exact key
   ·cases h
  ·cases h
 ·rename_i hu;split at h
  ·rename_i s;split at h
   ·rename_i k l k' hh h1 h2;simp only [Option.some.injEq,Prod.mk.injEq] at h;obtain ⟨rfl,rfl⟩:=h;obtain ⟨b1,_⟩:=bndE_ok (m:=m) (nx:=nx) h1;obtain ⟨b2,b3⟩:=bndE_ok (m:=m) (nx:=nx) h2
    have hn:(hi.map st.ev).isNone=hi.isNone:=by cases hi <;> rfl
    rw [hn] at hg;obtain ⟨g1,g2,g3⟩:=bndG_den hg (fun ha=>by rw [b3 ha];exact Int.le_refl _);rw [SV.enc] at ey;rw [SV.enc];have key:=op_slice_str (ty:=ty) (ps:=ps) (af:=af) (g:=g) ey b1 b2 (allP_at hT.und hu) g1 g2 g3 hd;rw [ext_list] at key;exact key
   ·cases h
  ·cases h
 ·cases h
theorem catS_ok {a b:SV D} (ha:st.ev y=a) (hb:st.ev z=b) (h:catS a b=some (x,gd)) (hg:gd.den=true) (hd:dok d n=true):OpR P n ⟨d,.binOp .add t y z t',ty,ps,af,g⟩ (st.enc m nx) (x.enc m st.blk):=by
 have ey:=enc_ev st m nx y;have ez:=enc_ev st m nx z;rw [ha] at ey;rw [hb] at ez;unfold catS at h;split at h
 ·rename_i s r;simp only [Option.some.injEq,Prod.mk.injEq] at h;obtain ⟨rfl,rfl⟩:=h;rw [SV.enc] at ey;rw [SV.enc] at ez;rw [SV.enc]
  have key:=op_cat (P:=P) (t:=t) (t':=t') (ty:=ty) (ps:=ps) (af:=af) (g:=g) ey ez (by
   have:=leF_den hg;have h1:((List.length s.den:Int)+(List.length r.den:Int))≤9223372036854775807:=this;show (((List.length s.den+List.length r.den:Nat)):Int)≤_
   omega) hd
  rw [cat_list] at key;exact key
 ·cases h
theorem inr_bd {rt:Ty} {k:IntKind} {i:E D (.int k)} {xs:E D (.list rt)} (h:(inr i xs).den=true):0≤(i.den:Int)∧(i.den:Int)<(List.length xs.den:Int):=inr_den h
theorem idxA_ok (hT:T.ok P) (hm:MOk m nx st) (h:idxA T st t (st.ev y) (st.ev z)=some (x,gd)) (hg:gd.den=true) (hd:dok d n=true):OpR P n ⟨d,.indexAddr t y z,ty,ps,af,g⟩ (st.enc m nx) (x.enc m st.blk):=by
 have ey:=enc_ev st m nx y;have ez:=enc_ev st m nx z;generalize st.ev y=v at h ey;generalize st.ev z=u at h ez;unfold idxA at h;split at h
 ·rename_i k j L e hu;split at h
  ·rename_i Z sz b id ver k2 i o hI;split at h
   ·rename_i fr rt xs e' v' hb
    cases hc:(Nat.beq ver v'&&i.zero?&&Nat.beq o 0&&Nat.beq sz rt.size) with
    | false=>rw [hc] at h;cases h
    | true =>
     rw [hc] at h;simp only [cond_true,Option.some.injEq,Prod.mk.injEq] at h;obtain ⟨rfl,rfl⟩:=h;simp only [Bool.and_eq_true] at hc;obtain ⟨⟨⟨c1,c2⟩,c3⟩,c4⟩:=hc;have h3:=Nat.eq_of_beq_eq_true c3;subst h3;have h4:=Nat.eq_of_beq_eq_true c4;subst h4;have hbb:=enc_blk hm (k:=id) (by rw [hb];simp);rw [hb,SB.enc] at hbb;rw [SV.enc,rowLen_eq hb c1,zero_den c2] at ey;rw [SV.enc,rowLen_eq hb c1];rw [SV.enc] at ez;obtain ⟨g1,g2⟩:=andE_b hg;obtain ⟨g3,g4⟩:=inr_bd g1;exact op_index_arr ey hbb (rows_len _).symm ez (allP_at hT.und hu) (allP_at hT.inf hI) g3 (ltL_den g2) g4 hd
   ·cases h
  ·rename_i Z sz b id o hI;split at h
   ·rename_i q
    cases hc:(decide (0≤q)&&decide (q<(L:Int))&&isBoxV st id) with
    | false=>rw [hc] at h;cases h
    | true =>
     rw [hc] at h;simp only [cond_true,Option.some.injEq,Prod.mk.injEq] at h;obtain ⟨rfl,rfl⟩:=h;simp only [Bool.and_eq_true,decide_eq_true_eq] at hc
     have hib:isBox st.blk id=true:=by
      have h2:=hc.2;unfold isBoxV at h2;unfold isBox
      cases hb:st.blk id with
      | box cs e=>rfl
      | dead=>rw [hb] at h2;cases h2
      | row=>rw [hb] at h2;cases h2
      | arn=>rw [hb] at h2;cases h2
     rw [SV.enc,hib] at ey;rw [SV.enc,hib];rw [SV.enc] at ez;exact op_index_box ey ez (allP_at hT.und hu) (allP_at hT.inf hI) hc.1.1 hc.1.2 hd
   ·cases h
  ·cases h
 ·cases h
theorem cellsN_enc (fr:Bool) (rt:Ty) (xs:E D (.list rt)) (H:Nat→SB D):∀ (n k:Nat),SV.encL m H (cellsN fr rt xs n k)=((List.range' k n).map fun i=>rt.cells fr ((xs.den:List rt.den).getD i rt.dflt)).flatten
 | 0,k=>by rw [cellsN,SV.encL];rfl
 | n+1,k=>by
  rw [cellsN,encL_map,List.map_append,←encL_map,←encL_map,cellsE_enc,cellsN_enc fr rt xs H n (k+1),List.range'_succ,List.map_cons,List.flatten_cons];rfl
theorem getD_range {α:Type} (d:α) (xs:List α):(List.range' 0 xs.length).map (fun i=>xs.getD i d)=xs:=by
 refine List.ext_getElem (by simp) fun i h1 h2=>?_
 simp [List.getD_eq_getElem?_getD,h2]
theorem loadA_ok (hT:T.ok P) (hm:MOk m nx st) (h:loadA T st t (st.ev y)=some (x,gd)) (hg:gd.den=true) (hd:dok d n=true):OpR P n ⟨d,.load t y,ty,ps,af,g⟩ (st.enc m nx) (x.enc m st.blk):=by
 have ey:=enc_ev st m nx y;generalize st.ev y=v at h ey;unfold loadA at h;split at h
 ·rename_i L e hu;split at h
  ·rename_i Z sz b id ver k2 i o hI;split at h
   ·rename_i fr rt xs e' v' hb
    cases hc:(Nat.beq ver v'&&i.zero?&&Nat.beq o 0&&Nat.beq sz (L*rt.size)&&Nat.blt 0 L) with
    | false=>rw [hc] at h;cases h
    | true =>
     rw [hc] at h;simp only [cond_true,Option.some.injEq,Prod.mk.injEq] at h;obtain ⟨rfl,rfl⟩:=h;simp only [Bool.and_eq_true] at hc;obtain ⟨⟨⟨⟨c1,c2⟩,c3⟩,c4⟩,c5⟩:=hc;have h3:=Nat.eq_of_beq_eq_true c3;subst h3;have h5:0<L:=by simpa using c5
     have hl:(List.length xs.den:Int)=(L:Int):=of_decide_eq_true hg;have hbb:=enc_blk hm (k:=id) (by rw [hb];simp);rw [hb,SB.enc] at hbb;rw [SV.enc,rowLen_eq hb c1,zero_den c2] at ey;rw [SV.enc,cellsN_enc];have hL:L=List.length xs.den:=by omega
     subst hL
     have e1:((List.range' 0 (List.length xs.den)).map fun i=>rt.cells fr ((xs.den:List rt.den).getD i rt.dflt))=(xs.den:List rt.den).map (rt.cells fr):=by
      have e2:=congrArg (List.map (rt.cells fr)) (getD_range rt.dflt (xs.den:List rt.den));rw [List.map_map] at e2;exact e2
     rw [e1];exact op_load_arr ey hbb (rows_len _).symm h5 (allP_at hT.und hu) rfl (allP_at hT.inf hI) (Nat.eq_of_beq_eq_true c4) hd
   ·cases h
  ·cases h
 ·cases h
theorem buildA_ok {parts:Array (Nat×Operand)} (hT:T.ok P) (h:buildA T st t parts.toList=some x) (hd:dok d n=true):OpR P n ⟨d,.build t parts,ty,ps,af,g⟩ (st.enc m nx) (x.enc m st.blk):=by
 unfold buildA at h;split at h
 ·rename_i L e hu;split at h
  ·rename_i Z s b Z' s' b' h1 h2
   cases hc:allOne (Z.cells.toList.map avOf) with
   | false=>rw [hc] at h;cases h
   | true =>
    rw [hc] at h;simp only [cond_true] at h;split at h
    ·rename_i out hf;injection h with h
     subst h;rw [SV.enc];have hf:=fillS_enc (m:=m) hf;rw [zeroS_enc,←evPartsS_enc (nx:=nx)] at hf;exact op_build_arr (allP_at hT.und hu) (allP_at hT.inf h1) (allP_at hT.inf h2) rfl hc hf hd
    ·cases h
  ·cases h
 ·cases h
theorem colE_enc {H:Nat→SB D} {k:IntKind} {s:Nat}:∀ {L:Nat} {cs:List (SV D)} {es:List (E D (.int k))},colE k s L cs=some es→∀ r,r<L→(SV.encL m H cs)[r*s]?=some (AV.int k (List.getD (densI es) r 0))
 | 0,_,_,_,r,hr=>absurd hr (Nat.not_lt_zero _)
 | L+1,[],es,h,r,hr=>by simp [colE] at h
 | L+1,c::tl,es,h,r,hr=>by
  cases c with
  | int k' e =>
   rw [colE] at h;split at h
   ·rename_i hk;subst hk;split at h
    ·rename_i q hq;injection h with h
     subst h
     cases r with
     | zero=>rw [Nat.zero_mul,SV.encL,SV.enc];rfl
     | succ r =>
      have:=colE_enc (H:=H) hq r (by omega);rw [encL_map,List.map_drop,List.getElem?_drop,←encL_map] at this;rw [Nat.add_mul,Nat.one_mul,Nat.add_comm,this];rfl
    ·cases h
   ·cases h
  | _=>simp [colE] at h
theorem colsE_enc {H:Nat→SB D} {ki:IntKind} {i:E D (.int ki)} {s L:Nat} (h0:(0:Int)≤i.den) (h1:i.den<(L:Int)):∀ {q:Nat} {cs out:List (SV D)},colsE i s L q cs=some out→out.length=q∧∀ j,j<q→(SV.encL m H out)[j]?=(SV.encL m H cs)[(Int.toNat i.den)*s+j]?
 | 0,_,_,h=>by
  rw [colsE] at h;injection h with h
  subst h;exact ⟨rfl,fun j hj=>absurd hj (Nat.not_lt_zero _)⟩
 | q+1,cs,out,h=>by
  rw [colsE] at h;split at h
  ·rename_i k hk;split at h
   ·rename_i es hes;split at h
    ·rename_i r hr;injection h with h
     subst h;obtain ⟨g1,g2⟩:=colsE_enc (H:=H) h0 h1 hr;refine ⟨by rw [List.length_cons,g1],fun j hj=>?_⟩
     cases j with
     | zero =>
      rw [Nat.add_zero,colE_enc hes _ ((Int.toNat_lt h0).2 h1),SV.encL,SV.enc];show some (AV.int k (List.getD (intsL es).den _ _))=_;rw [intsL_den];rfl
     | succ j =>
      have:=g2 j (by omega);rw [encL_map _ _ (cs.drop 1),List.map_drop,List.getElem?_drop,←encL_map] at this;rw [SV.encL,List.getElem?_cons_succ,this];congr 1;omega
    ·cases h
   ·cases h
  ·cases h
theorem elemA_ok (hT:T.ok P) (h:elemA T t (st.ev y) (st.ev z)=some (x,gd)) (hg:gd.den=true) (hd:dok d n=true):OpR P n ⟨d,.index t y z,ty,ps,af,g⟩ (st.enc m nx) (x.enc m st.blk):=by
 have ey:=enc_ev st m nx y;have ez:=enc_ev st m nx z;generalize st.ev y=v at h ey;generalize st.ev z=u at h ez;unfold elemA at h;split at h
 ·rename_i k i L e hu;split at h
  ·rename_i cs Dd Z s b h2 h3;rw [SV.enc] at ey;rw [SV.enc] at ez
   cases hc:(aggB Dd&&Nat.beq cs.length (L*s)) with
   | false=>rw [hc] at h;cases h
   | true =>
    rw [hc] at h;simp only [cond_true] at h;rw [Bool.and_eq_true] at hc;obtain ⟨ha,hL⟩:=hc;have hL:=Nat.eq_of_beq_eq_true hL;split at h
    ·rename_i out hout;simp only [Option.some.injEq,Prod.mk.injEq] at h;obtain ⟨rfl,rfl⟩:=h;obtain ⟨h0,h1⟩:=andB hg;have h0:(0:Int)≤i.den:=of_decide_eq_true h0;have h1:i.den<(L:Int):=of_decide_eq_true h1;obtain ⟨g1,g2⟩:=colsE_enc (m:=m) (H:=st.blk) h0 h1 hout;refine op_index_agg ey ez (allP_at hT.und hu) (allP_at hT.und h2) (allP_at hT.inf h3) h0 h1 ?_ hd;have hlt:(Int.toNat i.den)<L:=(Int.toNat_lt h0).2 h1;have hle:(Int.toNat i.den+1)*s≤L*s:=Nat.mul_le_mul_right _ hlt;rw [Nat.add_mul,Nat.one_mul] at hle;rw [partA,ha,if_pos rfl,if_pos (by rw [encL_length,hL];exact hle),SV.enc];congr 2;refine List.ext_getElem? fun j=>?_
     rw [List.getElem?_take];by_cases hj:j<s
     ·rw [if_pos hj,List.getElem?_drop,g2 j hj]
     ·rw [if_neg hj,List.getElem?_eq_none (by rw [encL_length,g1];omega)]
    ·cases h
  ·cases h
 ·cases h
theorem orN_some {a b:RS D} {r:SV D×E D .bool} (h:orN a b=some r):a=some r∨b=some r:=by
 unfold orN at h;split at h
 ·exact .inl h
 ·exact .inr h
theorem asI_den {k:IntKind} {e:E D (.int k)} {e':E D (.int .i64)} (h:asI e=some e'):(e'.den:Int)=e.den∧k=.i64:=by
 unfold asI at h;split at h
 ·rename_i hk;subst hk;injection h with h
  subst h;exact ⟨rfl,rfl⟩
 ·cases h
theorem bndI_ok {dflt:E D (.int .i64)} {lo:Option Operand} {e:E D (.int .i64)} (h:bndI dflt (lo.map st.ev)=some e):BndA (st.enc m nx) (dflt.den:Int) lo (e.den:Int)∧(lo.isNone=true→(e.den:Int)=dflt.den):=by
 unfold bndI at h;split at h
 ·rename_i k e0 h0;obtain ⟨h1,h2⟩:=bndE_ok (m:=m) (nx:=nx) h0;obtain ⟨h3,_⟩:=asI_den h;rw [h3];exact ⟨h1,h2⟩
 ·cases h
theorem vwA {p q l h:Int} (g0:0≤p) (g1:0≤l) (g2:l≤h) (g3:h≤q-p):((q.toNat-p.toNat:Nat):Int)=q-p∧(p+l).toNat=p.toNat+l.toNat∧(p+h).toNat-(p+l).toNat=h.toNat-l.toNat:=by omega
theorem vwB {p q i:Int} (g0:0≤p) (g1:0≤i) (g2:p+i<q):i<((q.toNat-p.toNat:Nat):Int)∧(p+i).toNat=p.toNat+i.toNat:=by omega
theorem vwC {p q:Int} (g0:0≤p) (g1:p≤q):((q.toNat-p.toNat:Nat):Int)=q-p:=by omega
theorem vwE {n L:Nat} (e:(n:Int)=(L:Int)):L=n:=by omega
theorem sliceV_ok {lo hi:Option Operand} (hT:T.ok P) (hm:MOk m nx st) (h:sliceV T st t (st.ev y) (lo.map st.ev) (hi.map st.ev)=some (x,gd)) (hg:gd.den=true) (hd:dok d n=true):OpR P n ⟨d,.slice t y lo hi none,ty,ps,af,g⟩ (st.enc m nx) (x.enc m st.blk):=by
 have ey:=enc_ev st m nx y
 have hn:(hi.map st.ev).isNone=hi.isNone:=by cases hi <;> rfl
 generalize st.ev y=v at h ey;unfold sliceV at h;split at h
 ·rename_i e hu;split at h
  ·rename_i id ver Z sz b hI;split at h
   ·rename_i fr rt xs e' v hb;split at h
    ·rename_i l hh h1 h2
     cases hc:(Nat.beq ver v&&Nat.beq sz rt.size) with
     | false=>rw [hc] at h;cases h
     | true =>
      rw [hc] at h;simp only [cond_true,Option.some.injEq,Prod.mk.injEq] at h;obtain ⟨rfl,rfl⟩:=h;rw [Bool.and_eq_true] at hc;have hsz:=Nat.eq_of_beq_eq_true hc.2;subst hsz;obtain ⟨b1,_⟩:=bndI_ok (m:=m) (nx:=nx) h1;obtain ⟨b2,b3⟩:=bndI_ok (m:=m) (nx:=nx) h2;rw [hn] at hg;obtain ⟨g1,g2,g3⟩:=bndG_den hg (fun ha=>by rw [b3 ha];exact Int.le_refl _);rw [SV.enc,rowLen_eq hb hc.1] at ey;rw [SV.enc,rowLen_eq hb hc.1];have hbb:=enc_blk hm (k:=id) (by rw [hb];simp);rw [hb,SB.enc] at hbb;exact op_slice_osl ey hbb (rows_len _).symm b1 b2 (allP_at hT.und hu) (allP_at hT.inf hI) g1 g2 g3 hd
    ·cases h
   ·cases h
  ·rename_i id ver p q Z sz b hI;split at h
   ·rename_i fr rt xs e' v hb;split at h
    ·rename_i l hh h1 h2
     cases hc:(Nat.beq ver v&&Nat.beq sz rt.size) with
     | false=>rw [hc] at h;cases h
     | true =>
      rw [hc] at h;simp only [cond_true,Option.some.injEq,Prod.mk.injEq] at h;obtain ⟨rfl,rfl⟩:=h;rw [Bool.and_eq_true] at hc;have hsz:=Nat.eq_of_beq_eq_true hc.2;subst hsz;obtain ⟨b1,_⟩:=bndI_ok (m:=m) (nx:=nx) h1;obtain ⟨b2,b3⟩:=bndI_ok (m:=m) (nx:=nx) h2;rw [hn,andE_den] at hg;obtain ⟨g0,hg⟩:=andB hg;have g0:=leF_den g0;have g0:(0:Int)≤p.den:=g0;obtain ⟨g1,g2,g3⟩:=bndG_den hg (fun ha=>by rw [b3 ha];exact Int.le_refl _);obtain ⟨el,e1,e2⟩:=vwA (p:=p.den) (q:=q.den) (l:=l.den) (h:=hh.den) g0 g1 g2 g3;rw [SV.enc,rowLen_eq hb hc.1] at ey;rw [SV.enc,rowLen_eq hb hc.1];have hbb:=enc_blk hm (k:=id) (by rw [hb];simp);rw [hb,SB.enc] at hbb;have b2:BndA (st.enc m nx) (((q.den:Int).toNat-(p.den:Int).toNat:Nat):Int) hi (hh.den:Int):=by rw [el];exact b2
      have key:=op_slice_vsl (ty:=ty) (ps:=ps) (af:=af) (g:=g) ey hbb (rows_len _).symm b1 b2 (allP_at hT.und hu) (allP_at hT.inf hI) g1 g2 (by rw [el];exact g3) hd;rw [←e1,←e2] at key;exact key
    ·cases h
   ·cases h
  ·cases h
 ·rename_i L e hu;split at h
  ·rename_i id ver ki i o Z sz b hI;split at h
   ·rename_i fr rt xs e' v hb;split at h
    ·rename_i l hh h1 h2
     cases hc:(Nat.beq ver v&&i.zero?&&Nat.beq o 0&&Nat.beq sz rt.size&&Nat.blt 0 L) with
     | false=>rw [hc] at h;cases h
     | true =>
      rw [hc] at h;simp only [cond_true,Option.some.injEq,Prod.mk.injEq] at h;obtain ⟨rfl,rfl⟩:=h;simp only [Bool.and_eq_true] at hc;obtain ⟨⟨⟨⟨c1,c2⟩,c3⟩,c4⟩,c5⟩:=hc;have hsz:=Nat.eq_of_beq_eq_true c4;subst hsz;have c3:=Nat.eq_of_beq_eq_true c3;subst c3;have c5:0<L:=Nat.le_of_ble_eq_true c5;obtain ⟨b1,_⟩:=bndI_ok (m:=m) (nx:=nx) h1;obtain ⟨b2,b3⟩:=bndI_ok (m:=m) (nx:=nx) h2;rw [hn,andE_den] at hg;obtain ⟨g0,hg⟩:=andB hg;have g0:(List.length xs.den:Int)=(L:Int):=of_decide_eq_true g0;have g0:=vwE g0;obtain ⟨g1,g2,g3⟩:=bndG_den (n:=.len xs) hg (fun ha=>by rw [b3 ha];exact Int.le_refl _);have b2:BndA (st.enc m nx) (L:Int) hi (hh.den:Int):=by rw [g0];exact b2
      have g3:(hh.den:Int)≤(L:Int):=by rw [g0];exact g3
      rw [SV.enc,rowLen_eq hb c1] at ey;rw [SV.enc,rowLen_eq hb c1];have hbb:=enc_blk hm (k:=id) (by rw [hb];simp);rw [hb,SB.enc] at hbb;rw [zero_den c2,←g0] at ey;rw [←g0];exact op_slice_arr ey hbb (by rw [rows_len];exact g0) b1 b2 (allP_at hT.und hu) (allP_at hT.inf hI) g1 g2 g3 c5 hd
    ·cases h
   ·cases h
  ·rename_i fr rt ex o Z sz b hI
   cases hc:(Nat.beq o 0&&Nat.beq sz 1&&Nat.beq rt.size L&&Nat.blt 0 L&&Nat.ble L 1000&&(lo.map st.ev).isNone&&(hi.map st.ev).isNone) with
   | false=>rw [hc] at h;cases h
   | true =>
    rw [hc] at h;simp only [cond_true] at h;simp only [Bool.and_eq_true] at hc;obtain ⟨⟨⟨⟨⟨⟨c1,c2⟩,c3⟩,c4⟩,c5⟩,c6⟩,c7⟩:=hc;have c1:=Nat.eq_of_beq_eq_true c1;have c2:=Nat.eq_of_beq_eq_true c2;have c3:=Nat.eq_of_beq_eq_true c3;have c4:0<L:=Nat.le_of_ble_eq_true c4;have c5:L≤1000:=Nat.le_of_ble_eq_true c5
    have c6:lo=none:=by cases lo with
     | none=>rfl
     | some _=>cases c6
    have c7:hi=none:=by cases hi with
     | none=>rfl
     | some _=>cases c7
    subst c1;subst c6;subst c7
    split at h
    ·rename_i k hk;split at h
     ·rename_i es hes;simp only [Option.some.injEq,Prod.mk.injEq] at h;obtain ⟨rfl,rfl⟩:=h;rw [SV.enc] at ey;rw [SV.enc];have e1:=intsOf_eq (intsS_enc (m:=m) (H:=st.blk) hes);rw [cellsE_enc] at e1
      have e2:(List.map ((Ty.int k).cells false) (intsL es).den:List (List AV))=(Ty.cells fr rt ex.den).map fun a=>[a]:=by
       rw [e1,intsL_den,List.map_map];rfl
      have e3:L=(Ty.cells fr rt ex.den).length:=by rw [←c3];exact (Ty.cells_length fr rt ex.den).symm
      have key:=op_slice_peek (P:=P) (n:=n) (d:=d) (ty:=ty) (ps:=ps) (af:=af) (g:=g) ey e3 (allP_at hT.und hu) (allP_at hT.inf hI) c2 c4 (by unfold maxLen;omega) hd;rw [←e2] at key;exact key
     ·cases h
    ·cases h
  ·cases h
 ·cases h
theorem idxV_ok (hT:T.ok P) (hm:MOk m nx st) (h:idxV T st t (st.ev y) (st.ev z)=some (x,gd)) (hg:gd.den=true) (hd:dok d n=true):OpR P n ⟨d,.indexAddr t y z,ty,ps,af,g⟩ (st.enc m nx) (x.enc m st.blk):=by
 have ey:=enc_ev st m nx y;have ez:=enc_ev st m nx z;generalize st.ev y=v at h ey;generalize st.ev z=u at h ez;unfold idxV at h;split at h
 ·rename_i k i e hu;split at h
  ·rename_i Z sz b id ver lo hi hI;split at h
   ·rename_i fr rt xs e' v hb;split at h
    ·rename_i i' hi'
     cases hc:(Nat.beq ver v&&Nat.beq sz rt.size) with
     | false=>rw [hc] at h;cases h
     | true =>
      rw [hc] at h;simp only [cond_true,Option.some.injEq,Prod.mk.injEq] at h;obtain ⟨rfl,rfl⟩:=h;rw [Bool.and_eq_true] at hc;have hsz:=Nat.eq_of_beq_eq_true hc.2;obtain ⟨e1,hk⟩:=asI_den hi';rw [andE_den] at hg;obtain ⟨g0,hg⟩:=andB hg;rw [andE_den] at hg;obtain ⟨g1,g2⟩:=andB hg;have g0:(0:Int)≤lo.den:=leF_den g0;have g1:(0:Int)≤i'.den:=leF_den g1;have g2:(lo.den:Int)+(i'.den:Int)<(hi.den:Int):=of_decide_eq_true g2;obtain ⟨w1,w2⟩:=vwB (p:=lo.den) (q:=hi.den) (i:=i'.den) g0 g1 g2;rw [SV.enc,rowLen_eq hb hc.1] at ey;rw [SV.enc,rowLen_eq hb hc.1];rw [SV.enc] at ez;rw [←e1] at ez;have hbb:=enc_blk hm (k:=id) (by rw [hb];simp);rw [hb,SB.enc] at hbb;have key:=op_index_vsl (ty:=ty) (ps:=ps) (af:=af) (g:=g) ey hbb (rows_len _).symm ez (allP_at hT.und hu) (allP_at hT.inf hI) hsz g1 w1 hd;rw [←w2] at key;exact key
    ·cases h
   ·cases h
  ·cases h
 ·cases h
theorem lenV_ok (hT:T.ok P) (h:lenV T st t (st.ev y)=some (x,gd)) (hg:gd.den=true) (hd:dok d n=true):OpR P n ⟨d,.call ⟨.builtin .len,⟨[y]⟩,⟨[t]⟩⟩,ty,ps,af,g⟩ (st.enc m nx) (x.enc m st.blk):=by
 have ey:=enc_ev st m nx y;generalize st.ev y=v at h ey;unfold lenV at h;split at h
 ·rename_i e hu;split at h
  ·rename_i id ver lo hi;split at h
   ·rename_i fr rt xs e' v h1
    cases hv:Nat.beq ver v with
    | false=>rw [hv] at h;cases h
    | true =>
     rw [hv] at h;simp only [cond_true,Option.some.injEq,Prod.mk.injEq] at h;obtain ⟨rfl,rfl⟩:=h;rw [andE_den] at hg;obtain ⟨g0,g1⟩:=andB hg;have g0:(0:Int)≤lo.den:=leF_den g0;have g1:(lo.den:Int)≤hi.den:=leF_den g1;rw [SV.enc,rowLen_eq h1 hv] at ey;rw [SV.enc];have key:=op_len (ty:=ty) (ps:=ps) (af:=af) (g:=g) (m:=(hi.den:Int).toNat-(lo.den:Int).toNat) (by rw [ey,AV.lenA]) (allP_at hT.und hu) hd;rw [vwC (p:=lo.den) (q:=hi.den) g0 g1] at key;exact key
   ·cases h
  ·cases h
 ·cases h
theorem op_compl {s:ASt} {k:IntKind} {m:Int} (hx:s.ev y=.int k m) (hd:dok d n=true):OpR P n ⟨d,.unOp .xor t y,ty,ps,af,g⟩ s (.int k (bits .xor k (if k.signed then -1 else k.max) m)) :=
 .mk hd fun K a w G rr=>by
  have e1:=rr.ev y;rw [hx] at e1;have e1:=e1.int';exact ⟨_,fun w' _=>by simp [execOp,e1,Op.unary,intBits_xor],rI _ _ _ _⟩
theorem complS_ok (h:complS (st.ev y)=some (x,gd)) (hd:dok d n=true):OpR P n ⟨d,.unOp .xor t y,ty,ps,af,g⟩ (st.enc m nx) (x.enc m st.blk):=by
 have ey:=enc_ev st m nx y;generalize st.ev y=v at h ey
 cases v <;> simp only [complS,reduceCtorEq] at h
 rename_i k a;simp only [Option.some.injEq,Prod.mk.injEq] at h;obtain ⟨rfl,rfl⟩:=h;rw [SV.enc] at ey;rw [SV.enc];exact op_compl ey hd
theorem arnOf_blk {t:Ty} {xs:E D (.list (.list t))} (h:arnOf st=some ⟨t,xs⟩):∃ e,st.blk 0=.arn t xs e:=by
 unfold arnOf at h;split at h
 ·rename_i t' xs' e hb;injection h with h
  injection h with h1 h2
  subst h1;have h2:=eq_of_heq h2;subst h2;exact ⟨e,hb⟩
 ·cases h
theorem arn_at (hm:MOk m nx st) {t:Ty} {xs:E D (.list (.list t))} {e0:TypeId} (hb:st.blk 0=.arn t xs e0) {e:E D .aix} (hg:(arnG xs e).den=true) :
  aixAV e.den=.osl (e.den:Int×Int).1.toNat (List.length ((E.at xs e.aixK').den:List t.den))∧look .dead (st.enc m nx).heap (e.den:Int×Int).1.toNat=.row t.size (((E.at xs e.aixK').den:List t.den).map (t.cells false)) e0 ∧
   (e.den:Int×Int).2.toNat=List.length ((E.at xs e.aixK').den:List t.den)∧(∀ j,aeltAV e.den j=.elt (e.den:Int×Int).1.toNat (List.length ((E.at xs e.aixK').den:List t.den)) j 0)∧(e.den:Int×Int).1.toNat<m 0:=by
 unfold arnG at hg;obtain ⟨g1,g2⟩:=andE_b hg;obtain ⟨g2,g3⟩:=andE_b g2;have h0:(0:Int)≤(e.den:Int×Int).1:=by rw [←aixK'_den];exact leF_den g1
 have h1:(e.den:Int×Int).1<(bigA:Int):=by rw [←aixK'_den];exact ltL_den g2
 have g3:(e.den:Int×Int).2=(List.length ((E.at xs e.aixK').den:List t.den):Int):=(aixN'_den e).symm.trans (of_decide_eq_true g3)
 have hk:((E.at xs e.aixK').den:List t.den)=(xs.den:List (List t.den)).getD (e.den:Int×Int).1.toNat []:=by
  show (xs.den:List (List t.den)).getD (e.aixK'.den:Int).toNat []=_;rw [aixK'_den]
 have hA:(st.blk 0).isA=true:=by rw [hb];rfl
 have hbig:=(hm.ar hA).1
 have hlt:(e.den:Int×Int).1.toNat<m 0:=by
  generalize (e.den:Int×Int).1=k at h0 h1;omega
 have hn:(e.den:Int×Int).2.toNat=List.length ((E.at xs e.aixK').den:List t.den):=by rw [g3,Int.toNat_natCast]
 refine ⟨?_,?_,hn,fun j=>?_,hlt⟩
 rotate_left 2
 ·unfold aeltAV;rw [decide_eq_true h0,decide_eq_true h1,hn];rfl
 ·unfold aixAV;rw [decide_eq_true h0,decide_eq_true h1,hn];rfl
 ·rw [enc_look hm,hb];show (bif Nat.blt _ (m 0) then _ else _)=_;rw [show Nat.blt (e.den:Int×Int).1.toNat (m 0)=true by rw [Nat.blt_eq];exact hlt,cond_true,rows_look];show (if _<m 0 then arnRow t e0 xs.den _ else AB.dead)=_;rw [if_pos hlt,hk];rfl
theorem arn_nil {e:E D .aix} (h:¬ (0:Int)≤(e.den:Int×Int).1):aixAV e.den=.nils:=by
 unfold aixAV;rw [decide_eq_false h];rfl
theorem arnN_den {t:Ty} {xs:E D (.list (.list t))} {e:E D .aix} (h:(arnN xs e).den=true):((leF (.iL .i64 0) e.aixK').den=true∧(arnG xs e).den=true)∨((leF (.iL .i64 0) e.aixK').den=false∧¬ (0:Int)≤(e.den:Int×Int).1):=by
 have h:(bif (leF (.iL .i64 0) e.aixK').den then (andE (ltL e.aixK' bigA) (.ic .eq e.aixN' (.len (.at xs e.aixK')))).den else true)=true:=h
 cases hc:(leF (.iL .i64 0:E D (.int .i64)) e.aixK').den with
 | true =>
  rw [hc] at h;exact .inl ⟨rfl,by unfold arnG;rw [andE_den,hc];exact h⟩
 | false =>
  refine .inr ⟨rfl,fun h0=>?_⟩
  have:(leF (.iL .i64 0:E D (.int .i64)) e.aixK').den=true:=by
   rw [←aixK'_den] at h0;rw [leF_dec];exact decide_eq_true h0
  rw [hc] at this;cases this
theorem arn_look (hm:MOk m nx st) {t:Ty} {xs:E D (.list (.list t))} {e0:TypeId} (hb:st.blk 0=.arn t xs e0) {k:Nat} (hk:k<m 0):look .dead (st.enc m nx).heap k=arnRow t e0 xs.den k:=by
 have hA:(st.blk 0).isA=true:=by rw [hb];rfl
 have hbig:=(hm.ar hA).1;rw [enc_look hm,hb];show (bif Nat.blt _ (m 0) then _ else _)=_;rw [show Nat.blt k (m 0)=true by rw [Nat.blt_eq];exact hk,cond_true,rows_look];show (if _<m 0 then arnRow t e0 xs.den _ else AB.dead)=_;rw [if_pos hk]
theorem lenA_ok (hT:T.ok P) (hm:MOk m nx st) (h:lenA T st t (st.ev y)=some (x,gd)) (hg:gd.den=true) (hd:dok d n=true):OpR P n ⟨d,.call ⟨.builtin .len,⟨[y]⟩,⟨[t]⟩⟩,ty,ps,af,g⟩ (st.enc m nx) (x.enc m st.blk):=by
 have ey:=enc_ev st m nx y;generalize st.ev y=v at h ey;unfold lenA at h;split at h
 ·rename_i el e hu;split at h
  ·rename_i rt xs ha;obtain ⟨e0,hb⟩:=arnOf_blk ha;simp only [Option.some.injEq,Prod.mk.injEq] at h;obtain ⟨rfl,rfl⟩:=h;obtain ⟨a1,a2,a3,a4⟩:=arn_at hm hb hg;rw [SV.enc,a1] at ey;rw [SV.enc];exact op_len (m:=List.length ((E.at xs e.aixK').den:List rt.den)) (by rw [ey,AV.lenA]) (allP_at hT.und hu) hd
  ·cases h
 ·cases h
theorem idxArn_ok (hT:T.ok P) (hm:MOk m nx st) (h:idxArn T st t (st.ev y) (st.ev z)=some (x,gd)) (hg:gd.den=true) (hd:dok d n=true):OpR P n ⟨d,.indexAddr t y z,ty,ps,af,g⟩ (st.enc m nx) (x.enc m st.blk):=by
 have ey:=enc_ev st m nx y;have ez:=enc_ev st m nx z;generalize st.ev y=v at h ey;generalize st.ev z=u at h ez;unfold idxArn at h;split at h
 ·rename_i k i el hu;rw [SV.enc] at ez;split at h
  ·rename_i Z sz b e hI;split at h
   ·rename_i rt xs ha;obtain ⟨e0,hb⟩:=arnOf_blk ha
    cases hc:Nat.beq sz rt.size with
    | false=>rw [hc] at h;cases h
    | true =>
     rw [hc] at h;simp only [cond_true,Option.some.injEq,Prod.mk.injEq] at h;obtain ⟨rfl,rfl⟩:=h;obtain ⟨g1,g2⟩:=andE_b hg;obtain ⟨a1,a2,a3,a4,a5⟩:=arn_at hm hb g1;obtain ⟨g3,g4⟩:=inr_den g2;rw [SV.enc,a1] at ey;rw [SV.enc,a4];exact op_index_osl ey a2 (rows_len _).symm ez (allP_at hT.und hu) (allP_at hT.inf hI) (Nat.eq_of_beq_eq_true hc) g3 g4 hd
   ·cases h
  ·cases h
 ·cases h
theorem loadArn_ok (hT:T.ok P) (hm:MOk m nx st) (h:loadArn T st t (st.ev y)=some (x,gd)) (hg:gd.den=true) (hd:dok d n=true):OpR P n ⟨d,.load t y,ty,ps,af,g⟩ (st.enc m nx) (x.enc m st.blk):=by
 have ey:=enc_ev st m nx y;generalize st.ev y=v at h ey;unfold loadArn at h;split at h
 ·rename_i e k i D Z s b h2 h3;split at h
  ·rename_i rt xs ha;obtain ⟨e0,hb⟩:=arnOf_blk ha;split at h
   ·rename_i v hv;simp only [Option.some.injEq,Prod.mk.injEq] at h;obtain ⟨rfl,rfl⟩:=h;obtain ⟨a1,a2,a3,a4,a5⟩:=arn_at hm hb hg;rw [SV.enc,a4] at ey;refine op_load_elt' ey a2 (rows_len _).symm (allP_at hT.und h2) (allP_at hT.inf h3) (fun row hr=>?_) hd;have hp:=partS_enc (m:=m) (H:=st.blk) hv;rw [cellsE_enc] at hp;rw [at_row hr];exact hp
   ·cases h
  ·cases h
 ·cases h
theorem rd_ok {o:Oper} (hT:T.ok P) (hm:MOk m nx st) (h:rd T st o.op=some (x,gd)) (hg:gd.den=true) (hd:dok o.dst n=true):OpR P n o (st.enc m nx) (x.enc m st.blk):=by
 unfold rd at h;split at h
 ·rename_i r h0;injection h with h
  subst h;exact rd0_ok hT hm h0 hg hd
 ·obtain ⟨d,op,ty,ps,af,g⟩:=o;have hd:dok d n=true:=hd;simp only at h;rcases orN_some h with h | h
  rotate_left
  ·unfold rdA at h;split at h
   ·exact lenA_ok hT hm h hg hd
   ·exact idxArn_ok hT hm h hg hd
   ·exact loadArn_ok hT hm h hg hd
   ·cases h
  unfold rdN at h;split at h
  ·rcases orN_some h with h | h
   ·exact sliceS_ok hT h hg hd
   ·exact sliceV_ok hT hm h hg hd
  ·exact lenV_ok hT h hg hd
  ·exact catS_ok rfl rfl h hg hd
  ·rcases orN_some h with h | h
   ·exact idxA_ok hT hm h hg hd
   ·exact idxV_ok hT hm h hg hd
  ·exact loadA_ok hT hm h hg hd
  ·obtain ⟨v,h1,h2⟩:=Option.map_eq_some_iff.1 h;simp only [Prod.mk.injEq] at h2;obtain ⟨rfl,rfl⟩:=h2;exact buildA_ok hT h1 hd
  ·exact elemA_ok hT h hg hd
  ·exact complS_ok h hd
  ·cases h
end
end Go.Proofs.Ytljebnobajmjnaa
/- Decompiling: the operations that make or write memory,over terms. No program in sight. -/
namespace Go.Proofs.Ytljebnobajmjnaa
open Go Go.RowKit

section
variable {V:Ty→Type}
mutual
def SV.refs (pB:Nat→Bool) (pR:Nat→Nat→Bool):SV V→Bool
 | .box id _=>pB id
 | .elt id ver _ _=>pR id ver
 | .osl id ver=>pR id ver
 | .vsl id ver _ _=>pR id ver
 | .agg cs=>SV.refsL pB pR cs
 | .tup cs=>SV.refsL pB pR cs
 | .fn _ cs=>SV.refsL pB pR cs
 | _=>true
def SV.refsL (pB:Nat→Bool) (pR:Nat→Nat→Bool):List (SV V)→Bool
 | []=>true
 | c::l=>SV.refs pB pR c&&SV.refsL pB pR l
end
mutual
def SV.noA:SV V→Bool
 | .aosl _=>false
 | .aelt ..=>false
 | .agg cs=>SV.noAL cs
 | .tup cs=>SV.noAL cs
 | .fn _ cs=>SV.noAL cs
 | _=>true
def SV.noAL:List (SV V)→Bool
 | []=>true
 | c::l=>SV.noA c&&SV.noAL l
end
def SB.refs (pB:Nat→Bool) (pR:Nat→Nat→Bool):SB V→Bool
 | .box cs _=>SV.refsL pB pR cs
 | _=>true
def refsR (pB:Nat→Bool) (pR:Nat→Nat→Bool):List (Nat×SV V)→Bool
 | []=>true
 | p::l=>p.2.refs pB pR&&refsR pB pR l
def refsH (pB:Nat→Bool) (pR:Nat→Nat→Bool):List (Nat×SB V)→Bool
 | []=>true
 | p::l=>p.2.refs pB pR&&refsH pB pR l
def refsF (pB:Nat→Bool) (pR:Nat→Nat→Bool):List (List (Nat×SV V))→Bool
 | []=>true
 | p::l=>refsR pB pR p&&refsF pB pR l
def SSt.refs (pB:Nat→Bool) (pR:Nat→Nat→Bool) (st:SSt V):Bool :=
 refsR pB pR st.regs&&(refsR pB pR st.kp&&(refsH pB pR st.heap&&(refsH pB pR st.hk&&refsF pB pR st.fr)))
end
structure MemLe (m:Nat→Nat) (H:Nat→SB D) (m':Nat→Nat) (H':Nat→SB D) (pB:Nat→Bool) (pR:Nat→Nat→Bool):Prop where
 box:∀ id,pB id=true→isBox H' id=false∨(isBox H' id=isBox H id∧m' id=m id)
 row:∀ id v,pR id v=true→rowLen H' id v=none∨(rowLen H' id v=rowLen H id v∧m' id=m id)
mutual
theorem enc_les {m m':Nat→Nat} {H H':Nat→SB D} {pB:Nat→Bool} {pR:Nat→Nat→Bool} (h:MemLe m H m' H' pB pR):∀ (x:SV D),x.refs pB pR=true→Les (x.enc m' H') (x.enc m H)
 | .any,_=>by rw [SV.enc];exact .any _
 | .und,_=>by rw [SV.enc,SV.enc];exact .refl _
 | .int ..,_=>by rw [SV.enc,SV.enc];exact .refl _
 | .bool ..,_=>by rw [SV.enc,SV.enc];exact .refl _
 | .str ..,_=>by rw [SV.enc,SV.enc];exact .refl _
 | .nilp,_=>by rw [SV.enc,SV.enc];exact .refl _
 | .nils,_=>by rw [SV.enc,SV.enc];exact .refl _
 | .nilf,_=>by rw [SV.enc,SV.enc];exact .refl _
 | .pk ..,_=>by rw [SV.enc,SV.enc];exact .refl _
 | .ro ..,_=>by rw [SV.enc,SV.enc];exact .refl _
 | .aosl ..,_=>by rw [SV.enc,SV.enc];exact .refl _
 | .aelt ..,_=>by rw [SV.enc,SV.enc];exact .refl _
 | .box id off,hr=>by
  rw [SV.refs] at hr;rw [SV.enc,SV.enc];rcases h.box id hr with e | ⟨e1,e2⟩
  ·rw [e];exact .any _
  ·rw [e1,e2];exact .refl _
 | .elt id ver i off,hr=>by
  rw [SV.refs] at hr;rw [SV.enc,SV.enc];rcases h.row id ver hr with e | ⟨e1,e2⟩
  ·rw [e];exact .any _
  ·rw [e1,e2];exact .refl _
 | .osl id ver,hr=>by
  rw [SV.refs] at hr;rw [SV.enc,SV.enc];rcases h.row id ver hr with e | ⟨e1,e2⟩
  ·rw [e];exact .any _
  ·rw [e1,e2];exact .refl _
 | .vsl id ver lo hi,hr=>by
  rw [SV.refs] at hr;rw [SV.enc,SV.enc];rcases h.row id ver hr with e | ⟨e1,e2⟩
  ·rw [e];exact .any _
  ·rw [e1,e2];exact .refl _
 | .agg cs,hr=>by
  rw [SV.refs] at hr;rw [SV.enc,SV.enc];exact .agg (encL_les h cs hr)
 | .tup cs,hr=>by
  rw [SV.refs] at hr;rw [SV.enc,SV.enc];exact .tup (encL_les h cs hr)
 | .fn f cs,hr=>by
  rw [SV.refs] at hr;rw [SV.enc,SV.enc];exact .fn f (encL_les h cs hr)
theorem encL_les {m m':Nat→Nat} {H H':Nat→SB D} {pB:Nat→Bool} {pR:Nat→Nat→Bool} (h:MemLe m H m' H' pB pR):∀ (l:List (SV D)),SV.refsL pB pR l=true→LesL (SV.encL m' H' l) (SV.encL m H l)
 | [],_=>by rw [SV.encL,SV.encL];exact .nil
 | c::l,hr=>by
  rw [SV.refsL,Bool.and_eq_true] at hr;rw [SV.encL,SV.encL];exact .cons (enc_les h c hr.1) (encL_les h l hr.2)
end
section
variable {m m':Nat→Nat} {H H':Nat→SB D} {pB:Nat→Bool} {pR:Nat→Nat→Bool}
theorem encB_les (h:MemLe m H m' H' pB pR) (b:SB D) (hr:b.refs pB pR=true):LesB (b.enc m' H') (b.enc m H):=by
 cases b with
 | dead=>exact .dead _
 | box cs e=>rw [SB.refs] at hr;exact .box e (encL_les h cs hr)
 | row=>exact .refl _
 | arn=>exact .dead _
theorem encR_les (h:MemLe m H m' H' pB pR):∀ (l:List (Nat×SV D)),refsR pB pR l=true→∀ d,Les (look .any (encR m' H' l) d) (look .any (encR m H l) d)
 | [],_,d=>.refl _
 |(j,x)::l,hr,d=>by
  rw [refsR,Bool.and_eq_true] at hr;show Les (look .any ((j,x.enc m' H')::encR m' H' l) d) (look .any ((j,x.enc m H)::encR m H l) d);rw [look_cons,look_cons];split
  ·exact enc_les h x hr.1
  ·exact encR_les h l hr.2 d
theorem encH_lesD (h:MemLe m H m' H' pB pR) (d:AB):∀ (l:List (Nat×SB D)),refsH pB pR l=true→(∀ p ∈ l,m' p.1=m p.1)→∀ k,LesB (look d (encH m' H' l) k) (look d (encH m H l) k)
 | [],_,_,k=>.refl _
 |(j,x)::l,hr,hm,k=>by
  rw [refsH,Bool.and_eq_true] at hr;show LesB (look d ((m' j,x.enc m' H')::encH m' H' l) k) (look d ((m j,x.enc m H)::encH m H l) k);rw [look_cons,look_cons,hm (j,x) (by simp)];split
  ·exact encB_les h x hr.1
  ·exact encH_lesD h d l hr.2 (fun p hp=>hm p (List.mem_cons_of_mem _ hp)) k
theorem encH_les (h:MemLe m H m' H' pB pR) (l:List (Nat×SB D)) (hr:refsH pB pR l=true) (hm:∀ p ∈ l,m' p.1=m p.1) (d:Nat):LesB (look .dead (encH m' H' l) d) (look .dead (encH m H l) d):=encH_lesD h .dead l hr hm d
theorem refsR_append (l r:List (Nat×SV D)):refsR pB pR (l++r)=(refsR pB pR l&&refsR pB pR r):=by
 induction l with
 | nil=>rfl
 | cons p l ih=>rw [List.cons_append,refsR,refsR,ih,Bool.and_assoc]
theorem refsH_append (l r:List (Nat×SB D)):refsH pB pR (l++r)=(refsH pB pR l&&refsH pB pR r):=by
 induction l with
 | nil=>rfl
 | cons p l ih=>rw [List.cons_append,refsH,refsH,ih,Bool.and_assoc]
theorem refsR_all (l:List (Nat×SV D)) (h:∀ x:SV D,x.refs pB pR=true):refsR pB pR l=true:=by
 induction l with
 | nil=>rfl
 | cons p l ih=>rw [refsR,h,ih];rfl
end
structure FrOk (m:Nat→Nat) (H:Nat→SB D) (fr:List (List (Nat×SV D))) (F:List (Nat→AV)):Prop where
 len:fr.length=F.length
 les:∀ (i:Nat) (l:List (Nat×SV D)) (f:Nat→AV),fr[i]?=some l→F[i]?=some f→∀ d,Les ((look .any l d).enc m H) (f d)
structure RLe (s s':ASt):Prop where
 ok:∀ {K:Kn} {n:Nat} {a:Act} {w:World},Rel K n s a w→Rel K n s' a w
theorem LeS.rle {s s':ASt} (h:LeS s' s):RLe s s':=⟨fun r=>r.les h⟩
theorem RLe.refl (s:ASt):RLe s s:=⟨fun r=>r⟩
theorem RLe.trans {a b c:ASt} (h:RLe a b) (k:RLe b c):RLe a c:=⟨fun r=>k.ok (h.ok r)⟩
structure StL (F:List (Nat→AV)) (st:SSt D) (s:ASt):Prop where
 ex:∃ m nx,MOk m nx st∧RLe s (st.enc m nx)∧FrOk m st.blk st.fr F
theorem refsF_at {pB:Nat→Bool} {pR:Nat→Nat→Bool}:∀ {fr:List (List (Nat×SV D))},refsF pB pR fr=true→∀ {i:Nat} {l:List (Nat×SV D)},fr[i]?=some l→refsR pB pR l=true
 | [],_,i,l,h=>by simp at h
 | p::fr,hr,i,l,h=>by
  rw [refsF,Bool.and_eq_true] at hr
  cases i with
  | zero=>simp at h;subst h;exact hr.1
  | succ i=>exact refsF_at hr.2 (by simpa using h)
theorem refsR_look {pB:Nat→Bool} {pR:Nat→Nat→Bool}:∀ {l:List (Nat×SV D)},refsR pB pR l=true→∀ d,(look .any l d).refs pB pR=true
 | [],_,d=>by show SV.refs pB pR SV.any=true;rw [SV.refs] <;> simp
 |(j,x)::l,h,d=>by
  rw [refsR,Bool.and_eq_true] at h;rw [look_cons];split
  ·exact h.1
  ·exact refsR_look h.2 d
theorem FrOk.les' {m m':Nat→Nat} {H H':Nat→SB D} {pB:Nat→Bool} {pR:Nat→Nat→Bool} {fr:List (List (Nat×SV D))} {F:List (Nat→AV)} (h:FrOk m H fr F) (hm:MemLe m H m' H' pB pR) (hr:refsF pB pR fr=true):FrOk m' H' fr F :=
 ⟨h.len,fun i l f h1 h2 d=>(enc_les hm _ (refsR_look (refsF_at hr h1) d)).trans (h.les i l f h1 h2 d)⟩
section
variable {P:Program} {n:Nat} {F:List (Nat→AV)} {st:SSt D} {s:ASt}
theorem sv_all0:∀ x:SV D,x.refs (fun _=>true) (fun _ _=>true)=true:=by
 intro x
 induction x using SV.rec (motive_2:=fun l=>SV.refsL (fun _=>true) (fun _ _=>true) l=true) with
 | nil=>rw [SV.refsL]
 | cons c l h1 h2=>rw [SV.refsL,h1,h2];rfl
 | agg cs h=>rw [SV.refs];exact h
 | tup cs h=>rw [SV.refs];exact h
 | fn f cs h=>rw [SV.refs];exact h
 | _=>rw [SV.refs] <;> simp
theorem refs_all0 (st:SSt D):st.refs (fun _=>true) (fun _ _=>true)=true:=by
 have hL:∀ l:List (SV D),SV.refsL (fun _=>true) (fun _ _=>true) l=true:=by
  intro l
  induction l with
  | nil=>rw [SV.refsL]
  | cons c l ih=>rw [SV.refsL,sv_all0,ih];rfl
 have hR:∀ l:List (Nat×SV D),refsR (fun _=>true) (fun _ _=>true) l=true:=fun l=>refsR_all l sv_all0
 have hH:∀ l:List (Nat×SB D),refsH (fun _=>true) (fun _ _=>true) l=true:=by
  intro l
  induction l with
  | nil=>rfl
  | cons p l ih =>
   rw [refsH,ih,Bool.and_true]
   cases p.2 with
   | box cs e=>exact hL cs
   | _=>rfl
 have hF:∀ l:List (List (Nat×SV D)),refsF (fun _=>true) (fun _ _=>true) l=true:=by
  intro l
  induction l with
  | nil=>rfl
  | cons p l ih=>rw [refsF,hR,ih];rfl
 unfold SSt.refs;rw [hR,hR,hH,hH,hF];rfl
theorem hset_blk (st:SSt D) (id:Nat) (b:SB D) (k:Nat):(st.hset id b).blk k=if id=k then b else st.blk k:=by
 show look (look .dead st.hk k) ((id,b)::st.heap) k=_;rw [look_cons];rfl
theorem hnew_blk (st:SSt D) (b:SB D) (k:Nat):(st.hnew b).blk k=if st.nx=k then b else st.blk k:=by
 show look (look .dead st.hk k) ((st.nx,b)::st.heap) k=_;rw [look_cons];rfl
theorem hset_arn {id:Nat} {b:SB D} (hid:(st.blk id).isA=false) (hb:b.isA=false):((st.hset id b).blk 0).isA=(st.blk 0).isA∧∀ B,((st.hset id b).blk 0).rows B=(st.blk 0).rows B:=by
 rw [hset_blk];by_cases e:id=0
 ·subst e;rw [if_pos rfl,hid,hb];exact ⟨rfl,fun B=>by rw [isA_rows hid,isA_rows hb]⟩
 ·rw [if_neg e];exact ⟨rfl,fun _=>rfl⟩
theorem hset_les {m:Nat→Nat} {nx id:Nat} {b:SB D} {b':AB} {pB:Nat→Bool} {pR:Nat→Nat→Bool} (hm:MOk m nx st) (hl:LeS (st.enc m nx) s) (hid:(st.blk id).norm) (hbd:b.norm) (hc:MemLe m st.blk m (st.hset id b).blk pB pR) (hr:st.refs pB pR=true) (hb:LesB (b.enc m (st.hset id b).blk) b') (hf:FrOk m st.blk st.fr F) :
  MOk m nx (st.hset id b)∧LeS ((st.hset id b).enc m nx) (s.hset (m id) b')∧FrOk m (st.hset id b).blk (st.hset id b).fr F:=by
 unfold SSt.refs at hr;simp only [Bool.and_eq_true] at hr;obtain ⟨r1,r2,r3,r4,r5⟩:=hr;obtain ⟨hid,hidA⟩:=hid;obtain ⟨hbd,hbA⟩:=hbd
 have hA:((st.hset id b).blk 0).isA=(st.blk 0).isA∧∀ B,((st.hset id b).blk 0).rows B=(st.blk 0).rows B:=by
  rw [hset_blk];by_cases e:id=0
  ·subst e;rw [if_pos rfl,hidA,hbA];exact ⟨rfl,fun B=>by rw [isA_rows hidA,isA_rows hbA]⟩
  ·rw [if_neg e];exact ⟨rfl,fun _=>rfl⟩
 have hlv:∀ k,(st.hset id b).blk k≠.dead→st.blk k≠.dead:=by
  intro k hk;rw [hset_blk] at hk;by_cases e:id=k
  ·subst e;exact hid
  ·rw [if_neg e] at hk;exact hk
 refine ⟨⟨fun k hk=>hm.lt k (hlv k hk),fun k k' hk hk' e=>hm.inj k k' (hlv k hk) (hlv k' hk') e,fun p hp=>?_,fun h=>hm.ar' (hA.1 ▸ h),hm.ge.1,fun k hk=>hm.ge.2 k (hlv k hk)⟩,⟨fun d=>?_,fun k=>?_,hl.nx⟩,hf.les' hc r5⟩
 ·rcases List.mem_cons.1 hp with rfl | hp
  ·exact ⟨hm.live hid,hbd⟩
  ·exact hm.keys p hp
 ·have e1:(st.hset id b).regs++(st.hset id b).kp=st.regs++st.kp:=rfl;show Les (look .any (encR m (st.hset id b).blk ((st.hset id b).regs++(st.hset id b).kp)) d) _;rw [e1];exact (encR_les hc _ (by rw [refsR_append,r1,r2];rfl) d).trans (hl.regs d)
 ·show LesB (look .dead (((m id,b.enc m (st.hset id b).blk)::encH m (st.hset id b).blk (st.heap++st.hk))++((st.hset id b).blk 0).rows (m 0)) k) (look .dead ((m id,b')::s.heap) k);rw [hA.2,List.cons_append,look_cons,look_cons];split
  ·exact hb
  ·have h1:=hl.heap k;have h1:LesB (look .dead (encH m st.blk (st.heap++st.hk)++(st.blk 0).rows (m 0)) k) (look .dead s.heap k):=h1;rw [look_append] at h1 ⊢;exact (encH_lesD hc _ _ (by rw [refsH_append,r3,r4];rfl) (fun _ _=>rfl) k).trans h1
theorem hnew_les' {m:Nat→Nat} {nx:Nat} {b:SB D} {b':AB} (hm:MOk m nx st) (hl:LeS (st.enc m nx) s) (hf:FrOk m st.blk st.fr F) (hbd:b.norm) (hr:st.refs (fun id=>!Nat.beq id st.nx) (fun id _=>!Nat.beq id st.nx)=true) (hb:∀ m',MemLe m st.blk m' (st.hnew b).blk (fun id=>!Nat.beq id st.nx) (fun id _=>!Nat.beq id st.nx)→LesB (b.enc m' (st.hnew b).blk) b') :
  ∃ m' nx',MOk m' nx' (st.hnew b)∧LeS ((st.hnew b).enc m' nx') (s.hnew b')∧FrOk m' (st.hnew b).blk (st.hnew b).fr F∧m' st.nx=s.nx∧(∀ k,k≠st.nx→m' k=m k)∧MemLe m st.blk m' (st.hnew b).blk (fun id=>!Nat.beq id st.nx) (fun id _=>!Nat.beq id st.nx):=by
 have hnx:nx=s.nx:=hl.nx
 let m':Nat→Nat:=fun k=>if k=st.nx then nx else m k
 have hm':∀ k,k≠st.nx→m' k=m k:=fun k h=>by simp only [m'];rw [if_neg h]
 have hc:MemLe m st.blk m' (st.hnew b).blk (fun id=>!Nat.beq id st.nx) (fun id _=>!Nat.beq id st.nx):=by
  have hne:∀ id,(!Nat.beq id st.nx)=true→id≠st.nx:=by
   intro id h e;subst e;have h:(!Nat.beq st.nx st.nx)=true:=h;rw [Nat.beq_refl] at h;cases h
  refine ⟨fun id h=>.inr ?_,fun id v h=>.inr ?_⟩
  ·have:=hne id h;refine ⟨?_,hm' id this⟩;unfold isBox;rw [hnew_blk,if_neg (Ne.symm this)]
  ·have:=hne id h;refine ⟨?_,hm' id this⟩;unfold rowLen;rw [hnew_blk,if_neg (Ne.symm this)]
 unfold SSt.refs at hr;simp only [Bool.and_eq_true] at hr;obtain ⟨r1,r2,r3,r4,r5⟩:=hr;have hdead:st.blk st.nx=.dead:=Classical.byContradiction fun e=>Nat.lt_irrefl _ (hm.live e)
 have hlv:∀ k,(st.hnew b).blk k≠.dead→k≠st.nx→st.blk k≠.dead:=by
  intro k hk e;rw [hnew_blk,if_neg (Ne.symm e)] at hk;exact hk
 have e0':m' st.nx=nx:=(if_pos rfl:(if st.nx=st.nx then nx else m st.nx)=nx);obtain ⟨hbd,hbA⟩:=hbd
 have hA:((st.hnew b).blk 0).isA=(st.blk 0).isA∧∀ B,((st.hnew b).blk 0).rows B=(st.blk 0).rows B:=by
  rw [hnew_blk];by_cases e:st.nx=0
  ·rw [if_pos e,hbA,show st.blk 0=.dead by rw [←e];exact hdead];exact ⟨rfl,fun B=>by rw [isA_rows hbA];rfl⟩
  ·rw [if_neg e];exact ⟨rfl,fun _=>rfl⟩
 have h0:(st.blk 0).isA=true→m' 0=m 0:=fun h=>hm' 0 fun e=>by rw [show st.blk 0=.dead by rw [e];exact hdead] at h;cases h
 have hrw:∀ B B',((st.blk 0).isA=true→B'=B)→(st.blk 0).rows B'=(st.blk 0).rows B:=by
  intro B B' h
  cases hh:(st.blk 0).isA with
  | true=>rw [h hh]
  | false=>rw [isA_rows hh,isA_rows hh]
 refine ⟨m',nx+1,⟨fun k hk=>?_,fun k k' hk hk' e=>?_,fun p hp=>?_,fun h=>?_,?_⟩,⟨fun d=>?_,fun k=>?_,?_⟩,hf.les' hc r5,?_,hm',hc⟩
 ·by_cases e:k=st.nx
  ·rw [e,e0'];omega
  ·rw [hm' k e];have:=hm.lt k (hlv k hk e);omega
 ·by_cases e1:k=st.nx
  ·by_cases e2:k'=st.nx
   ·omega
   ·rw [hm' k' e2,e1,e0'] at e;have:=hm.lt k' (hlv k' hk' e2);omega
  ·by_cases e2:k'=st.nx
   ·rw [hm' k e1,e2,e0'] at e;have:=hm.lt k (hlv k hk e1);omega
   ·rw [hm' k e1,hm' k' e2] at e;exact hm.inj k k' (hlv k hk e1) (hlv k' hk' e2) e
 ·show p.1<st.nx+1∧p.2≠.dead;rcases List.mem_cons.1 hp with rfl | hp
  ·exact ⟨Nat.lt_succ_self _,hbd⟩
  ·have:=hm.keys p hp;exact ⟨by omega,this.2⟩
 ·rw [hA.1] at h;rw [h0 h];exact hm.ar' h
 ·have:=hm.ge.1;refine ⟨by omega,fun k hk=>?_⟩;by_cases e:k=st.nx
  ·rw [e,e0'];exact this
  ·rw [hm' k e];exact hm.ge.2 k (hlv k hk e)
 ·show Les (look .any (encR m' (st.hnew b).blk (st.regs++st.kp)) d) _;exact (encR_les hc _ (by rw [refsR_append,r1,r2];rfl) d).trans (hl.regs d)
 ·show LesB (look .dead (((m' st.nx,b.enc m' (st.hnew b).blk)::encH m' (st.hnew b).blk (st.heap++st.hk))++((st.hnew b).blk 0).rows (m' 0)) k) (look .dead ((s.nx,b')::s.heap) k);have e0:m' st.nx=s.nx:=(if_pos rfl:(if st.nx=st.nx then nx else m st.nx)=nx).trans hnx;rw [hA.2,hrw (m 0) (m' 0) h0,List.cons_append,look_cons,look_cons,e0];split
  ·exact hb m' hc
  ·have h1:LesB (look .dead (encH m st.blk (st.heap++st.hk)++(st.blk 0).rows (m 0)) k) (look .dead s.heap k):=hl.heap k;rw [look_append] at h1 ⊢;refine (encH_lesD hc _ _ (by rw [refsH_append,r3,r4];rfl) (fun p hp=>hm' p.1 ?_) k).trans h1;have:=(hm.keys p hp).1;omega
 ·show nx+1=s.nx+1;omega
 ·exact (if_pos rfl:(if st.nx=st.nx then nx else m st.nx)=nx).trans hnx
theorem hnew_les {m:Nat→Nat} {nx:Nat} {b:SB D} {b':AB} (hm:MOk m nx st) (hl:LeS (st.enc m nx) s) (hf:FrOk m st.blk st.fr F) (hbd:b.norm) (hr:st.refs (fun id=>!Nat.beq id st.nx) (fun id _=>!Nat.beq id st.nx)=true) (hb:∀ m',MemLe m st.blk m' (st.hnew b).blk (fun id=>!Nat.beq id st.nx) (fun id _=>!Nat.beq id st.nx)→LesB (b.enc m' (st.hnew b).blk) b') :
  ∃ m' nx',MOk m' nx' (st.hnew b)∧LeS ((st.hnew b).enc m' nx') (s.hnew b')∧FrOk m' (st.hnew b).blk (st.hnew b).fr F∧m' st.nx=s.nx:=by
 obtain ⟨m',nx',h1,h2,h3,h4,_⟩:=hnew_les' hm hl hf hbd hr hb;exact ⟨m',nx',h1,h2,h3,h4⟩
theorem memLe_arn {m:Nat→Nat} {pB:Nat→Bool} {pR:Nat→Nat→Bool} {t:Ty} {xs xs':E D (.list (.list t))} {e e':TypeId} (hb:st.blk 0=.arn t xs e):MemLe m st.blk m (st.hset 0 (.arn t xs' e')).blk pB pR:=by
 refine ⟨fun k _=>.inr ⟨?_,rfl⟩,fun k v _=>.inr ⟨?_,rfl⟩⟩
 ·unfold isBox;rw [hset_blk];by_cases e1:0=k
  ·subst e1;rw [if_pos rfl,hb]
  ·rw [if_neg e1]
 ·unfold rowLen;rw [hset_blk];by_cases e1:0=k
  ·subst e1;rw [if_pos rfl,hb]
  ·rw [if_neg e1]
theorem hsetA_les {m:Nat→Nat} {nx K:Nat} {t:Ty} {xs xs':E D (.list (.list t))} {e:TypeId} (hm:MOk m nx st) (hf:FrOk m st.blk st.fr F) (hb:st.blk 0=.arn t xs e) (hK:K<m 0)
  (hx:∀ i,i≠K→(xs'.den:List (List t.den)).getD i []=(xs.den:List (List t.den)).getD i []) :
  MOk m nx (st.hset 0 (.arn t xs' e))∧LeS ((st.hset 0 (.arn t xs' e)).enc m nx) ((st.enc m nx).hset K (arnRow t e xs'.den K))∧FrOk m (st.hset 0 (.arn t xs' e)).blk (st.hset 0 (.arn t xs' e)).fr F:=by
 have h0:(st.hset 0 (.arn t xs' e)).blk 0=.arn t xs' e:=by rw [hset_blk,if_pos rfl]
 have hA:(st.blk 0).isA=true:=by rw [hb];rfl
 have hA':((st.hset 0 (.arn t xs' e)).blk 0).isA=true:=by rw [h0];rfl
 have hlv:∀ k,(st.hset 0 (.arn t xs' e)).blk k≠.dead→st.blk k≠.dead:=by
  intro k hk;rw [hset_blk] at hk;by_cases e1:0=k
  ·subst e1;rw [hb];simp
  ·rw [if_neg e1] at hk;exact hk
 have hc:MemLe m st.blk m (st.hset 0 (.arn t xs' e)).blk (fun _=>true) (fun _ _=>true):=memLe_arn hb
 have hm':MOk m nx (st.hset 0 (.arn t xs' e)):=⟨fun k hk=>hm.lt k (hlv k hk),fun k k' hk hk' e=>hm.inj k k' (hlv k hk) (hlv k' hk') e,fun p hp=>by
  rcases List.mem_cons.1 hp with rfl | hp
  ·exact ⟨hm.live (by rw [hb];simp),by simp⟩
  ·exact hm.keys p hp,fun _=>hm.ar' hA,hm.ge.1,fun k hk=>hm.ge.2 k (hlv k hk)⟩
 have hall:refsR (fun _=>true) (fun _ _=>true) (st.regs++st.kp)=true∧refsH (fun _=>true) (fun _ _=>true) (st.heap++st.hk)=true∧refsF (fun _=>true) (fun _ _=>true) st.fr=true:=by
  have:=refs_all0 st;unfold SSt.refs at this;simp only [Bool.and_eq_true] at this;exact ⟨by rw [refsR_append,this.1,this.2.1];rfl,by rw [refsH_append,this.2.2.1,this.2.2.2.1];rfl,this.2.2.2.2⟩
 refine ⟨hm',⟨fun d=>?_,fun k=>?_,rfl⟩,hf.les' hc hall.2.2⟩
 ·have e1:(st.hset 0 (.arn t xs' e)).regs++(st.hset 0 (.arn t xs' e)).kp=st.regs++st.kp:=rfl;show Les (look .any (encR m (st.hset 0 (.arn t xs' e)).blk ((st.hset 0 (.arn t xs' e)).regs++(st.hset 0 (.arn t xs' e)).kp)) d) _;rw [e1];exact encR_les hc _ hall.1 d
 ·show LesB _ (look .dead ((K,arnRow t e xs'.den K)::(st.enc m nx).heap) k);rw [enc_look hm',look_cons,hA',Bool.true_and,h0,rows_look]
  cases hk:Nat.blt k (m 0) with
  | true =>
   rw [Nat.blt_eq] at hk;show LesB (if k<m 0 then arnRow t e xs'.den k else AB.dead) _;rw [if_pos hk];by_cases e1:K=k
   ·subst e1;rw [if_pos rfl];exact .refl _
   ·rw [if_neg e1,enc_look hm,hA,Bool.true_and,hb,rows_look,show Nat.blt k (m 0)=true by rw [Nat.blt_eq];exact hk];show LesB _ (if k<m 0 then arnRow t e xs.den k else AB.dead);rw [if_pos hk];unfold arnRow;rw [hx k (fun e2=>e1 e2.symm)];exact .refl _
  | false =>
   have hk':¬ k<m 0:=fun h=>by rw [←Nat.blt_eq,hk] at h;cases h
   rw [cond_false,if_neg (by omega),enc_look hm,hA,Bool.true_and,hk,cond_false];show LesB (look .dead ((m 0,AB.dead)::encH m (st.hset 0 (.arn t xs' e)).blk (st.heap++st.hk)) k) _;rw [look_cons];split
   ·exact .dead _
   ·exact encH_les hc _ hall.2.1 (fun _ _=>rfl) k
theorem ev_refs {pB:Nat→Bool} {pR:Nat→Nat→Bool} (h:st.refs pB pR=true) (x:Operand):(st.ev x).refs pB pR=true:=by
 unfold SSt.refs at h;simp only [Bool.and_eq_true] at h
 cases x with
 | tmp t =>
  show (st.get t).refs pB pR=true;unfold SSt.get;rw [←look_append];exact refsR_look (by rw [refsR_append,h.1,h.2.1];rfl) t
 | const v =>
  show (svOf v).refs pB pR=true;unfold svOf
  split <;> (rw [SV.refs] <;> simp)
 | global g=>show SV.refs pB pR .any=true;rw [SV.refs] <;> simp
 | func f=>show SV.refs pB pR (.fn f [])=true;rw [SV.refs,SV.refsL]
theorem cells_refs {pB:Nat→Bool} {pR:Nat→Nat→Bool} {x:SV D} (h:x.refs pB pR=true):SV.refsL pB pR x.cells=true:=by
 cases x with
 | agg cs=>rw [SV.refs] at h;exact h
 | _=>show (SV.refs pB pR _&&SV.refsL pB pR [])=true;rw [h,SV.refsL];rfl
end
end Go.Proofs.Ytljebnobajmjnaa
/- Decompiling: one function for the operations that make or write memory. No program in sight. -/
namespace Go.Proofs.Ytljebnobajmjnaa
open Go Go.RowKit

section
variable {V:Ty→Type}
def exC (fr:Bool):(t:Ty)→List (SV V)→Option (E V t×List (SV V))
 | .int k,.int k' e::l=>if h:k'=k then some (h ▸ e,l) else none
 | .bool,.bool e::l=>some (e,l)
 | .str,.str e::l=>some (e,l)
 | .list t,.ro fr' t' e::l=>bif !fr||fr' then (match Ty.eqd t' t with
  | some ⟨h⟩=>some (h ▸ e,l)
  | none=>none) else none
 | .list t,.nils::l=>some (.nil t,l)
 | .aix,.aosl e::l=>some (e,l)
 | .aix,.nils::l=>some (.aixI (.iL .i64 (-1)) (.iL .i64 0),l)
 | .unit,l=>some (.uni,l)
 | .pair a b,l=>match exC fr a l with
  | some (x,l')=>match exC fr b l' with
   | some (y,l'')=>some (.pair x y,l'')
   | none=>none
  | none=>none
 | .agg t,l=>match exC fr t l with
  | some (x,l')=>some (.aggI x,l')
  | none=>none
 | _,_=>none
def exA (fr:Bool) (t:Ty) (l:List (SV V)):Option (E V t):=match exC fr t l with
 | some (x,[])=>some x
 | _=>none
def exRows (fr:Bool) (t:Ty):List (List (SV V))→Option (E V (.list t))
 | []=>some (.nil t)
 | r::l=>match exA fr t r,exRows fr t l with
  | some x,some xs=>some (.cons x xs)
  | _,_=>none
def tyFs (f:TypeId→Option Ty):List Field→Option Ty
 | []=>some .unit
 | [a]=>f a.type
 | a::l=>match f a.type,tyFs f l with
  | some x,some y=>some (.pair x y)
  | _,_=>none
def tyRep (t:Ty):Nat→Ty
 | 0=>.unit
 | 1=>t
 | n+1=>.pair t (tyRep t n)
def tyT (T:Tab):Nat→TypeId→Option Ty
 | 0,_=>none
 | f+1,t=>match lk T.und t with
  | some (.int k)=>some (.int k)
  | some .bool=>some .bool
  | some .string=>some .str
  | some (.slice e)=>(tyT T f e).map .list
  | some (.struct ⟨fs⟩)=>tyFs (tyT T f) fs
  | some (.array n e)=>(tyT T f e).map fun t=>tyRep t n
  | _=>none
def Ty.toA:Ty→Ty
 | .list _=>.aix
 | .pair a b=>.pair a.toA b.toA
 | .agg t=>.agg t.toA
 | t=>t
def chunkS (sz:Nat):Nat→List (SV V)→List (List (SV V))
 | 0,_=>[]
 | k+1,cs=>cs.take sz::chunkS sz k (cs.drop sz)
def zerosS (zs:List (SV V)):Nat→List (SV V)
 | 0=>[]
 | k+1=>zs++zerosS zs k
def sameOp:Operand→Operand→Bool
 | .tmp a,.tmp b=>Nat.beq a b
 | .const (.int _ a),.const (.int _ b)=>decide (a=b)
 | _,_=>false
def E.lit? {k:IntKind} (e:E V (.int k)):Option Int:=match e with
 | .iL _ n=>some n
 | _=>none
def leE {k k':IntKind} (a:E V (.int k)) (b:E V (.int k')):E V .bool:=match a.lit?,b.lit? with
 | some x,some y=>.bL (decide (x≤y))
 | _,_=>.ic .le a b
def mulL {k:IntKind} (b:Nat) (a:E V (.int k)):E V (.int k):=match a.lit? with
 | some x=>.iL k (b*x)
 | none=>.ib .mul (.iL k b) a
inductive MR (V:Ty→Type) where
 | new (b:SB V) (row:Bool)
 | newA (b:SB V)
 | upd (id:Nat) (b:SB V) (ref:Option (SV V))
 | reg (x:SV V)
def MR.app (st:SSt V) (d:Option Nat):MR V→SSt V
 | .new b row=>(st.hnew b).put d (bif row then .osl st.nx 0 else .box st.nx 0)
 | .newA b=>(st.hnew b).put d (.elt st.nx 0 (.iL .i64 0) 0)
 | .upd id b ref=>match ref with
  | some r=>(st.hset id b).put d r
  | none=>st.hset id b
 | .reg x=>st.put d x
abbrev MO (V:Ty→Type):=Option (MR V×E V .bool)
def allocS (T:Tab) (e:TypeId):MO V:=match lk T.inf e with
 | some (some z,_,_)=>bif allOne (z.cells.toList.map avOf) then some (.new (.box (zeroS z) e) false,okT) else none
 | _=>none
def boxS (st:SSt V) (e:TypeId) (x:SV V):MO V:=bif allOneS st x.cells then some (.new (.box x.cells e) false,okT) else none
def storeS (T:Tab) (st:SSt V) (t:TypeId) (a v:SV V):MO V:=match lk T.inf t with
 | some (_,s,_)=>bif allOneS st v.cells&&Nat.beq v.cells.length s then (match a with
  | .box id o=>match st.blk id with
   | .box cs e=>bif Nat.ble (o+s) cs.length then some (.upd id (.box (setRS cs o v.cells) e) none,okT) else none
   | _=>none
  | .elt id ver i o=>match st.blk id with
   | .row fr ty xs e ver'=>bif Nat.beq ver ver'&&Nat.ble (o+s) ty.size then (match exA fr ty (setRS (cellsE fr ty (.at xs i)) o v.cells) with
    | some x=>some (.upd id (.row fr ty (.set xs i x) e ver') none,okT)
    | none=>match exA false ty (setRS (cellsE fr ty (.at xs i)) o v.cells) with
     | some x=>some (.upd id (.row false ty (.set xs i x) e ver') none,okT)
     | none=>none) else none
   | _=>none
  | _=>none) else none
 | none=>none
def makeS (T:Tab) (ff:Ty→Ty) (t:TypeId) (x y:Operand) (l c:SV V):MO V:=match lk T.und t,l,c with
 | some (.slice e),.int _ L,.int _ C=>match lk T.inf e,(tyT T 8 e).map ff with
  | some (some z,sz,b),some ty=>bif allOne (z.cells.toList.map avOf)&&Nat.beq (z.cells.toList.map avOf).length sz&&Nat.blt 0 sz&&Nat.blt 0 b then
    (match exA true ty (zeroS z) with
     | some x0=>some (.new (.row true ty (.rep L x0) e 0) true,andE (bif sameOp x y then okT else leE L C) (andE (leE (.iL .i64 0) L) (bif sameOp x y then leE (mulL b L) (.iL .i64 281474976710656) else leE (mulL b C) (.iL .i64 281474976710656))))
     | none=>none) else none
  | _,_=>none
 | _,_,_=>none
def litRow (ty:Ty) (e:TypeId) (rows:List (List (SV V))):MO V:=match exRows true ty rows with
 | some xs=>some (.new (.row true ty xs e 0) true,okT)
 | none=>match exRows false ty rows with
  | some xs=>some (.new (.row false ty xs e 0) true,okT)
  | none=>none
def litS (T:Tab) (ff:Ty→Ty) (st:SSt V) (t:TypeId) (L:Nat) (parts:Array (Nat×Operand)):MO V:=match lk T.und t with
 | some (.slice e)=>match lk T.inf e,(tyT T 8 e).map ff with
  | some (some z,sz,_),some ty=>bif allOne (z.cells.toList.map avOf)&&Nat.beq (z.cells.toList.map avOf).length sz&&Nat.blt 0 sz&&Nat.ble (L*sz) 16777216&&Nat.beq ty.size sz then
    (match fillS st (fun i=>some (i*sz,sz)) (zerosS (zeroS z) L) (evPartsS st parts.toList) with
    | some out=>bif Nat.beq out.length (L*sz) then litRow ty e (chunkS sz L out) else none
    | none=>none) else none
  | _,_=>none
 | _=>none
def srcS (st:SSt V) (t:Ty):SV V→Option (Bool×E V (.list t))
 | .ro fr t' xs=>match Ty.eqd t' t with
  | some ⟨h⟩=>some (fr,h ▸ xs)
  | none=>none
 | .osl id ver=>match st.blk id with
  | .row fr t' xs _ v=>bif Nat.beq ver v then (match Ty.eqd t' t with
   | some ⟨h⟩=>some (fr,h ▸ xs)
   | none=>none) else none
  | _=>none
 | .nils=>some (true,.nil t)
 | _=>none
def srcC (st:SSt V) (t:Ty) (x:SV V):Option (Bool×E V (.list t)):=match x with
 | .vsl id ver lo hi=>match st.blk id with
  | .row fr t' xs _ v=>bif Nat.beq ver v then (match Ty.eqd t' t with
   | some ⟨h⟩=>some (fr,.sub (h ▸ xs) lo hi)
   | none=>none) else none
  | _=>none
 | .aosl e=>match arnOf st with
  | some ⟨t',xs⟩=>match Ty.eqd t' t with
   | some ⟨h⟩=>some (false,.ite (leF (.iL .i64 0) e.aixK') (h ▸ .at xs e.aixK') (.nil t))
   | none=>none
  | none=>none
 | x=>srcS st t x
def srcG (st:SSt V) (x:SV V):E V .bool:=match x with
 | .aosl e=>match arnOf st with
  | some ⟨_,xs⟩=>arnN xs e
  | none=>okT
 | _=>okT
def appS (T:Tab) (ff:Ty→Ty) (st:SSt V) (t:TypeId) (x y:SV V):MO V:=match lk T.und t with
 | some (.slice e)=>match lk T.inf e with
  | some (some z,sz,b)=>bif Nat.beq z.cells.size sz&&Nat.blt 0 sz then (match x with
   | .osl id ver=>match st.blk id with
    | .row fr ty xs e' v=>bif Nat.beq ver v&&(Nat.beq e' e&&(Nat.beq sz ty.size&&ty.flatA)) then (match srcC st ty y with
     | some (fr',ys)=>bif st.refs (fun _=>true) (fun i w=>!(Nat.beq i id&&Nat.beq w (v+1))) then
       some (.upd id (.row (fr&&fr') ty (.app xs ys) e (v+1)) (some (.osl id (v+1))),andE (srcG st y) (leE (.ib .mul (.ib .add (.len xs) (.len ys)) (.iL .i64 (bmul b:Nat))) (.iL .i64 140737488355328))) else none
     | none=>none) else none
    | _=>none
   | .nils=>match (tyT T 8 e).map ff with
    | some ty=>bif Nat.beq sz ty.size&&ty.flatA then (match srcC st ty y with
     | some (fr',ys)=>some (.new (.row fr' ty ys e 0) true,andE (srcG st y) (leE (.ib .mul (.len ys) (.iL .i64 (bmul b:Nat))) (.iL .i64 140737488355328)))
     | none=>none) else none
    | none=>none
   | _=>none) else none
  | _=>none
 | _=>none
def mem0 (T:Tab) (st:SSt V) (d:Option Nat):Op→MO V
 | .alloc e=>allocS T e
 | .box e x=>boxS st e (st.ev x)
 | .store t a v=>match d with
  | none=>storeS T st t (st.ev a) (st.ev v)
  | some _=>none
 | .makeSlice t x y=>makeS T (fun t=>t) t x y (st.ev x) (st.ev y)
 | .buildSlice t L parts=>litS T (fun t=>t) st t L parts
 | .call ⟨.builtin .append,⟨[x,y]⟩,⟨[t,t']⟩⟩=>bif Nat.beq t' t then appS T (fun t=>t) st t (st.ev x) (st.ev y) else none
 | _=>none
def arrRow (T:Tab) (e:TypeId) (cs:List (SV V)):MO V:=match lk T.und e with
 | some (.array L el)=>match lk T.inf el,tyT T 8 el with
  | some (_,sz,_),some ty=>bif Nat.beq ty.size sz&&Nat.blt 0 sz&&Nat.blt 0 L&&Nat.ble L 65536&&Nat.beq cs.length (L*sz) then (match exRows true ty (chunkS sz L cs) with
   | some xs=>some (.newA (.row true ty xs e 0),okT)
   | none=>match exRows false ty (chunkS sz L cs) with
    | some xs=>some (.newA (.row false ty xs e 0),okT)
    | none=>none) else none
  | _,_=>none
 | _=>none
def allocA (T:Tab) (e:TypeId):MO V:=match lk T.inf e with
 | some (some z,_,_)=>bif allOne (z.cells.toList.map avOf) then arrRow T e (zeroS z) else none
 | _=>none
def boxA (T:Tab) (st:SSt V) (e:TypeId) (x:SV V):MO V:=bif allOneS st x.cells then arrRow T e x.cells else none
def storeA (T:Tab) (st:SSt V) (t:TypeId) (a v:SV V):MO V:=match lk T.und t,lk T.inf t,a with
 | some (.array L _),some (_,s,_),.elt id ver i o=>match st.blk id with
  | .row fr ty xs e ver'=>bif Nat.beq ver ver'&&i.zero?&&Nat.beq o 0&&Nat.blt 0 L&&Nat.beq s (L*ty.size)&&allOneS st v.cells&&Nat.beq v.cells.length s then (match exRows fr ty (chunkS ty.size L v.cells) with
   | some xs'=>some (.upd id (.row fr ty xs' e ver') none,.ic .eq (.len xs) (.iL .i64 L))
   | none=>none) else none
  | _=>none
 | _,_,_=>none
def copyS (T:Tab) (st:SSt V) (t:TypeId) (x y:SV V):MO V:=match lk T.und t with
 | some (.slice e)=>match lk T.inf e,x with
  | some (_,sz,_),.osl id ver=>match st.blk id with
   | .row fr ty xs e' v=>bif Nat.beq ver v&&(Nat.beq sz ty.size&&ty.flatA) then (match srcC st ty y with
    | some (fr',ys)=>some (.upd id (.row (fr&&fr') ty (.app (.sub ys (.iL .i64 0) (.ib .min (.len ys) (.len xs))) (.sub xs (.ib .min (.len ys) (.len xs)) (.len xs))) e' v) (some (.int .i64 (.ib .min (.len ys) (.len xs)))),srcG st y)
    | none=>none) else none
   | _=>none
  | _,_=>none
 | _=>none
def copyVS (T:Tab) (st:SSt V) (t:TypeId) (x y:SV V):MO V:=match lk T.und t with
 | some (.slice e)=>match lk T.inf e,x with
  | some (_,sz,_),.vsl id ver lo hi=>match st.blk id with
   | .row fr ty xs e' v=>bif Nat.beq ver v&&(Nat.beq sz ty.size&&ty.flatA) then (match srcC st ty y with
    | some (fr',ys)=>some (.upd id (.row (fr&&fr') ty (.app (.sub xs (.iL .i64 0) lo) (.app (.sub ys (.iL .i64 0) (.ib .min (.len ys) (.ib .sub hi lo))) (.sub xs (.ib .add lo (.ib .min (.len ys) (.ib .sub hi lo))) (.len xs)))) e' v) (some (.int .i64 (.ib .min (.len ys) (.ib .sub hi lo)))),
     andE (srcG st y) (andE (leE (.iL .i64 0) lo) (andE (leE lo hi) (leE hi (.len xs)))))
    | none=>none) else none
   | _=>none
  | _,_=>none
 | _=>none
def zapS (T:Tab) (st:SSt V) (t t':TypeId) (x y:SV V):MO V:=match lk T.und t,lk T.und t' with
 | some (.slice e),some (.int _)=>match lk T.inf e,x,y with
  | some (some z,1,1),.osl id ver,.int _ L=>match st.blk id with
   | .row fr ty xs e' v=>bif Nat.beq ver v&&(Nat.beq e' e&&(Nat.beq ty.size 1&&(ty.flatA&&(allOne (z.cells.toList.map avOf)&&Nat.beq z.cells.toList.length 1)))) then (match exA fr ty (zeroS z) with
    | some x0=>bif st.refs (fun _=>true) (fun i w=>!(Nat.beq i id&&Nat.beq w (v+1))) then
      some (.upd id (.row fr ty (.app xs (.rep L x0)) e' (v+1)) (some (.osl id (v+1))),andE (leE (.iL .i64 0) L) (andE (leE (.len xs) (.iL .i64 500000)) (leE L (.iL .i64 500000)))) else none
    | none=>none) else none
   | _=>none
  | _,_,_=>none
 | _,_=>none
def copyB (T:Tab) (st:SSt V) (t:TypeId) (x y:SV V):MO V:=match x with
 | .vsl ..=>copyVS T st t x y
 | _=>copyS T st t x y
def memN (T:Tab) (st:SSt V) (d:Option Nat):Op→MO V
 | .alloc e=>allocA T e
 | .box e x=>boxA T st e (st.ev x)
 | .store t a v=>match d with
  | none=>storeA T st t (st.ev a) (st.ev v)
  | some _=>none
 | .call ⟨.builtin .copy,⟨[x,y]⟩,⟨[t,_]⟩⟩=>copyB T st t (st.ev x) (st.ev y)
 | .call ⟨.builtin .append,⟨[x,y]⟩,⟨[t,t']⟩⟩=>zapS T st t t' (st.ev x) (st.ev y)
 | _=>none
def storeArn (T:Tab) (st:SSt V) (t:TypeId) (a v:SV V):MO V:=match lk T.inf t,a with
 | some (_,s,_),.aelt e i=>match st.blk 0 with
  | .arn ty xs e'=>bif allOneS st v.cells&&Nat.beq v.cells.length s&&Nat.ble s ty.size then (match exA false ty (setRS (cellsE false ty (.at (.at xs e.aixK') i)) 0 v.cells) with
   | some x=>some (.upd 0 (.arn ty (.set xs e.aixK' (.set (.at xs e.aixK') i x)) e') none,arnG xs e)
   | none=>none) else none
  | _=>none
 | _,_=>none
def appArn (T:Tab) (st:SSt V) (t:TypeId) (x y:SV V):MO V:=match lk T.und t,x with
 | some (.slice e),.aosl a=>match lk T.inf e with
  | some (some z,sz,b)=>match st.blk 0 with
   | .arn ty xs e'=>bif Nat.beq z.cells.size sz&&(Nat.beq e' e&&(Nat.beq sz ty.size&&ty.flatA)) then (match srcC st ty y with
    | some (_,ys)=>some (.upd 0 (.arn ty (.set xs a.aixK' (.app (.at xs a.aixK') ys)) e') (some (.aosl (.aixI a.aixK' (.ib .add a.aixN' (.len ys))))),
      andE (andE (arnG xs a) (.ic .lt a.aixK' (.len xs))) (andE (srcG st y) (leE (.ib .mul (.ib .add (.len (.at xs a.aixK')) (.len ys)) (.iL .i64 (bmul b:Nat))) (.iL .i64 140737488355328))))
    | none=>none) else none
   | _=>none
  | _=>none
 | _,_=>none
def memArn (T:Tab) (st:SSt V) (d:Option Nat):Op→MO V
 | .store t a v=>match d with
  | none=>storeArn T st t (st.ev a) (st.ev v)
  | some _=>none
 | .call ⟨.builtin .append,⟨[x,y]⟩,⟨[t,t']⟩⟩=>bif Nat.beq t' t then appArn T st t (st.ev x) (st.ev y) else none
 | _=>none
def mem (T:Tab) (st:SSt V) (d:Option Nat) (o:Op):MO V:=match memN T st d o with
 | some r=>some r
 | none=>match mem0 T st d o with
  | some r=>some r
  | none=>memArn T st d o
def boxPk (T:Tab) (st:SSt V) (e:TypeId) (x:SV V):MO V:=match tyT T 8 e with
 | some t=>bif allOneS st x.cells&&t.dat&&!x.cells.isEmpty then (match exA false t x.cells with
  | some y=>some (.reg (.pk false t y 0),okT)
  | none=>none) else none
 | none=>none
def truncS (T:Tab) (st:SSt V):Op→MO V
 | .box e x=>boxPk T st e (st.ev x)
 | .makeSlice t x y=>makeS T Ty.toA t x y (st.ev x) (st.ev y)
 | .buildSlice t L parts=>litS T Ty.toA st t L parts
 | .call ⟨.builtin .append,⟨[x,y]⟩,⟨[t,t']⟩⟩=>bif Nat.beq t' t then appS T Ty.toA st t (st.ev x) (st.ev y) else none
 | .slice t x lo hi none=>match lk T.und t with
  | some (.slice e)=>match st.ev x,lk T.inf e with
   | .osl id ver,some (_,sz,_)=>match st.blk id with
    | .row fr ty xs e' v=>match bndI (.iL .i64 0) (lo.map st.ev),bndI (.len xs) (hi.map st.ev) with
     | some l,some h=>bif Nat.beq ver v&&(Nat.beq sz ty.size&&(l.zero?&&st.refs (fun _=>true) (fun i w=>!(Nat.beq i id&&Nat.beq w (v+1))))) then
       some (.upd id (.row fr ty (.sub xs (.iL .i64 0) h) e' (v+1)) (some (.osl id (v+1))),bndG (.iL .i64 0:E V (.int .i64)) h (.len xs) hi.isNone) else none
     | _,_=>none
    | _=>none
   | _,_=>none
  | _=>none
 | _=>none
def memSt (st:SSt V) (d:Option Nat) (r:MR V):Option (SSt V):=match r with
 | .new b row=>bif st.refs (fun id=>!Nat.beq id st.nx) (fun id _=>!Nat.beq id st.nx) then some (MR.app st d (.new b row)) else none
 | .newA b=>bif st.refs (fun id=>!Nat.beq id st.nx) (fun id _=>!Nat.beq id st.nx) then some (MR.app st d (.newA b)) else none
 | r=>some (MR.app st d r)
end
section
variable {m:Nat→Nat} {H:Nat→SB D}
theorem exC_ok (fr:Bool):∀ (t:Ty) (cs:List (SV D)) (e:E D t) (rest:List (SV D)),exC fr t cs=some (e,rest)→∃ pre,cs=pre++rest∧LesL (t.cells fr e.den) (SV.encL m H pre)
 | .int k,cs,e,rest,h=>by
  cases cs with
  | nil=>rw [exC] at h;cases h;all_goals simp
  | cons c l =>
   cases c <;> simp only [exC,reduceCtorEq] at h
   split at h
   ·rename_i k' e' hk;subst hk;simp only [Option.some.injEq,Prod.mk.injEq] at h;obtain ⟨rfl,rfl⟩:=h;exact ⟨[.int k' e'],rfl,by rw [SV.encL,SV.encL,SV.enc,Ty.cells];exact .refl _⟩
   ·cases h
 | .bool,cs,e,rest,h=>by
  cases cs with
  | nil=>rw [exC] at h;cases h;all_goals simp
  | cons c l =>
   cases c <;> simp only [exC,reduceCtorEq,Option.some.injEq,Prod.mk.injEq] at h
   obtain ⟨rfl,rfl⟩:=h;rename_i e';exact ⟨[.bool e'],rfl,by rw [SV.encL,SV.encL,SV.enc,Ty.cells];exact .refl _⟩
 | .str,cs,e,rest,h=>by
  cases cs with
  | nil=>rw [exC] at h;cases h;all_goals simp
  | cons c l =>
   cases c <;> simp only [exC,reduceCtorEq,Option.some.injEq,Prod.mk.injEq] at h
   obtain ⟨rfl,rfl⟩:=h;rename_i e';exact ⟨[.str e'],rfl,by rw [SV.encL,SV.encL,SV.enc,Ty.cells];exact .refl _⟩
 | .list t,cs,e,rest,h=>by
  cases cs with
  | nil=>rw [exC] at h;cases h;all_goals simp
  | cons c l =>
   cases c <;> simp only [exC,reduceCtorEq,Option.some.injEq,Prod.mk.injEq] at h
   ·obtain ⟨rfl,rfl⟩:=h;exact ⟨[.nils],rfl,by rw [SV.encL,SV.encL,SV.enc,Ty.cells];exact .cons (.nilro fr t.size) .nil⟩
   ·rename_i fr' t' e'
    cases hc:(!fr||fr') with
    | false=>rw [hc] at h;cases h
    | true =>
     rw [hc] at h;simp only [cond_true] at h;split at h
     ·rename_i ht _;subst ht;simp only [Option.some.injEq,Prod.mk.injEq] at h;obtain ⟨rfl,rfl⟩:=h;refine ⟨[.ro fr' t' e'],rfl,?_⟩;rw [SV.encL,SV.encL,SV.enc,Ty.cells];refine .cons ?_ .nil
      cases fr <;> cases fr' <;> first | exact .refl _ | (cases hc;done) | exact .unfr _ _
     ·cases h
 | .unit,cs,e,rest,h=>by
  rw [exC] at h;simp only [Option.some.injEq,Prod.mk.injEq] at h;obtain ⟨rfl,rfl⟩:=h;exact ⟨[],rfl,by rw [SV.encL,Ty.cells];exact .nil⟩
 | .pair a b,cs,e,rest,h=>by
  rw [exC] at h;split at h
  ·rename_i x l' h1;split at h
   ·rename_i y l'' h2;simp only [Option.some.injEq,Prod.mk.injEq] at h;obtain ⟨rfl,rfl⟩:=h;obtain ⟨p1,e1,g1⟩:=exC_ok fr a cs x l' h1;obtain ⟨p2,e2,g2⟩:=exC_ok fr b l' y l'' h2;refine ⟨p1++p2,by rw [e1,e2,List.append_assoc],?_⟩;rw [encL_map,List.map_append,←encL_map,←encL_map,Ty.cells];exact g1.append g2
   ·cases h
  ·cases h
 | .agg t,cs,e,rest,h=>by
  rw [exC] at h;split at h
  ·rename_i x l' h1;simp only [Option.some.injEq,Prod.mk.injEq] at h;obtain ⟨rfl,rfl⟩:=h;obtain ⟨p1,e1,g1⟩:=exC_ok fr t cs x l' h1;exact ⟨p1,e1,by rw [Ty.cells];exact g1⟩
  ·cases h
 | .ptr t,cs,e,rest,h=>by
  rw [exC] at h;cases h
  all_goals simp
 | .aix,cs,e,rest,h=>by
  cases cs with
  | nil=>rw [exC] at h;cases h;all_goals simp
  | cons c l =>
   cases c <;> simp only [exC,reduceCtorEq,Option.some.injEq,Prod.mk.injEq] at h
   ·obtain ⟨rfl,rfl⟩:=h;exact ⟨[.nils],rfl,by rw [SV.encL,SV.encL,SV.enc,Ty.cells];exact .refl _⟩
   ·obtain ⟨rfl,rfl⟩:=h;rename_i e';exact ⟨[.aosl e'],rfl,by rw [SV.encL,SV.encL,SV.enc,Ty.cells];exact .refl _⟩
theorem exA_ok {fr:Bool} {t:Ty} {cs:List (SV D)} {e:E D t} (h:exA fr t cs=some e):LesL (t.cells fr e.den) (SV.encL m H cs):=by
 unfold exA at h;split at h
 ·rename_i x h1;injection h with h
  subst h;obtain ⟨pre,e1,g⟩:=exC_ok (m:=m) (H:=H) fr t cs x [] h1;rw [e1,List.append_nil];exact g
 ·cases h
theorem exRows_ok {fr:Bool} {t:Ty}:∀ {rows:List (List (SV D))} {xs:E D (.list t)},exRows fr t rows=some xs→List.length xs.den=rows.length∧∀ (i:Nat) (row:List (SV D)) (x:t.den),rows[i]?=some row→(xs.den:List t.den)[i]?=some x→LesL (t.cells fr x) (SV.encL m H row)
 | [],xs,h=>by
  rw [exRows] at h;injection h with h
  subst h;exact ⟨rfl,fun i row x hr=>by simp at hr⟩
 | r::l,xs,h=>by
  rw [exRows] at h;split at h
  ·rename_i x xs' h1 h2;injection h with h
   subst h;obtain ⟨g1,g2⟩:=exRows_ok h2;refine ⟨by show List.length (x.den::(xs'.den:List t.den))=_;simp [g1],fun i row y hr hy=>?_⟩
   cases i with
   | zero =>
    simp only [List.getElem?_cons_zero,Option.some.injEq] at hr;have hy:some x.den=some y:=hy;injection hy with hy
    subst hr;subst hy
    exact exA_ok h1
   | succ i=>exact g2 i row y (by simpa using hr) hy
  ·cases h
end
end Go.Proofs.Ytljebnobajmjnaa
