/- More operations of the run: arrays as rows, comparisons with nil, the greatest of several. No program in sight. -/
import Derived.Test.YtelpkjellakigaaZHT65
import Derived.Sort.Row
import Derived.Sort.Grow
import Derived.Shelf.GgSortFunc.Insertion
import Derived.Shelf.SlSortCmp.NoneTotal
import Derived.Test.YtelpkjellakigaaChecked
import Derived.Below
/- More operations of the run: arrays as rows,comparisons with nil,the greatest of several. No program in sight. -/
namespace Go.Proofs.Ytelpkjellakigaa.Rn
open Go Go.RowKit Go.Proofs.Ytelpkjellakigaa Go.Proofs.Ytelpkjellakigaa.Dr

section
variable {P:Program} {n:Nat} {T:Tab} {st st':ASt} {d:Option Nat} {ty t t':TypeId} {ps:String} {af:Array Edge} {g:Option (Nat×Bool)} {x y:Operand}
theorem eq_nils {t e:TypeId} (hT:P.underlying t=some (.slice e)) (w:World):(Op.equal t (.slice none 0 0) (.slice none 0 0)).run P w=.ok true w:=by
 unfold Op.equal;rw [show Op.maxDepth=9999+1 from rfl,Op.equalIn];simp [run_underlying hT]
theorem eq_someNil {t e:TypeId} {a:Addr} {m c:Nat} (hT:P.underlying t=some (.slice e)) (w:World):(Op.equal t (.slice (some a) m c) (.slice none 0 0)).run P w=.ok false w:=by
 unfold Op.equal;rw [show Op.maxDepth=9999+1 from rfl,Op.equalIn];simp [run_underlying hT]
theorem op_nilEq {neq:Bool} {e:TypeId} (hx:st.ev x=.nils) (hy:st.ev y=.nils) (hT:P.underlying t=some (.slice e)) (hd:dok d n=true) :
  OpR P n ⟨d,.binOp (bif neq then .neq else .eql) t x y t',ty,ps,af,g⟩ st (.bool (!neq)):=.mk hd fun K a w G rr=>by
 have e1:=rr.ev x;rw [hx] at e1;have e1:=e1.nils';have e2:=rr.ev y;rw [hy] at e2;have e2:=e2.nils';refine ⟨.bool (!neq),fun w' _=>?_,.dat (.bool _)⟩
 cases neq <;> simp [execOp,e1,e2,binOp,eqGuard,eq_nils hT w']
theorem op_oslNil {neq:Bool} {e:TypeId} {id m sz:Nat} {rows:List (List AV)} {e':TypeId} (hx:st.ev x=.osl id m) (hb:look .dead st.heap id=.row sz rows e') (hm:m=rows.length) (h0:0<m) (hy:st.ev y=.nils) (hT:P.underlying t=some (.slice e)) (hd:dok d n=true) :
  OpR P n ⟨d,.binOp (bif neq then .neq else .eql) t x y t',ty,ps,af,g⟩ st (.bool neq):=.mk hd fun K a w G rr=>by
 have e1:=rr.ev x;rw [hx] at e1;obtain ⟨gg,c,flat,q1,q2,q3,q4,q5,q6,q7,q8⟩:=rr.rowAt hb hm h0;have e2:=rr.ev y;rw [hy] at e2;have e2:=e2.nils';refine ⟨.bool neq,fun w' _=>?_,.dat (.bool _)⟩;generalize he:a.eval x=v at e1
 cases e1 with
 | dat h=>cases h
 | osl _ _ _ hid hs hn hv hr =>
  have e3:=hr (by rw [q5,hm]);rw [q1] at e3;subst e3
  cases neq <;> simp [execOp,he,e2,binOp,eqGuard,eq_someNil hT w']
theorem eq_ptrs {t e:TypeId} (hT:P.underlying t=some (.pointer e)) (w:World):(Op.equal t (.pointer none) (.pointer none)).run P w=.ok true w:=by
 unfold Op.equal;rw [show Op.maxDepth=9999+1 from rfl,Op.equalIn];simp [run_underlying hT]
theorem eq_somePtr {t e:TypeId} {a:Addr} (hT:P.underlying t=some (.pointer e)) (w:World):(Op.equal t (.pointer (some a)) (.pointer none)).run P w=.ok false w:=by
 unfold Op.equal;rw [show Op.maxDepth=9999+1 from rfl,Op.equalIn];simp [run_underlying hT]
theorem op_nilpEq {neq:Bool} {e:TypeId} (hx:st.ev x=.nilp) (hy:st.ev y=.nilp) (hT:P.underlying t=some (.pointer e)) (hd:dok d n=true) :
  OpR P n ⟨d,.binOp (bif neq then .neq else .eql) t x y t',ty,ps,af,g⟩ st (.bool (!neq)):=.mk hd fun K a w G rr=>by
 have e1:=rr.ev x;rw [hx] at e1;have e2:=rr.ev y;rw [hy] at e2;refine ⟨.bool (!neq),fun w' _=>?_,.dat (.bool _)⟩;generalize he1:a.eval x=v1 at e1;generalize he2:a.eval y=v2 at e2
 cases e1 with
 | dat h1 =>
  cases h1
  cases e2 with
  | dat h2 =>
   cases h2
   cases neq <;> simp [execOp,he1,he2,binOp,eqGuard,eq_ptrs hT w']
theorem op_boxNil {neq:Bool} {e:TypeId} {id off:Nat} (hx:st.ev x=.box id off) (hy:st.ev y=.nilp) (hT:P.underlying t=some (.pointer e)) (hd:dok d n=true) :
  OpR P n ⟨d,.binOp (bif neq then .neq else .eql) t x y t',ty,ps,af,g⟩ st (.bool neq):=.mk hd fun K a w G rr=>by
 have e1:=rr.ev x;rw [hx] at e1;have e2:=rr.ev y;rw [hy] at e2;refine ⟨.bool neq,fun w' _=>?_,.dat (.bool _)⟩;generalize he1:a.eval x=v1 at e1;generalize he2:a.eval y=v2 at e2
 cases e2 with
 | dat h2 =>
  cases h2
  cases e1 with
  | dat h=>cases h
  | box _ _ g hid hs hr =>
   cases neq <;> simp [execOp,he1,he2,binOp,eqGuard,eq_somePtr hT w']
theorem foldMax (k:IntKind) (w:World):∀ (ns:List Int) (m:Int),((ns.map fun q=>Value.int k q).foldlM Builtin.max2 (.int k m)).run P w=.ok (.int k (ns.foldl max m)) w
 | [],m=>by simp
 | q::ns,m=>by
  have h:(Builtin.max2 (.int k m) (.int k q)).run P w=.ok (.int k (max m q)) w:=by
   have:(if m<q then q else m)=max m q:=by split <;> omega
   simp [Builtin.max2,this]
  rw [List.map_cons,List.foldlM_cons,List.foldl_cons];simp [h,foldMax k w ns]
theorem foldMin (k:IntKind) (w:World):∀ (ns:List Int) (m:Int),((ns.map fun q=>Value.int k q).foldlM Builtin.min2 (.int k m)).run P w=.ok (.int k (ns.foldl min m)) w
 | [],m=>by simp
 | q::ns,m=>by
  have h:(Builtin.min2 (.int k m) (.int k q)).run P w=.ok (.int k (min m q)) w:=by
   have:(if q<m then q else m)=min m q:=by split <;> omega
   simp [Builtin.min2,this]
  rw [List.map_cons,List.foldlM_cons,List.foldl_cons];simp [h,foldMin k w ns]
theorem ints_eval {K:Kn} {a:Act} {w:World} {G:Gh} (r:RelG K n st a w G) {k:IntKind}:∀ (l:List Operand) (ns:List Int),l.map st.ev=ns.map (AV.int k)→l.map a.eval=ns.map (fun q=>Value.int k q)
 | [],[],_=>rfl
 | [],_::_,h=>by simp at h
 | _::_,[],h=>by simp at h
 | y::l,q::ns,h=>by
  simp only [List.map_cons,List.cons.injEq] at h;have e:=r.ev y;rw [h.1] at e;rw [List.map_cons,List.map_cons,e.int',ints_eval r l ns h.2]
theorem op_maxs {hi:Bool} {k:IntKind} {args:List Operand} {tt:Array TypeId} {m:Int} {ns:List Int} (h:intsOf k (args.map st.ev)=some (m::ns)) (hd:dok d n=true) :
  OpR P n ⟨d,.call {callee:=.builtin (bif hi then .max else .min),args:=⟨args⟩,argTypes:=tt },ty,ps,af,g⟩ st (.int k (bif hi then ns.foldl max m else ns.foldl min m)):=.mk hd fun K a w G rr=>by
 have e:=ints_eval rr args (m::ns) (intsOf_eq h);refine ⟨_,fun w' _=>?_,.dat (.int _ _)⟩;have e2:(Array.map a.eval ⟨args⟩).toList=(m::ns).map (fun q=>Value.int k q):=by rw [Array.toList_map];exact e
 have e3:Array.map a.eval ⟨args⟩=((m::ns).map (fun q=>Value.int k q)).toArray:=by rw [←e2]
 cases hi
 ·have:=foldMin (P:=P) k w' ns m;simp [execOp,resolve,invoke,builtin,e3,Builtin.min_,this]
 ·have:=foldMax (P:=P) k w' ns m;simp [execOp,resolve,invoke,builtin,e3,Builtin.max_,this]
theorem op_compl' {k:IntKind} {m:Int} (hx:st.ev x=.int k m) (hd:dok d n=true):OpR P n ⟨d,.unOp .xor t x,ty,ps,af,g⟩ st (.int k (bits .xor k (if k.signed then -1 else k.max) m)) :=
 .mk hd fun K a w G rr=>by
  have e1:=rr.ev x;rw [hx] at e1;have e1:=e1.int';exact ⟨_,fun w' _=>by simp [execOp,e1,Op.unary,intBits_xor],.dat (.int _ _)⟩
end
def arrOf (T:Tab) (t:TypeId):Option (Nat×TypeId×Option Value×Nat):=match lk T.und t with
 | some (.array L e)=>match lk T.inf e with
  | some (z,s,b)=>bif Nat.beq s 1 then some (L,e,z,b) else none
  | none=>none
 | _=>none
theorem arrOf_ok {P:Program} {T:Tab} {t:TypeId} {L:Nat} {e:TypeId} {z:Option Value} {b:Nat} (hT:T.ok P) (h:arrOf T t=some (L,e,z,b)):P.underlying t=some (.array L e)∧tyI P e=some (z,1,b):=by
 unfold arrOf at h;split at h
 ·rename_i L' e' h1;split at h
  ·rename_i z' s' b' h2
   cases hs:Nat.beq s' 1 with
   | false=>rw [hs] at h;cases h
   | true =>
    rw [hs] at h;simp only [cond_true,Option.some.injEq,Prod.mk.injEq] at h;obtain ⟨rfl,rfl,rfl,rfl⟩:=h;have:=Nat.eq_of_beq_eq_true hs;subst this;exact ⟨allP_at hT.und h1,allP_at hT.inf h2⟩
  ·cases h
 ·cases h
def ones (cs:List AV):List (List AV):=cs.map fun a=>[a]
theorem ones_flat:∀ cs:List AV,(ones cs).flatten=cs
 | []=>rfl
 | a::l=>by
  show [a]++(ones l).flatten=_;rw [ones_flat l];rfl
theorem ones_row {cs:List AV}:∀ r ∈ ones cs,r.length=1:=fun r hr=>by
 obtain ⟨a,_,rfl⟩:=List.mem_map.1 hr;rfl
theorem ones_len (cs:List AV):(ones cs).length=cs.length:=List.length_map _
def isArr (T:Tab):Op→Bool
 | .alloc e=>(arrOf T e).isSome
 | .box e _=>(arrOf T e).isSome
 | _=>false
def memX (T:Tab) (st:ASt) (d:Option Nat):Op→Option ASt
 | .alloc e=>match arrOf T e,lk T.inf e with
  | some _,some (some z,_,_)=>bif allOne (z.cells.toList.map avOf)&&Nat.blt 0 z.cells.toList.length&&Nat.ble z.cells.toList.length 1000000 then
    some ((st.hnew (.row 1 (ones (z.cells.toList.map avOf)) e)).put d (.elt st.nx (z.cells.toList.map avOf).length 0 0)) else none
  | _,_=>none
 | .box e x=>match arrOf T e with
  | some _=>bif allOne (st.ev x).cells&&Nat.blt 0 (st.ev x).cells.length&&Nat.ble (st.ev x).cells.length 1000000 then
    some ((st.hnew (.row 1 (ones (st.ev x).cells) e)).put d (.elt st.nx (st.ev x).cells.length 0 0)) else none
  | none=>none
 | .store t a v=>match d,st.ev a with
  | none,.elt id m 0 0=>match arrOf T t,look .dead st.heap id,lk T.inf t with
   | some _,.row 1 rows e,some (_,s,_)=>bif Nat.beq m rows.length&&Nat.blt 0 m&&allOne (st.ev v).cells&&Nat.beq (st.ev v).cells.length m&&Nat.beq s m&&rows.all (fun r=>Nat.beq r.length 1) then
     some (st.hset id (.row 1 (ones (st.ev v).cells) e)) else none
   | _,_,_=>none
  | _,_=>none
 | .makeSlice t l c=>match lk T.und t,st.ev l,st.ev c with
  | some (.slice e),.int _ L,.int _ C=>match lk T.inf e with
   | some (some z,sz,b)=>bif decide (0≤L)&&decide (L<C)&&decide ((b:Int)*C≤281474976710656)&&decide (C≤9223372036854775807)&&Nat.beq (z.cells.toList.map avOf).length sz&&Nat.blt 0 sz&&allOne (z.cells.toList.map avOf) then
     some ((st.hnew (.row sz (List.replicate L.toNat (z.cells.toList.map avOf)) e)).put d (.osl st.nx L.toNat)) else none
   | _=>none
  | _,_,_=>none
 | .convert t t' x=>match st.ev x with
  | .str s=>match lk T.und t,lk T.und t' with
   | some .string,some (.slice e)=>match lk T.und e with
    | some (.int .u8)=>bif Nat.ble s.size 1000000 then some ((st.hnew (.row 1 (strRows s) e)).put d (.osl st.nx (strRows s).length)) else none
    | _=>none
   | _,_=>none
  | .osl id m=>bif Nat.beq t t' then (match lk T.und t with
   | some (.slice e)=>match lk T.und e,look .dead st.heap id with
    | some (.int .u8),.row sz rows e'=>bif Nat.beq m rows.length&&Nat.blt 0 m then some ((st.hset id (.row sz rows e')).put d (.osl id m)) else none
    | _,_=>none
   | _=>none) else none
  | _=>none
 | .call ⟨.builtin .append,⟨[x,y]⟩,⟨[t,t']⟩⟩=>match st.ev x,st.ev y with
  | .osl id m,.str s=>match lk T.und t,lk T.und t' with
   | some (.slice e),some .string=>match lk T.inf e,look .dead st.heap id with
    | some (some z,1,1),.row 1 rows e'=>bif Nat.beq e' e&&Nat.beq m rows.length&&Nat.blt 0 s.size&&Nat.ble (rows.length+s.size) 1000000&&Nat.beq z.cells.size 1 then
      some ((st.hset id (.row 1 (rows++strRows s) e)).put d (.osl id (rows.length+s.size))) else none
    | _,_=>none
   | _,_=>none
  | .osl id m,.int _ L=>match lk T.und t,lk T.und t' with
   | some (.slice e),some (.int _)=>match lk T.inf e,look .dead st.heap id with
    | some (some z,1,1),.row 1 rows e'=>match z.cells.toList with
     | [c]=>bif Nat.beq e' e&&Nat.beq m rows.length&&decide (0<L)&&Nat.ble (rows.length+L.toNat) 1000000&&c.oneCell' then
      some ((st.hset id (.row 1 (rows++List.replicate L.toNat [avOf c]) e)).put d (.osl id (rows.length+L.toNat))) else none
     | _=>none
    | _,_=>none
   | _,_=>none
  | _,_=>none
 | _=>none
def rdX (T:Tab) (st:ASt):Op→Option AV
 | .binOp .eql t x y _=>match lk T.und t,st.ev x,st.ev y with
  | some (.pointer _),.nilp,.nilp=>some (.bool true)
  | some (.pointer _),.box _ _,.nilp=>some (.bool false)
  | some (.slice _),.nils,.nils=>some (.bool true)
  | some (.slice _),.osl id m,.nils=>match look .dead st.heap id with
   | .row _ rows _=>bif Nat.beq m rows.length&&Nat.blt 0 m then some (.bool false) else none
   | _=>none
  | _,_,_=>none
 | .binOp .neq t x y _=>match lk T.und t,st.ev x,st.ev y with
  | some (.pointer _),.nilp,.nilp=>some (.bool false)
  | some (.pointer _),.box _ _,.nilp=>some (.bool true)
  | some (.slice _),.nils,.nils=>some (.bool false)
  | some (.slice _),.osl id m,.nils=>match look .dead st.heap id with
   | .row _ rows _=>bif Nat.beq m rows.length&&Nat.blt 0 m then some (.bool true) else none
   | _=>none
  | _,_,_=>none
 | .call ⟨.builtin .max,⟨args⟩,_⟩=>match intsOf .i64 (evL st args []) with
  | some (m::ns)=>some (.int .i64 (ns.foldl max m))
  | _=>none
 | .call ⟨.builtin .min,⟨args⟩,_⟩=>match intsOf .i64 (evL st args []) with
  | some (m::ns)=>some (.int .i64 (ns.foldl min m))
  | _=>none
 | .build t parts=>match lk T.und t,lk T.inf t with
  | some (.array _ e),some (some z,_,_)=>match lk T.inf e with
   | some (_,ss,_)=>bif allOne (z.cells.toList.map avOf) then (match fillA (fun i=>some (i*ss,ss)) (z.cells.toList.map avOf) (evParts st parts.toList) with
    | some out=>some (.agg out)
    | none=>none) else none
   | none=>none
  | _,_=>none
 | .unOp .xor _ x=>match st.ev x with
  | .int k m=>some (.int k (bits .xor k (if k.signed then -1 else k.max) m))
  | _=>none
 | .indexAddr t x y=>match st.ev x,st.ev y with
  | .elt id m 0 0,.int _ i=>match arrOf T t,look .dead st.heap id with
   | some (L,_,_,_),.row 1 rows _=>bif Nat.beq m rows.length&&decide (0≤i)&&decide (i<(L:Int))&&decide (i<(m:Int)) then some (.elt id m i.toNat 0) else none
   | _,_=>none
  | _,_=>none
 | .load t x=>match st.ev x with
  | .elt id m 0 0=>match arrOf T t,look .dead st.heap id,lk T.inf t with
   | some _,.row 1 rows _,some (_,s,_)=>bif Nat.beq m rows.length&&Nat.blt 0 m&&Nat.beq s m then some (.agg rows.flatten) else none
   | _,_,_=>none
  | _=>none
 | .slice t x lo hi none=>match st.ev x with
  | .elt id m 0 0=>match arrOf T t,look .dead st.heap id with
   | some (L,_,_,_),.row 1 rows _=>match bndN st 0 lo,bndN st m hi with
    | some l,some h=>bif Nat.beq m rows.length&&Nat.beq L m&&Nat.blt 0 m&&inB3 l h m then some (.vsl id m l.toNat (h.toNat-l.toNat)) else none
    | _,_=>none
   | _,_=>none
  | _=>none
 | _=>none
section
variable {P:Program} {n:Nat} {T:Tab} {st st':ASt} {o:Oper} {x:AV}
theorem memX_ok (hT:T.ok P) (h:memX T st o.dst o.op=some st') (hd:dok o.dst n=true):OpV P n o st st':=by
 obtain ⟨d,op,ty,ps,af,g⟩:=o;simp only at h;have hd:dok d n=true:=hd;unfold memX at h;split at h
 ·split at h
  ·rename_i e _ q z s b h1 h2
   cases hc:(allOne (z.cells.toList.map avOf)&&Nat.blt 0 z.cells.toList.length&&Nat.ble z.cells.toList.length 1000000) with
   | false=>rw [hc] at h;cases h
   | true =>
    rw [hc] at h;simp only [cond_true,Option.some.injEq] at h;simp only [Bool.and_eq_true] at hc;obtain ⟨⟨c1,c2⟩,c3⟩:=hc;have c2:0<z.cells.toList.length:=by simpa using c2
    have c3:=Nat.le_of_ble_eq_true c3;subst h;have key:=op_alloc_arr (P:=P) (n:=n) (st:=st) (d:=d) (ty:=ty) (ps:=ps) (af:=af) (g:=g) (rows:=ones (z.cells.toList.map avOf)) (sz:=1) (allP_at hT.inf h2) (ones_flat _).symm (by rw [ones_flat];exact c1) (by omega) (by rw [ones_len,List.length_map];exact c2) (by rw [ones_len,List.length_map];exact Nat.le_trans c3 (by decide)) ones_row hd;rw [ones_len] at key;exact key
  ·cases h
 ·rename_i e y;split at h
  ·rename_i q h1
   cases hc:(allOne (st.ev y).cells&&Nat.blt 0 (st.ev y).cells.length&&Nat.ble (st.ev y).cells.length 1000000) with
   | false=>rw [hc] at h;cases h
   | true =>
    rw [hc] at h;simp only [cond_true,Option.some.injEq] at h;simp only [Bool.and_eq_true] at hc;obtain ⟨⟨c1,c2⟩,c3⟩:=hc;have c2:0<(st.ev y).cells.length:=by simpa using c2
    have c3:=Nat.le_of_ble_eq_true c3;subst h;have key:=op_box_arr (P:=P) (n:=n) (st:=st) (d:=d) (ty:=ty) (ps:=ps) (af:=af) (g:=g) (e:=e) (x:=y) (rows:=ones (st.ev y).cells) (sz:=1) (ones_flat _).symm (by rw [ones_flat];exact c1) (by omega) (by rw [ones_len];exact c2) (by rw [ones_len];exact Nat.le_trans c3 (by decide)) ones_row hd;rw [ones_len] at key;exact key
  ·cases h
 ·rename_i t a v;split at h
  ·rename_i id m ha _;split at h
   ·rename_i q rows e z s b h1 h2 h3
    cases hc:(Nat.beq m rows.length&&Nat.blt 0 m&&allOne (st.ev v).cells&&Nat.beq (st.ev v).cells.length m&&Nat.beq s m&&rows.all (fun r=>Nat.beq r.length 1)) with
    | false=>rw [hc] at h;cases h
    | true =>
     rw [hc] at h;simp only [cond_true,Option.some.injEq] at h;simp only [Bool.and_eq_true] at hc;obtain ⟨⟨⟨⟨⟨c1,c2⟩,c3⟩,c4⟩,c5⟩,c6⟩:=hc;have c1:=Nat.eq_of_beq_eq_true c1;have c2:0<m:=by simpa using c2
     have c4:=Nat.eq_of_beq_eq_true c4;have c5:=Nat.eq_of_beq_eq_true c5;subst h;exact op_store_arr ha h2 c1 c2 (ones_flat _).symm (by rw [ones_flat];exact c3) (allP_at hT.inf h3) (by rw [ones_flat,c4,c5]) (by rw [ones_len,c4]) ones_row
   ·cases h
  ·cases h
 ·rename_i t l c;split at h
  ·rename_i e k1 L k2 C hu hl hc;split at h
   ·rename_i z sz b hI
    cases hb:(decide (0≤L)&&decide (L<C)&&decide ((b:Int)*C≤281474976710656)&&decide (C≤9223372036854775807)&&Nat.beq (z.cells.toList.map avOf).length sz&&Nat.blt 0 sz&&allOne (z.cells.toList.map avOf)) with
    | false=>rw [hb] at h;cases h
    | true =>
     rw [hb] at h;simp only [cond_true,Option.some.injEq] at h;subst h;simp only [Bool.and_eq_true] at hb;obtain ⟨⟨⟨⟨⟨⟨b1,b2⟩,b3⟩,b4⟩,b5⟩,b6⟩,b7⟩:=hb;have b2:L<C:=of_decide_eq_true b2;exact op_makeC (allP_at hT.und hu) (allP_at hT.inf hI) rfl (Nat.eq_of_beq_eq_true b5) (by simpa using b6) b7 hl hc (of_decide_eq_true b1) (by omega) (of_decide_eq_true b3) (of_decide_eq_true b4) hd
   ·cases h
  ·cases h
 ·rename_i t t' y;split at h
  ·rename_i s hx;split at h
   ·rename_i e h1 h2;split at h
    ·rename_i h3
     cases hc:Nat.ble s.size 1000000 with
     | false=>rw [hc] at h;cases h
     | true =>
      rw [hc] at h;simp only [cond_true,Option.some.injEq] at h;subst h;exact op_conv_str hx (allP_at hT.und h1) (allP_at hT.und h2) (allP_at hT.und h3) (Nat.le_of_ble_eq_true hc) hd
    ·cases h
   ·cases h
  ·rename_i id m hx
   cases ht:Nat.beq t t' with
   | false=>rw [ht] at h;cases h
   | true =>
    rw [ht] at h;have ht:=Nat.eq_of_beq_eq_true ht;subst ht;simp only [cond_true] at h;split at h
    ·rename_i e h1;split at h
     ·rename_i sz rows e' h2 h3
      cases hc:(Nat.beq m rows.length&&Nat.blt 0 m) with
      | false=>rw [hc] at h;cases h
      | true =>
       rw [hc] at h;simp only [cond_true,Option.some.injEq] at h;subst h;simp only [Bool.and_eq_true] at hc;exact op_conv_mark hx h3 (Nat.eq_of_beq_eq_true hc.1) (by simpa using hc.2) (allP_at hT.und h1) (allP_at hT.und h2) hd
     ·cases h
    ·cases h
  ·cases h
 ·rename_i x y t t';split at h
  ·rename_i id m s hx hy;split at h
   ·rename_i e h1 h2;split at h
    ·rename_i z rows e' h3 h4
     cases hc:(Nat.beq e' e&&Nat.beq m rows.length&&Nat.blt 0 s.size&&Nat.ble (rows.length+s.size) 1000000&&Nat.beq z.cells.size 1) with
     | false=>rw [hc] at h;cases h
     | true =>
      rw [hc] at h;simp only [cond_true,Option.some.injEq] at h;subst h;simp only [Bool.and_eq_true] at hc;obtain ⟨⟨⟨⟨c1,c2⟩,c3⟩,c4⟩,c5⟩:=hc;have c1:=Nat.eq_of_beq_eq_true c1;subst c1;exact op_append_str hx h4 (Nat.eq_of_beq_eq_true c2) hy (by simpa using c3) (allP_at hT.und h1) (allP_at hT.und h2) (allP_at hT.inf h3) (Nat.eq_of_beq_eq_true c5) (Nat.le_of_ble_eq_true c4) hd
    ·cases h
   ·cases h
  ·rename_i id m kq L hx hy;split at h
   ·rename_i e kn h1 h2;split at h
    ·rename_i z rows e' h3 h4;split at h
     ·rename_i c h5
      cases hc:(Nat.beq e' e&&Nat.beq m rows.length&&decide (0<L)&&Nat.ble (rows.length+L.toNat) 1000000&&c.oneCell') with
      | false=>rw [hc] at h;cases h
      | true =>
       rw [hc] at h;simp only [cond_true,Option.some.injEq] at h;subst h;simp only [Bool.and_eq_true] at hc;obtain ⟨⟨⟨⟨c1,c2⟩,c3⟩,c4⟩,c5⟩:=hc;have c1:=Nat.eq_of_beq_eq_true c1;subst c1;exact op_append_zeros hx h4 (Nat.eq_of_beq_eq_true c2) hy (of_decide_eq_true c3) (allP_at hT.und h1) (allP_at hT.und h2) (allP_at hT.inf h3) h5 rfl c5 (Nat.le_of_ble_eq_true c4) hd
     ·cases h
    ·cases h
   ·cases h
  ·cases h
 ·cases h
theorem rdX_ok (hT:T.ok P) (h:rdX T st o.op=some x) (hd:dok o.dst n=true):OpR P n o st x:=by
 obtain ⟨d,op,ty,ps,af,g⟩:=o;simp only at h;have hd:dok d n=true:=hd;unfold rdX at h;split at h
 ·split at h
  ·rename_i hu hx hy;injection h with h
   subst h;exact op_nilpEq (neq:=false) hx hy (allP_at hT.und hu) hd
  ·rename_i hu hx hy;injection h with h
   subst h;exact op_boxNil (neq:=false) hx hy (allP_at hT.und hu) hd
  ·rename_i hu hx hy;injection h with h
   subst h;exact op_nilEq (neq:=false) hx hy (allP_at hT.und hu) hd
  ·rename_i id m hu hx hy;split at h
   ·rename_i sz rows e hb
    cases hc:(Nat.beq m rows.length&&Nat.blt 0 m) with
    | false=>rw [hc] at h;cases h
    | true =>
     rw [hc] at h;injection h with h
     subst h;rw [Bool.and_eq_true] at hc;exact op_oslNil (neq:=false) hx hb (Nat.eq_of_beq_eq_true hc.1) (by simpa using hc.2) hy (allP_at hT.und hu) hd
   ·cases h
  ·cases h
 ·split at h
  ·rename_i hu hx hy;injection h with h
   subst h;exact op_nilpEq (neq:=true) hx hy (allP_at hT.und hu) hd
  ·rename_i hu hx hy;injection h with h
   subst h;exact op_boxNil (neq:=true) hx hy (allP_at hT.und hu) hd
  ·rename_i hu hx hy;injection h with h
   subst h;exact op_nilEq (neq:=true) hx hy (allP_at hT.und hu) hd
  ·rename_i id m hu hx hy;split at h
   ·rename_i sz rows e hb
    cases hc:(Nat.beq m rows.length&&Nat.blt 0 m) with
    | false=>rw [hc] at h;cases h
    | true =>
     rw [hc] at h;injection h with h
     subst h;rw [Bool.and_eq_true] at hc;exact op_oslNil (neq:=true) hx hb (Nat.eq_of_beq_eq_true hc.1) (by simpa using hc.2) hy (allP_at hT.und hu) hd
   ·cases h
  ·cases h
 ·split at h
  ·rename_i args _ m ns h1;injection h with h
   subst h;rw [evL_eq,List.append_nil] at h1;exact op_maxs (hi:=true) h1 hd
  ·cases h
 ·split at h
  ·rename_i args _ m ns h1;injection h with h
   subst h;rw [evL_eq,List.append_nil] at h1;exact op_maxs (hi:=false) h1 hd
  ·cases h
 ·split at h
  ·rename_i L e z s b hu hI;split at h
   ·rename_i zz ss bb hE
    cases hb:allOne (z.cells.toList.map avOf) with
    | false=>rw [hb] at h;cases h
    | true =>
     rw [hb] at h;simp only [cond_true] at h;split at h
     ·rename_i out hf;injection h with h
      subst h;exact op_build_arr (allP_at hT.und hu) (allP_at hT.inf hI) (allP_at hT.inf hE) rfl hb hf hd
     ·cases h
   ·cases h
  ·cases h
 ·split at h
  ·rename_i k m hx;injection h with h
   subst h;exact op_compl' hx hd
  ·cases h
 ·split at h
  ·rename_i t y z id m k i hx hy;split at h
   ·rename_i L e zz b rows e' h1 h2
    cases hc:(Nat.beq m rows.length&&decide (0≤i)&&decide (i<(L:Int))&&decide (i<(m:Int))) with
    | false=>rw [hc] at h;cases h
    | true =>
     rw [hc] at h;injection h with h
     subst h;simp only [Bool.and_eq_true] at hc;obtain ⟨⟨⟨c1,c2⟩,c3⟩,c4⟩:=hc;obtain ⟨g1,g2⟩:=arrOf_ok hT h1;exact op_index_arr hx h2 (Nat.eq_of_beq_eq_true c1) hy g1 g2 (of_decide_eq_true c2) (of_decide_eq_true c3) (of_decide_eq_true c4) hd
   ·cases h
  ·cases h
 ·split at h
  ·rename_i t y id m hx;split at h
   ·rename_i q rows e' zz s b h1 h2 h3
    cases hc:(Nat.beq m rows.length&&Nat.blt 0 m&&Nat.beq s m) with
    | false=>rw [hc] at h;cases h
    | true =>
     rw [hc] at h;injection h with h
     subst h;simp only [Bool.and_eq_true] at hc;obtain ⟨⟨c1,c2⟩,c3⟩:=hc;obtain ⟨L,e,z,bb⟩:=q;obtain ⟨g1,g2⟩:=arrOf_ok hT h1;exact op_load_arr hx h2 (Nat.eq_of_beq_eq_true c1) (by simpa using c2) g1 rfl (allP_at hT.inf h3) (by rw [Nat.eq_of_beq_eq_true c3,Nat.mul_one]) hd
   ·cases h
  ·cases h
 ·split at h
  ·rename_i t y lo hi id m hx;split at h
   ·rename_i L e zz b rows e' h1 h2;split at h
    ·rename_i l hh g3 g4
     cases hc:(Nat.beq m rows.length&&Nat.beq L m&&Nat.blt 0 m&&inB3 l hh m) with
     | false=>rw [hc] at h;cases h
     | true =>
      rw [hc] at h;injection h with h
      subst h;simp only [Bool.and_eq_true] at hc;obtain ⟨⟨⟨c1,c2⟩,c3⟩,c4⟩:=hc;obtain ⟨g1,g2⟩:=arrOf_ok hT h1;have c2:=Nat.eq_of_beq_eq_true c2;subst c2;obtain ⟨b1,b2,b3⟩:=inB3_ok c4;exact op_slice_arr hx h2 (Nat.eq_of_beq_eq_true c1) (bndN_ok g3) (bndN_ok g4) g1 g2 b1 b2 b3 (by simpa using c3) hd
    ·cases h
   ·cases h
  ·cases h
 ·cases h
theorem rdX_nx (r:List (Nat×AV)) (h:List (Nat×AB)) (k k':Nat) (op:Op):rdX T ⟨r,h,k⟩ op=rdX T ⟨r,h,k'⟩ op:=by
 unfold rdX
 split <;> simp only [ev_nx r h k k',evL_nx r h k k',bndN_nx r h k k',evParts_nx r h k k']
def readR (T:Tab) (st:ASt) (op:Op):Option AV:=match readC T st op with
 | some x=>some x
 | none=>rdX T st op
theorem readR_ok (hT:T.ok P) (h:readR T st o.op=some x) (hd:dok o.dst n=true):OpR P n o st x:=by
 unfold readR at h;split at h
 ·rename_i y h1;injection h with h
  subst h;exact readC_ok hT h1 hd
 ·exact rdX_ok hT h hd
theorem readR_nx (r:List (Nat×AV)) (h:List (Nat×AB)) (k k':Nat) (op:Op):readR T ⟨r,h,k⟩ op=readR T ⟨r,h,k'⟩ op:=by
 unfold readR;rw [readC_nx r h k k',rdX_nx r h k k']
def memR (C:Ctx) (self:SelfT) (st:ASt) (o:Oper):Option ASt:=match memX C.T st o.dst o.op with
 | some s=>some s
 | none=>memC C self st o
theorem memR_Y {C:Ctx} {self:SelfT} (hC:C.ok P) (hS:SelfOk P self) (hd:dok o.dst n=true) (h:memR C self st o=some st'):OpY P n o st st':=by
 unfold memR at h;split at h
 ·rename_i s h1;injection h with h
  subst h;exact .ofV (memX_ok hC.T h1 hd)
 ·exact memC_Y hC hS hd h
theorem memR_ok {C:Ctx} {self:SelfT} {ops:Array Oper} {l:List Oper} {Q:Exit→ASt→Prop} (hC:C.ok P) (hS:SelfOk P self) (hd:dok o.dst n=true) (h:memR C self st o=some st') (hw:∀ (K:Kn) (a:Act) (w:World) (G:Gh),RelG K n st a w G→Region.wanted o (yielded ops a.tmps)=true) (k:AL P n ops Q l st'):AL P n ops Q (o::l) st:=by
 unfold memR at h;split at h
 ·rename_i s h1;injection h with h
  subst h;exact AL.opw hw (memX_ok hC.T h1 hd) k
 ·exact memC_ok hC hS hd h hw k
def runT (C:Ctx) (self:SelfT) (n:Nat) (ops:Array Oper):List Oper→ASt→Option ASt
 | [],st=>some st
 | o::l,st=>bif dok o.dst n then (match wantC ops o st with
  | some true=>match readR C.T st o.op with
   | some x=>nmP st o.dst x (runT C self n ops l)
   | none=>match memR C self st o with
    | some st'=>nm st' (runT C self n ops l)
    | none=>none
  | some false=>nmP st o.dst .und (runT C self n ops l)
  | none=>none) else none
end
def fNs {α:Type}:List Nat→(List Nat→α)→α
 | [],k=>k []
 | a::l,k=>fN a fun a=>fNs l fun l=>k (a::l)
theorem fNs_eq {α:Type} (l:List Nat):∀ (k:List Nat→α),fNs l k=k l:=by
 induction l with
 | nil=>intro k;rfl
 | cons a l ih=>intro k;rw [fNs,fN_eq,ih]
def pickK {α:Type} (h:List (Nat×AB)):List Nat→List (Nat×AB)→(List (Nat×AB)→α)→α
 | [],acc,k=>k acc
 | j::l,acc,k=>fB (look .dead h j) fun b=>pickK h l ((j,b)::acc) k
def pickA (h:List (Nat×AB)):List Nat→List (Nat×AB)→List (Nat×AB)
 | [],acc=>acc
 | j::l,acc=>pickA h l ((j,look .dead h j)::acc)
theorem pickK_eq {α:Type} (h:List (Nat×AB)):∀ (l:List Nat) (acc:List (Nat×AB)) (k:List (Nat×AB)→α),pickK h l acc k=k (pickA h l acc)
 | [],_,_=>rfl
 | j::l,acc,k=>by rw [pickK,pickA,fB_eq];exact pickK_eq h l _ k
theorem pickA_les (h:List (Nat×AB)):∀ (l:List Nat) (acc:List (Nat×AB)),(∀ id,LesB (look .dead acc id) (look .dead h id))→∀ id,LesB (look .dead (pickA h l acc) id) (look .dead h id)
 | [],_,ha,id=>ha id
 | j::l,acc,ha,id=>pickA_les h l _ (fun id=>by
   rw [look_cons];by_cases e:j=id
   ·subst e;rw [if_pos rfl];exact .refl _
   ·rw [if_neg e];exact ha id) id
def gcK {α:Type} (h:List (Nat×AB)) (nx0:Nat) (x:AV) (k:List (Nat×AB)→α):α:=bif Nat.blt 40 h.length then
  fNs (clo (look .dead h) 100000 (idsV x++(h.filter fun p=>Nat.blt p.1 nx0).map (·.1)) []) fun l=>pickK h l [] k
 else k h
theorem gcK_eq (h:List (Nat×AB)) (nx0:Nat) (x:AV):∃ h',(∀ id,LesB (look .dead h' id) (look .dead h id))∧∀ {α:Type} (k:List (Nat×AB)→α),gcK h nx0 x k=k h':=by
 unfold gcK
 cases Nat.blt 40 h.length with
 | false=>exact ⟨h,fun _=>.refl _,fun k=>rfl⟩
 | true=>exact ⟨_,pickA_les h _ [] (fun _=>.dead _),fun k=>by simp only [cond_true];rw [fNs_eq,pickK_eq]⟩
theorem AC.lesH {P:Program} {F:FuncId} {xs:List AV} {hp hp1 hp2:List (Nat×AB)} {nx nx1:Nat} {x:AV} (h:AC P F xs hp nx (fun y h' n'=>y=x∧h'=hp1∧n'=nx1)) (hl:∀ id,LesB (look .dead hp2 id) (look .dead hp1 id)):AC P F xs hp nx (fun y h' n'=>y=x∧h'=hp2∧n'=nx1):=fun w0 w G vs a1 a2 a3=>by
 refine (h w0 w G vs a1 a2 a3).mono fun e w' ⟨v,x',hp',nx',G',he,⟨e3,e4,e5⟩,hnx,hHR,hRV,hExt⟩=>?_
 subst e4;exact ⟨v,x',hp2,nx',G',he,⟨e3,rfl,e5⟩,hnx,⟨hHR.bs,hHR.below,hHR.ownlt',fun id=>(hl id).ok (hHR.blk id),hHR.dist,hHR.ownhas'⟩,hRV,hExt⟩
end Go.Proofs.Ytelpkjellakigaa.Rn
/- A run of the abstract machine by one computed function: control,functions. No program in sight. -/
namespace Go.Proofs.Ytelpkjellakigaa.Rn
open Go Go.RowKit Go.Proofs.Ytelpkjellakigaa Go.Proofs.Ytelpkjellakigaa.Dr

section
variable {P:Program} {n:Nat} {T:List (List Nat)} {W:List (Nat×Nat)} {M:List (Nat×AB)} {st st':ASt} {o:Oper} {x:AV} {Q:Exit→ASt→Prop} {ops:Array Oper} {l:List Oper}
theorem look_mem {d:AB}:∀ {l:List (Nat×AB)} {id:Nat},look d l id≠d→∃ p ∈ l,p.1=id
 | [],id,h=>absurd rfl h
 |(j,v)::l,id,h=>by
  rw [look_cons] at h;by_cases e:j=id
  ·exact ⟨(j,v),by simp,e⟩
  ·rw [if_neg e] at h;obtain ⟨p,h1,h2⟩:=look_mem h;exact ⟨p,List.mem_cons_of_mem _ h1,h2⟩
end
end Go.Proofs.Ytelpkjellakigaa.Rn
/- Short ways for the commonest operations: small bodies,for the kernel's sake. No program in sight. -/
namespace Go.Proofs.Ytelpkjellakigaa.Rn
open Go Go.RowKit Go.Proofs.Ytelpkjellakigaa Go.Proofs.Ytelpkjellakigaa.Dr

def chk64 (r:Int):Option AV:=bif decide (-9223372036854775808≤r)&&decide (r≤9223372036854775807) then some (.int .i64 r) else none
def fastI (o:BinOp) (m q:Int):Option AV:=match o with
 | .add=>chk64 (m+q)
 | .sub=>chk64 (m-q)
 | .mul=>chk64 (m*q)
 | .lss=>some (.bool (decide (m<q)))
 | .leq=>some (.bool (decide (m≤q)))
 | .gtr=>some (.bool (decide (q<m)))
 | .geq=>some (.bool (decide (q≤m)))
 | .eql=>some (.bool (decide (m=q)))
 | .neq=>some (.bool (decide (m≠q)))
 | .quo=>bif decide (q=0) then none else chk64 (m.tdiv q)
 | .rem=>bif decide (q=0) then none else some (.int .i64 (m.tmod q))
 | _=>none
def kc:IntKind→Nat
 | .i8=>0 | .i16=>1 | .i32=>2 | .i64=>3 | .u8=>4 | .u16=>5 | .u32=>6 | .u64=>7
theorem kc_inj {k k':IntKind} (h:Nat.beq (kc k) (kc k')=true):k=k':=by
 cases k <;> cases k' <;> first | rfl | (simp [kc] at h)
def fastK (k:IntKind) (o:BinOp) (m q:Int):Option AV:=match o with
 | .and=>some (.int k (bits .and k m q))
 | .or=>some (.int k (bits .or k m q))
 | .xor=>some (.int k (bits .xor k m q))
 | .add=>some (.int k (k.wrap (m+q)))
 | .sub=>some (.int k (k.wrap (m-q)))
 | .eql=>some (.bool (decide (m=q)))
 | .neq=>some (.bool (decide (m≠q)))
 | _=>none
def fastSh (k:IntKind) (o:BinOp) (m q:Int):Option AV:=match o with
 | .shr=>bif decide (0≤q)&&decide (q≤(k.bits:Int)) then some (.int k (m / 2 ^ q.toNat)) else none
 | .shl=>bif decide (0≤q)&&decide (q≤(k.bits:Int)) then some (.int k (k.wrap (m*2 ^ q.toNat))) else none
 | _=>none
def fastB (o:BinOp) (a b:AV):Option AV:=match a,b with
 | .int k m,.int k' q=>match fastSh k o m q with
  | some x=>some x
  | none=>bif Nat.beq (kc k) (kc k') then (match fastI3 k o m q with
   | some x=>some x
   | none=>fastK k o m q) else none
 | _,_=>none
where fastI3 (k:IntKind) (o:BinOp) (m q:Int):Option AV:=bif Nat.beq (kc k) 3 then fastI o m q else none
def fastL (T:Tab) (st:ASt) (t:TypeId) (a:AV):Option AV:=match a with
 | .box id o=>match look .dead st.heap id,lk T.und t,lk T.inf t with
  | .box cs _,some D,some (_,s,_)=>partA cs o s (aggB D)
  | _,_,_=>none
 | .elt id m i o=>match look .dead st.heap id,lk T.und t,lk T.inf t with
  | .row _ rows _,some D,some (_,s,_)=>match rows[i]? with
   | some row=>bif Nat.beq m rows.length then partA row o s (aggB D) else none
   | none=>none
  | _,_,_=>none
 | _=>none
def fastX (T:Tab) (st:ASt) (t:TypeId) (a b:AV):Option AV:=match a,b with
 | .osl id m,.int _ i=>match look .dead st.heap id,lk T.und t with
  | .row sz rows _,some (.slice e)=>match lk T.inf e with
   | some (_,s,_)=>bif Nat.beq s sz&&Nat.beq m rows.length&&decide (0≤i)&&decide (i<(m:Int)) then some (.elt id m i.toNat 0) else none
   | none=>none
  | _,_=>none
 | _,_=>none
def fastF (T:Tab) (t f:Nat) (a:AV):Option AV:=match a with
 | .box id o=>match lk T.fld t with
  | some fl=>match fl[f]? with
   | some (off,s,_)=>bif Nat.beq s 0 then none else some (.box id (o+off))
   | none=>none
  | none=>none
 | _=>none
def fast (T:Tab) (st:ASt):Op→Option AV
 | .move x=>some (st.ev x)
 | .assign x=>some (st.ev x)
 | .binOp o _ x y _=>fastB o (st.ev x) (st.ev y)
 | .load t x=>fastL T st t (st.ev x)
 | .indexAddr t x y=>fastX T st t (st.ev x) (st.ev y)
 | .fieldAddr t x f=>fastF T t f (st.ev x)
 | _=>none
section
variable {P:Program} {n:Nat} {T:Tab} {st st':ASt} {o:Oper} {x:AV}
theorem chk64_ok {r:Int} (h:chk64 r=some x):x=.int .i64 r∧IntKind.i64.wrap r=r:=by
 unfold chk64 at h
 cases hc:(decide (-9223372036854775808≤r)&&decide (r≤9223372036854775807)) with
 | false=>rw [hc] at h;cases h
 | true =>
  rw [hc] at h;injection h with h
  rw [Bool.and_eq_true] at hc;exact ⟨h.symm,wr64 (of_decide_eq_true hc.1) (of_decide_eq_true hc.2)⟩
theorem fast_ok (hT:T.ok P) (h:fast T st o.op=some x) (hd:dok o.dst n=true):OpR P n o st x:=by
 obtain ⟨d,op,ty,ps,af,g⟩:=o;simp only at h;have hd:dok d n=true:=hd;unfold fast at h;split at h
 ·injection h with h
  exact op_move h hd
 ·injection h with h
  exact op_assign h hd
 ·rename_i o t y z t';unfold fastB at h;split at h
  ·rename_i k m k' q hy hz;split at h
   ·rename_i x2 h1;injection h with h
    subst h;unfold fastSh at h1;split at h1
    ·cases hc:(decide (0≤q)&&decide (q≤(k.bits:Int))) with
     | false=>rw [hc] at h1;cases h1
     | true =>
      rw [hc] at h1;injection h1 with h1
      subst h1;rw [Bool.and_eq_true] at hc;exact op_shr hy hz (of_decide_eq_true hc.1) (of_decide_eq_true hc.2) hd
    ·cases hc:(decide (0≤q)&&decide (q≤(k.bits:Int))) with
     | false=>rw [hc] at h1;cases h1
     | true =>
      rw [hc] at h1;injection h1 with h1
      subst h1;rw [Bool.and_eq_true] at hc;exact op_shl hy hz (of_decide_eq_true hc.1) (of_decide_eq_true hc.2) rfl hd
    ·cases h1
   ·cases hk:Nat.beq (kc k) (kc k') with
    | false=>rw [hk] at h;cases h
    | true =>
     rw [hk] at h;simp only [cond_true] at h;have hkk:=kc_inj hk;subst hkk;split at h
     ·rename_i x2 h1;injection h with h
      subst h;unfold fastB.fastI3 at h1
      cases h3:Nat.beq (kc k) 3 with
      | false=>rw [h3] at h1;cases h1
      | true =>
       rw [h3] at h1;have hki:k=.i64:=kc_inj (k':=.i64) h3;subst hki;have h:fastI o m q=some x2:=h1;unfold fastI at h;split at h
       ·obtain ⟨rfl,h2⟩:=chk64_ok h;exact op_add hy hz h2 hd
       ·obtain ⟨rfl,h2⟩:=chk64_ok h;exact op_sub hy hz h2 hd
       ·obtain ⟨rfl,h2⟩:=chk64_ok h;exact op_mul hy hz h2 hd
       ·injection h with h;subst h;exact op_lss hy hz hd
       ·injection h with h;subst h;exact op_leq hy hz hd
       ·injection h with h;subst h;exact op_gtr hy hz hd
       ·injection h with h;subst h;exact op_geq hy hz hd
       ·injection h with h;subst h;exact op_eql hy hz hd
       ·injection h with h;subst h;exact op_neq hy hz hd
       ·by_cases e:q=0
        ·rw [decide_eq_true e] at h;cases h
        ·rw [decide_eq_false e] at h;obtain ⟨rfl,h2⟩:=chk64_ok h;exact op_quo hy hz e h2 hd
       ·by_cases e:q=0
        ·rw [decide_eq_true e] at h;cases h
        ·rw [decide_eq_false e] at h;injection h with h
         subst h;exact op_rem hy hz e hd
       ·cases h
     ·unfold fastK at h;split at h
      ·injection h with h;subst h;exact op_bits (.inl rfl) hy hz rfl hd
      ·injection h with h;subst h;exact op_bits (.inr (.inl rfl)) hy hz rfl hd
      ·injection h with h;subst h;exact op_bits (.inr (.inr (.inl rfl))) hy hz rfl hd
      ·injection h with h;subst h;exact op_add hy hz rfl hd
      ·injection h with h;subst h;exact op_sub hy hz rfl hd
      ·injection h with h;subst h;exact op_eql hy hz hd
      ·injection h with h;subst h;exact op_neq hy hz hd
      ·cases h
  ·cases h
 ·rename_i t y;unfold fastL at h;split at h
  ·rename_i id off hy;split at h
   ·rename_i cs e D z s b hb hu hI;exact op_load_box hy hb (allP_at hT.und hu) (allP_at hT.inf hI) h hd
   ·cases h
  ·rename_i id m i off hy;split at h
   ·rename_i sz rows e D z s b hb hu hI;split at h
    ·rename_i row hr
     cases hm:Nat.beq m rows.length with
     | false=>rw [hm] at h;cases h
     | true =>
      rw [hm] at h;exact op_load_elt hy hb (Nat.eq_of_beq_eq_true hm) hr (allP_at hT.und hu) (allP_at hT.inf hI) h hd
    ·cases h
   ·cases h
  ·cases h
 ·rename_i t y z;unfold fastX at h;split at h
  ·rename_i id m k i hy hz;split at h
   ·rename_i sz rows e' e hb hu;split at h
    ·rename_i zz s b hI
     cases hc:(Nat.beq s sz&&Nat.beq m rows.length&&decide (0≤i)&&decide (i<(m:Int))) with
     | false=>rw [hc] at h;cases h
     | true =>
      rw [hc] at h;injection h with h
      subst h;simp only [Bool.and_eq_true] at hc;obtain ⟨⟨⟨c1,c2⟩,c3⟩,c4⟩:=hc;exact op_index_osl hy hb (Nat.eq_of_beq_eq_true c2) hz (allP_at hT.und hu) (allP_at hT.inf hI) (Nat.eq_of_beq_eq_true c1) (of_decide_eq_true c3) (of_decide_eq_true c4) hd
    ·cases h
   ·cases h
  ·cases h
 ·rename_i t y f;unfold fastF at h;split at h
  ·rename_i id off hy;split at h
   ·rename_i fl hF;split at h
    ·rename_i o2 s b hf
     cases hs:Nat.beq s 0 with
     | true=>rw [hs] at h;cases h
     | false =>
      rw [hs] at h;injection h with h
      subst h;exact op_fieldAddr_box hy (allP_at hT.fld hF) hf (fun e=>by subst e;cases hs) hd
    ·cases h
   ·cases h
  ·cases h
 ·cases h
theorem fast_nx (r:List (Nat×AV)) (h:List (Nat×AB)) (k k':Nat) (op:Op):fast T ⟨r,h,k⟩ op=fast T ⟨r,h,k'⟩ op:=by
 unfold fast
 split <;> simp only [ev_nx r h k k',fastL,fastX]
def readF (T:Tab) (st:ASt) (op:Op):Option AV:=match fast T st op with
 | some x=>some x
 | none=>readR T st op
theorem readF_ok (hT:T.ok P) (h:readF T st o.op=some x) (hd:dok o.dst n=true):OpR P n o st x:=by
 unfold readF at h;split at h
 ·rename_i y h1;injection h with h
  subst h;exact fast_ok hT h1 hd
 ·exact readR_ok hT h hd
theorem readF_nx (r:List (Nat×AV)) (h:List (Nat×AB)) (k k':Nat) (op:Op):readF T ⟨r,h,k⟩ op=readF T ⟨r,h,k'⟩ op:=by
 unfold readF;rw [fast_nx r h k k',readR_nx r h k k']
def isVal:Op→Bool
 | .call ⟨.value _,_,_⟩=>true
 | _=>false
def fastS (T:Tab) (st:ASt) (t:TypeId) (a:AV) (vs:List AV):Option ASt:=match a with
 | .box id o=>match look .dead st.heap id,lk T.inf t with
  | .box cs e,some (_,s,_)=>bif allOne vs&&Nat.beq vs.length s&&Nat.ble (o+s) cs.length then some (st.hset id (.box (setR cs o vs) e)) else none
  | _,_=>none
 | _=>none
def fastM (T:Tab) (st:ASt) (d:Option Nat):Op→Option ASt
 | .store t a v=>match d with
  | none=>fastS T st t (st.ev a) (st.ev v).cells
  | some _=>none
 | _=>none
theorem fastM_ok (hT:T.ok P) (h:fastM T st o.dst o.op=some st'):OpV P n o st st':=by
 obtain ⟨d,op,ty,ps,af,g⟩:=o;simp only at h;unfold fastM at h;split at h
 ·rename_i t a v;split at h
  ·unfold fastS at h;split at h
   ·rename_i id off ha;split at h
    ·rename_i cs e z s b hb hI
     cases hc:(allOne (st.ev v).cells&&Nat.beq (st.ev v).cells.length s&&Nat.ble (off+s) cs.length) with
     | false=>rw [hc] at h;cases h
     | true =>
      rw [hc] at h;injection h with h
      subst h;simp only [Bool.and_eq_true] at hc;exact op_store_box ha hb rfl hc.1.1 (allP_at hT.inf hI) (Nat.eq_of_beq_eq_true hc.1.2) (Nat.le_of_ble_eq_true hc.2)
    ·cases h
   ·cases h
  ·cases h
 ·cases h
def memF (C:Ctx) (self:SelfT) (st:ASt) (o:Oper):Option ASt:=bif isVal o.op then callC C self st o.dst o.op else match fastM C.T st o.dst o.op with
 | some s=>some s
 | none=>memR C self st o
theorem memR_call {C:Ctx} {self:SelfT} (h:isVal o.op=true):callC C self st o.dst o.op=some st'→memC C self st o=some st':=by
 obtain ⟨d,op,ty,ps,af,g⟩:=o;simp only at h ⊢;unfold isVal at h;split at h
 ·intro h2;exact h2
 ·cases h
theorem memF_Y {C:Ctx} {self:SelfT} (hC:C.ok P) (hS:SelfOk P self) (hd:dok o.dst n=true) (h:memF C self st o=some st'):OpY P n o st st':=by
 unfold memF at h
 cases hv:isVal o.op with
 | true =>
  rw [hv] at h;exact memC_Y hC hS hd (memR_call hv h)
 | false =>
  rw [hv] at h;simp only [cond_false] at h;split at h
  ·rename_i s h1;injection h with h
   subst h;exact .ofV (fastM_ok hC.T h1)
  ·exact memR_Y hC hS hd h
theorem memF_ok {C:Ctx} {self:SelfT} {ops:Array Oper} {l:List Oper} {Q:Exit→ASt→Prop} (hC:C.ok P) (hS:SelfOk P self) (hd:dok o.dst n=true) (h:memF C self st o=some st') (hw:∀ (K:Kn) (a:Act) (w:World) (G:Gh),RelG K n st a w G→Region.wanted o (yielded ops a.tmps)=true) (k:AL P n ops Q l st'):AL P n ops Q (o::l) st:=by
 unfold memF at h
 cases hv:isVal o.op with
 | true =>
  rw [hv] at h;exact memC_ok hC hS hd (memR_call hv h) hw k
 | false =>
  rw [hv] at h;simp only [cond_false] at h;split at h
  ·rename_i s h1;injection h with h
   subst h;exact AL.opw hw (fastM_ok hC.T h1) k
  ·exact memR_ok hC hS hd h hw k
def remK {β α:Type} (d:Nat):List (Nat×β)→(List (Nat×β)→α)→α
 | [],k=>k []
 |(j,x)::l,k=>bif Nat.beq j d then remK d l k else remK d l fun l=>k ((j,x)::l)
def remA {β:Type} (d:Nat):List (Nat×β)→List (Nat×β)
 | []=>[]
 |(j,x)::l=>bif Nat.beq j d then remA d l else (j,x)::remA d l
theorem remK_eq {β α:Type} (d:Nat) (l:List (Nat×β)):∀ (k:List (Nat×β)→α),remK d l k=k (remA d l):=by
 induction l with
 | nil=>intro k;rfl
 | cons p l ih =>
  intro k;obtain ⟨j,x⟩:=p;rw [remK,remA]
  cases Nat.beq j d with
  | true=>simp only [cond_true];exact ih k
  | false=>simp only [cond_false];rw [ih]
theorem remA_look {β:Type} (dd:β) (d:Nat) (l:List (Nat×β)) {i:Nat} (h:d≠i):look dd (remA d l) i=look dd l i:=by
 induction l with
 | nil=>rfl
 | cons p l ih =>
  obtain ⟨j,x⟩:=p;rw [remA,look_cons]
  cases hb:Nat.beq j d with
  | true =>
   have:=Nat.eq_of_beq_eq_true hb;subst this;simp only [cond_true];rw [if_neg h,ih]
  | false =>
   simp only [cond_false];rw [look_cons,ih]
theorem front_look {β:Type} (dd:β) (d:Nat) (v:β) (l:List (Nat×β)) (i:Nat):look dd ((d,v)::remA d l) i=look dd ((d,v)::l) i:=by
 rw [look_cons,look_cons];by_cases e:d=i
 ·rw [if_pos e,if_pos e]
 ·rw [if_neg e,if_neg e,remA_look dd d l e]
def nmQ {α:Type} (st:ASt) (d:Option Nat) (x:AV) (k:ASt→α):α:=match d with
 | some d=>fA1 x fun x=>match st with
  | ⟨r,h,n⟩=>k ⟨(d,x)::r,h,n⟩
 | none=>k st
theorem nmQ_eq (st:ASt) (d:Option Nat) (x:AV):∃ st',Eqv (st.put d x) st'∧∀ {α:Type} (k:ASt→α),nmQ st d x k=k st':=by
 cases d with
 | none=>exact ⟨st,Eqv.refl _,fun k=>rfl⟩
 | some d =>
  obtain ⟨r,h,n⟩:=st;exact ⟨⟨(d,x)::r,h,n⟩,⟨fun t=>rfl,fun _=>rfl,rfl⟩,fun k=>by rw [nmQ,fA1_eq]⟩
def nm2R {α:Type}:List (Nat×AV)→(List (Nat×AV)→α)→α
 | [],k=>k []
 |(d,v)::l,k=>fA1 v fun v=>remK d l fun l=>k ((d,v)::l)
def nm2H {α:Type}:List (Nat×AB)→(List (Nat×AB)→α)→α
 | [],k=>k []
 |(d,v)::l,k=>fB v fun v=>remK d l fun l=>k ((d,v)::l)
def nm2 {α:Type} (st:ASt) (k:ASt→α):α:=nm2R st.regs fun r=>nm2H st.heap fun h=>fN st.nx fun x=>k ⟨r,h,x⟩
theorem nm2_eq (st:ASt):∃ st',Eqv st st'∧∀ {α:Type} (k:ASt→α),nm2 st k=k st':=by
 obtain ⟨r,h,x⟩:=st
 have h1:∃ r',(∀ d,look AV.any r d=look .any r' d)∧∀ {α:Type} (k:List (Nat×AV)→α),nm2R r k=k r':=by
  cases r with
  | nil=>exact ⟨[],fun _=>rfl,fun _=>rfl⟩
  | cons p l =>
   obtain ⟨d,v⟩:=p;exact ⟨(d,v)::remA d l,fun i=>(front_look _ _ _ _ _).symm,fun k=>by rw [nm2R,fA1_eq,remK_eq]⟩
 have h2:∃ r',(∀ d,look AB.dead h d=look .dead r' d)∧∀ {α:Type} (k:List (Nat×AB)→α),nm2H h k=k r':=by
  cases h with
  | nil=>exact ⟨[],fun _=>rfl,fun _=>rfl⟩
  | cons p l =>
   obtain ⟨d,v⟩:=p;exact ⟨(d,v)::remA d l,fun i=>(front_look _ _ _ _ _).symm,fun k=>by rw [nm2H,fB_eq,remK_eq]⟩
 obtain ⟨r',a1,a2⟩:=h1;obtain ⟨h',b1,b2⟩:=h2;exact ⟨⟨r',h',x⟩,⟨a1,b1,rfl⟩,fun k=>by rw [nm2,a2,b2,fN_eq]⟩
def nm2C {α:Type} (st:ASt) (k:ASt→α):α:=match st with
 | ⟨r,h,n⟩=>nm2R r fun r=>fN n fun x=>k ⟨r,h,x⟩
theorem nm2C_eq (st:ASt):∃ st',Eqv st st'∧∀ {α:Type} (k:ASt→α),nm2C st k=k st':=by
 obtain ⟨r,h,x⟩:=st
 have h1:∃ r',(∀ d,look AV.any r d=look .any r' d)∧∀ {α:Type} (k:List (Nat×AV)→α),nm2R r k=k r':=by
  cases r with
  | nil=>exact ⟨[],fun _=>rfl,fun _=>rfl⟩
  | cons p l =>
   obtain ⟨d,v⟩:=p;exact ⟨(d,v)::remA d l,fun i=>(front_look _ _ _ _ _).symm,fun k=>by rw [nm2R,fA1_eq,remK_eq]⟩
 obtain ⟨r',a1,a2⟩:=h1;exact ⟨⟨r',h,x⟩,⟨a1,fun _=>rfl,rfl⟩,fun k=>by rw [nm2C,a2,fN_eq]⟩
def nm2V {α:Type} (c:Bool) (st:ASt) (k:ASt→α):α:=bif c then nm2C st k else nm2 st k
theorem nm2V_eq (c:Bool) (st:ASt):∃ st',Eqv st st'∧∀ {α:Type} (k:ASt→α),nm2V c st k=k st':=by
 cases c with
 | true=>exact nm2C_eq st
 | false=>exact nm2_eq st
def longer {β:Type}:Nat→List β→Bool
 | _,[]=>false
 | 0,_::_=>true
 | n+1,_::l=>longer n l
def dedK {α:Type}:Nat→List (Nat×AV)→(List (Nat×AV)→α)→α
 | 0,l,k=>k l
 | _+1,[],k=>k []
 | n+1,(d,v)::l,k=>remK d l fun l=>dedK n l fun l=>k ((d,v)::l)
theorem dedK_eq:∀ (n:Nat) (l:List (Nat×AV)),∃ l',(∀ d,look AV.any l d=look .any l' d)∧∀ {α:Type} (k:List (Nat×AV)→α),dedK n l k=k l'
 | 0,l=>⟨l,fun _=>rfl,fun _=>rfl⟩
 | _+1,[]=>⟨[],fun _=>rfl,fun _=>rfl⟩
 | n+1,(d,v)::l=>by
  obtain ⟨l',h1,h2⟩:=dedK_eq n (remA d l);refine ⟨(d,v)::l',fun i=>?_,fun k=>by rw [dedK,remK_eq,h2]⟩;rw [←front_look,look_cons,look_cons,h1]
def prune {α:Type} (st:ASt) (k:ASt→α):α:=match st with
 | ⟨r,h,x⟩=>bif longer 300 r then dedK 1000 r fun r=>k ⟨r,h,x⟩ else k ⟨r,h,x⟩
theorem prune_eq (st:ASt):∃ st',Eqv st st'∧∀ {α:Type} (k:ASt→α),prune st k=k st':=by
 obtain ⟨r,h,x⟩:=st
 cases h0:longer 300 r with
 | false=>exact ⟨⟨r,h,x⟩,Eqv.refl _,fun k=>by rw [prune,h0];rfl⟩
 | true =>
  obtain ⟨r',h1,h2⟩:=dedK_eq 1000 r;exact ⟨⟨r',h,x⟩,⟨h1,fun _=>rfl,rfl⟩,fun k=>by rw [prune,h0];simp only [cond_true];rw [h2]⟩
structure EltS where
 id:Nat
 sz:Nat
 rows:List (List AV)
 i:Nat
 row:List AV
 e:TypeId
def EltS.app (q:EltS) (st:ASt):ASt:=st.hset q.id (.row q.sz (q.rows.set q.i q.row) q.e)
def eltS (T:Tab) (st:ASt) (d:Option Nat):Op→Option EltS
 | .store t a v=>match d with
  | none=>match st.ev a with
   | .elt id m i o=>match look .dead st.heap id,lk T.inf t with
    | .row sz rows e,some (_,s,_)=>match rows[i]? with
     | some row=>bif Nat.beq m rows.length&&(allOne (st.ev v).cells&&(Nat.beq (st.ev v).cells.length s&&Nat.ble (o+s) sz)) then some ⟨id,sz,rows,i,setR row o (st.ev v).cells,e⟩ else none
     | none=>none
    | _,_=>none
   | _=>none
  | some _=>none
 | _=>none
theorem eltS_ok {q:EltS} (hT:T.ok P) (h:eltS T st o.dst o.op=some q):OpV P n o st (q.app st):=by
 obtain ⟨d,op,ty,ps,af,g⟩:=o;simp only at h;unfold eltS at h;split at h
 ·rename_i t a v;split at h
  ·split at h
   ·rename_i id m i oo ha;split at h
    ·rename_i sz rows e z s b hb hI;split at h
     ·rename_i row hr
      cases hc:(Nat.beq m rows.length&&(allOne (st.ev v).cells&&(Nat.beq (st.ev v).cells.length s&&Nat.ble (oo+s) sz))) with
      | false=>rw [hc] at h;cases h
      | true =>
       rw [hc] at h;injection h with h
       subst h;simp only [Bool.and_eq_true] at hc;exact op_store_elt ha hb (Nat.eq_of_beq_eq_true hc.1) hr rfl hc.2.1 (allP_at hT.inf hI) (Nat.eq_of_beq_eq_true hc.2.2.1) (Nat.le_of_ble_eq_true hc.2.2.2)
     ·cases h
    ·cases h
   ·cases h
  ·cases h
 ·cases h
def setRow1 {α:Type}:List (List AV)→Nat→List AV→(List (List AV)→α)→α
 | [],_,_,k=>k []
 | _::l,0,x,k=>fL1 x fun x=>k (x::l)
 | r::l,i+1,x,k=>setRow1 l i x fun l=>k (r::l)
theorem setRow_eq1 {α:Type}:∀ (l:List (List AV)) (i:Nat) (x:List AV) (k:List (List AV)→α),setRow1 l i x k=k (l.set i x)
 | [],_,_,_=>rfl
 | _::l,0,x,k=>by rw [setRow1,fL1_eq];rfl
 | r::l,i+1,x,k=>by rw [setRow1,setRow_eq1 l i x];rfl
def nmE {α:Type} (q:EltS) (st:ASt) (k:ASt→α):α:=match st with
 | ⟨r,h,n⟩=>setRow1 q.rows q.i q.row fun rows=>remK q.id h fun h=>k ⟨r,(q.id,.row q.sz rows q.e)::h,n⟩
theorem nmE_eq (q:EltS) (st:ASt):∃ st',Eqv (q.app st) st'∧∀ {α:Type} (k:ASt→α),nmE q st k=k st':=by
 obtain ⟨r,h,n⟩:=st;exact ⟨⟨r,(q.id,.row q.sz (q.rows.set q.i q.row) q.e)::remA q.id h,n⟩,⟨fun _=>rfl,fun i=>(front_look _ _ _ _ _).symm,rfl⟩,fun k=>by rw [nmE,setRow_eq1,remK_eq]⟩
def runF (C:Ctx) (self:SelfT) (n:Nat) (ops:Array Oper):List Oper→ASt→Option ASt
 | [],st=>prune st fun s=>some s
 | o::l,st=>bif dok o.dst n then (match wantC ops o st with
  | some true=>match readF C.T st o.op with
   | some x=>nmQ st o.dst x (runF C self n ops l)
   | none=>match eltS C.T st o.dst o.op with
    | some q=>nmE q st (runF C self n ops l)
    | none=>match memF C self st o with
     | some st'=>nm2V (isVal o.op) st' (runF C self n ops l)
     | none=>none
  | some false=>nmQ st o.dst .und (runF C self n ops l)
  | none=>none) else none
theorem runF_ok {C:Ctx} {self:SelfT} {ops:Array Oper} {Q:Exit→ASt→Prop} (hC:C.ok P) (hS:SelfOk P self):∀ (l:List Oper) (st st':ASt),runF C self n ops l st=some st'→Q .normal st'→AL P n ops Q l st
 | [],st,st',h,hq=>by
  rw [runF] at h;obtain ⟨s',e1,e2⟩:=prune_eq st;rw [e2] at h;injection h with h
  subst h;exact AL.eqv e1 (AL.nil hq)
 | o::l,st,st',h,hq=>by
  rw [runF] at h
  cases hd:dok o.dst n with
  | false=>rw [hd] at h;cases h
  | true =>
   rw [hd] at h;simp only [cond_true] at h;split at h
   ·rename_i hw
    have hw':∀ (K:Kn) (a:Act) (w:World) (G:Gh),RelG K n st a w G→Region.wanted o (yielded ops a.tmps)=true:=by
     rcases wantC_yes hw with hg | hg
     ·exact fun _ a _ _ _=>wanted_none hg a
     ·obtain ⟨d,want,g1,g2⟩:=gst_yes hg;exact wanted_of g1 g2
    split at h
    ·rename_i x h1;obtain ⟨s',e1,e2⟩:=nmQ_eq st o.dst x;rw [e2] at h;exact AL.opw hw' (readF_ok hC.T h1 hd).opv (AL.eqv e1 (runF_ok hC hS l s' st' h hq))
    ·split at h
     ·rename_i q h1;obtain ⟨s',e1,e2⟩:=nmE_eq q st;rw [e2] at h;exact AL.opw hw' (eltS_ok hC.T h1) (AL.eqv e1 (runF_ok hC hS l s' st' h hq))
     ·split at h
      ·rename_i s h1;obtain ⟨s',e1,e2⟩:=nm2V_eq (isVal o.op) s;rw [e2] at h;exact memF_ok hC hS hd h1 hw' (AL.eqv e1 (runF_ok hC hS l s' st' h hq))
      ·cases h
   ·rename_i hw;obtain ⟨d,want,g1,g2⟩:=gst_no (wantC_no hw);obtain ⟨s',e1,e2⟩:=nmQ_eq st o.dst .und;rw [e2] at h;exact AL.skipg g1 hd g2 (AL.eqv e1 (runF_ok hC hS l s' st' h hq))
   ·cases h
end
end Go.Proofs.Ytelpkjellakigaa.Rn
/- Regions that draw,run once: each operation on the blocks that it reaches;what is asked of the order is tested at the end. No program in sight. -/
namespace Go.Proofs.Ytelpkjellakigaa.Rn
open Go Go.RowKit Go.Proofs.Ytelpkjellakigaa Go.Proofs.Ytelpkjellakigaa.Dr

def putK {α:Type} (f:Nat→AB):List Nat→List (Nat×AB)→(List (Nat×AB)→α)→α
 | [],h,k=>k h
 | j::l,h,k=>fB (f j) fun b=>setK j b h fun h=>putK f l h k
def putA (f:Nat→AB):List Nat→List (Nat×AB)→List (Nat×AB)
 | [],h=>h
 | j::l,h=>putA f l (setA j (f j) h)
theorem putK_eq {α:Type} (f:Nat→AB):∀ (l:List Nat) (h:List (Nat×AB)) (k:List (Nat×AB)→α),putK f l h k=k (putA f l h)
 | [],_,_=>rfl
 | j::l,h,k=>by rw [putK,putA,fB_eq,setK_eq];exact putK_eq f l _ k
theorem putA_look (f:Nat→AB):∀ (l:List Nat) (h:List (Nat×AB)) (id:Nat),(id ∈ l→look .dead (putA f l h) id=f id)∧(id ∉ l→look .dead (putA f l h) id=look .dead h id)
 | [],h,id=>⟨fun h=>by simp at h,fun _=>rfl⟩
 | j::l,h,id=>by
  obtain ⟨h1,h2⟩:=putA_look f l (setA j (f j) h) id;rw [putA];constructor
  ·intro hm;by_cases e:id ∈ l
   ·exact h1 e
   ·have:id=j:=(List.mem_cons.1 hm).resolve_right e;subst this;rw [h2 e,look_setA,look_cons,if_pos rfl]
  ·intro hm;rw [h2 fun e=>hm (List.mem_cons_of_mem _ e),look_setA,look_cons,if_neg fun e=>hm (by rw [e];exact List.mem_cons_self ..)]
section
variable {P:Program} {n:Nat} {T:List (List Nat)} {W:List (Nat×Nat)} {st st':ASt} {o:Oper} {x:AV} {Q:Exit→ASt→Prop} {ops:Array Oper} {l:List Oper}
def stepH (C:Ctx) (self:SelfT) (st:ASt) (o:Oper):Option ASt:=match readF C.T st o.op with
 | some x=>some (st.put o.dst x)
 | none=>memF C self st o
theorem stepH_Y {C:Ctx} {self:SelfT} (hC:C.ok P) (hS:SelfOk P self) (hd:dok o.dst n=true) (h:stepH C self st o=some st'):OpY P n o st st':=by
 unfold stepH at h;split at h
 ·rename_i x h1;injection h with h
  subst h;exact .ofV (readF_ok hC.T h1 hd).opv
 ·exact memF_Y hC hS hd h
def fRs {α:Type} (r:List (Nat×AV)):List Nat→(List (Nat×AV)→α)→α
 | [],k=>k []
 | t::l,k=>fN t fun t=>fA1 (look .any r t) fun v=>fRs r l fun m=>k ((t,v)::m)
theorem fRs_eq {α:Type} (r:List (Nat×AV)):∀ (l:List Nat) (k:List (Nat×AV)→α),fRs r l k=k (l.map fun t=>(t,look .any r t))
 | [],_=>rfl
 | t::l,k=>by rw [fRs,fN_eq,fA1_eq,fRs_eq r l];rfl
theorem pickA_look (h:List (Nat×AB)):∀ (l:List Nat) (acc:List (Nat×AB)) (id:Nat),(id ∈ l→look .dead (pickA h l acc) id=look .dead h id)∧(id ∉ l→look .dead (pickA h l acc) id=look .dead acc id)
 | [],acc,id=>⟨fun h=>by simp at h,fun _=>rfl⟩
 | j::l,acc,id=>by
  obtain ⟨h1,h2⟩:=pickA_look h l ((j,look .dead h j)::acc) id;rw [pickA];constructor
  ·intro hm;by_cases e:id ∈ l
   ·exact h1 e
   ·have:id=j:=(List.mem_cons.1 hm).resolve_right e;subst this;rw [h2 e,look_cons,if_pos rfl]
  ·intro hm;rw [h2 fun e=>hm (List.mem_cons_of_mem _ e),look_cons,if_neg fun e=>hm (by rw [←e];exact List.mem_cons_self ..)]
def pickN (h:List (Nat×AB)) (l:List Nat):List (Nat×AB):=l.map fun j=>(j,look .dead h j)
theorem pickN_look (h:List (Nat×AB)):∀ (l:List Nat) (id:Nat),(id ∈ l→look .dead (pickN h l) id=look .dead h id)∧(id ∉ l→look .dead (pickN h l) id=.dead)
 | [],id=>⟨fun h=>by simp at h,fun _=>rfl⟩
 | j::l,id=>by
  obtain ⟨h1,h2⟩:=pickN_look h l id;show (_→look .dead ((j,look .dead h j)::pickN h l) id=_)∧(_→look .dead ((j,look .dead h j)::pickN h l) id=_);rw [look_cons];by_cases e:j=id
  ·subst e;exact ⟨fun _=>by rw [if_pos rfl],fun hm=>absurd (List.mem_cons_self ..) hm⟩
  ·rw [if_neg e];exact ⟨fun hm=>h1 ((List.mem_cons.1 hm).resolve_left fun e'=>e e'.symm),fun hm=>h2 fun e'=>hm (List.mem_cons_of_mem _ e')⟩
theorem OpR.less {st':ASt} (h:OpR P n o st' x) (hl:LeS st' st):OpR P n o st x:=⟨h.dst,fun K a w G r=>h.out K a w G (r.les hl)⟩
structure Rec where
 i:Nat
 cr:List (Nat×Nat)
 L:List Nat
 Wi:List Nat
 k:Nat
 k2:Nat
def opH (C:Ctx) (self:SelfT) (lr:List (Nat×AV)) (lh:List (Nat×AB)) (nx:Nat) (o:Oper) (L:List Nat):Option (ASt×List Nat) :=
 bif L.all (fun id=>Nat.blt id nx&&(look .dead lh id).nmd (hasN L))&&lr.all (fun p=>p.2.nmd (hasN L)) then
  (match stepH C self ⟨lr,lh,nx⟩ o with
  | some s2=>bif Nat.ble nx s2.nx&&(news nx s2.nx).all (fun id=>pfB (orN (hasN L) nx s2.nx) (look .dead s2.heap id))&&s2.heap.all (fun p=>orN (hasN L) nx s2.nx p.1)
    && L.all (fun id=>pfB (orN (hasN L) nx s2.nx) (look .dead s2.heap id))&&pf (orN (hasN L) nx s2.nx) (dstV s2 o.dst) then some (s2,L.filter fun id=>!abE (look .dead s2.heap id) (look .dead lh id)) else none
  | none=>none) else none
structure RecOk (T:List (List Nat)) (W:List (Nat×Nat)) (nx0:Nat) (r:Rec):Prop where
 vis:∀ id ∈ r.L,visW T W nx0 r.i r.cr id=true
 new:∀ id,r.k≤id→id<r.k2→newW T W r.i id=true
 wr:∀ id,(r.i,id) ∈ W→id ∈ r.Wi
 wr2:∀ id ∈ r.Wi,(r.i,id) ∈ W
theorem noW_of {i:Nat} (h:∀ id,(i,id) ∉ W):noW W i=true:=by
 unfold noW;refine List.all_eq_true.2 fun p hp=>?_
 rw [Bool.not_eq_true',Bool.eq_false_iff];intro e;have e:=Nat.eq_of_beq_eq_true e;obtain ⟨a,b⟩:=p;simp only at e;subst e;exact h b hp
theorem opH_ok {C:Ctx} {self:SelfT} (hC:C.ok P) (hS:SelfOk P self) {nx0 i:Nat} {cr:List (Nat×Nat)} {L Wi:List Nat} {s2:ASt} (hd:dok o.dst n=true) (hw:o.guard=none∨gst ops o (lcl ops T W [] nx0 i cr st o 0)=some true)
  (hr:RecOk T W nx0 ⟨i,cr,L,Wi,st.nx,s2.nx⟩) {lh:List (Nat×AB)} (hlh:∀ id,(id ∈ L→look .dead lh id=look .dead st.heap id)∧(id ∉ L→look .dead lh id=.dead)) (h:opH C self (lregs ops st o) lh st.nx o L=some (s2,Wi)):Loc P n ops T W [] nx0 i cr o st ((⟨st.regs,onL (L++news st.nx s2.nx) (look .dead s2.heap) st.heap,s2.nx⟩:ASt).put o.dst (dstV s2 o.dst)) ((news st.nx s2.nx).map (fun id=>(i,id))++cr)∧(∀ id ∈ L,id ∉ Wi→look .dead s2.heap id=look .dead st.heap id)∧∀ id ∈ Wi,id ∈ L:=by
 unfold opH at h
 cases h0:(L.all (fun id=>Nat.blt id st.nx&&(look .dead lh id).nmd (hasN L))&&(lregs ops st o).all (fun p=>p.2.nmd (hasN L))) with
 | false=>rw [h0] at h;cases h
 | true =>
  rw [h0] at h;simp only [cond_true] at h;rw [Bool.and_eq_true] at h0;obtain ⟨h1,h2⟩:=h0
  have a1:∀ id ∈ L,id<st.nx∧(look .dead st.heap id).nmd (hasN L)=true:=fun id hid=>by
   have:=List.all_eq_true.1 h1 id hid;rw [Bool.and_eq_true] at this;exact ⟨by simpa using this.1,by rw [←(hlh id).1 hid];exact this.2⟩
  split at h
  ·rename_i t2 hm
   cases h3:(Nat.ble st.nx t2.nx&&(news st.nx t2.nx).all (fun id=>pfB (orN (hasN L) st.nx t2.nx) (look .dead t2.heap id))&&t2.heap.all (fun p=>orN (hasN L) st.nx t2.nx p.1)
    && L.all (fun id=>pfB (orN (hasN L) st.nx t2.nx) (look .dead t2.heap id))&&pf (orN (hasN L) st.nx t2.nx) (dstV t2 o.dst)) with
   | false=>rw [h3] at h;cases h
   | true =>
    rw [h3] at h;simp only [cond_true,Option.some.injEq,Prod.mk.injEq] at h;obtain ⟨rfl,hWi⟩:=h;simp only [Bool.and_eq_true] at h3;obtain ⟨⟨⟨⟨b1,b6⟩,b2⟩,b3⟩,b4⟩:=h3;have c3:∀ id ∈ L,pfB (orN (hasN L) st.nx t2.nx) (look .dead t2.heap id)=true:=fun id hid=>List.all_eq_true.1 b3 id hid
    have c6:∀ id,st.nx≤id→id<t2.nx→pfB (orN (hasN L) st.nx t2.nx) (look .dead t2.heap id)=true:=fun id g1 g2=>List.all_eq_true.1 b6 id (news_mem.2 ⟨g1,g2⟩)
    have cu:∀ id ∈ L,id ∉ Wi→look .dead t2.heap id=look .dead st.heap id:=fun id hid hn=>by
     rw [←hWi] at hn;have:¬ ((!abE (look .dead t2.heap id) (look .dead st.heap id))=true):=fun e=>hn (List.mem_filter.2 ⟨hid,by rw [(hlh id).1 hid];exact e⟩)
     exact abE_eq (by simpa using this)
    have cw:∀ id ∈ Wi,id ∈ L:=fun id hid=>by
     rw [←hWi] at hid;exact (List.mem_filter.1 hid).1
    refine ⟨.op L lh hw (stepH_Y hC hS hd hm) hd (Nat.le_of_ble_eq_true b1) hr.new (fun id hid=>⟨(a1 id hid).1,hr.vis id hid⟩) (fun id=>?_) (fun id=>?_) (fun t=>?_) b4 (fun id hid=>cw id (hr.wr id hid)) (fun id hid=>?_) (fun id _=>.dead _),cu,cw⟩
    ·by_cases e:id ∈ L
     ·exact .inr ⟨e,(hlh id).1 e,by rw [(hlh id).1 e];exact (a1 id e).2⟩
     ·exact .inl ((hlh id).2 e)
    ·by_cases e2:look .dead t2.heap id=.dead
     ·exact .inl e2
     ·obtain ⟨q,q1,q2⟩:=look_mem e2;have:=List.all_eq_true.1 b2 q q1;rw [q2] at this;rcases orN_iff.1 this with e | e
      ·exact .inr ⟨this,c3 id (hasN_mem e)⟩
      ·exact .inr ⟨this,c6 id e.1 e.2⟩
    ·have key:∀ (rg:List (Nat×AV)),(rg.all fun p=>p.2.nmd (hasN L))=true→(look AV.any rg t).nmd (hasN L)=true:=by
      intro rg
      induction rg with
      | nil=>intro _;rfl
      | cons c rg ih =>
       obtain ⟨j,v⟩:=c;intro hh;rw [List.all_cons,Bool.and_eq_true] at hh;rw [look_cons];split
       ·exact hh.1
       ·exact ih hh.2
     exact key _ h2
    ·by_cases e:id ∈ Wi
     ·exact .inl (hr.wr2 id e)
     ·exact .inr (cu id hid e)
  ·cases h
def runH (C:Ctx) (self:SelfT) (n:Nat) (ops:Array Oper):Nat→List (Nat×Nat)→List Oper→ASt→Option (List Rec×ASt)
 | _,_,[],st=>some ([],st)
 | i,cr,o::l,st=>bif dok o.dst n then (fRs st.regs (o.looksAt ops) fun lr=>match wantC ops o ⟨lr,[],0⟩ with
  | some true=>fNs (idsV.go (lr.map (·.2))) fun L1=>match readF C.T ⟨lr,pickN st.heap L1,0⟩ o.op with
   | some x=>fA1 x fun x=>fNs (idsV x++L1) fun L=>nmQ st o.dst x fun s=>(match fN i fun i=>runH C self n ops (i+1) cr l s with
     | some (rs,s')=>some (⟨i,cr,L,[],st.nx,st.nx⟩::rs,s')
     | none=>none)
   | none=>fNs (clo (look .dead st.heap) 400 L1 []) fun L=>pickK st.heap L [] fun lh=>match opH C self lr lh st.nx o L with
    | some (s2,Wi)=>fNs Wi fun Wi=>fN s2.nx fun k2=>fNs (news st.nx k2) fun ns=>putK (look .dead s2.heap) (Wi++ns) st.heap fun h=>nmQ ⟨st.regs,h,k2⟩ o.dst (dstV s2 o.dst) fun s =>
     (match fN i fun i=>runH C self n ops (i+1) (ns.map (fun id=>(i,id))++cr) l s with
     | some (rs,s')=>some (⟨i,cr,L,Wi,st.nx,k2⟩::rs,s')
     | none=>none)
    | none=>none
  | some false=>nmQ st o.dst .und fun s=>(match fN i fun i=>runH C self n ops (i+1) cr l s with
     | some (rs,s')=>some (⟨i,cr,[],[],st.nx,st.nx⟩::rs,s')
     | none=>none)
  | none=>none) else none
theorem wantC_lcl {ops:Array Oper} {M:List (Nat×AB)} {nx0 i:Nat} {cr:List (Nat×Nat)} {b:Bool} (h:wantC ops o ⟨lregs ops st o,[],0⟩=some b):(b=true→o.guard=none∨gst ops o (lcl ops T W M nx0 i cr st o 0)=some true)∧(b=false→gst ops o (lcl ops T W M nx0 i cr st o 0)=some false):=by
 cases b with
 | true=>exact ⟨fun _=>wantC_yes h,fun h=>absurd h (by decide)⟩
 | false=>exact ⟨fun h=>absurd h (by decide),fun _=>wantC_no h⟩
theorem idsV_nmd {p:Nat→Bool}:∀ (x:AV),(∀ id ∈ idsV x,p id=true)→x.nmd p=true
 | .box id _,h=>by rw [AV.nmd];exact h id (by rw [idsV];exact List.mem_singleton.2 rfl)
 | .elt id ..,h=>by rw [AV.nmd];exact h id (by rw [idsV];exact List.mem_singleton.2 rfl)
 | .osl id _,h=>by rw [AV.nmd];exact h id (by rw [idsV];exact List.mem_singleton.2 rfl)
 | .vsl id ..,h=>by rw [AV.nmd];exact h id (by rw [idsV];exact List.mem_singleton.2 rfl)
 | .agg cs,h=>by rw [AV.nmd];exact go cs (by rw [idsV] at h;exact h)
 | .tup cs,h=>by rw [AV.nmd];exact go cs (by rw [idsV] at h;exact h)
 | .fn _ cs,h=>by rw [AV.nmd];exact go cs (by rw [idsV] at h;exact h)
 | .any,_=>rfl
 | .und,_=>rfl
 | .int ..,_=>rfl
 | .bool ..,_=>rfl
 | .str ..,_=>rfl
 | .nilp,_=>rfl
 | .nils,_=>rfl
 | .nilf,_=>rfl
 | .peek ..,_=>rfl
 | .ro ..,_=>rfl
where go {p:Nat→Bool}:∀ (cs:List AV),(∀ id ∈ idsV.go cs,p id=true)→AV.nmd.go p cs=true
 | [],_=>rfl
 | a::l,h=>by
  rw [idsV.go] at h;rw [AV.nmd.go,idsV_nmd a fun id hid=>h id (List.mem_append.2 (.inl hid)),go l fun id hid=>h id (List.mem_append.2 (.inr hid))];rfl
theorem runH_ok {C:Ctx} {self:SelfT} (hC:C.ok P) (hS:SelfOk P self) {nx0:Nat} {Kt:ASt→Prop}:∀ (l:List Oper) (i:Nat) (cr:List (Nat×Nat)) (st:ASt) (rs:List Rec) (st':ASt),runH C self n ops i cr l st=some (rs,st')→(∀ r ∈ rs,RecOk T W nx0 r)→Kt st'→AG P n ops T W [] nx0 Kt i cr l st
 | [],i,cr,st,rs,st',h,_,hk=>by
  rw [runH] at h;injection h with h
  injection h with h1 h2
  subst h2;exact .nil hk
 | o::l,i,cr,st,rs,st',h,hrs,hk=>by
  rw [runH] at h
  cases hd:dok o.dst n with
  | false=>rw [hd] at h;cases h
  | true =>
   rw [hd] at h;simp only [cond_true] at h;rw [fRs_eq] at h;have elr:(o.looksAt ops).map (fun t=>(t,look .any st.regs t))=lregs ops st o:=rfl;rw [elr] at h;split at h
   ·rename_i hw;rw [fNs_eq] at h;split at h
    ·rename_i x h1;rw [fA1_eq,fNs_eq] at h;obtain ⟨s',e1,e2⟩:=nmQ_eq st o.dst x;rw [e2,fN_eq] at h;split at h
     ·rename_i rs2 s3 h2;simp only [Option.some.injEq,Prod.mk.injEq] at h;obtain ⟨rfl,rfl⟩:=h;have hr:=hrs _ (List.mem_cons_self ..);refine .step (.read (noW_of fun id hid=>by have:=hr.wr id hid;simp at this) ((wantC_lcl hw).1 rfl) (fun k=>?_) ?_) (.same e1 (runH_ok hC hS l (i+1) cr s' rs2 s3 h2 (fun r hr=>hrs r (List.mem_cons_of_mem _ hr)) hk))
      ·refine OpR.less (st':=⟨lregs ops st o,pickN st.heap (idsV.go ((lregs ops st o).map (·.2))),k⟩) (readF_ok hC.T (by rw [←h1];exact readF_nx _ _ _ _ _) hd) ⟨fun d=>.refl _,fun d=>?_,rfl⟩;rw [lcl_heap];obtain ⟨p1,p2⟩:=pickN_look st.heap (idsV.go ((lregs ops st o).map (·.2))) d;by_cases m:d ∈ idsV.go ((lregs ops st o).map (·.2))
       ·rw [p1 m,hr.vis d (List.mem_append.2 (.inr m))];exact .refl _
       ·rw [p2 m];exact .dead _
      ·exact idsV_nmd x fun id hid=>by
        have:=hr.vis id (List.mem_append.2 (.inl hid));unfold visW at this;rw [Bool.and_eq_true] at this;exact this.1
     ·cases h
    ·rw [fNs_eq,pickK_eq] at h;split at h
     ·rename_i s2 Wi h1;rw [fNs_eq,fN_eq,fNs_eq,putK_eq] at h
      have h:nmQ ⟨st.regs,putA (look .dead s2.heap) (Wi++news st.nx s2.nx) st.heap,s2.nx⟩ o.dst (dstV s2 o.dst) (fun s=>(match fN i fun i=>runH C self n ops (i+1) ((news st.nx s2.nx).map (fun id=>(i,id))++cr) l s with
       | some (rs,s')=>some (⟨i,cr,clo (look .dead st.heap) 400 (idsV.go ((lregs ops st o).map (·.2))) [],Wi,st.nx,s2.nx⟩::rs,s')
       | none=>none))=some (rs,st'):=h
      generalize clo (look .dead st.heap) 400 (idsV.go ((lregs ops st o).map (·.2))) []=L at h h1;obtain ⟨s',e1,e2⟩:=nmQ_eq ⟨st.regs,putA (look .dead s2.heap) (Wi++news st.nx s2.nx) st.heap,s2.nx⟩ o.dst (dstV s2 o.dst);rw [e2,fN_eq] at h;split at h
      ·rename_i rs2 s3 h2;simp only [Option.some.injEq,Prod.mk.injEq] at h;obtain ⟨rfl,rfl⟩:=h;have hr:=hrs _ (List.mem_cons_self ..);obtain ⟨hloc,hu,hwl⟩:=opH_ok (o:=o) (ops:=ops) hC hS hd ((wantC_lcl hw).1 rfl) hr (fun id=>pickA_look st.heap L [] id) h1;refine .step hloc (.same ⟨fun d=>?_,fun d=>?_,?_⟩ (runH_ok hC hS l (i+1) _ s' rs2 s3 h2 (fun r hr=>hrs r (List.mem_cons_of_mem _ hr)) hk))
       ·rw [←e1.regs d]
        cases o.dst <;> rfl
       ·rw [←e1.heap d,put_heap',put_heap'];show look .dead (onL (L++news st.nx s2.nx) (look .dead s2.heap) st.heap) d=look .dead (putA (look .dead s2.heap) (Wi++news st.nx s2.nx) st.heap) d;obtain ⟨p1,p2⟩:=putA_look (look .dead s2.heap) (Wi++news st.nx s2.nx) st.heap d;by_cases m1:d ∈ L++news st.nx s2.nx
        ·rw [onL_in m1];by_cases m2:d ∈ Wi++news st.nx s2.nx
         ·rw [p1 m2]
         ·rw [p2 m2];rcases List.mem_append.1 m1 with m1 | m1
          ·exact hu d m1 fun h=>m2 (List.mem_append.2 (.inl h))
          ·exact absurd (List.mem_append.2 (.inr m1)) m2
        ·rw [onL_out m1,p2 fun m2=>m1 ?_];rcases List.mem_append.1 m2 with m2 | m2
         ·exact List.mem_append.2 (.inl (hwl d m2))
         ·exact List.mem_append.2 (.inr m2)
       ·rw [←e1.nx,put_nx,put_nx]
      ·cases h
     ·cases h
   ·rename_i hw;obtain ⟨s',e1,e2⟩:=nmQ_eq st o.dst .und;rw [e2,fN_eq] at h;split at h
    ·rename_i rs2 s3 h2;simp only [Option.some.injEq,Prod.mk.injEq] at h;obtain ⟨rfl,rfl⟩:=h;have hr:=hrs _ (List.mem_cons_self ..);exact .step (.skip (noW_of fun id hid=>by have:=hr.wr id hid;simp at this) ((wantC_lcl hw).2 rfl) hd) (.same e1 (runH_ok hC hS l (i+1) cr s' rs2 s3 h2 (fun r hr=>hrs r (List.mem_cons_of_mem _ hr)) hk))
    ·cases h
   ·cases h
def wrOf (rs:List Rec):List (Nat×Nat):=rs.flatMap fun r=>r.Wi.map fun id=>(r.i,id)
def recB (T:List (List Nat)) (W:List (Nat×Nat)) (nx0:Nat) (r:Rec):Bool :=
 r.L.all (fun id=>visW T W nx0 r.i r.cr id)&&(news r.k r.k2).all (fun id=>newW T W r.i id)&&W.all (fun p=>bif Nat.beq p.1 r.i then hasN r.Wi p.2 else true)
theorem recB_ok {nx0:Nat} {rs:List Rec} {r:Rec} (hm:r ∈ rs) (h:recB T (wrOf rs) nx0 r=true):RecOk T (wrOf rs) nx0 r:=by
 unfold recB at h;simp only [Bool.and_eq_true] at h;obtain ⟨⟨h1,h2⟩,h3⟩:=h;refine ⟨fun id hid=>List.all_eq_true.1 h1 id hid,fun id g1 g2=>List.all_eq_true.1 h2 id (news_mem.2 ⟨g1,g2⟩),fun id hid=>?_,fun id hid=>?_⟩
 ·have:=List.all_eq_true.1 h3 _ hid;simp only [Nat.beq_refl,cond_true] at this;exact hasN_mem this
 ·unfold wrOf;exact List.mem_flatMap.2 ⟨r,hm,List.mem_map.2 ⟨id,hid,rfl⟩⟩
def fPs {α:Type}:List (Nat×Nat)→(List (Nat×Nat)→α)→α
 | [],k=>k []
 |(a,b)::l,k=>fN a fun a=>fN b fun b=>fPs l fun l=>k ((a,b)::l)
theorem fPs_eq {α:Type} (l:List (Nat×Nat)):∀ (k:List (Nat×Nat)→α),fPs l k=k l:=by
 induction l with
 | nil=>intro k;rfl
 | cons p l ih=>intro k;obtain ⟨a,b⟩:=p;rw [fPs,fN_eq,fN_eq,ih]
def tailM (T:List (List Nat)):Nat→Nat
 | 0=>0
 | i+1=>bif (List.range i).all fun j=>hasN (T.getD i []) j then tailM T i else i+1
def runE (C:Ctx) (self:SelfT) (n:Nat) (l:List Oper) (T:List (List Nat)) (st:ASt):Option ASt:=match runH C self n ⟨l⟩ 0 [] (l.take (tailM T l.length)) st with
 | some (rs,s)=>fPs (wrOf rs) fun W=>bif rs.all (recB T W st.nx) then runF C self n ⟨l⟩ (l.drop (tailM T l.length)) s else none
 | none=>none
theorem runE_ok {C:Ctx} {self:SelfT} {id:Nat} (hC:C.ok P) (hS:SelfOk P self) (hp:planR l (ancs l [])=true) (ht:tailR l (ancs l []) (tailM (ancs l []) l.length)=true) (h:runE C self n l (ancs l []) st=some st'):AW P n (.region id ⟨l⟩ true) (fun e s=>e=.normal∧s=st') st:=by
 unfold runE at h;split at h
 ·rename_i rs s h1;rw [fPs_eq] at h
  cases hb:rs.all (recB (ancs l []) (wrOf rs) st.nx) with
  | false=>rw [hb] at h;cases h
  | true =>
   rw [hb] at h;simp only [cond_true] at h;exact AW.drawR (wrOf rs) [] (tailM (ancs l []) l.length) hC.mixed rfl hp ht (fun _ _=>rfl) (fun _=>.dead _) (runH_ok hC hS _ 0 [] st rs s h1 (fun r hr=>recB_ok hr (List.all_eq_true.1 hb r hr)) (runF_ok hC hS _ s _ h ⟨rfl,rfl⟩))
 ·cases h
end
end Go.Proofs.Ytelpkjellakigaa.Rn
/- As RnO,without the second way for regions that draw. No program in sight. -/
namespace Go.Proofs.Ytelpkjellakigaa.Rn
open Go Go.RowKit Go.Proofs.Ytelpkjellakigaa Go.Proofs.Ytelpkjellakigaa.Dr

section
variable {P:Program} {n:Nat} {st st':ASt} {o:Oper} {x:AV} {Q:Exit→ASt→Prop} {ops:Array Oper} {l:List Oper}
def runD (C:Ctx) (self:SelfT) (n:Nat) (l:List Oper) (T:List (List Nat)) (st:ASt):Option ASt:=bif planR l T&&tailR l T (tailM T l.length) then runE C self n l T st else none
theorem runD_ok {C:Ctx} {self:SelfT} {id:Nat} (hC:C.ok P) (hS:SelfOk P self) (h:runD C self n l (ancs l []) st=some st'):AW P n (.region id ⟨l⟩ true) (fun e s=>e=.normal∧s=st') st:=by
 unfold runD at h
 cases hp:(planR l (ancs l [])&&tailR l (ancs l []) (tailM (ancs l []) l.length)) with
 | false=>rw [hp] at h;cases h
 | true =>
  rw [hp] at h;rw [Bool.and_eq_true] at hp;exact runE_ok hC hS hp.1 hp.2 h
def runC (C:Ctx) (self:SelfT) (fl n:Nat):Code→ASt→Option (Exit×ASt)
 | .skip,st=>some (.normal,st)
 | .label _,st=>some (.normal,st)
 | .exit id,st=>some (.exit id,st)
 | .ret,st=>some (.ret,st)
 | .seq a b,st=>match runC C self fl n a st with
  | some (.normal,st')=>runC C self fl n b st'
  | r=>r
 | .cond c a b,st=>match st.ev c with
  | .bool true=>runC C self fl n a st
  | .bool false=>runC C self fl n b st
  | _=>none
 | .block id c,st=>match runC C self fl n c st with
  | some (.exit id',st')=>bif Nat.beq id' id then some (.normal,st') else some (.exit id',st')
  | r=>r
 | .loop c,st=>loopN (runC C self fl n c) fl st
 | .region _ ⟨l⟩ false,st=>match runF C self n ⟨l⟩ l st with
  | some st'=>some (.normal,st')
  | none=>none
 | .region _ ⟨l⟩ true,st=>match runD C self n l (ancs l []) st with
  | some st'=>some (.normal,st')
  | none=>none
 | .rangeFunc ..,_=>none
 | .scope c,st=>match runC C self fl n c st with
  | some (.goto _,_)=>none
  | r=>r
 | .goto _,_=>none
 | .refuse _,_=>none
theorem runC_ok {C:Ctx} {self:SelfT} {fl:Nat} (hC:C.ok P) (hS:SelfOk P self):∀ (c:Code) (st:ASt) (e:Exit) (st':ASt),runC C self fl n c st=some (e,st')→AW P n c (fun e1 s=>e1=e∧s=st') st:=by
 intro c
 induction c with
 | skip=>intro st e st' h;rw [runC] at h;injection h with h;injection h with h1 h2;exact AW.skip ⟨h1,h2⟩
 | label l=>intro st e st' h;rw [runC] at h;injection h with h;injection h with h1 h2;exact AW.label ⟨h1,h2⟩
 | exit id=>intro st e st' h;rw [runC] at h;injection h with h;injection h with h1 h2;exact AW.exit ⟨h1,h2⟩
 | ret=>intro st e st' h;rw [runC] at h;injection h with h;injection h with h1 h2;exact AW.ret ⟨h1,h2⟩
 | seq a b iha ihb =>
  intro st e st' h;rw [runC] at h
  cases h1:runC C self fl n a st with
  | none=>rw [h1] at h;cases h
  | some p =>
   obtain ⟨e0,s0⟩:=p;rw [h1] at h;refine AW.seq ((iha st e0 s0 h1).mono ?_)
   rintro e1 s ⟨rfl,rfl⟩
   cases e1 with
   | normal=>exact ihb _ _ _ h
   | _ =>
    injection h with h
    injection h with h2 h3
    exact ⟨h2,h3⟩
 | cond c a b iha ihb =>
  intro st e st' h;rw [runC] at h;split at h
  ·rename_i h1;exact AW.condT h1 (iha _ _ _ h)
  ·rename_i h1;exact AW.condF h1 (ihb _ _ _ h)
  ·cases h
 | block id c ih =>
  intro st e st' h;rw [runC] at h
  cases h1:runC C self fl n c st with
  | none=>rw [h1] at h;cases h
  | some p =>
   obtain ⟨e0,s0⟩:=p;rw [h1] at h;refine AW.block ((ih st e0 s0 h1).mono ?_)
   rintro e1 s ⟨rfl,rfl⟩
   cases e1 with
   | exit id' =>
    simp only at h
    cases hb:Nat.beq id' id with
    | true =>
     rw [hb] at h;have:=Nat.eq_of_beq_eq_true hb;subst this;simp only [cond_true] at h;injection h with h
     injection h with h2 h3
     exact inA_eq ⟨h2,h3⟩
    | false =>
     rw [hb] at h;simp only [cond_false] at h;injection h with h
     injection h with h2 h3
     exact inA_ne hb ⟨h2,h3⟩
   | _ =>
    injection h with h
    injection h with h2 h3
    exact ⟨h2,h3⟩
 | loop c ih =>
  intro st e st' h;rw [runC] at h;exact loopN_ok ih h
 | region id ops d =>
  intro st e st' h;obtain ⟨l⟩:=ops
  cases d with
  | false =>
   rw [runC] at h
   cases h1:runF C self n ⟨l⟩ l st with
   | none=>rw [h1] at h;cases h
   | some s =>
    rw [h1] at h;injection h with h
    injection h with h2 h3
    exact AW.region (runF_ok hC hS l st s h1 ⟨h2,h3⟩)
  | true =>
   rw [runC] at h
   cases h1:runD C self n l (ancs l []) st with
   | none=>rw [h1] at h;cases h
   | some s =>
    rw [h1] at h;injection h with h
    injection h with h2 h3
    subst h3;subst h2;exact runD_ok hC hS h1
 | rangeFunc f ps a b=>intro st e st' h;rw [runC] at h;cases h
 | scope c ih =>
  intro st e st' h;rw [runC] at h
  cases h1:runC C self fl n c st with
  | none=>rw [h1] at h;cases h
  | some p =>
   obtain ⟨e0,s0⟩:=p;rw [h1] at h;refine AW.scope ((ih st e0 s0 h1).mono ?_)
   rintro e1 s ⟨rfl,rfl⟩
   cases e1 with
   | goto l=>cases h
   | _ =>
    injection h with h
    injection h with h2 h3
    exact ⟨rfl,h2,h3⟩
 | goto l=>intro st e st' h;rw [runC] at h;cases h
 | refuse w=>intro st e st' h;rw [runC] at h;cases h

theorem out_ok {C:Ctx} {self:SelfT} (hC:C.ok P) (hS:SelfOk P self) {fl F:Nat} {fn:Func} {c:Code} {xs:List AV} {hp hp':List (Nat×AB)} {nx nx':Nat} {x:AV} (h1:lk C.fns F=some fn) (h2:fn.body=some c) (hb:Nat.ble xs.length fn.ntmps=true)
  (h:outC C fn.results.toList (runC C self fl fn.ntmps c ⟨argR 0 xs,hp,nx⟩)=some (x,hp',nx')):AC P F xs hp nx (fun y h' n'=>y=x∧h'=hp'∧n'=nx'):=by
 cases hr:runC C self fl fn.ntmps c ⟨argR 0 xs,hp,nx⟩ with
 | none=>rw [hr] at h;cases h
 | some p =>
  obtain ⟨e,st⟩:=p;rw [hr] at h;have hw:=runC_ok hC hS c _ _ _ hr
  have key:∀ ys,resC C st fn.results.toList=some ys→oneOf ys=x→st.heap=hp'→st.nx=nx'→e=.ret∨e=.normal→AC P F xs hp nx (fun x1 hp1 nx1=>x1=x∧hp1=hp'∧nx1=nx'):=by
   intro ys h3 h4 h5 h6 he;refine AC.body (allP_at hC.fns h1) h2 rfl rfl hb (hw.mono ?_)
   rintro e1 s ⟨rfl,rfl⟩
   exact ⟨he,ys,resC_ok hC h3,h4,h5,h6⟩
  cases e with
  | ret =>
   simp only [outC] at h;split at h
   ·rename_i ys h3;injection h with h
    simp only [Prod.mk.injEq] at h;exact key ys h3 h.1 h.2.1 h.2.2 (.inl rfl)
   ·cases h
  | normal =>
   simp only [outC] at h;split at h
   ·rename_i ys h3;injection h with h
    simp only [Prod.mk.injEq] at h;exact key ys h3 h.1 h.2.1 h.2.2 (.inr rfl)
   ·cases h
  | _=>cases h
def run (C:Ctx) (fl:Nat):Nat→Nat→List AV→List (Nat×AB)→Nat→Option (AV×List (Nat×AB)×Nat)
 | 0,_,_,_,_=>none
 | f+1,F,xs,hp,nx=>match lk C.fns F with
  | some fn=>match fn.body with
   | some c=>bif Nat.ble xs.length fn.ntmps then (match fL1 xs fun xs=>outC C fn.results.toList (runC C (run C fl f) fl fn.ntmps c ⟨argR 0 xs,hp,nx⟩) with
    | some (x,hp2,nx2)=>gcK hp2 nx x fun hp3=>some (x,hp3,nx2)
    | none=>none) else none
   | none=>none
  | none=>none
end
end Go.Proofs.Ytelpkjellakigaa.Rn
/- screenWorks,by a run with short tables. -/
set_option maxRecDepth 1000000
namespace Go.Proofs.Ytelpkjellakigaa
open Go Go.RowKit
end Go.Proofs.Ytelpkjellakigaa
/- Decompiling: functions that call themselves. -/
namespace Go.Proofs.Ytelpkjellakigaa
open Go Go.RowKit
def recN {α β:Type} (body:(Nat→α→Option β)→Nat→α→Option β):Nat→Nat→α→Option β
 | 0,_,_=>none
 | d+1,fu,x=>body (recN body d) fu x
theorem ctr_rec {l:List (Nat×Ctr)} (hl:allP (CtrOk Try.prog) l) {f:Nat} {an:An} {Fn:Nat} {σ ρ:Ty} {body:(Nat→σ.den→Option ρ.den)→Nat→σ.den→Option ρ.den}
  (h:∀ g fu x,(topG (ρ:=ρ) (dc ((Fn,⟨σ,ρ,g,Fn⟩)::l)) (drR (dc ((Fn,⟨σ,ρ,g,Fn⟩)::l))) f an Fn σ (.var x)).den fu=body g fu x):∀ d,CtrOk Try.prog Fn ⟨σ,ρ,recN body d,Fn⟩
 | 0=>fun fu x y hy=>by
  have hy:none=some y:=hy;cases hy
 | d+1=>fun fu x y hy=>(ctr_ok (l:=(Fn,⟨σ,ρ,recN body d,Fn⟩)::l) ⟨ctr_rec hl h d,hl⟩ (f:=f) (an:=an) (g:=recN body (d+1)) (h (recN body d))) fu x y hy
end Go.Proofs.Ytelpkjellakigaa
/- Residual programs of functions (printed by a program out of the code),checked by the kernel,and the contracts that follow. -/
namespace Go.Proofs.Ytelpkjellakigaa
open Go Go.RowKit
set_option linter.unusedVariables false
def R_Floor_j1 (fu:Nat) (v1:Int):Option (Int×Unit) :=
 some ((v1,()))
def R_Floor_r (fu:Nat) (a:Int×Int×Unit):Option (Int×Unit) :=
 bif (decide (a.2.1≠(0:Int))) then
 let v0:Int:=(IntKind.i64.wrap (Int.tdiv a.1 a.2.1))
 joinF (R_Floor_j1 fu) fun j1 =>
 bif (decide (a.1<(IntKind.i64.wrap (v0*a.2.1)))) then
  let v2:Int:=(IntKind.i64.wrap (v0-(1:Int)))
  j1 (v2)
 else
 j1 (v0)
 else none
def R_Floor_an:An:=(.n none .z (.n none .z (.n (some ⟨[],[],[],[.reg 5 (.int .i64)],0,[]⟩) (.n none .z (.n none .z .z)) (.n none .z .z))))
noncomputable def R_Floor_dc:List (Nat×Ctr):=[]
def R_Floor_ctr:Ctr:=⟨(.pair (.int .i64) (.pair (.int .i64) .unit)),(.pair (.int .i64) .unit),R_Floor_r,74⟩
theorem R_Floor_ok:CtrOk Try.prog 74 R_Floor_ctr:=ctr_ok (l:=R_Floor_dc) (f:=12) (an:=R_Floor_an) trivial fun fu x=>by kernel_rfl
def R_Mod_r (fu:Nat) (a:Int×Int×Unit):Option (Int×Unit) :=
 bindO (R_Floor_r fu ((a.1,(a.2.1,())))) fun v0 =>
 let v1:Int:=(IntKind.i64.wrap (a.1-(IntKind.i64.wrap (a.2.1*v0.1))))
 some ((v1,()))
def R_Mod_an:An:=(.n none .z (.n none .z .z))
noncomputable def R_Mod_dc:List (Nat×Ctr):=[(74,R_Floor_ctr)]
def R_Mod_ctr:Ctr:=⟨(.pair (.int .i64) (.pair (.int .i64) .unit)),(.pair (.int .i64) .unit),R_Mod_r,54⟩
theorem R_Mod_ok:CtrOk Try.prog 54 R_Mod_ctr:=ctr_ok (l:=R_Mod_dc) (f:=12) (an:=R_Mod_an) ⟨R_Floor_ok,trivial⟩ fun fu x=>by kernel_rfl
def R_Belongs_r (fu:Nat) (a:(Int×Int×Int)×Int×Int×Unit):Option (Bool×Unit) :=
 let v0:Int:=(IntKind.i64.wrap ((IntKind.i64.wrap (a.1.1*a.1.1))+(IntKind.i64.wrap (a.1.2.1*a.1.2.1))))
 bindO (R_Mod_r fu (((IntKind.i64.wrap ((IntKind.i64.wrap (a.2.1*a.1.1))+(IntKind.i64.wrap (a.2.2.1*a.1.2.1)))),(v0,())))) fun v1 =>
 bif (decide (v1.1=(0:Int))) then
  bindO (R_Mod_r fu (((IntKind.i64.wrap ((IntKind.i64.wrap (a.2.2.1*a.1.1))-(IntKind.i64.wrap (a.2.1*a.1.2.1)))),(v0,())))) fun v2 =>
  let v3:Bool:=(decide (v2.1=(0:Int)))
  some ((v3,()))
 else
 some ((false,()))
def R_Belongs_an:An:=(.n none .z (.n none .z (.n none .z .z)))
noncomputable def R_Belongs_dc:List (Nat×Ctr):=[(54,R_Mod_ctr)]
def R_Belongs_ctr:Ctr:=⟨(.pair (.agg (.pair (.int .i64) (.pair (.int .i64) (.int .i64)))) (.pair (.int .i64) (.pair (.int .i64) .unit))),(.pair .bool .unit),R_Belongs_r,78⟩
theorem R_Belongs_ok:CtrOk Try.prog 78 R_Belongs_ctr:=ctr_ok (l:=R_Belongs_dc) (f:=12) (an:=R_Belongs_an) ⟨R_Mod_ok,trivial⟩ fun fu x=>by kernel_rfl
def R_Gcd_j4 (fu:Nat) (v3:Int) (j3:(Int)→Option (Int×Unit)) (v4:Bool):Option (Int×Unit) :=
 bif v4 then
  some ((v3,()))
 else
 let v5:Int:=(IntKind.i64.wrap (v3-(1:Int)))
 j3 (v5)
def R_Gcd_l3 (fu:Nat) (v0:Int×Int) (v1:Int) (j3:(Int)→Option (Int×Unit)) (v3:Int):Option (Int×Unit) :=
 joinF (R_Gcd_j4 fu v3 j3) fun j4 =>
 bif (decide (v3≠(0:Int))) then
 bif (decide ((Int.tmod v0.2 v3)=(0:Int))) then
  bif (decide (v3≠(0:Int))) then
  j4 ((decide ((Int.tmod v1 v3)=(0:Int))))
  else none
 else
 j4 (false)
 else none
def R_Gcd_j2 (fu:Nat) (v0:Int×Int) (v1:Int):Option (Int×Unit) :=
 let v2:Int:=(max v0.2 v1)
 loopF (R_Gcd_l3 fu v0 v1) fu (v2)
def R_Gcd_j1 (fu:Nat) (v0:Int×Int):Option (Int×Unit) :=
 joinF (R_Gcd_j2 fu v0) fun j1 =>
 bif (decide (v0.1<(0:Int))) then
  let v2:Int:=(IntKind.i64.wrap (-v0.1))
  j1 (v2)
 else
 j1 (v0.1)
def R_Gcd_r (fu:Nat) (a:Int×Int×Unit):Option (Int×Unit) :=
 joinF (R_Gcd_j1 fu) fun j0 =>
 bif (decide (a.1<(0:Int))) then
  let v1:Int:=(IntKind.i64.wrap (-a.1))
  j0 ((a.2.1,v1))
 else
 j0 ((a.2.1,a.1))
def R_Gcd_an:An:=(.n none .z (.n (some ⟨[],[],[],[.reg 1 (.int .i64),.reg 0 (.int .i64)],0,[]⟩) (.n none .z (.n none .z .z)) (.n (some ⟨[0],[],[],[.reg 1 (.int .i64)],0,[]⟩) (.n none .z (.n none .z .z)) (.n none .z (.n none (.n (some ⟨[1],[],[],[.reg 5 (.int .i64)],0,[]⟩) (.n none (.n none (.n (some ⟨[5],[],[],[.reg 28 .bool],0,[]⟩) .z (.n none (.n none .z .z) .z)) .z) .z) .z) .z)))))
noncomputable def R_Gcd_dc:List (Nat×Ctr):=[]
def R_Gcd_ctr:Ctr:=⟨(.pair (.int .i64) (.pair (.int .i64) .unit)),(.pair (.int .i64) .unit),R_Gcd_r,30⟩
theorem R_Gcd_ok:CtrOk Try.prog 30 R_Gcd_ctr:=ctr_ok (l:=R_Gcd_dc) (f:=12) (an:=R_Gcd_an) trivial fun fu x=>by kernel_rfl
def R_Place_l1 (fu:Nat) (a:(Int×Int×Int)×Int×Int×Unit) (v2:Int) (v4:Int) (j5:(Int)→Option (Int×Unit)) (v5:Int):Option (Int×Unit) :=
 bif (decide (v5<v2)) then
  bindO (R_Belongs_r fu ((a.1,((IntKind.i64.wrap (a.2.1-v5)),((IntKind.i64.wrap (a.2.2.1-v4)),()))))) fun v6 =>
  bif v6.1 then
   let v7:Int:=(IntKind.i64.wrap ((IntKind.i64.wrap (v4*v2))+v5))
   some ((v7,()))
  else
  j5 ((IntKind.i64.wrap (v5+(1:Int))))
 else
 some (((-1:Int),()))
def R_Place_r (fu:Nat) (a:(Int×Int×Int)×Int×Int×Unit):Option (Int×Unit) :=
 bindO (R_Gcd_r fu ((a.1.1,(a.1.2.1,())))) fun v0 =>
 let v1:Int:=v0.1
 bif (decide (v1≠(0:Int))) then
 let v2:Int:=(IntKind.i64.wrap (Int.tdiv (IntKind.i64.wrap ((IntKind.i64.wrap (a.1.1*a.1.1))+(IntKind.i64.wrap (a.1.2.1*a.1.2.1)))) v1))
 bindO (R_Mod_r fu ((a.2.2.1,(v1,())))) fun v3 =>
 let v4:Int:=v3.1
 loopF (R_Place_l1 fu a v2 v4) fu ((0:Int))
 else none
def R_Place_an:An:=(.n none .z (.n none .z (.n none .z (.n none .z (.n none (.n none .z (.n none (.n (some ⟨[3,1,2,8,9,32],[0],[],[.reg 33 (.int .i64)],0,[]⟩) (.n none .z (.n none .z (.n none (.n none (.n none .z (.n none .z (.n none (.n none .z .z) .z))) .z) .z))) .z) .z)) (.n none .z .z))))))
noncomputable def R_Place_dc:List (Nat×Ctr):=[(30,R_Gcd_ctr),(54,R_Mod_ctr),(78,R_Belongs_ctr)]
def R_Place_ctr:Ctr:=⟨(.pair (.agg (.pair (.int .i64) (.pair (.int .i64) (.int .i64)))) (.pair (.int .i64) (.pair (.int .i64) .unit))),(.pair (.int .i64) .unit),R_Place_r,31⟩
theorem R_Place_ok:CtrOk Try.prog 31 R_Place_ctr:=ctr_ok (l:=R_Place_dc) (f:=12) (an:=R_Place_an) ⟨R_Gcd_ok,⟨R_Mod_ok,⟨R_Belongs_ok,trivial⟩⟩⟩ fun fu x=>by kernel_rfl
def R_Within_r (fu:Nat) (a:Int×Int×Int×Unit):Option (Bool×Unit) :=
 bif (decide (a.2.1≤a.1)) then
  let v0:Bool:=(decide (a.1≤a.2.2.1))
  some ((v0,()))
 else
 some ((false,()))
def R_Within_an:An:=(.n none .z (.n none .z .z))
noncomputable def R_Within_dc:List (Nat×Ctr):=[]
def R_Within_ctr:Ctr:=⟨(.pair (.int .i64) (.pair (.int .i64) (.pair (.int .i64) .unit))),(.pair .bool .unit),R_Within_r,21⟩
theorem R_Within_ok:CtrOk Try.prog 21 R_Within_ctr:=ctr_ok (l:=R_Within_dc) (f:=12) (an:=R_Within_an) trivial fun fu x=>by kernel_rfl
def law_none_r (fu:Nat) (a:Bool×Int×Int×Unit):Option (Bool×Unit) :=
 bif a.1 then
  let v0:Bool:=(decide (a.2.1=a.2.2.1))
  some ((v0,()))
 else
 some ((false,()))
def law_none_an:An:=(.n none .z (.n none .z .z))
noncomputable def law_none_dc:List (Nat×Ctr):=[]
def law_none_ctr:Ctr:=⟨(.pair .bool (.pair (.int .i64) (.pair (.int .i64) .unit))),(.pair .bool .unit),law_none_r,18⟩
theorem law_none_ok:CtrOk Try.prog 18 law_none_ctr:=ctr_ok (l:=law_none_dc) (f:=12) (an:=law_none_an) trivial fun fu x=>by kernel_rfl
def screen_Check_j1 (fu:Nat) (a:(Int×Int×Int)×Unit) (v0:Bool):Option (Int×Unit) :=
 bif v0 then
  some (((3:Int),()))
 else
 let v1:Int:=(IntKind.i64.wrap ((IntKind.i64.wrap (a.1.1*a.1.1))+(IntKind.i64.wrap (a.1.2.1*a.1.2.1))))
 let v2:Bool:=(decide (v1=(0:Int)))
 bif v2 then
  some (((1:Int),()))
 else
 let v3:Bool:=(decide ((400:Int)<v1))
 bif v3 then
  some (((2:Int),()))
 else
 some (((0:Int),()))
def screen_Check_r (fu:Nat) (a:(Int×Int×Int)×Unit):Option (Int×Unit) :=
 joinF (screen_Check_j1 fu a) fun j0 =>
 bif (decide (a.1.1<(0:Int))) then
  j0 (true)
 else
 bif (decide ((20:Int)<a.1.1)) then
  j0 (true)
 else
 bif (decide (a.1.2.1<(0:Int))) then
  j0 (true)
 else
 bif (decide ((20:Int)<a.1.2.1)) then
  j0 (true)
 else
 bif (decide (a.1.2.2<(0:Int))) then
  j0 (true)
 else
 j0 ((decide ((3:Int)<a.1.2.2)))
def screen_Check_an:An:=(.n none .z (.n none (.n (some ⟨[1],[0],[],[.reg 31 .bool],0,[]⟩) .z (.n none (.n none .z .z) .z)) (.n none (.n none .z (.n none (.n none .z (.n none (.n none .z .z) (.n none .z (.n none (.n none .z .z) .z)))) .z)) (.n none .z .z))))
noncomputable def screen_Check_dc:List (Nat×Ctr):=[]
def screen_Check_ctr:Ctr:=⟨(.pair (.agg (.pair (.int .i64) (.pair (.int .i64) (.int .i64)))) .unit),(.pair (.int .i64) .unit),screen_Check_r,29⟩
theorem screen_Check_ok:CtrOk Try.prog 29 screen_Check_ctr:=ctr_ok (l:=screen_Check_dc) (f:=12) (an:=screen_Check_an) trivial fun fu x=>by kernel_rfl
def R_ScreenErr_j2 (fu:Nat) (a:(Int×Int×Int)×Unit) (v1:Bool):Option (Int×Unit) :=
 bif v1 then
  some (((1:Int),()))
 else
 bif (decide ((400:Int)<(IntKind.i64.wrap ((IntKind.i64.wrap (a.1.1*a.1.1))+(IntKind.i64.wrap (a.1.2.1*a.1.2.1)))))) then
  some (((2:Int),()))
 else
 some (((0:Int),()))
def R_ScreenErr_j1 (fu:Nat) (a:(Int×Int×Int)×Unit) (v0:Bool):Option (Int×Unit) :=
 bif v0 then
  some (((3:Int),()))
 else
 joinF (R_ScreenErr_j2 fu a) fun j1 =>
 bif (decide (a.1.1=(0:Int))) then
  j1 ((decide (a.1.2.1=(0:Int))))
 else
 j1 (false)
def R_ScreenErr_r (fu:Nat) (a:(Int×Int×Int)×Unit):Option (Int×Unit) :=
 joinF (R_ScreenErr_j1 fu a) fun j0 =>
 bindO (R_Within_r fu ((a.1.1,((0:Int),((20:Int),()))))) fun v1 =>
 bif (!v1.1) then
  j0 (true)
 else
 bindO (R_Within_r fu ((a.1.2.1,((0:Int),((20:Int),()))))) fun v2 =>
 bif (!v2.1) then
  j0 (true)
 else
 bindO (R_Within_r fu ((a.1.2.2,((0:Int),((3:Int),()))))) fun v3 =>
 j0 ((!v3.1))
def R_ScreenErr_an:An:=(.n none .z (.n none (.n (some ⟨[1],[0],[],[.reg 18 .bool],0,[]⟩) .z (.n none (.n none .z .z) .z)) (.n none (.n (some ⟨[1],[0],[],[.reg 26 .bool],0,[]⟩) .z (.n none (.n none .z .z) .z)) (.n none (.n none .z (.n none (.n none .z .z) .z)) (.n none .z .z)))))
noncomputable def R_ScreenErr_dc:List (Nat×Ctr):=[(21,R_Within_ctr)]
def R_ScreenErr_ctr:Ctr:=⟨(.pair (.agg (.pair (.int .i64) (.pair (.int .i64) (.int .i64)))) .unit),(.pair (.int .i64) .unit),R_ScreenErr_r,17⟩
theorem R_ScreenErr_ok:CtrOk Try.prog 17 R_ScreenErr_ctr:=ctr_ok (l:=R_ScreenErr_dc) (f:=12) (an:=R_ScreenErr_an) ⟨R_Within_ok,trivial⟩ fun fu x=>by kernel_rfl
def screen_mod_j1 (fu:Nat) (v0:Int):Option (Int×Unit) :=
 some ((v0,()))
def screen_mod_r (fu:Nat) (a:Int×Int×Unit):Option (Int×Unit) :=
 joinF (screen_mod_j1 fu) fun j0 =>
 bif (decide (a.2.1≠(0:Int))) then
 let v1:Int:=(Int.tmod a.1 a.2.1)
 bif (decide (v1<(0:Int))) then
  let v2:Int:=(IntKind.i64.wrap (v1+a.2.1))
  j0 (v2)
 else
 j0 (v1)
 else none
def screen_mod_an:An:=(.n none .z (.n (some ⟨[],[],[],[.reg 0 (.int .i64)],0,[]⟩) (.n none .z (.n none .z (.n none .z .z))) (.n none .z .z)))
noncomputable def screen_mod_dc:List (Nat×Ctr):=[]
def screen_mod_ctr:Ctr:=⟨(.pair (.int .i64) (.pair (.int .i64) .unit)),(.pair (.int .i64) .unit),screen_mod_r,77⟩
theorem screen_mod_ok:CtrOk Try.prog 77 screen_mod_ctr:=ctr_ok (l:=screen_mod_dc) (f:=12) (an:=screen_mod_an) trivial fun fu x=>by kernel_rfl
def _screen_Form__Place_r (fu:Nat) (a:(Int×Int×Int)×Int×Int×Unit):Option (Int×Unit) :=
 bindO (screen_mod_r fu ((a.2.2.1,(a.1.2.2,())))) fun v0 =>
 let v1:Int:=v0.1
 bif (decide (a.1.2.2≠(0:Int))) then
 let v2:Int:=(IntKind.i64.wrap (Int.tdiv (IntKind.i64.wrap (a.2.2.1-v1)) a.1.2.2))
 bindO (screen_mod_r fu ((v2,(a.1.1,())))) fun v3 =>
 bindO (screen_mod_r fu (((IntKind.i64.wrap (a.2.1-(IntKind.i64.wrap (v3.1*a.1.2.1)))),(a.1.1,())))) fun v4 =>
 let v5:Int:=(IntKind.i64.wrap ((IntKind.i64.wrap (v1*a.1.1))+v4.1))
 some ((v5,()))
 else none
def _screen_Form__Place_an:An:=(.n none .z (.n none .z (.n none .z (.n none (.dr [] []) .z))))
noncomputable def _screen_Form__Place_dc:List (Nat×Ctr):=[(77,screen_mod_ctr)]
def _screen_Form__Place_ctr:Ctr:=⟨(.pair (.agg (.pair (.int .i64) (.pair (.int .i64) (.int .i64)))) (.pair (.int .i64) (.pair (.int .i64) .unit))),(.pair (.int .i64) .unit),_screen_Form__Place_r,80⟩
theorem _screen_Form__Place_ok:CtrOk Try.prog 80 _screen_Form__Place_ctr:=ctr_ok (l:=_screen_Form__Place_dc) (f:=12) (an:=_screen_Form__Place_an) ⟨screen_mod_ok,trivial⟩ fun fu x=>by kernel_rfl
def screen_bezout_b (sf:Nat→(Int×Int×Unit)→Option (Int×Int×Int×Unit)) (fu:Nat) (a:Int×Int×Unit):Option (Int×Int×Int×Unit) :=
 bif (decide (a.2.1=(0:Int))) then
  let v0:Int:=a.1
  some ((v0,((1:Int),((0:Int),()))))
 else
 bif (decide (a.2.1≠(0:Int))) then
 bindO (sf fu ((a.2.1,((Int.tmod a.1 a.2.1),())))) fun v0 =>
 let v1:Int:=v0.1
 let v2:Int:=v0.2.1
 let v3:Int:=v0.2.2.1
 bif (decide (a.2.1≠(0:Int))) then
 let v4:Int:=(IntKind.i64.wrap (v2-(IntKind.i64.wrap ((IntKind.i64.wrap (Int.tdiv a.1 a.2.1))*v3))))
 some ((v1,(v3,(v4,()))))
 else none
 else none
def screen_bezout_r (fu:Nat) (a:Int×Int×Unit):Option (Int×Int×Int×Unit):=recN screen_bezout_b fu fu a
def screen_bezout_an:An:=(.n none .z (.n none (.n none .z (.n none (.n none .z .z) .z)) (.n none .z (.n none (.dr [] []) .z))))
noncomputable def screen_bezout_dc:List (Nat×Ctr):=[]
def screen_bezout_ctr:Ctr:=⟨(.pair (.int .i64) (.pair (.int .i64) .unit)),(.pair (.int .i64) (.pair (.int .i64) (.pair (.int .i64) .unit))),screen_bezout_r,76⟩
theorem screen_bezout_ok:CtrOk Try.prog 76 screen_bezout_ctr:=fun fu x y hy=>ctr_rec (σ:=(.pair (.int .i64) (.pair (.int .i64) .unit))) (ρ:=(.pair (.int .i64) (.pair (.int .i64) (.pair (.int .i64) .unit)))) (l:=screen_bezout_dc) trivial (f:=12) (an:=screen_bezout_an) (body:=screen_bezout_b) (fun g fu x=>by kernel_rfl) fu fu x y hy
def screen_Of_r (fu:Nat) (a:(Int×Int×Int)×Unit):Option ((Int×Int×Int)×Unit) :=
 bindO (screen_bezout_r fu ((a.1.1,(a.1.2.1,())))) fun v0 =>
 let v1:Int:=v0.1
 let v2:Int:=v0.2.1
 let v3:Int:=v0.2.2.1
 bif (decide (v1≠(0:Int))) then
 let v4:Int:=(IntKind.i64.wrap (Int.tdiv (IntKind.i64.wrap ((IntKind.i64.wrap (a.1.1*a.1.1))+(IntKind.i64.wrap (a.1.2.1*a.1.2.1)))) v1))
 bindO (screen_mod_r fu (((IntKind.i64.wrap ((IntKind.i64.wrap (v3*a.1.1))-(IntKind.i64.wrap (v2*a.1.2.1)))),(v4,())))) fun v5 =>
 some (((v4,(v5.1,v1)),()))
 else none
def screen_Of_an:An:=(.n none .z (.n none .z (.n none .z (.n none .z .z))))
noncomputable def screen_Of_dc:List (Nat×Ctr):=[(76,screen_bezout_ctr),(77,screen_mod_ctr)]
def screen_Of_ctr:Ctr:=⟨(.pair (.agg (.pair (.int .i64) (.pair (.int .i64) (.int .i64)))) .unit),(.pair (.agg (.pair (.int .i64) (.pair (.int .i64) (.int .i64)))) .unit),screen_Of_r,75⟩
theorem screen_Of_ok:CtrOk Try.prog 75 screen_Of_ctr:=ctr_ok (l:=screen_Of_dc) (f:=12) (an:=screen_Of_an) ⟨screen_bezout_ok,⟨screen_mod_ok,trivial⟩⟩ fun fu x=>by kernel_rfl
end Go.Proofs.Ytelpkjellakigaa
/- Residual programs of functions (printed by a program out of the code),checked by the kernel,and the contracts that follow. -/
namespace Go.Proofs.Ytelpkjellakigaa
open Go Go.RowKit
set_option linter.unusedVariables false
def R_Round_j1 (fu:Nat) (v2:Int):Option (Int×Unit) :=
 some ((v2,()))
def R_Round_r (fu:Nat) (a:Int×Int×Unit):Option (Int×Unit) :=
 bindO (R_Floor_r fu ((a.1,(a.2.1,())))) fun v0 =>
 let v1:Int:=v0.1
 joinF (R_Round_j1 fu) fun j2 =>
 bif (decide (a.2.1≤(IntKind.i64.wrap ((2:Int)*(IntKind.i64.wrap (a.1-(IntKind.i64.wrap (v1*a.2.1)))))))) then
  let v3:Int:=(IntKind.i64.wrap (v1+(1:Int)))
  j2 (v3)
 else
 j2 (v1)
def R_Round_an:An:=(.n none .z (.n none .z (.n (some ⟨[],[],[],[.reg 5 (.int .i64)],0,[]⟩) (.n none .z (.n none .z .z)) (.n none .z .z))))
noncomputable def R_Round_dc:List (Nat×Ctr):=[(74,R_Floor_ctr)]
def R_Round_ctr:Ctr:=⟨(.pair (.int .i64) (.pair (.int .i64) .unit)),(.pair (.int .i64) .unit),R_Round_r,22⟩
theorem R_Round_ok:CtrOk Try.prog 22 R_Round_ctr:=ctr_ok (l:=R_Round_dc) (f:=12) (an:=R_Round_an) ⟨R_Floor_ok,trivial⟩ fun fu x=>by kernel_rfl
def bitmap_stride_r (fu:Nat) (a:Int×Unit):Option (Int×Unit) :=
 let v0:Int:=(IntKind.i64.wrap (Int.tdiv (IntKind.i64.wrap (a.1+(7:Int))) (8:Int)))
 some ((v0,()))
def bitmap_stride_an:An:=(.n none .z (.n none .z .z))
noncomputable def bitmap_stride_dc:List (Nat×Ctr):=[]
def bitmap_stride_ctr:Ctr:=⟨(.pair (.int .i64) .unit),(.pair (.int .i64) .unit),bitmap_stride_r,115⟩
theorem bitmap_stride_ok:CtrOk Try.prog 115 bitmap_stride_ctr:=ctr_ok (l:=bitmap_stride_dc) (f:=12) (an:=bitmap_stride_an) trivial fun fu x=>by kernel_rfl
def bitmap_Is_r (fu:Nat) (a:(Int×Int×List Int)×Int×Int×Unit):Option (Bool×Unit) :=
 bif (decide ((0:Int)≤a.2.1)) then
  bif (decide (a.2.1<a.1.1)) then
   bif (decide ((0:Int)≤a.2.2.1)) then
    bif (decide (a.2.2.1<a.1.2.1)) then
     bindO (bitmap_stride_r fu ((a.1.1,()))) fun v0 =>
     bif ((decide ((0:Int)≤(IntKind.i64.wrap ((IntKind.i64.wrap (a.2.2.1*v0.1))+(IntKind.i64.wrap (Int.tdiv a.2.1 (8:Int)))))))&&(decide ((IntKind.i64.wrap ((IntKind.i64.wrap (a.2.2.1*v0.1))+(IntKind.i64.wrap (Int.tdiv a.2.1 (8:Int)))))<(List.length a.1.2.2:Int)))) then
     let v1:Int:=(List.getD a.1.2.2 (Int.toNat (IntKind.i64.wrap ((IntKind.i64.wrap (a.2.2.1*v0.1))+(IntKind.i64.wrap (Int.tdiv a.2.1 (8:Int)))))) 0)
     bif ((decide ((0:Int)≤(Int.tmod a.2.1 (8:Int))))&&(decide ((Int.tmod a.2.1 (8:Int))≤(8:Int)))) then
     let v2:Bool:=(decide ((bits BinOp.and IntKind.u8 v1 ((128:Int) / 2 ^ (Int.toNat (Int.tmod a.2.1 (8:Int)))))≠(0:Int)))
     some ((v2,()))
     else none
     else none
    else
    some ((false,()))
   else
   some ((false,()))
  else
  some ((false,()))
 else
 some ((false,()))
def bitmap_Is_an:An:=(.n none .z (.n none (.dr [] []) .z))
noncomputable def bitmap_Is_dc:List (Nat×Ctr):=[(115,bitmap_stride_ctr)]
def bitmap_Is_ctr:Ctr:=⟨(.pair (.ptr (.pair (.int .i64) (.pair (.int .i64) (.list (.int .u8))))) (.pair (.int .i64) (.pair (.int .i64) .unit))),(.pair .bool .unit),bitmap_Is_r,82⟩
theorem bitmap_Is_ok:CtrOk Try.prog 82 bitmap_Is_ctr:=ctr_ok (l:=bitmap_Is_dc) (f:=12) (an:=bitmap_Is_an) ⟨bitmap_stride_ok,trivial⟩ fun fu x=>by kernel_rfl
def curve_Nearest_j1 (fu:Nat) (v3:Int):Option (Int×Unit) :=
 some ((v3,()))
def curve_Nearest_r (fu:Nat) (a:Int×Int×Unit):Option (Int×Unit) :=
 let v0:Int:=(IntKind.i64.wrap ((IntKind.i64.wrap ((2:Int)*a.1))+a.2.1))
 let v1:Int:=(IntKind.i64.wrap ((2:Int)*a.2.1))
 bif (decide (v1≠(0:Int))) then
 let v2:Int:=(IntKind.i64.wrap (Int.tdiv v0 v1))
 joinF (curve_Nearest_j1 fu) fun j3 =>
 bif (decide (v1≠(0:Int))) then
 bif (decide ((Int.tmod v0 v1)<(0:Int))) then
  let v4:Int:=(IntKind.i64.wrap (v2-(1:Int)))
  j3 (v4)
 else
 j3 (v2)
 else none
 else none
def curve_Nearest_an:An:=(.n none .z (.n none .z (.n none .z (.n (some ⟨[],[],[],[.reg 5 (.int .i64)],0,[]⟩) (.n none .z (.n none .z .z)) (.n none .z .z)))))
noncomputable def curve_Nearest_dc:List (Nat×Ctr):=[]
def curve_Nearest_ctr:Ctr:=⟨(.pair (.int .i64) (.pair (.int .i64) .unit)),(.pair (.int .i64) .unit),curve_Nearest_r,72⟩
theorem curve_Nearest_ok:CtrOk Try.prog 72 curve_Nearest_ctr:=ctr_ok (l:=curve_Nearest_dc) (f:=12) (an:=curve_Nearest_an) trivial fun fu x=>by kernel_rfl
def bitmap_Check_j2 (fu:Nat) (v3:Unit):Option (Int×Unit) :=
 some (((0:Int),()))
def bitmap_Check_l3 (fu:Nat) (a:(Int×Int×List Int)×Unit) (v2:Int) (v4:Int) (j3:(Unit)→Option (Int×Unit)) (j5:(Int)→Option (Int×Unit)) (v5:Int):Option (Int×Unit) :=
 bif (decide (v5<a.1.2.1)) then
  bif ((decide ((0:Int)≤(IntKind.i64.wrap ((IntKind.i64.wrap ((IntKind.i64.wrap (v5*v2))+v2))-(1:Int)))))&&(decide ((IntKind.i64.wrap ((IntKind.i64.wrap ((IntKind.i64.wrap (v5*v2))+v2))-(1:Int)))<(List.length a.1.2.2:Int)))) then
  let v6:Int:=(List.getD a.1.2.2 (Int.toNat (IntKind.i64.wrap ((IntKind.i64.wrap ((IntKind.i64.wrap (v5*v2))+v2))-(1:Int)))) 0)
  bif (decide ((bits BinOp.and IntKind.u8 v6 v4)≠(0:Int))) then
   some (((4:Int),()))
  else
  j5 ((IntKind.i64.wrap (v5+(1:Int))))
  else none
 else
 j3 (())
def bitmap_Check_j1 (fu:Nat) (a:(Int×Int×List Int)×Unit) (v0:Bool):Option (Int×Unit) :=
 bif v0 then
  some (((3:Int),()))
 else
 bindO (bitmap_stride_r fu ((a.1.1,()))) fun v1 =>
 let v2:Int:=v1.1
 bif (decide ((List.length a.1.2.2:Int)≠(IntKind.i64.wrap (v2*a.1.2.1)))) then
  some (((4:Int),()))
 else
 joinF (bitmap_Check_j2 fu) fun j3 =>
 bif ((decide ((0:Int)≤(IntKind.i64.wrap ((IntKind.i64.wrap ((8:Int)*v2))-a.1.1))))&&(decide ((IntKind.i64.wrap ((IntKind.i64.wrap ((8:Int)*v2))-a.1.1))≤(8:Int)))) then
 let v4:Int:=(IntKind.u8.wrap ((IntKind.u8.wrap ((1:Int)*2 ^ (Int.toNat (IntKind.i64.wrap ((IntKind.i64.wrap ((8:Int)*v2))-a.1.1)))))-(1:Int)))
 bif (decide (v4≠(0:Int))) then
  loopF (bitmap_Check_l3 fu a v2 v4 j3) fu ((0:Int))
 else
 j3 (())
 else none
def bitmap_Check_r (fu:Nat) (a:(Int×Int×List Int)×Unit):Option (Int×Unit) :=
 joinF (bitmap_Check_j1 fu a) fun j0 =>
 bif (decide (a.1.1<(1:Int))) then
  j0 (true)
 else
 bif (decide ((1024:Int)<a.1.1)) then
  j0 (true)
 else
 bif (decide (a.1.2.1<(1:Int))) then
  j0 (true)
 else
 j0 ((decide ((1024:Int)<a.1.2.1)))
def bitmap_Check_an:An:=(.n none .z (.n none (.n (some ⟨[1],[0],[],[.reg 23 .bool],0,[]⟩) .z (.n none (.n none .z .z) .z)) (.n none .z (.n none (.n none .z (.n none (.n none .z .z) .z)) (.n (some ⟨[],[0],[],[],0,[]⟩) (.n none .z (.n none .z (.n none (.n none .z (.n none (.n (some ⟨[1,3,4,45],[],[],[.reg 46 (.int .i64)],0,[]⟩) (.n none .z (.n none .z (.n none (.n none (.n none .z (.n none .z (.n none (.n none .z .z) .z))) .z) .z))) .z) .z)) .z))) (.n none .z .z))))))
noncomputable def bitmap_Check_dc:List (Nat×Ctr):=[(115,bitmap_stride_ctr)]
def bitmap_Check_ctr:Ctr:=⟨(.pair (.agg (.pair (.int .i64) (.pair (.int .i64) (.list (.int .u8))))) .unit),(.pair (.int .i64) .unit),bitmap_Check_r,81⟩
theorem bitmap_Check_ok:CtrOk Try.prog 81 bitmap_Check_ctr:=ctr_ok (l:=bitmap_Check_dc) (f:=12) (an:=bitmap_Check_an) ⟨bitmap_stride_ok,trivial⟩ fun fu x=>by kernel_rfl
def halftone_Tones_j5 (fu:Nat) (j10:(Int×Int)→Option (List Int×Int×Unit)) (v11:Int×Int):Option (List Int×Int×Unit) :=
 j10 ((v11.2,(IntKind.i64.wrap (v11.1+(1:Int)))))
def halftone_Tones_l4 (fu:Nat) (a:(Int×Int×List Int)×(Int×Int×Int)×Unit) (v5:Int) (v6:Int×List Int) (v7:Int×List Int) (v8:Int×Int) (v9:Int) (j8:(Int×Int)→Option (List Int×Int×Unit)) (j10:(Int×Int)→Option (List Int×Int×Unit)) (v10:Int×Int):Option (List Int×Int×Unit) :=
 bif (decide (v10.2<v5)) then
  joinF (halftone_Tones_j5 fu j10) fun j11 =>
  let v12:Int:=v10.2
  bindO (bitmap_Is_r fu ((a.1,((IntKind.i64.wrap (v7.1+v12)),((IntKind.i64.wrap (v6.1+v9)),()))))) fun v13 =>
  bif v13.1 then
   let v14:Int:=(IntKind.i64.wrap (v10.1+(1:Int)))
   j11 ((v10.2,v14))
  else
  j11 ((v10.2,v10.1))
 else
 j8 ((v10.1,(IntKind.i64.wrap (v8.2+(1:Int)))))
def halftone_Tones_l3 (fu:Nat) (a:(Int×Int×List Int)×(Int×Int×Int)×Unit) (v5:Int) (v6:Int×List Int) (v7:Int×List Int) (j7:(Int×List Int)→Option (List Int×Int×Unit)) (j8:(Int×Int)→Option (List Int×Int×Unit)) (v8:Int×Int):Option (List Int×Int×Unit) :=
 bif (decide (v8.2<v5)) then
  let v9:Int:=v8.2
  loopF (halftone_Tones_l4 fu a v5 v6 v7 v8 v9 j8) fu ((v8.1,(0:Int)))
 else
 bindO (curve_Nearest_r fu (((IntKind.i64.wrap ((255:Int)*v8.1)),((IntKind.i64.wrap (v5*v5)),())))) fun v9 =>
 bif (decide ((((List.length v7.2:Int)+(List.length ([v9.1]:List Int):Int))*(8:Int))≤(140737488355328:Int))) then
 let v10:Int:=(IntKind.i64.wrap (v7.1+v5))
 j7 ((v10,(v7.2++([v9.1]:List Int))))
 else none
def halftone_Tones_l2 (fu:Nat) (a:(Int×Int×List Int)×(Int×Int×Int)×Unit) (v5:Int) (v6:Int×List Int) (j6:(Int×List Int)→Option (List Int×Int×Unit)) (j7:(Int×List Int)→Option (List Int×Int×Unit)) (v7:Int×List Int):Option (List Int×Int×Unit) :=
 bif (decide ((IntKind.i64.wrap (v7.1+v5))≤a.1.1)) then
  loopF (halftone_Tones_l3 fu a v5 v6 v7 j7) fu (((0:Int),(0:Int)))
 else
 let v8:Int:=(IntKind.i64.wrap (v6.1+v5))
 j6 ((v8,v7.2))
def halftone_Tones_l1 (fu:Nat) (a:(Int×Int×List Int)×(Int×Int×Int)×Unit) (v5:Int) (j6:(Int×List Int)→Option (List Int×Int×Unit)) (v6:Int×List Int):Option (List Int×Int×Unit) :=
 bif (decide ((IntKind.i64.wrap (v6.1+v5))≤a.1.2.1)) then
  loopF (halftone_Tones_l2 fu a v5 v6 j6) fu (((0:Int),v6.2))
 else
 some ((v6.2,((0:Int),())))
def halftone_Tones_r (fu:Nat) (a:(Int×Int×List Int)×(Int×Int×Int)×Unit):Option (List Int×Int×Unit) :=
 bindO (bitmap_Check_r fu ((a.1,()))) fun v0 =>
 let v1:Int:=v0.1
 bif (decide (v1≠(0:Int))) then
  some ((([]:List (Int)),(v1,())))
 else
 bindO (screen_Check_r fu ((a.2.1,()))) fun v2 =>
 let v3:Int:=v2.1
 bif (decide (v3≠(0:Int))) then
  some ((([]:List (Int)),(v3,())))
 else
 bindO (screen_Of_r fu ((a.2.1,()))) fun v4 =>
 let v5:Int:=v4.1.1
 loopF (halftone_Tones_l1 fu a v5) fu (((0:Int),([]:List (Int))))
def halftone_Tones_an:An:=(.n none .z (.n none (.n none .z (.n none .z (.n none (.n none .z .z) .z))) (.n none (.n none .z (.n none .z (.n none (.n none .z .z) .z))) (.n none .z (.n none .z (.n none (.n none .z (.n none (.n (some ⟨[8,2,4,5],[0,1],[(9,(.osl 2 0))],[.reg 10 (.int .i64),.row 2 true (.int .i64) 3 0],1,[(9,(.int .i64),3)]⟩) (.n none (.n none .z .z) (.n none (.n none (.n none .z (.n none (.n (some ⟨[10],[],[(9,(.osl 2 0))],[.reg 11 (.int .i64),.row 2 true (.int .i64) 3 0],0,[]⟩) (.n none (.n none .z .z) (.n none (.n none (.n none .z (.n none (.n none .z (.n none (.n (some ⟨[11,9,46],[2],[],[.reg 12 (.int .i64),.reg 47 (.int .i64)],0,[]⟩) (.n none .z (.n none .z (.n none (.n none (.n none .z (.n none .z (.n none (.n (some ⟨[47,13,50],[],[],[.reg 12 (.int .i64),.reg 51 (.int .i64)],0,[]⟩) (.n none .z (.n none .z (.n (some ⟨[],[],[],[.reg 51 (.int .i64),.reg 12 (.int .i64)],0,[]⟩) (.n none (.n none .z (.n none .z (.n none .z .z))) .z) .z))) .z) .z))) .z) .z))) .z) .z)) .z)) .z) .z)) .z) .z)) .z) .z)) .z) .z)) (.n none .z .z)))))))
noncomputable def halftone_Tones_dc:List (Nat×Ctr):=[(29,screen_Check_ctr),(72,curve_Nearest_ctr),(75,screen_Of_ctr),(81,bitmap_Check_ctr),(82,bitmap_Is_ctr)]
def halftone_Tones_ctr:Ctr:=⟨(.pair (.agg (.pair (.int .i64) (.pair (.int .i64) (.list (.int .u8))))) (.pair (.agg (.pair (.int .i64) (.pair (.int .i64) (.int .i64)))) .unit)),(.pair (.list (.int .i64)) (.pair (.int .i64) .unit)),halftone_Tones_r,33⟩
theorem halftone_Tones_ok:CtrOk Try.prog 33 halftone_Tones_ctr:=ctr_ok (l:=halftone_Tones_dc) (f:=12) (an:=halftone_Tones_an) ⟨screen_Check_ok,⟨curve_Nearest_ok,⟨screen_Of_ok,⟨bitmap_Check_ok,⟨bitmap_Is_ok,trivial⟩⟩⟩⟩⟩ fun fu x=>by kernel_rfl
end Go.Proofs.Ytelpkjellakigaa
/- Residual programs of functions (printed by a program out of the code),checked by the kernel,and the contracts that follow. -/
namespace Go.Proofs.Ytelpkjellakigaa
open Go Go.RowKit
set_option linter.unusedVariables false
def screen_offset_r (fu:Nat) (a:(Int×Int×Int)×(Int×Int×Int)×Int×Unit):Option (Int×Int×Unit) :=
 let v0:Int:=(IntKind.i64.wrap ((IntKind.i64.wrap (a.1.1*a.1.1))+(IntKind.i64.wrap (a.1.2.1*a.1.2.1))))
 bif (decide (a.2.1.1≠(0:Int))) then
 bif (decide (a.2.1.1≠(0:Int))) then
 let v1:Int:=(Int.tmod a.2.2.1 a.2.1.1)
 let v2:Int:=(IntKind.i64.wrap (Int.tdiv a.2.2.1 a.2.1.1))
 bindO (screen_mod_r fu (((IntKind.i64.wrap ((IntKind.i64.wrap (v1*a.1.1))+(IntKind.i64.wrap (v2*a.1.2.1)))),(v0,())))) fun v3 =>
 bindO (screen_mod_r fu (((IntKind.i64.wrap ((IntKind.i64.wrap (v2*a.1.1))-(IntKind.i64.wrap (v1*a.1.2.1)))),(v0,())))) fun v4 =>
 let v5:Int:=v3.1
 let v6:Int:=v4.1
 let v7:Int:=(min v5 (IntKind.i64.wrap (v0-v5)))
 let v8:Int:=(min v6 (IntKind.i64.wrap (v0-v6)))
 some ((v7,(v8,())))
 else none
 else none
def screen_offset_an:An:=(.n none .z (.n none .z (.n none (.dr [] []) (.n none (.dr [] []) (.n none .z .z)))))
noncomputable def screen_offset_dc:List (Nat×Ctr):=[(77,screen_mod_ctr)]
def screen_offset_ctr:Ctr:=⟨(.pair (.agg (.pair (.int .i64) (.pair (.int .i64) (.int .i64)))) (.pair (.agg (.pair (.int .i64) (.pair (.int .i64) (.int .i64)))) (.pair (.int .i64) .unit))),(.pair (.int .i64) (.pair (.int .i64) .unit)),screen_offset_r,111⟩
theorem screen_offset_ok:CtrOk Try.prog 111 screen_offset_ctr:=ctr_ok (l:=screen_offset_dc) (f:=12) (an:=screen_offset_an) ⟨screen_mod_ok,trivial⟩ fun fu x=>by kernel_rfl
def screen_scatter_j4 (fu:Nat) (j3:(Int×Int)→Option (List Int×Unit)) (v4:Int×Int):Option (List Int×Unit) :=
 j3 ((v4.2,(IntKind.i64.wrap (v4.1+(1:Int)))))
def screen_scatter_j5 (fu:Nat) (v3:Int×Int) (v5:Int) (j4:(Int×Int)→Option (List Int×Unit)) (v7:Bool×Int):Option (List Int×Unit) :=
 bif v7.1 then
  j4 ((v3.2,v5))
 else
 j4 ((v3.2,v7.2))
def screen_scatter_l6 (fu:Nat) (a:(Int×Int×Int)×(Int×Int×Int)×Unit) (v2:Int×List Int×List Int) (v3:Int×Int) (j2:(Int×List Int×List Int)→Option (List Int×Unit)) (j4:(Int×List Int)→Option (List Int×Unit)) (v4:Int×List Int):Option (List Int×Unit) :=
 bif (decide (v4.1<(List.length v2.2.1:Int))) then
  let v5:Int:=v4.1
  bif (decide (a.2.1.1≠(0:Int))) then
  bif (decide (a.2.1.1≠(0:Int))) then
  bif (decide (a.2.1.1≠(0:Int))) then
  bif (decide (a.2.1.1≠(0:Int))) then
  bindO (_screen_Form__Place_r fu ((a.2.1,((IntKind.i64.wrap ((Int.tmod v5 a.2.1.1)-(Int.tmod v3.1 a.2.1.1))),((IntKind.i64.wrap ((IntKind.i64.wrap (Int.tdiv v5 a.2.1.1))-(IntKind.i64.wrap (Int.tdiv v3.1 a.2.1.1)))),()))))) fun v6 =>
  bindO (screen_offset_r fu ((a.1,(a.2.1,(v6.1,()))))) fun v7 =>
  let v8:Int:=v7.1
  let v9:Int:=v7.2.1
  bif ((decide ((0:Int)≤v5))&&(decide (v5<(List.length v4.2:Int)))) then
  bif ((decide ((0:Int)≤v5))&&(decide (v5<(List.length v4.2:Int)))) then
  j4 (((IntKind.i64.wrap (v4.1+(1:Int))),(List.set v4.2 (Int.toNat v5) (min (List.getD v4.2 (Int.toNat v5) 0) (IntKind.i64.wrap ((IntKind.i64.wrap (v8*v8))+(IntKind.i64.wrap (v9*v9))))))))
  else none
  else none
  else none
  else none
  else none
  else none
 else
 j2 (((IntKind.i64.wrap (v2.1+(1:Int))),(v4.2,(v2.2.2++([v3.1]:List Int)))))
def screen_scatter_l3 (fu:Nat) (a:(Int×Int×Int)×(Int×Int×Int)×Unit) (v2:Int×List Int×List Int) (j2:(Int×List Int×List Int)→Option (List Int×Unit)) (j3:(Int×Int)→Option (List Int×Unit)) (v3:Int×Int):Option (List Int×Unit) :=
 bif (decide (v3.2<(List.length v2.2.1:Int))) then
  joinF (screen_scatter_j4 fu j3) fun j4 =>
  bif ((decide ((0:Int)≤v3.2))&&(decide (v3.2<(List.length v2.2.1:Int)))) then
  let v5:Int:=v3.2
  let v6:Int:=(List.getD v2.2.1 (Int.toNat v3.2) 0)
  joinF (screen_scatter_j5 fu v3 v5 j4) fun j7 =>
  bif (decide ((0:Int)<v6)) then
   bif (decide (v3.1<(0:Int))) then
    j7 ((true,v3.1))
   else
   bif ((decide ((0:Int)≤v3.1))&&(decide (v3.1<(List.length v2.2.1:Int)))) then
   j7 (((decide ((List.getD v2.2.1 (Int.toNat v3.1) 0)<v6)),v3.1))
   else none
  else
  j7 ((false,v3.1))
  else none
 else
 bif (decide ((((List.length v2.2.2:Int)+(List.length ([v3.1]:List Int):Int))*(8:Int))≤(140737488355328:Int))) then
 loopF (screen_scatter_l6 fu a v2 v3 j2) fu (((0:Int),v2.2.1))
 else none
def screen_scatter_l2 (fu:Nat) (a:(Int×Int×Int)×(Int×Int×Int)×Unit) (v0:Int) (j2:(Int×List Int×List Int)→Option (List Int×Unit)) (v2:Int×List Int×List Int):Option (List Int×Unit) :=
 bif (decide (v2.1<v0)) then
  loopF (screen_scatter_l3 fu a v2 j2) fu (((-1:Int),(0:Int)))
 else
 some ((v2.2.2,()))
def screen_scatter_l1 (fu:Nat) (a:(Int×Int×Int)×(Int×Int×Int)×Unit) (v0:Int) (j1:(Int×List Int)→Option (List Int×Unit)) (v1:Int×List Int):Option (List Int×Unit) :=
 bif (decide (v1.1<(List.length (List.replicate (Int.toNat v0) (0:Int)):Int))) then
  let v2:Int:=v1.1
  bif ((decide ((0:Int)≤v2))&&(decide (v2<(List.length v1.2:Int)))) then
  j1 (((IntKind.i64.wrap (v1.1+(1:Int))),(List.set v1.2 (Int.toNat v2) (1099511627776:Int))))
  else none
 else
 loopF (screen_scatter_l2 fu a v0) fu (((0:Int),(v1.2,([]:List (Int)))))
def screen_scatter_r (fu:Nat) (a:(Int×Int×Int)×(Int×Int×Int)×Unit):Option (List Int×Unit) :=
 let v0:Int:=(IntKind.i64.wrap ((IntKind.i64.wrap (a.1.1*a.1.1))+(IntKind.i64.wrap (a.1.2.1*a.1.2.1))))
 bif ((decide ((0:Int)≤v0))&&(decide (((8:Int)*v0)≤(281474976710656:Int)))) then
 loopF (screen_scatter_l1 fu a v0) fu (((0:Int),(List.replicate (Int.toNat v0) (0:Int))))
 else none
def screen_scatter_an:An:=(.n none .z (.n none .z (.n none .z (.n none (.n none .z (.n none (.n (some ⟨[2,3,6,5,29,4],[1,0],[],[.reg 30 (.int .i64),.row 2 true (.int .i64) 3 0],0,[]⟩) (.n none .z (.n none .z (.n none (.n none (.n none .z .z) .z) .z))) .z) .z)) (.n none .z (.n none (.n none .z (.n none (.n (some ⟨[6,3,2,37,4],[1,0],[(8,(.osl 3 0))],[.reg 38 (.int .i64),.row 2 true (.int .i64) 3 0,.row 3 true (.int .i64) 3 0],1,[(8,(.int .i64),3)]⟩) (.n none .z (.n none .z (.n none (.n none (.n none .z (.n none (.n none .z (.n none (.n (some ⟨[38,8,40,41],[3,2],[],[.reg 9 (.int .i64),.reg 42 (.int .i64)],0,[]⟩) (.n none .z (.n none .z (.n (some ⟨[],[],[],[.reg 42 (.int .i64),.reg 9 (.int .i64)],0,[]⟩) (.n none (.n none .z (.n (some ⟨[10,42],[],[],[.reg 60 .bool,.reg 9 (.int .i64)],0,[]⟩) .z (.n none .z .z))) .z) .z))) .z) .z)) (.n none .z (.n none .z (.n none (.n (some ⟨[8,38,9,68],[4,3],[],[.reg 69 (.int .i64),.row 2 true (.int .i64) 3 0],0,[]⟩) (.n none .z (.n none .z (.n none (.n none (.n none .z (.n none (.dr [] []) .z)) .z) .z))) .z) .z))))) .z) .z))) .z) .z)) (.n none .z .z)))))))
noncomputable def screen_scatter_dc:List (Nat×Ctr):=[(80,_screen_Form__Place_ctr),(111,screen_offset_ctr)]
def screen_scatter_ctr:Ctr:=⟨(.pair (.agg (.pair (.int .i64) (.pair (.int .i64) (.int .i64)))) (.pair (.agg (.pair (.int .i64) (.pair (.int .i64) (.int .i64)))) .unit)),(.pair (.list (.int .i64)) .unit),screen_scatter_r,112⟩
theorem screen_scatter_ok:CtrOk Try.prog 112 screen_scatter_ctr:=ctr_ok (l:=screen_scatter_dc) (f:=12) (an:=screen_scatter_an) ⟨_screen_Form__Place_ok,⟨screen_offset_ok,trivial⟩⟩ fun fu x=>by kernel_rfl
end Go.Proofs.Ytelpkjellakigaa
/- A callee that leaves its caller's blocks as they are,called while a row is being sorted: the world it ends in,exactly. No program in sight. -/
namespace Go.Proofs.Ytelpkjellakigaa
open Go Go.RowKit Go.Sort
set_option linter.unusedSimpArgs false
set_option linter.unusedSectionVars false
set_option linter.unusedVariables false
inductive Exa (p:Nat→Bool):AV→Prop
 | int (k:IntKind) (n:Int):Exa p (.int k n)
 | box (id o:Nat) (h:p id=true):Exa p (.box id o)
 | fn (f:FuncId) (cs:List AV) (h:∀ c ∈ cs,Exa p c):Exa p (.fn f cs)
theorem Exa.eq {p:Nat→Bool} {w w':World} {G G':Gh} (hρ:∀ id,p id=true→id<G.nx→G'.ρ id=G.ρ id) {a:AV} (h:Exa p a):∀ {v v':Value},RelV w G a v→RelV w' G' a v'→v=v':=by
 induction h with
 | int k n =>
  intro v v' r r'
  cases r with
  | dat r =>
   cases r' with
   | dat r'=>cases r;cases r';rfl
 | box id o hp =>
  intro v v' r r'
  cases r with
  | dat r=>cases r
  | box _ _ g hid hs h =>
   cases r' with
   | dat r'=>cases r'
   | box _ _ g' hid' hs' h' =>
    rw [hρ id hp hid,h] at h';injection h' with h';injection h' with h';injection h' with h'
    rw [h']
 | fn f cs hc ih =>
  intro v v' r r';obtain ⟨us,e1,e2,e3⟩:=r.fn';obtain ⟨us',e1',e2',e3'⟩:=r'.fn';subst e1;subst e1'
  have:us=us':=by
   refine Array.ext (e2.trans e2'.symm) fun i h1 h2=>?_
   have hi:i<cs.length:=by omega
   exact ih cs[i] (List.getElem_mem hi) (e3 i cs[i] us[i] (List.getElem?_eq_getElem hi) (Array.getElem?_eq_getElem h1)) (e3' i cs[i] us'[i] (List.getElem?_eq_getElem hi) (Array.getElem?_eq_getElem h2))
  rw [this]
theorem grown_of {w w':World} (ho:w'.os=w.os) (ht:w'.tape=w.tape) (hu:w'.output=w.output) (hd:w.drawn≤w'.drawn) (hs:w.heap.size≤w'.heap.size) (hb:∀ b,b<w.heap.size→w'.heap[b]?=w.heap[b]?):∃ q os',w'=grow (w.drewN q) os':=by
 have h0:∀ q,w.drewN q={ w with drawn:=w.drawn+q }:=fun q=>rfl
 refine ⟨w'.drawn-w.drawn,w'.heap.extract w.heap.size w'.heap.size,?_⟩;rw [h0];obtain ⟨hp',tp',d',os',ou'⟩:=w';obtain ⟨hp,tp,d,os,ou⟩:=w;simp only at *
 subst ho ht hu;unfold grow;simp only [World.mk.injEq,true_and,and_true];refine ⟨?_,by omega⟩;refine Array.ext_getElem? fun i=>?_
 rw [Array.getElem?_append];split
 ·rename_i h;exact hb i h
 ·rename_i h;rw [Array.getElem?_extract];split
  ·congr 1;omega
  ·rw [Array.getElem?_eq_none (by omega)]
theorem exact_of {P:Program} {g:FuncId} {w0 w:World} {G:Gh} {hp hpB:List (Nat×AB)} {p:Nat→Bool} {xs:List AV} {vs:Array Value} {k:IntKind} {n:Int}
  (hw:HR w0 w G hp) (hpn:∀ id,p id=true→id<G.nx)
  (hB:∀ id,look .dead hpB id=.dead∨(p id=true∧LesB (look .dead hpB id) (look .dead hp id)∧(look .dead hpB id).nmd p=true))
  (hBox:∀ id,p id=true→∃ cs e,look .dead hpB id=.box cs e∧∀ c ∈ cs,Exa p c)
  (h:AC P g xs hpB G.nx (fun v hp' _=>v=.int k n∧∀ id,p id=true→look .dead hp' id=look .dead hpB id)) (hxs:ArgsV w G xs vs) (hxp:∀ x ∈ xs,x.nmd p=true) :
  Calls P g vs w fun e w'=>e=.returned (.int k n)∧∃ q os',w'=grow (w.drewN q) os':=by
 have hc:=cutF_hr (k:=G.nx) hw hpn hB;refine (Drw.calls_m (h w0 w (cutF G p G.nx) vs hc rfl ⟨hxs.size,fun i x v g1 g2=>(hxs.rel i x v g1 g2).mv (cutF_mv hpn) (hxp x (List.mem_of_getElem? g1))⟩)).mono ?_
 rintro e w' ⟨⟨v,x,hp',nx',G1,he,⟨hx,hk⟩,hn,h1,hv,hext⟩,hd⟩
 subst hx
 have hv':v=.int k n:=by
  cases hv with
  | dat r=>cases r;rfl
 subst hv';refine ⟨he,grown_of ?_ ?_ ?_ ?_ hext.size ?_⟩
 ·rw [h1.below.os,hw.below.os]
 ·rw [h1.below.tape,hw.below.tape]
 ·rw [h1.below.output,hw.below.output]
 ·rcases hd with hd | hd
  ·rw [he] at hd;cases hd
  ·exact hd
 ·intro b hb;by_cases c:∃ id,p id=true∧ownBlk (G.ρ id)=some b
  ·obtain ⟨id,c1,c2⟩:=c;have hid:=hpn id c1;obtain ⟨cs,e',e1,e2⟩:=hBox id c1;have a1:=hc.blk id;have a2:=h1.blk id;rw [hk id c1] at a2;rw [e1] at a1 a2;obtain ⟨_,s1,g1,vs1,r1,m1,l1,v1⟩:=a1;obtain ⟨_,s2,g2,vs2,r2,m2,l2,v2⟩:=a2
   have hρ:∀ id,p id=true→id<(cutF G p G.nx).nx→G1.ρ id=(cutF G p G.nx).ρ id:=fun id h2 h3=>by
    obtain ⟨x1,x2,x3,x4⟩:=hext.gh id h3;obtain ⟨cs',e'',y1,_⟩:=hBox id h2;have z:=hc.blk id;rw [y1] at z;exact x3 (x4 z.2.1)
   have hr1:G.ρ id=.pointer (some ⟨g1,0,none⟩):=by
    have:(if p id=true∧id<G.nx then G.ρ id else undef)=.pointer (some ⟨g1,0,none⟩):=r1;rwa [if_pos ⟨c1,hid⟩] at this
   have hg:g1=b:=by
    rw [hr1] at c2;exact Option.some.inj c2
   have hg2:g2=g1:=by
    have:=hρ id c1 hid;rw [r2,r1] at this;injection this with this;injection this with this;injection this
   subst hg;subst hg2
   rw [m1,m2]
   have:vs2=vs1:=by
    refine Array.ext (l2.trans l1.symm) fun i i1 i2=>?_
    have hi:i<cs.length:=by omega
    obtain ⟨u1,f1,_,f2⟩:=v1 i cs[i] (List.getElem?_eq_getElem hi);obtain ⟨u2,f3,_,f4⟩:=v2 i cs[i] (List.getElem?_eq_getElem hi);have hu:=(e2 cs[i] (List.getElem_mem hi)).eq hρ f2 f4;rw [Array.getElem?_eq_getElem i2] at f1;rw [Array.getElem?_eq_getElem i1] at f3;rw [Option.some.inj f1,Option.some.inj f3,hu]
   rw [this]
  ·refine hext.keep' b ?_ hb;by_cases o:G.own b
   ·exact .inr ⟨o,fun id c1 _ c2=>c ⟨id,c1,c2⟩⟩
   ·exact .inl o
end Go.Proofs.Ytelpkjellakigaa
/- slices.SortFunc on a row of the call's own. No program in sight. -/
namespace Go.Proofs.Ytelpkjellakigaa
open Go Go.RowKit Go.Sort Go.Shelf Go.Lib Go.Proofs
set_option linter.unusedSimpArgs false
set_option linter.unusedSectionVars false
set_option linter.unusedVariables false
namespace Srt
theorem row_of {w0 w:World} {G:Gh} {hp:List (Nat×AB)} (h:HR w0 w G hp) {id0:Nat} {l:List Int} {e:TypeId} (h0:look .dead hp id0=.row 1 (l.map fun x=>[.int .i64 x]) e) (hne:l≠[]) :
  id0<G.nx∧G.sz id0=1∧G.ln id0=l.length∧∃ g cap cur,G.ρ id0=.slice (some ⟨g,0,none⟩) l.length cap∧w0.heap.size≤g∧HasC w g cur e∧l.length≤cap∧cap≤maxLen∧cur.size=cap∧∀ i (hi:i<l.length),cur[i]?=some (.int .i64 l[i]):=by
 have a:=h.blk id0;rw [h0] at a;obtain ⟨a1,a2,a3,a4,flat,a5,a6,a7⟩:=a;rw [List.length_map] at a4 a5;refine ⟨a1,a3,a4,?_⟩;obtain ⟨b1,b2⟩:=a5;have hl:0<l.length:=List.length_pos_iff.2 hne;rcases b2 with ⟨_,b2⟩ | ⟨g,cap,cur,c1,c2,c3,c4,c5,c6,c7⟩
 ·omega
 ·refine ⟨g,cap,cur,c1,c2,c3,c4,c5,by omega,fun i hi=>?_⟩;obtain ⟨_,d2⟩:=a7 i [.int .i64 l[i]] (by rw [List.getElem?_map,List.getElem?_eq_getElem hi];rfl);obtain ⟨v,d3,d4⟩:=d2 0 (.int .i64 l[i]) rfl
  have hv:v=.int .i64 l[i]:=by
   cases d4 with
   | dat r=>cases r;rfl
  subst hv;rw [←c7,Nat.mul_one,Nat.add_zero,List.getElem?_take,if_pos (by omega)] at d3;rw [←d3,Array.getElem?_toList,Nat.mul_one]
section
variable {l:List Int}
def enc (x:{x:Int // x ∈ l}):Value:=.int .i64 x.val
variable [Inhabited {x:Int // x ∈ l}]
theorem put_get (dk:Array {x:Int // x ∈ l}) (cur:Array Value) (i:Nat) (hi:i<cur.size):(putCells enc 0 dk cur)[i]?=some (if i<dk.size then enc dk[i]! else cur[i]):=by
 unfold putCells;rw [Array.getElem?_mapIdx,Array.getElem?_eq_getElem hi,Option.map_some];simp only [Nat.zero_le,true_and,Nat.zero_add,Nat.sub_zero]
theorem put_size (dk:Array {x:Int // x ∈ l}) (cur:Array Value):(putCells enc 0 dk cur).size=cur.size:=by
 unfold putCells;rw [Array.size_mapIdx]
theorem heap_at {w:World} {g:Nat} {cur:Array Value} {e:TypeId} {fz:Nat×Nat} (h:w.heap[g]?=some (.cells cur e fz)) (m:Nat) (dk:Array {x:Int // x ∈ l}) (os:Array Obj):(sortWorld enc w g 0 m dk os).heap[g]?=some (.cells (putCells enc 0 dk cur) e fz):=by
 have hg:=(Array.getElem?_eq_some_iff.1 h).1;show ((putRow enc (Sort.ahead w m) g 0 dk).heap++os)[g]?=_;rw [Array.getElem?_append_left (by rw [size_putRow];exact hg)];show ((Sort.ahead w m).heap.modify g _)[g]?=_;rw [Array.getElem?_modify,if_pos rfl];show Option.map _ w.heap[g]?=_;rw [h];rfl
theorem heap_ne {w:World} {g b:Nat} (hb:b≠g) (hl:b<w.heap.size) (m:Nat) (dk:Array {x:Int // x ∈ l}) (os:Array Obj):(sortWorld enc w g 0 m dk os).heap[b]?=w.heap[b]?:=by
 show ((putRow enc (Sort.ahead w m) g 0 dk).heap++os)[b]?=_;rw [Array.getElem?_append_left (by rw [size_putRow];exact hl)];show ((Sort.ahead w m).heap.modify g _)[b]?=_;rw [Array.getElem?_modify,if_neg (fun e=>hb e.symm)];rfl
theorem heap_size {w:World} {g:Nat} (m:Nat) (dk:Array {x:Int // x ∈ l}) (os:Array Obj):w.heap.size≤(sortWorld enc w g 0 m dk os).heap.size:=by
 show _≤((putRow enc (Sort.ahead w m) g 0 dk).heap++os).size;rw [Array.size_append,size_putRow];exact Nat.le_add_right _ _
theorem hr_sort {w0 w:World} {G:Gh} {hp:List (Nat×AB)} (h:HR w0 w G hp) {id0:Nat} {e:TypeId} (h0:look .dead hp id0=.row 1 (l.map fun x=>[.int .i64 x]) e) (hne:l≠[]) {g cap:Nat} (hg:G.ρ id0=.slice (some ⟨g,0,none⟩) l.length cap)
  (m:Nat) (dk:Array {x:Int // x ∈ l}) (os:Array Obj) (hdk:dk.size=l.length) :
  HR w0 (sortWorld enc w g 0 m dk os) G ((id0,.row 1 (dk.toList.map fun x=>[.int .i64 x.val]) e)::hp)∧Ext w G (sortWorld enc w g 0 m dk os) G:=by
 obtain ⟨a1,a2,a3,g',cap',cur,b1,b2,b3,b4,b5,b6,b7⟩:=row_of h h0 hne;rw [hg] at b1;injection b1 with b1 _ b1'
 injection b1 with b1
 injection b1 with b1
 subst b1;subst b1'
 have ob:ownBlk (G.ρ id0)=some g:=by rw [hg];rfl
 obtain ⟨o1,o2⟩:=h.ownhas' id0 g a1 ob
 have hx:Ext w G (sortWorld enc w g 0 m dk os) G:=by
  refine ⟨heap_size m dk os,fun b hb hl=>?_,fun b hb=>.inl hb,Nat.le_refl _,⟨rfl,rfl⟩,fun id _=>⟨Nat.le_refl _,rfl,fun _=>rfl,fun _=>rfl⟩⟩;refine heap_ne (fun e=>?_) hl m dk os;subst e;exact hb.elim (fun k=>k o1) o2
 refine ⟨h.update hx (fun _ hb=>hb) ⟨rfl,rfl,rfl,heap_size m dk os,fun b hb=>?_⟩ id0 _ ?_ (fun id hid _=>hid) (fun b hb=>?_) ?_ ?_ ?_,hx⟩
 ·exact heap_ne (by omega) (by have:=h.below.size;omega) m dk os
 ·intro id hne' hid;refine ⟨rfl,rfl,fun g1 hg1=>?_⟩;refine heap_ne (fun e=>?_) (h.ownlt g1 (h.ownhas id g1 hid hg1)).2 m dk os;subst e;exact h.dist id id0 g1 hid a1 hne' hg1 ob
 ·have:=h.ownlt b hb;exact ⟨this.1,Nat.lt_of_lt_of_le this.2 (heap_size m dk os)⟩
 ·obtain ⟨fz,f1,f2⟩:=b3;refine ⟨a1,Nat.one_pos,a2,by rw [List.length_map,Array.length_toList,a3,hdk],dk.toList.map enc,⟨by rw [List.length_map,List.length_map,Nat.mul_one],.inr ⟨g,cap,putCells enc 0 dk cur,?_,b2,⟨fz,by rw [put_size];exact f1,heap_at f2 m dk os⟩,?_,b5,by rw [put_size,b6,Nat.mul_one],?_⟩⟩,?_,?_⟩
  ·rw [List.length_map,Array.length_toList,hdk];exact hg
  ·rw [List.length_map,Array.length_toList,hdk];exact b4
  ·refine List.ext_getElem? fun i=>?_
   rw [List.length_map,Array.length_toList,hdk,Nat.mul_one,List.getElem?_take];split
   ·rename_i hi;rw [Array.getElem?_toList,put_get dk cur i (by omega),if_pos (by omega),List.getElem?_map,Array.getElem?_toList,Array.getElem?_eq_getElem (by omega),Option.map_some,getElem!_pos dk i (by omega)]
   ·rename_i hi;rw [List.getElem?_map,Array.getElem?_toList,Array.getElem?_eq_none (by omega)];rfl
  ·intro v hv;obtain ⟨x,_,rfl⟩:=List.mem_map.1 hv;rfl
  ·intro i row hrow;rw [List.getElem?_map] at hrow
   cases hq:dk.toList[i]? with
   | none=>rw [hq] at hrow;cases hrow
   | some q =>
    rw [hq] at hrow;simp only [Option.map_some,Option.some.injEq] at hrow;subst hrow;refine ⟨rfl,fun j a hj=>?_⟩
    cases j with
    | zero =>
     simp only [List.getElem?_cons_zero,Option.some.injEq] at hj;subst hj;exact ⟨enc q,by rw [Nat.mul_one,Nat.add_zero,List.getElem?_map,hq];rfl,.dat (.int _ _)⟩
    | succ j=>simp at hj
 ·intro id g1 hid hne' e1 e2;rw [ob] at e1;cases e1;exact h.dist id id0 g hid a1 hne' e2 ob
 ·intro g1 _ e1;exact h.ownhas' id0 g1 a1 e1
end
end Srt
end Go.Proofs.Ytelpkjellakigaa
/- slices.SortFunc as a call that works on a row of its caller. No program in sight. -/
namespace Go.Proofs.Ytelpkjellakigaa
open Go Go.RowKit Go.Sort Go.Shelf Go.Lib Go.Proofs
set_option linter.unusedSimpArgs false
set_option linter.unusedSectionVars false
set_option linter.unusedVariables false
namespace Srt
def srt (cf:Int→Int→Int) (l:List Int):List Int:=(l.attach.mergeSort fun x y=>!(ltOf (fun x y:{x:Int // x ∈ l}=>cf x.val y.val)) y x).map (·.val)
theorem sort_ac {P:Program} {ρ:Ren} (L:SlLaysF.n6 P ρ) {g:FuncId} (eg:∀ args w,(callFunc g args).run P w=.ok (.enter g args) w) {hp hp2 hpB:List (Nat×AB)} {nx id0:Nat} {e:TypeId} {l:List Int} {caps:List AV} {p:Nat→Bool} {cf:Int→Int→Int}
  (h0:look .dead hp id0=.row 1 (l.map fun x=>[.int .i64 x]) e) (hne:l≠[]) (hlen:l.length<4611686018427387904) (hp0:p id0=false) (hpn:∀ id,p id=true→id<nx)
  (hB:∀ id,look .dead hpB id=.dead∨(p id=true∧LesB (look .dead hpB id) (look .dead hp id)∧(look .dead hpB id).nmd p=true))
  (hBox:∀ id,p id=true→∃ cs e,look .dead hpB id=.box cs e∧∀ c ∈ cs,Exa p c) (hcx:∀ c ∈ caps,c.nmd p=true)
  (hcmp:∀ x ∈ l,∀ y ∈ l,AC P g (.int .i64 x::.int .i64 y::caps) hpB nx (fun v hp' _=>v=.int .i64 (cf x y)∧∀ id,p id=true→look .dead hp' id=look .dead hpB id))
  (hO:SWO (ltOf (fun x y:{x:Int // x ∈ l}=>cf x.val y.val))) (hT:∀ x y:{x:Int // x ∈ l},ltOf (fun x y:{x:Int // x ∈ l}=>cf x.val y.val) x y=false→ltOf (fun x y:{x:Int // x ∈ l}=>cf x.val y.val) y x=false→x=y)
  (h2:∀ id,look .dead hp2 id=look .dead ((id0,.row 1 ((srt cf l).map fun x=>[.int .i64 x]) e)::hp) id) :
  AC P (ρ.f 6) [.osl id0 l.length,.fn g caps] hp nx (fun v hp' nx'=>v=.tup []∧hp'=hp2∧nx'=nx):=by
 intro w0 w G vs hw hnx hxs;subst hnx
 have inst:Inhabited {x:Int // x ∈ l}:=by
  cases l with
  | nil=>exact absurd rfl hne
  | cons a l=>exact ⟨⟨a,List.mem_cons_self ..⟩⟩
 obtain ⟨a1,a2,a3,gb,cap,cur,b1,b2,b3,b4,b5,b6,b7⟩:=row_of hw h0 hne;obtain ⟨vl⟩:=vs;have hs:vl.length=2:=hxs.size
 match vl,hs with
 | [v0,v1],_ =>
  have r0:=hxs.rel 0 _ v0 rfl rfl;have r1:=hxs.rel 1 _ v1 rfl rfl
  have hv0:v0=.slice (some ⟨gb,0,none⟩) l.length cap:=by
   cases r0 with
   | dat r=>cases r
   | osl _ _ _ _ _ _ _ h=>rw [h a3.symm,b1]
  obtain ⟨cb,hv1,c1,c2⟩:=r1.fn';subst hv0;subst hv1
  have hsz:l.attach.toArray.size=l.length:=by rw [List.size_toArray,List.length_attach]
  have hg:=b3.lt
  have hH:Holds enc w gb 0 l.attach.toArray:=fun j hj=>by
   rw [hsz] at hj;rw [Nat.zero_add,b3.cell,b7 j hj,getElem!_pos l.attach.toArray j (by rw [hsz];exact hj)];refine ⟨?_,b3.unf (by omega)⟩;unfold enc;simp
  have hcmp':CmpLays1 P g cb enc (fun x y:{x:Int // x ∈ l}=>cf x.val y.val) gb 0 l.attach.toArray.size w:=fun m os dk hdk x y=>by
   obtain ⟨q1,q2⟩:=hr_sort hw h0 hne b1 m dk os (by rw [hdk,hsz]);refine exact_of q1 hpn (fun id=>?_) hBox (hcmp x.val x.property y.val y.property) ⟨?_,fun i a v g1 g2=>?_⟩ (fun a ha=>?_)
   ·rcases hB id with k | ⟨k1,k2,k3⟩
    ·exact .inl k
    ·refine .inr ⟨k1,?_,k3⟩;rw [look_cons,if_neg (fun e=>by rw [e] at hp0;rw [hp0] at k1;cases k1)];exact k2
   ·rw [Array.size_append];show 2+cb.size=caps.length+2;rw [c1];omega
   ·match i with
    | 0 =>
     have g1:some (AV.int .i64 x.val)=some a:=g1;cases g1;rw [Array.getElem?_append_left (by show 0<2;omega)] at g2;have g2:some (enc x)=some v:=g2;cases g2;exact .dat (.int _ _)
    | 1 =>
     have g1:some (AV.int .i64 y.val)=some a:=g1;cases g1;rw [Array.getElem?_append_left (by show 1<2;omega)] at g2;have g2:some (enc y)=some v:=g2;cases g2;exact .dat (.int _ _)
    | i+2 =>
     have g1:caps[i]?=some a:=g1;rw [Array.getElem?_append_right (by show 2≤i+2;omega)] at g2;have g2:cb[i+2-2]?=some v:=g2;rw [Nat.add_sub_cancel] at g2;exact (c2 i a v g1 g2).ext q2
   ·rcases List.mem_cons.1 ha with rfl | ha
    ·rfl
    ·rcases List.mem_cons.1 ha with rfl | ha
     ·rfl
     ·exact hcx a ha
  have hcon:=Any.slices_SortFunc_total L enc (fun _=>rfl) (fun x y:{x:Int // x ∈ l}=>cf x.val y.val) hO g cb gb 0 cap l.attach.toArray w eg hcmp' hH hg (by rw [hsz];exact hlen) hT;rw [hsz] at hcon;refine hcon.mono ?_
  rintro e' w' ⟨he,n,os,rfl⟩
  obtain ⟨q1,q2⟩:=hr_sort hw h0 hne b1 n (l.attach.mergeSort fun x y=>!(ltOf (fun x y:{x:Int // x ∈ l}=>cf x.val y.val)) y x).toArray os (by rw [List.size_toArray,List.length_mergeSort,List.length_attach]);refine ⟨.tuple #[],.tup [],hp2,G.nx,G,he,⟨rfl,rfl,rfl⟩,rfl,q1.congr fun id=>?_,.tup [] #[] rfl (fun i a v g1 _=>by simp at g1),q2⟩;rw [h2 id];unfold srt;rw [List.map_map];rfl
end Srt
end Go.Proofs.Ytelpkjellakigaa
/- Residual programs of functions (printed by a program out of the code),checked by the kernel,and the contracts that follow. -/
namespace Go.Proofs.Ytelpkjellakigaa
open Go Go.RowKit
set_option linter.unusedVariables false
def screen_Ranks_1_r (fu:Nat) (a:Int×(Int×Int×Int)×(Int×Int×Int)×Unit):Option (Int×Int×Unit) :=
 bindO (screen_offset_r fu ((a.2.1,(a.2.2.1,(a.1,()))))) fun v0 =>
 let v1:Int:=v0.1
 let v2:Int:=v0.2.1
 let v3:Bool:=(decide (a.2.1.2.2=(1:Int)))
 bif v3 then
  some ((v2,(v1,())))
 else
 let v4:Bool:=(decide (a.2.1.2.2=(2:Int)))
 bif v4 then
  let v5:Int:=(IntKind.i64.wrap ((IntKind.i64.wrap (v1*v1))+(IntKind.i64.wrap ((IntKind.i64.wrap ((2:Int)*v2))*v2))))
  some ((v5,((0:Int),())))
 else
 let v5:Int:=(IntKind.i64.wrap ((IntKind.i64.wrap (v1*v1))+(IntKind.i64.wrap (v2*v2))))
 some ((v5,((0:Int),())))
def screen_Ranks_1_an:An:=(.n none .z (.n none .z (.n none (.n none .z (.n none (.n none .z (.n none (.n none .z .z) (.n none .z (.n none (.n none .z .z) .z)))) .z)) (.n none .z .z))))
noncomputable def screen_Ranks_1_dc:List (Nat×Ctr):=[(111,screen_offset_ctr)]
def screen_Ranks_1_ctr:Ctr:=⟨(.pair (.int .i64) (.pair (.ptr (.pair (.int .i64) (.pair (.int .i64) (.int .i64)))) (.pair (.ptr (.pair (.int .i64) (.pair (.int .i64) (.int .i64)))) .unit))),(.pair (.int .i64) (.pair (.int .i64) .unit)),screen_Ranks_1_r,110⟩
theorem screen_Ranks_1_ok:CtrOk Try.prog 110 screen_Ranks_1_ctr:=ctr_ok (l:=screen_Ranks_1_dc) (f:=12) (an:=screen_Ranks_1_an) ⟨screen_offset_ok,trivial⟩ fun fu x=>by kernel_rfl
def screen_Ranks_2_si:Sig:=⟨[],[],[(2,(.box 1 0))],[.reg 0 (.int .i64),.reg 1 (.int .i64),.box 1 [(.fn 110 [(.box 2 0),(.box 3 0)])] 157,.box 2 [(.int .i64),(.int .i64),(.int .i64)] 23,.box 3 [(.int .i64),(.int .i64),(.int .i64)] 112],0,[]⟩
def screen_Ranks_2_so:Sig:=⟨[],[],[],[.reg 0 (.int .i64),.box 3 [(.int .i64),(.int .i64),(.int .i64)] 112,.box 2 [(.int .i64),(.int .i64),(.int .i64)] 23,.box 1 [(.fn 110 [(.box 2 0),(.box 3 0)])] 157],0,[]⟩
def screen_Ranks_2_g (fu:Nat) (a:Int×Int×(Unit×Unit)×(Int×Int×Int)×Int×Int×Int):Option (Int×(Int×Int×Int)×(Int×Int×Int)×Unit×Unit) :=
 bindO (screen_Ranks_1_r fu ((a.1,(a.2.2.2.1,(a.2.2.2.2,()))))) fun v0 =>
 let v1:Int:=v0.1
 let v2:Int:=v0.2.1
 bindO (screen_Ranks_1_r fu ((a.2.1,(a.2.2.2.1,(a.2.2.2.2,()))))) fun v3 =>
 let v4:Int:=v3.1
 let v5:Int:=v3.2.1
 let v6:Bool:=(decide (v1≠v4))
 bif v6 then
  let v7:Int:=(IntKind.i64.wrap (v1-v4))
  some ((v7,(a.2.2.2.2,(a.2.2.2.1,((),())))))
 else
 let v7:Bool:=(decide (v2≠v5))
 bif v7 then
  let v8:Int:=(IntKind.i64.wrap (v2-v5))
  some ((v8,(a.2.2.2.2,(a.2.2.2.1,((),())))))
 else
 let v8:Int:=(IntKind.i64.wrap (a.1-a.2.1))
 some ((v8,(a.2.2.2.2,(a.2.2.2.1,((),())))))
def screen_Ranks_2_r (fu:Nat) (a:Int×Int×(Unit×Unit)×(Int×Int×Int)×Int×Int×Int):Option (Int×(Int×Int×Int)×(Int×Int×Int)×Unit×Unit):=chkE screen_Ranks_2_si screen_Ranks_2_so 4 screen_Ranks_2_g fu a
def screen_Ranks_2_an:An:=(.n none .z (.n none .z (.n none .z (.n none (.n none (.n none .z (.n none (.n none .z .z) (.n none .z (.n none (.n none .z .z) .z)))) .z) (.n none .z .z)))))
noncomputable def screen_Ranks_2_dc:List (Nat×Ctr):=[(110,screen_Ranks_1_ctr)]
def screen_Ranks_2_ctr:CtrE:=⟨screen_Ranks_2_si,screen_Ranks_2_so,4,3,screen_Ranks_2_r,114⟩
theorem screen_Ranks_2_ok:CtrEOk Try.prog 114 screen_Ranks_2_ctr:=ctrE_ok (l:=screen_Ranks_2_dc) (le:=[]) ⟨screen_Ranks_1_ok,trivial⟩ trivial (f:=12) (an:=screen_Ranks_2_an) (si:=screen_Ranks_2_si) (so:=screen_Ranks_2_so) (nb:=4) (na:=3) (g:=screen_Ranks_2_g) (by kernel_rfl) fun fu x=>by kernel_rfl
end Go.Proofs.Ytelpkjellakigaa
/- Plain facts for residual programs. No program in sight. -/
namespace Go.Proofs.Ytelpkjellakigaa
open Go Go.RowKit
theorem loopF_spec {α β:Type} {f:(α→Option β)→α→Option β} (μ:α→Nat) (I:α→Prop) (S:α→Option β) (h:∀ j x,I x→(∀ x',I x'→μ x'<μ x→j x'=S x')→f j x=S x):∀ (fu:Nat) (x:α),I x→μ x<fu→loopF f fu x=S x
 | 0,_,_,h0=>absurd h0 (Nat.not_lt_zero _)
 | fu+1,x,hI,hm=>by
  rw [loopF];exact h _ x hI fun x' h1 h2=>loopF_spec μ I S h fu x' h1 (by omega)
theorem bif_pos {α:Type} {p:Prop} [Decidable p] {a b:α} (h:p):(bif decide p then a else b)=a:=by rw [decide_eq_true h];rfl
theorem bif_neg {α:Type} {p:Prop} [Decidable p] {a b:α} (h:¬ p):(bif decide p then a else b)=b:=by rw [decide_eq_false h];rfl
theorem bif_and {α:Type} {p q:Prop} [Decidable p] [Decidable q] {a b:α} (h:p) (k:q):(bif decide p&&decide q then a else b)=a:=by rw [decide_eq_true h,decide_eq_true k];rfl
theorem joinF_eq {α β:Type} (J:α→Option β) (b:(α→Option β)→Option β):joinF J b=b J:=rfl
theorem bindO_some {α β:Type} (x:α) (k:α→Option β):bindO (some x) k=k x:=rfl
def FU:Nat:=18446744073709551616
theorem FU_val:FU=18446744073709551616:=rfl
end Go.Proofs.Ytelpkjellakigaa
/- The comparison of screen.Ranks,called while a row is being sorted. -/
namespace Go.Proofs.Ytelpkjellakigaa
open Go Go.RowKit
set_option linter.unusedSimpArgs false
set_option linter.unusedSectionVars false
set_option linter.unusedVariables false
namespace Srt
def bxs (s f:Int×Int×Int) (m:Nat→Nat):List (Nat×AB):=[(m 1,.box [.fn 110 [.box (m 2) 0,.box (m 3) 0]] 157),(m 2,.box [.int .i64 s.1,.int .i64 s.2.1,.int .i64 s.2.2] 23),(m 3,.box [.int .i64 f.1,.int .i64 f.2.1,.int .i64 f.2.2] 112)]
def pB (m:Nat→Nat) (id:Nat):Bool:=Nat.beq id (m 1)||(Nat.beq id (m 2)||Nat.beq id (m 3))
theorem pB_iff {m:Nat→Nat} {id:Nat}:pB m id=true↔id=m 1∨id=m 2∨id=m 3:=by
 simp [pB]
def cmpv (fu:Nat) (s f:Int×Int×Int) (x y:Int):Option Int:=(screen_Ranks_2_r fu (x,(y,(((),()),(s,f))))).map (·.1)
theorem cmp_some {fu:Nat} {s f:Int×Int×Int} {x y c:Int} (h:cmpv fu s f x y=some c):screen_Ranks_2_r fu (x,(y,(((),()),(s,f))))=some (c,(f,(s,((),())))):=by
 unfold cmpv at h
 cases hr:screen_Ranks_2_r fu (x,(y,(((),()),(s,f)))) with
 | none=>rw [hr] at h;cases h
 | some r =>
  rw [hr] at h;have h1:r.1=c:=Option.some.inj h;unfold screen_Ranks_2_r at hr;obtain ⟨hg,-⟩:=chkE_some hr
  have h2:r.2=(f,(s,((),()))):=by
   unfold screen_Ranks_2_g at hg
   cases h3:screen_Ranks_1_r fu (x,(s,(f,()))) with
   | none=>rw [h3] at hg;cases hg
   | some u =>
    rw [h3,bindO_some] at hg
    cases h4:screen_Ranks_1_r fu (y,(s,(f,()))) with
    | none=>rw [h4] at hg;cases hg
    | some v =>
     rw [h4,bindO_some] at hg;simp only at hg;by_cases c1:u.1≠v.1
     ·rw [bif_pos c1] at hg;cases hg;rfl
     ·rw [bif_neg c1] at hg;by_cases c2:u.2.1≠v.2.1
      ·rw [bif_pos c2] at hg;cases hg;rfl
      ·rw [bif_neg c2] at hg;cases hg;rfl
  rw [←h1,←h2]
section
variable {m:Nat→Nat} {nx:Nat} (hlt:∀ i,i<4→m i<nx) (hinj:∀ i j,i<4→j<4→m i=m j→i=j) {s f:Int×Int×Int}
include hlt hinj
theorem cmp_mok (x y:Int):MOk m nx (ent screen_Ranks_2_si 4 (.var (x,(y,(((),()),(s,f)))):E D (itmsTy screen_Ranks_2_si.items))):=by
 have live:∀ k,(ent screen_Ranks_2_si 4 (.var (x,(y,(((),()),(s,f)))):E D (itmsTy screen_Ranks_2_si.items))).blk k≠.dead→k<4:=fun k hk=>by
  rcases Nat.lt_or_ge k 4 with h | h
  ·exact h
  ·refine absurd ?_ hk;show look SB.dead [(1,_),(2,_),(3,_)] k=SB.dead;rw [look_cons,if_neg (by omega),look_cons,if_neg (by omega),look_cons,if_neg (by omega)];rfl
 refine ⟨fun k hk=>hlt k (live k hk),fun k k' hk hk'=>hinj k k' (live k hk) (live k' hk'),fun p hp=>?_⟩;have hp:p ∈ [_,_,_]:=hp;simp only [List.mem_cons,List.not_mem_nil,or_false] at hp;rcases hp with rfl | rfl | rfl
 ·exact ⟨show 1<4 by omega,fun h=>by cases h⟩
 ·exact ⟨show 2<4 by omega,fun h=>by cases h⟩
 ·exact ⟨show 3<4 by omega,fun h=>by cases h⟩
theorem cmp_ac {fu:Nat} {x y c:Int} (h:cmpv fu s f x y=some c) :
  AC Try.prog 114 [.int .i64 x,.int .i64 y,.box (m 1) 0] (bxs s f m) nx (fun v hp' _=>v=.int .i64 c∧∀ id,pB m id=true→look .dead hp' id=look .dead (bxs s f m) id):=by
 obtain ⟨-,hac⟩:=screen_Ranks_2_ok.2 fu _ _ (cmp_some h);have hac:=hac m nx (cmp_mok hlt hinj x y);intro w0 w G vs hw hnx hxs;refine (hac w0 w G vs hw hnx hxs).mono ?_
 rintro e w' ⟨v,a,hp',nx',G',he,⟨m2,hm2,hhp,ha,hfr⟩,hn,hw',hv,hx⟩
 refine ⟨v,a,hp',nx',G',he,⟨ha,fun id hid=>?_⟩,hn,hw',hv,hx⟩;have e1:m2 1=m 1:=les_box_inj (hfr.les 0 _ _ rfl rfl 1);have e2:m2 2=m 2:=les_box_inj (hfr.les 0 _ _ rfl rfl 2);have e3:m2 3=m 3:=les_box_inj (hfr.les 0 _ _ rfl rfl 3);have hh:hp'=[(m2 3,.box [.int .i64 f.1,.int .i64 f.2.1,.int .i64 f.2.2] 112),(m2 2,.box [.int .i64 s.1,.int .i64 s.2.1,.int .i64 s.2.2] 23),(m2 1,.box [.fn 110 [.box (m2 2) 0,.box (m2 3) 0]] 157)]:=hhp;rw [hh,e1,e2,e3];have n12:m 1≠m 2:=fun h=>by have:=hinj 1 2 (by omega) (by omega) h;omega
 have n13:m 1≠m 3:=fun h=>by have:=hinj 1 3 (by omega) (by omega) h;omega
 have n23:m 2≠m 3:=fun h=>by have:=hinj 2 3 (by omega) (by omega) h;omega
 unfold bxs;rcases pB_iff.1 hid with rfl | rfl | rfl
 ·rw [look_cons,if_neg n13.symm,look_cons,if_neg n12.symm,look_self,look_self]
 ·rw [look_cons,if_neg n23.symm,look_self,look_cons,if_neg n12,look_self]
 ·rw [look_self,look_cons,if_neg n13,look_cons,if_neg n23,look_self]
end
end Srt
end Go.Proofs.Ytelpkjellakigaa
/- slices.SortFunc and what it calls: the library's bodies,as they lie in this program. -/
namespace Go.Proofs.Ytelpkjellakigaa
open Go.Shelf Go.Proofs
def Try.sortL_ren:Go.Shelf.Ren:=⟨fun | 6=>113 | 15=>146 | 14=>145 | 28=>185 | 29=>186 | 20=>177 | 21=>178 | 22=>179 | 23=>180 | 24=>181 | 25=>182 | 26=>183 | 27=>184 | 46=>204 | 47=>205 | 48=>206 | 49=>207 | 50=>208 | 57=>214 | n=>n,fun | 22=>25 | 24=>3 | 25=>36 | 3=>3 | 39=>130 | 0=>0 | 53=>172 | 55=>169 | 4=>4 | 46=>239 | 45=>238 | 50=>243 | 5=>5 | 9=>9 | 66=>271 | 70=>274 | 76=>281 | 77=>142 | n=>n,fun | n=>n⟩
theorem Try.sortL:Go.Proofs.SlLaysF.n6 Try.prog Try.sortL_ren:={
 mixed:=by kernel_rfl
 f6:=⟨Try.f113.name,by decide,Try.func113.trans (congrArg some (by kernel_rfl))⟩
 f14:=⟨Try.f145.name,by decide,Try.func145.trans (congrArg some (by kernel_rfl))⟩
 f15:=Try.func146.trans (congrArg some (by kernel_rfl))
 f20:=⟨Try.f177.name,by decide,Try.func177.trans (congrArg some (by kernel_rfl))⟩
 f21:=⟨Try.f178.name,by decide,Try.func178.trans (congrArg some (by kernel_rfl))⟩
 f22:=⟨Try.f179.name,by decide,Try.func179.trans (congrArg some (by kernel_rfl))⟩
 f23:=⟨Try.f180.name,by decide,Try.func180.trans (congrArg some (by kernel_rfl))⟩
 f24:=⟨Try.f181.name,by decide,Try.func181.trans (congrArg some (by kernel_rfl))⟩
 f25:=⟨Try.f182.name,by decide,Try.func182.trans (congrArg some (by kernel_rfl))⟩
 f26:=⟨Try.f183.name,by decide,Try.func183.trans (congrArg some (by kernel_rfl))⟩
 f27:=⟨Try.f184.name,by decide,Try.func184.trans (congrArg some (by kernel_rfl))⟩
 f28:=Try.func185.trans (congrArg some (by kernel_rfl))
 f29:=Try.func186.trans (congrArg some (by kernel_rfl))
 f46:=⟨Try.f204.name,by decide,Try.func204.trans (congrArg some (by kernel_rfl))⟩
 f47:=Try.func205.trans (congrArg some (by kernel_rfl))
 f48:=Try.func206.trans (congrArg some (by kernel_rfl))
 f49:=⟨Try.f207.name,by decide,Try.func207.trans (congrArg some (by kernel_rfl))⟩
 f50:=⟨Try.f208.name,by decide,Try.func208.trans (congrArg some (by kernel_rfl))⟩
 f57:=⟨Try.f214.name,by decide,Try.func214.trans (congrArg some (by kernel_rfl))⟩
 t0:=Try.underlying0
 a0:=Try.isAgg0
 z0:=Try.sizeOf0
 v0:=Try.zeroValue0
 t3:=Try.underlying3
 a3:=Try.isAgg3
 z3:=Try.sizeOf3
 v3:=Try.zeroValue3
 t4:=Try.underlying4
 a4:=Try.isAgg4
 z4:=Try.sizeOf4
 v4:=Try.zeroValue4
 t5:=Try.underlying5
 a5:=Try.isAgg5
 z5:=Try.sizeOf5
 v5:=Try.zeroValue5
 t9:=Try.underlying9
 a9:=Try.isAgg9
 z9:=Try.sizeOf9
 v9:=Try.zeroValue9
 t22:=Try.underlying25
 a22:=Try.isAgg25
 z22:=Try.sizeOf25
 v22:=Try.zeroValue25
 a24:=Try.isAgg3
 z24:=Try.sizeOf3
 t25:=Try.underlying36
 a25:=Try.isAgg36
 z25:=Try.sizeOf36
 v25:=Try.zeroValue36
 t39:=Try.underlying130
 a39:=Try.isAgg130
 z39:=Try.sizeOf130
 v39:=Try.zeroValue130
 t45:=Try.underlying238
 a45:=Try.isAgg238
 z45:=Try.sizeOf238
 v45:=Try.zeroValue238
 t46:=Try.underlying239
 a46:=Try.isAgg239
 z46:=Try.sizeOf239
 v46:=Try.zeroValue239
 t50:=Try.underlying243
 a50:=Try.isAgg243
 z50:=Try.sizeOf243
 v50:=Try.zeroValue243
 t53:=Try.underlying172
 a53:=Try.isAgg172
 z53:=Try.sizeOf172
 v53:=Try.zeroValue172
 t55:=Try.underlying169
 a55:=Try.isAgg169
 z55:=Try.sizeOf169
 v55:=Try.zeroValue169
 t66:=Try.underlying271
 a66:=Try.isAgg271
 z66:=Try.sizeOf271
 v66:=Try.zeroValue271
 t70:=Try.underlying274
 a70:=Try.isAgg274
 z70:=Try.sizeOf274
 v70:=Try.zeroValue274
 t76:=Try.underlying281
 a76:=Try.isAgg281
 z76:=Try.sizeOf281
 v76:=Try.zeroValue281
 t77:=Try.underlying142
 a77:=Try.isAgg142
 z77:=Try.sizeOf142
 v77:=Try.zeroValue142 }
end Go.Proofs.Ytelpkjellakigaa
/- slices.SortFunc in screen.Ranks: its contract. -/
namespace Go.Proofs.Ytelpkjellakigaa
open Go Go.RowKit Go.Sort Go.Shelf Go.Lib Go.Proofs
set_option linter.unusedSimpArgs false
set_option linter.unusedSectionVars false
set_option linter.unusedVariables false
namespace Srt
def si:Sig:=⟨[],[],[(0,(.osl 0 0)),(1,(.fn 114 [(.box 1 0)]))],[.row 0 true (.int .i64) 3 0,.box 1 [(.fn 110 [(.box 2 0),(.box 3 0)])] 157,.box 2 [(.int .i64),(.int .i64),(.int .i64)] 23,.box 3 [(.int .i64),(.int .i64),(.int .i64)] 112],0,[]⟩
def so:Sig:=⟨[],[],[(0,(.tup []))],[.row 0 true (.int .i64) 3 0,.box 1 [(.fn 110 [(.box 2 0),(.box 3 0)])] 157,.box 2 [(.int .i64),(.int .i64),(.int .i64)] 23,.box 3 [(.int .i64),(.int .i64),(.int .i64)] 112],0,[]⟩
def cfv (fu:Nat) (s f:Int×Int×Int) (x y:Int):Int:=(cmpv fu s f x y).getD 0
structure Good (fu:Nat) (s f:Int×Int×Int) (l:List Int):Prop where
 ne:l≠[]
 len:l.length<4611686018427387904
 some:∀ x ∈ l,∀ y ∈ l,cmpv fu s f x y=Option.some (cfv fu s f x y)
 swo:SWO (ltOf (fun x y:{x:Int // x ∈ l}=>cfv fu s f x.val y.val))
 tot:∀ x y:{x:Int // x ∈ l},ltOf (fun x y:{x:Int // x ∈ l}=>cfv fu s f x.val y.val) x y=false→ltOf (fun x y:{x:Int // x ∈ l}=>cfv fu s f x.val y.val) y x=false→x=y
open Classical in
noncomputable def sortR (fu:Nat) (a:List Int×(Unit×Unit)×(Int×Int×Int)×(Int×Int×Int)):Option (List Int×(Unit×Unit)×(Int×Int×Int)×(Int×Int×Int)) :=
 if Good fu a.2.2.1 a.2.2.2 a.1 then some (srt (cfv fu a.2.2.1 a.2.2.2) a.1,a.2) else none
theorem srt_length (cf:Int→Int→Int) (l:List Int):(srt cf l).length=l.length:=by
 unfold srt;rw [List.length_map,List.length_mergeSort,List.length_attach]
def hpS (l:List Int) (s f:Int×Int×Int) (m:Nat→Nat):List (Nat×AB):=(m 0,.row 1 (l.map fun x=>[.int .i64 x]) 3)::bxs s f m
theorem exa_bxs {s f:Int×Int×Int} {m:Nat→Nat} (hinj:∀ i j,i<4→j<4→m i=m j→i=j) (id:Nat) (h:pB m id=true):∃ cs e,look .dead (bxs s f m) id=.box cs e∧∀ c ∈ cs,Exa (pB m) c:=by
 have n12:m 1≠m 2:=fun h=>by have:=hinj 1 2 (by omega) (by omega) h;omega
 have n13:m 1≠m 3:=fun h=>by have:=hinj 1 3 (by omega) (by omega) h;omega
 have n23:m 2≠m 3:=fun h=>by have:=hinj 2 3 (by omega) (by omega) h;omega
 have p2:pB m (m 2)=true:=pB_iff.2 (.inr (.inl rfl));have p3:pB m (m 3)=true:=pB_iff.2 (.inr (.inr rfl));unfold bxs;rcases pB_iff.1 h with rfl | rfl | rfl
 ·refine ⟨_,_,look_self ..,fun c hc=>?_⟩;rw [List.mem_singleton.1 hc];refine .fn _ _ fun d hd=>?_
  simp only [List.mem_cons,List.not_mem_nil,or_false] at hd;rcases hd with rfl | rfl
  ·exact .box _ _ p2
  ·exact .box _ _ p3
 ·refine ⟨_,_,by rw [look_cons,if_neg n12,look_self],fun c hc=>?_⟩;simp only [List.mem_cons,List.not_mem_nil,or_false] at hc
  rcases hc with rfl | rfl | rfl <;> exact .int _ _
 ·refine ⟨_,_,by rw [look_cons,if_neg n13,look_cons,if_neg n23,look_self],fun c hc=>?_⟩;simp only [List.mem_cons,List.not_mem_nil,or_false] at hc
  rcases hc with rfl | rfl | rfl <;> exact .int _ _
theorem bxs_dead {s f:Int×Int×Int} {m:Nat→Nat} {id:Nat} (h:¬ pB m id=true):look .dead (bxs s f m) id=.dead:=by
 rw [pB_iff] at h;unfold bxs;rw [look_cons,if_neg (fun e=>h (.inl e.symm)),look_cons,if_neg (fun e=>h (.inr (.inl e.symm))),look_cons,if_neg (fun e=>h (.inr (.inr e.symm)))];rfl
theorem nmd_bxs {s f:Int×Int×Int} {m:Nat→Nat} (hinj:∀ i j,i<4→j<4→m i=m j→i=j) (id:Nat) (h:pB m id=true):(look .dead (bxs s f m) id).nmd (pB m)=true:=by
 have n12:m 1≠m 2:=fun h=>by have:=hinj 1 2 (by omega) (by omega) h;omega
 have n13:m 1≠m 3:=fun h=>by have:=hinj 1 3 (by omega) (by omega) h;omega
 have n23:m 2≠m 3:=fun h=>by have:=hinj 2 3 (by omega) (by omega) h;omega
 have p2:pB m (m 2)=true:=pB_iff.2 (.inr (.inl rfl));have p3:pB m (m 3)=true:=pB_iff.2 (.inr (.inr rfl));unfold bxs;rcases pB_iff.1 h with rfl | rfl | rfl
 ·rw [look_self];simp [AB.nmd,AV.nmd,AV.nmd.go,p2,p3]
 ·rw [look_cons,if_neg n12,look_self];simp [AB.nmd,AV.nmd,AV.nmd.go]
 ·rw [look_cons,if_neg n13,look_cons,if_neg n23,look_self];simp [AB.nmd,AV.nmd,AV.nmd.go]
theorem sort_sc {m:Nat→Nat} {nx:Nat} (hlt:∀ i,i<4→m i<nx) (hinj:∀ i j,i<4→j<4→m i=m j→i=j) {fu:Nat} {s f:Int×Int×Int} {l:List Int} (h:Good fu s f l) :
  AC Try.prog 113 [.osl (m 0) l.length,.fn 114 [.box (m 1) 0]] (hpS l s f m) nx (fun v hp' nx'=>v=.tup []∧hp'=hpS (srt (cfv fu s f) l) s f m∧nx'=nx):=by
 have p0:pB m (m 0)=false:=by
  rw [←Bool.not_eq_true,pB_iff]
  rintro (e | e | e)
  ·have:=hinj 0 1 (by omega) (by omega) e;omega
  ·have:=hinj 0 2 (by omega) (by omega) e;omega
  ·have:=hinj 0 3 (by omega) (by omega) e;omega
 have main:=sort_ac (P:=Try.prog) (ρ:=Try.sortL_ren) Try.sortL (g:=114) (enters_of Try.func114 (by kernel_rfl) rfl) (hp:=hpS l s f m) (hp2:=hpS (srt (cfv fu s f) l) s f m) (hpB:=bxs s f m) (nx:=nx) (id0:=m 0) (e:=3) (l:=l) (caps:=[.box (m 1) 0]) (p:=pB m) (cf:=cfv fu s f)
  (look_self ..) h.ne h.len p0 (fun id hid=>?_) (fun id=>?_) (exa_bxs hinj) (fun c hc=>?_) (fun x hx y hy=>cmp_ac hlt hinj (h.some x hx y hy)) h.swo h.tot (fun id=>?_)
 ·exact main
 ·rcases pB_iff.1 hid with rfl | rfl | rfl <;> exact hlt _ (by omega)
 ·by_cases c:pB m id=true
  ·refine .inr ⟨c,?_,nmd_bxs hinj id c⟩;unfold hpS;rw [look_cons,if_neg (fun e=>by rw [e,c] at p0;cases p0)];exact LesB.refl _
  ·exact .inl (bxs_dead c)
 ·rw [List.mem_singleton.1 hc];simp [AV.nmd,pB]
 ·unfold hpS;rw [look_cons,look_cons,look_cons]
  split <;> rfl
end Srt
noncomputable def slices_SortFunc___int_int__r (fu:Nat) (a:List Int×(Unit×Unit)×(Int×Int×Int)×(Int×Int×Int)):Option (List Int×(Unit×Unit)×(Int×Int×Int)×(Int×Int×Int)):=Srt.sortR fu a
noncomputable def slices_SortFunc___int_int__ctr:CtrE:=⟨Srt.si,Srt.so,4,2,slices_SortFunc___int_int__r,113⟩
theorem slices_SortFunc___int_int__ok:CtrEOk Try.prog 113 slices_SortFunc___int_int__ctr:=by
 refine ⟨by kernel_rfl,fun fu x y h=>?_⟩;obtain ⟨l,⟨⟨⟩,⟨⟩⟩,s,f⟩:=x;have h:Srt.sortR fu (l,(((),()),(s,f)))=some y:=h;unfold Srt.sortR at h;split at h
 ·rename_i hG;have hG:Srt.Good fu s f l:=hG;cases h;have hll:=Srt.srt_length (Srt.cfv fu s f) l;refine ⟨fun b hb hbn hk hv=>?_,fun m nx hm=>?_⟩
  ·have hb:b ∈ [0,1,2,3]:=hb;simp only [List.mem_cons,List.not_mem_nil,or_false] at hb;rcases hb with rfl | rfl | rfl | rfl
   ·show some (List.length (Srt.srt (Srt.cfv fu s f) l))=some (List.length l);rw [hll]
   ·cases hk
   ·cases hk
   ·cases hk
  ·have lv:∀ i,i<4→(ent Srt.si 4 (.var (l,(((),()),(s,f))):E D (itmsTy Srt.si.items))).blk i≠.dead:=fun i hi=>by
    match i,hi with
    | 0,_=>intro h;cases h
    | 1,_=>intro h;cases h
    | 2,_=>intro h;cases h
    | 3,_=>intro h;cases h
   have hlt:∀ i,i<4→m i<nx:=fun i hi=>hm.lt i (lv i hi)
   have hinj:∀ i j,i<4→j<4→m i=m j→i=j:=fun i j hi hj e=>hm.inj i j (lv i hi) (lv j hj) e
   have main:=Srt.sort_sc (m:=m) (nx:=nx) hlt hinj hG;intro w0 w G vs hw hnx hxs;refine (main w0 w G vs hw hnx hxs).mono ?_
   rintro e w' ⟨v,a,hp',nx',G',he,⟨rfl,rfl,rfl⟩,hn,hw',hv,hx⟩
   refine ⟨v,.tup [],_,nx',G',he,⟨m,?_,rfl,rfl,⟨rfl,fun i l1 f1 h1 h2 d=>?_⟩⟩,hn,hw',hv,hx⟩
   ·have live:∀ k,(exi Srt.si Srt.so 4 (.var (Srt.srt (Srt.cfv fu s f) l,(((),()),(s,f))):E D (itmsTy Srt.so.items))).blk k≠.dead→k<4:=fun k hk=>by
     rcases Nat.lt_or_ge k 4 with h | h
     ·exact h
     ·refine absurd ?_ hk;show look SB.dead [(0,_),(1,_),(2,_),(3,_)] k=SB.dead;rw [look_cons,if_neg (by omega),look_cons,if_neg (by omega),look_cons,if_neg (by omega),look_cons,if_neg (by omega)];rfl
    refine ⟨fun k hk=>hlt k (live k hk),fun k k' hk hk'=>hinj k k' (live k hk) (live k' hk'),fun p hp=>?_⟩;have hp:p ∈ [_,_,_,_]:=hp;simp only [List.mem_cons,List.not_mem_nil,or_false] at hp;rcases hp with rfl | rfl | rfl | rfl
    ·exact ⟨show 0<4 by omega,fun h=>by cases h⟩
    ·exact ⟨show 1<4 by omega,fun h=>by cases h⟩
    ·exact ⟨show 2<4 by omega,fun h=>by cases h⟩
    ·exact ⟨show 3<4 by omega,fun h=>by cases h⟩
   ·match i with
    | 0 =>
     cases h1;cases h2
     match d with
     | 0 =>
      show Les (.osl (m 0) (List.length (Srt.srt (Srt.cfv fu s f) l))) (.osl (m 0) (List.length l));rw [hll];exact Les.refl _
     | 1=>exact Les.refl (.box (m 1) 0)
     | 2=>exact Les.refl (.box (m 2) 0)
     | 3=>exact Les.refl (.box (m 3) 0)
     | d+4=>exact Les.refl .any
    | i+1=>cases h1
 ·cases h
end Go.Proofs.Ytelpkjellakigaa
/- Residual programs of functions (printed by a program out of the code),checked by the kernel,and the contracts that follow. -/
namespace Go.Proofs.Ytelpkjellakigaa
open Go Go.RowKit
set_option linter.unusedVariables false
noncomputable section
def R_key_r (fu:Nat) (a:(Int×Int×Int)×Int×Int×Unit):Option ((Int×Int)×Unit) :=
 let v0:Int:=(IntKind.i64.wrap ((IntKind.i64.wrap (a.1.1*a.1.1))+(IntKind.i64.wrap (a.1.2.1*a.1.2.1))))
 bindO (R_Mod_r fu (((IntKind.i64.wrap ((IntKind.i64.wrap (a.2.1*a.1.1))+(IntKind.i64.wrap (a.2.2.1*a.1.2.1)))),(v0,())))) fun v1 =>
 bindO (R_Mod_r fu (((IntKind.i64.wrap ((IntKind.i64.wrap (a.2.2.1*a.1.1))-(IntKind.i64.wrap (a.2.1*a.1.2.1)))),(v0,())))) fun v2 =>
 let v3:Int:=v1.1
 let v4:Int:=v2.1
 let v5:Int:=(min v3 (IntKind.i64.wrap (v0-v3)))
 let v6:Int:=(min v4 (IntKind.i64.wrap (v0-v4)))
 let v7:Bool:=(decide (a.1.2.2=(1:Int)))
 bif v7 then
  some (((v6,v5),()))
 else
 let v8:Bool:=(decide (a.1.2.2=(2:Int)))
 bif v8 then
  some ((((IntKind.i64.wrap ((IntKind.i64.wrap (v5*v5))+(IntKind.i64.wrap ((IntKind.i64.wrap ((2:Int)*v6))*v6)))),(0:Int)),()))
 else
 some ((((IntKind.i64.wrap ((IntKind.i64.wrap (v5*v5))+(IntKind.i64.wrap (v6*v6)))),(0:Int)),()))
def R_key_an:An:=(.n none .z (.n none .z (.n none (.dr [] []) (.n none .z (.n none (.n none .z (.n none (.n none .z (.n none (.n none .z .z) (.n none .z (.n none (.n none .z .z) .z)))) .z)) (.n none .z .z))))))
noncomputable def R_key_dc:List (Nat×Ctr):=[(54,R_Mod_ctr)]
def R_key_ctr:Ctr:=⟨(.pair (.agg (.pair (.int .i64) (.pair (.int .i64) (.int .i64)))) (.pair (.int .i64) (.pair (.int .i64) .unit))),(.pair (.agg (.pair (.int .i64) (.int .i64))) .unit),R_key_r,73⟩
theorem R_key_ok:CtrOk Try.prog 73 R_key_ctr:=ctr_ok (l:=R_key_dc) (f:=12) (an:=R_key_an) ⟨R_Mod_ok,trivial⟩ fun fu x=>by kernel_rfl
def R_Ranks_j4 (fu:Nat) (j6:(Int×Int)→Option (List Int×Unit)) (v7:Int×Int):Option (List Int×Unit) :=
 j6 ((v7.2,(IntKind.i64.wrap (v7.1+(1:Int)))))
def R_Ranks_j5 (fu:Nat) (v6:Int×Int) (v8:Int) (j7:(Int×Int)→Option (List Int×Unit)) (v11:Bool×Int):Option (List Int×Unit) :=
 bif v11.1 then
  j7 ((v6.2,v8))
 else
 j7 ((v6.2,v11.2))
def R_Ranks_j6 (fu:Nat) (v6:Int×Int) (v8:Int) (j7:(Int×Int)→Option (List Int×Unit)) (v13:Bool×Int):Option (List Int×Unit) :=
 bif v13.1 then
  j7 ((v6.2,v8))
 else
 j7 ((v6.2,v13.2))
def R_Ranks_j8 (fu:Nat) (j7:(Int×List Int)→Option (List Int×Unit)) (v8:Int×List Int):Option (List Int×Unit) :=
 j7 (((IntKind.i64.wrap (v8.1+(1:Int))),v8.2))
def R_Ranks_j9 (fu:Nat) (v7:Int×List Int) (v9:Int) (v11:Int) (j8:(Int×List Int)→Option (List Int×Unit)) (v12:Bool):Option (List Int×Unit) :=
 bif v12 then
  bif ((decide ((0:Int)≤v9))&&(decide (v9<(List.length v7.2:Int)))) then
  j8 ((v7.1,(List.set v7.2 (Int.toNat v9) v11)))
  else none
 else
 j8 (v7)
def R_Ranks_l7 (fu:Nat) (a:(Int×Int×Int)×Unit) (v0:Int) (v2:Int) (v4:Int×List Int×List Int) (v5:Int) (v6:Int×Int) (j4:(Int×List Int×List Int)→Option (List Int×Unit)) (j7:(Int×List Int)→Option (List Int×Unit)) (v7:Int×List Int):Option (List Int×Unit) :=
 bif (decide (v7.1<v0)) then
  joinF (R_Ranks_j8 fu j7) fun j8 =>
  let v9:Int:=v7.1
  bif (decide (v2≠(0:Int))) then
  bif (decide (v2≠(0:Int))) then
  bif (decide (v2≠(0:Int))) then
  bif (decide (v2≠(0:Int))) then
  bindO (R_key_r fu (((a.1.1,(a.1.2.1,(0:Int))),((IntKind.i64.wrap ((Int.tmod v9 v2)-(Int.tmod v6.1 v2))),((IntKind.i64.wrap ((IntKind.i64.wrap (Int.tdiv v9 v2))-(IntKind.i64.wrap (Int.tdiv v6.1 v2)))),()))))) fun v10 =>
  let v11:Int:=v10.1.1
  joinF (R_Ranks_j9 fu v7 v9 v11 j8) fun j12 =>
  bif (decide (v5=(0:Int))) then
   j12 (true)
  else
  bif ((decide ((0:Int)≤v9))&&(decide (v9<(List.length v7.2:Int)))) then
  j12 ((decide (v11<(List.getD v7.2 (Int.toNat v9) 0))))
  else none
  else none
  else none
  else none
  else none
 else
 j4 (((IntKind.i64.wrap (v4.1+(1:Int))),(v7.2,(List.set v4.2.2 (Int.toNat v6.1) v5))))
def R_Ranks_l3 (fu:Nat) (a:(Int×Int×Int)×Unit) (v0:Int) (v2:Int) (v4:Int×List Int×List Int) (v5:Int) (j4:(Int×List Int×List Int)→Option (List Int×Unit)) (j6:(Int×Int)→Option (List Int×Unit)) (v6:Int×Int):Option (List Int×Unit) :=
 bif (decide (v6.2<v0)) then
  joinF (R_Ranks_j4 fu j6) fun j7 =>
  let v8:Int:=v6.2
  bif ((decide ((0:Int)≤v8))&&(decide (v8<(List.length v4.2.2:Int)))) then
  bif (decide ((0:Int)≤(List.getD v4.2.2 (Int.toNat v8) 0))) then
   j7 ((v6.2,v6.1))
  else
  let v9:Bool:=(decide (v6.1<(0:Int)))
  bif v9 then
   j7 ((v6.2,v8))
  else
  let v10:Bool:=(decide (a.1.2.2=(3:Int)))
  bif v10 then
   joinF (R_Ranks_j5 fu v6 v8 j7) fun j11 =>
   bif (decide ((0:Int)<v5)) then
    bif ((decide ((0:Int)≤v8))&&(decide (v8<(List.length v4.2.1:Int)))) then
    bif ((decide ((0:Int)≤v6.1))&&(decide (v6.1<(List.length v4.2.1:Int)))) then
    j11 (((decide ((List.getD v4.2.1 (Int.toNat v6.1) 0)<(List.getD v4.2.1 (Int.toNat v8) 0))),v6.1))
    else none
    else none
   else
   j11 ((false,v6.1))
  else
  bif (decide (v2≠(0:Int))) then
  bif (decide (v2≠(0:Int))) then
  bindO (R_key_r fu ((a.1,((Int.tmod v8 v2),((IntKind.i64.wrap (Int.tdiv v8 v2)),()))))) fun v11 =>
  bif (decide (v2≠(0:Int))) then
  bif (decide (v2≠(0:Int))) then
  bindO (R_key_r fu ((a.1,((Int.tmod v6.1 v2),((IntKind.i64.wrap (Int.tdiv v6.1 v2)),()))))) fun v12 =>
  joinF (R_Ranks_j6 fu v6 v8 j7) fun j13 =>
  bif (decide (v11.1.1<v12.1.1)) then
   j13 ((true,v6.1))
  else
  bif (decide (v11.1.1=v12.1.1)) then
   j13 (((decide (v11.1.2<v12.1.2)),v6.1))
  else
  j13 ((false,v6.1))
  else none
  else none
  else none
  else none
  else none
 else
 bif ((decide ((0:Int)≤v6.1))&&(decide (v6.1<(List.length v4.2.2:Int)))) then
 loopF (R_Ranks_l7 fu a v0 v2 v4 v5 v6 j4) fu (((0:Int),v4.2.1))
 else none
def R_Ranks_l2 (fu:Nat) (a:(Int×Int×Int)×Unit) (v0:Int) (v2:Int) (j4:(Int×List Int×List Int)→Option (List Int×Unit)) (v4:Int×List Int×List Int):Option (List Int×Unit) :=
 bif (decide (v4.1<v0)) then
  let v5:Int:=v4.1
  loopF (R_Ranks_l3 fu a v0 v2 v4 v5 j4) fu (((-1:Int),(0:Int)))
 else
 some ((v4.2.2,()))
def R_Ranks_l1 (fu:Nat) (a:(Int×Int×Int)×Unit) (v0:Int) (v2:Int) (j3:(Int×List Int)→Option (List Int×Unit)) (v3:Int×List Int):Option (List Int×Unit) :=
 bif (decide (v3.1<(List.length (List.replicate (Int.toNat v0) (0:Int)):Int))) then
  let v4:Int:=v3.1
  bif ((decide ((0:Int)≤v4))&&(decide (v4<(List.length v3.2:Int)))) then
  j3 (((IntKind.i64.wrap (v3.1+(1:Int))),(List.set v3.2 (Int.toNat v4) (-1:Int))))
  else none
 else
 bif ((decide ((0:Int)≤v0))&&(decide (((8:Int)*v0)≤(281474976710656:Int)))) then
 loopF (R_Ranks_l2 fu a v0 v2) fu (((0:Int),((List.replicate (Int.toNat v0) (0:Int)),v3.2)))
 else none
def R_Ranks_r (fu:Nat) (a:(Int×Int×Int)×Unit):Option (List Int×Unit) :=
 let v0:Int:=(IntKind.i64.wrap ((IntKind.i64.wrap (a.1.1*a.1.1))+(IntKind.i64.wrap (a.1.2.1*a.1.2.1))))
 bindO (R_Gcd_r fu ((a.1.1,(a.1.2.1,())))) fun v1 =>
 bif (decide (v1.1≠(0:Int))) then
 let v2:Int:=(IntKind.i64.wrap (Int.tdiv v0 v1.1))
 bif ((decide ((0:Int)≤v0))&&(decide (((8:Int)*v0)≤(281474976710656:Int)))) then
 loopF (R_Ranks_l1 fu a v0 v2) fu (((0:Int),(List.replicate (Int.toNat v0) (0:Int))))
 else none
 else none
def R_Ranks_an:An:=(.n none .z (.n none .z (.n none .z (.n none .z (.n none (.n none .z (.n none (.n (some ⟨[3,1,4,5,36,2],[0],[],[.reg 37 (.int .i64),.row 1 true (.int .i64) 3 0],0,[]⟩) (.n none .z (.n none .z (.n none (.n none (.n none .z .z) .z) .z))) .z) .z)) (.n none .z (.n none (.n none .z (.n none (.n (some ⟨[5,7,4,1,3,46,2],[0],[],[.reg 47 (.int .i64),.row 2 true (.int .i64) 3 0,.row 1 true (.int .i64) 3 0],0,[]⟩) (.n none .z (.n none .z (.n none (.n none (.n none .z (.n none .z (.n none (.n none .z (.n none (.n (some ⟨[8,47,50],[2,1],[],[.reg 9 (.int .i64),.reg 51 (.int .i64)],0,[]⟩) (.n none .z (.n none .z (.n (some ⟨[],[],[],[.reg 51 (.int .i64),.reg 9 (.int .i64)],0,[]⟩) (.n none (.n none .z (.n none (.n none .z .z) (.n none (.n none .z (.n none .z (.n none .z (.n none (.n (some ⟨[10,51],[],[],[.reg 115 .bool,.reg 9 (.int .i64)],0,[]⟩) (.dr [] []) (.n none .z .z)) (.n none (.dr [] []) (.n (some ⟨[10,51],[3,4],[],[.reg 93 .bool,.reg 9 (.int .i64)],0,[]⟩) .z (.n none .z .z))))))) .z))) .z) .z))) .z) .z)) (.n none .z (.n none .z (.n none (.n (some ⟨[47,9,8,122],[1],[],[.reg 123 (.int .i64),.row 2 true (.int .i64) 3 0],0,[]⟩) (.n none .z (.n none .z (.n (some ⟨[],[],[],[.reg 123 (.int .i64),.row 2 true (.int .i64) 3 0],0,[]⟩) (.n none (.n none .z (.n none (.dr [] []) (.n (some ⟨[14,13,123],[2],[],[.reg 156 .bool],0,[]⟩) .z (.n none .z .z)))) .z) .z))) .z) .z)))))) .z) .z))) .z) .z)) (.n none .z .z))))))))
noncomputable def R_Ranks_dc:List (Nat×Ctr):=[(30,R_Gcd_ctr),(73,R_key_ctr)]
def R_Ranks_ctr:Ctr:=⟨(.pair (.agg (.pair (.int .i64) (.pair (.int .i64) (.int .i64)))) .unit),(.pair (.list (.int .i64)) .unit),R_Ranks_r,20⟩
theorem R_Ranks_ok:CtrOk Try.prog 20 R_Ranks_ctr:=ctr_ok (l:=R_Ranks_dc) (f:=12) (an:=R_Ranks_an) ⟨R_Gcd_ok,⟨R_key_ok,trivial⟩⟩ fun fu x=>by kernel_rfl
def screen_Ranks_l3 (fu:Nat) (v3:List Int) (j4:(Int×List Int)→Option (List Int×Unit)) (v4:Int×List Int):Option (List Int×Unit) :=
 bif (decide (v4.1<(List.length v3:Int))) then
  bif ((decide ((0:Int)≤v4.1))&&(decide (v4.1<(List.length v3:Int)))) then
  let v5:Int:=(List.getD v3 (Int.toNat v4.1) 0)
  let v6:Int:=v4.1
  bif ((decide ((0:Int)≤v5))&&(decide (v5<(List.length v4.2:Int)))) then
  j4 (((IntKind.i64.wrap (v4.1+(1:Int))),(List.set v4.2 (Int.toNat v5) v6)))
  else none
  else none
 else
 some ((v4.2,()))
def screen_Ranks_j2 (fu:Nat) (v1:Int) (v3:List Int):Option (List Int×Unit) :=
 bif ((decide ((0:Int)≤v1))&&(decide (((8:Int)*v1)≤(281474976710656:Int)))) then
 loopF (screen_Ranks_l3 fu v3) fu (((0:Int),(List.replicate (Int.toNat v1) (0:Int))))
 else none
def screen_Ranks_l1 (fu:Nat) (a:(Int×Int×Int)×Unit) (v0:(Int×Int×Int)×Unit) (v1:Int) (j2:(Int×List Int)→Option (List Int×Unit)) (v2:Int×List Int):Option (List Int×Unit) :=
 bif (decide (v2.1<(List.length (List.replicate (Int.toNat v1) (0:Int)):Int))) then
  let v3:Int:=v2.1
  bif ((decide ((0:Int)≤v3))&&(decide (v3<(List.length v2.2:Int)))) then
  j2 (((IntKind.i64.wrap (v2.1+(1:Int))),(List.set v2.2 (Int.toNat v3) v3)))
  else none
 else
 joinF (screen_Ranks_j2 fu v1) fun j3 =>
 bif (decide (a.1.2.2=(3:Int))) then
  bindO (screen_scatter_r fu ((a.1,(v0.1,())))) fun v4 =>
  let v5:List Int:=v4.1
  j3 (v5)
 else
 bindO (slices_SortFunc___int_int__r fu ((v2.2,(((),()),(a.1,v0.1))))) fun v4 =>
 j3 (v4.1)
def screen_Ranks_r (fu:Nat) (a:(Int×Int×Int)×Unit):Option (List Int×Unit) :=
 bindO (screen_Of_r fu ((a.1,()))) fun v0 =>
 let v1:Int:=(IntKind.i64.wrap ((IntKind.i64.wrap (a.1.1*a.1.1))+(IntKind.i64.wrap (a.1.2.1*a.1.2.1))))
 bif ((decide ((0:Int)≤v1))&&(decide (((8:Int)*v1)≤(281474976710656:Int)))) then
 loopF (screen_Ranks_l1 fu a v0 v1) fu (((0:Int),(List.replicate (Int.toNat v1) (0:Int))))
 else none
def screen_Ranks_an:An:=(.n none .z (.n none .z (.n none .z (.n none .z (.n none (.n none .z (.n none (.n (some ⟨[5,4,1,3,27,2],[1,0],[],[.reg 28 (.int .i64),.row 2 true (.int .i64) 3 0],0,[]⟩) (.n none .z (.n none .z (.n none (.n none (.n none .z .z) .z) .z))) .z) .z)) (.n none .z (.n (some ⟨[4],[],[],[.reg 5 (.ro true (.int .i64))],0,[]⟩) (.n none .z (.n none .z .z)) (.n none .z (.n none (.n none .z (.n none (.n (some ⟨[8,48,49],[],[],[.reg 50 (.int .i64),.row 4 true (.int .i64) 3 0],0,[]⟩) (.n none .z (.n none .z (.n none (.n none (.n none .z .z) .z) .z))) .z) .z)) (.n none .z .z))))))))))
noncomputable def screen_Ranks_dc:List (Nat×Ctr):=[(75,screen_Of_ctr),(112,screen_scatter_ctr)]
noncomputable def screen_Ranks_de:List (Nat×CtrE):=[(113,slices_SortFunc___int_int__ctr)]
def screen_Ranks_ctr:Ctr:=⟨(.pair (.agg (.pair (.int .i64) (.pair (.int .i64) (.int .i64)))) .unit),(.pair (.list (.int .i64)) .unit),screen_Ranks_r,71⟩
theorem screen_Ranks_ok:CtrOk Try.prog 71 screen_Ranks_ctr:=ctr_okE (l:=screen_Ranks_dc) (le:=screen_Ranks_de) ⟨screen_Of_ok,⟨screen_scatter_ok,trivial⟩⟩ ⟨slices_SortFunc___int_int__ok,trivial⟩ (f:=12) (an:=screen_Ranks_an) fun fu x=>by kernel_rfl
end
end Go.Proofs.Ytelpkjellakigaa
/- Plain facts on whole numbers: rounding,floor division. No program in sight. -/
namespace Go.Proofs.Ytelpkjellakigaa

def rnd (n d:Int):Int:=(2*n+d) / (2*d)

theorem div_uniq {a b q r:Int} (hb:0<b) (h:r+b*q=a) (h0:0≤r) (h1:r<b):a / b=q :=
 ((Int.ediv_emod_unique hb).2 ⟨h,h0,h1⟩).1

theorem tdiv_neg {a b:Int} (hb:0<b) (h:a.tmod b<0):a.tdiv b-1=a / b:=by
 have h1:=Int.tmod_add_mul_tdiv a b
 have h2:-b<a.tmod b:=by
  have:=Int.lt_tmod_of_pos a hb;omega
 refine (div_uniq (r:=a.tmod b+b) hb ?_ (by omega) (by omega)).symm;rw [Int.mul_sub];omega

theorem tdiv_pos {a b:Int} (hb:0<b) (h:0≤a.tmod b):a.tdiv b=a / b:=by
 have h1:=Int.tmod_add_mul_tdiv a b;have h2:a.tmod b<b:=Int.tmod_lt_of_pos a hb;exact (div_uniq (r:=a.tmod b) hb (by omega) (by omega) (by omega)).symm

theorem tdiv_over {a b:Int} (hb:0<b) (h:a<a.tdiv b*b):a.tdiv b-1=a / b:=by
 have h1:=Int.tmod_add_mul_tdiv a b;refine tdiv_neg hb ?_;rw [Int.mul_comm] at h1;omega

theorem tdiv_under {a b:Int} (hb:0<b) (h:a.tdiv b*b≤a):a.tdiv b=a / b:=by
 have h1:=Int.tmod_add_mul_tdiv a b;refine tdiv_pos hb ?_;rw [Int.mul_comm] at h1;omega

theorem rnd_up {n d:Int} (hd:0<d) (h:d≤2*(n-n / d*d)):n / d+1=rnd n d:=by
 have h1:=Int.emod_add_mul_ediv n d;have h2:=Int.emod_lt_of_pos n hd;have h3:=Int.emod_nonneg n (by omega:d≠0);rw [Int.mul_comm] at h1;refine (div_uniq (r:=2*(n % d)-d) (by omega) ?_ (by omega) (by omega)).symm;have e:2*d*(n / d+1)=2*(n / d*d)+2*d:=by rw [Int.mul_add,Int.mul_assoc,Int.mul_comm d];omega
 omega

theorem rnd_down {n d:Int} (hd:0<d) (h:2*(n-n / d*d)<d):n / d=rnd n d:=by
 have h1:=Int.emod_add_mul_ediv n d;have h2:=Int.emod_lt_of_pos n hd;have h3:=Int.emod_nonneg n (by omega:d≠0);rw [Int.mul_comm] at h1;refine (div_uniq (r:=2*(n % d)+d) (by omega) ?_ (by omega) (by omega)).symm;have e:2*d*(n / d)=2*(n / d*d):=by rw [Int.mul_assoc,Int.mul_comm d]
 omega

theorem tdiv_abs {n m:Int} (d:Int) (h1:-m≤n) (h2:n≤m):-m≤n.tdiv d∧n.tdiv d≤m:=by
 have:=Int.natAbs_tdiv_le_natAbs n d;omega

end Go.Proofs.Ytelpkjellakigaa
/- Rewriting of residual programs by facts of arithmetic. No program in sight. -/
namespace Go.Proofs.Ytelpkjellakigaa
open Go Go.RowKit
theorem s_pos {p:Prop} [Decidable p] (h:p):decide p=true:=decide_eq_true h
theorem s_neg {p:Prop} [Decidable p] (h:¬ p):decide p=false:=decide_eq_false h
theorem s_wr {x:Int} (h0:-9223372036854775808≤x) (h1:x≤9223372036854775807):IntKind.i64.wrap x=x:=wr64 h0 h1
theorem s_td {a b:Int} (h:0≤a):Int.tdiv a b=a / b:=Int.tdiv_eq_ediv_of_nonneg h
theorem s_tm {a b:Int} (h:0≤a):Int.tmod a b=a % b:=Int.tmod_eq_emod_of_nonneg h
def firstE (E:Nat→Int):Nat→Nat→Int
 | 0,_=>0
 | n+1,i=>if E i=0 then firstE E n (i+1) else E i
theorem firstE_step {E:Nat→Int} {i m:Nat} (hi:i<m):firstE E (m-i) i=if E i=0 then firstE E (m-(i+1)) (i+1) else E i:=by
 rw [show m-i=(m-(i+1))+1 by omega,firstE]
def tabL {α:Type} (n:Nat) (G:Int→α):List α:=(List.range n).map fun i:Nat=>G (i:Int)
section
variable {α:Type} {n:Nat} {G G':Int→α}
theorem tabL_length (n:Nat) (G:Int→α):(tabL n G).length=n:=by rw [tabL,List.length_map,List.length_range]
theorem tabL_getElem {q:Nat} (h:q<(tabL n G).length):(tabL n G)[q]=G q:=by simp only [tabL,List.getElem_map,List.getElem_range]
theorem tabL_getD {d:α} {i:Int} (h0:0≤i) (h1:i<n):(tabL n G).getD i.toNat d=G i:=by
 rw [List.getD_eq_getElem?_getD,List.getElem?_eq_getElem (by rw [tabL_length];omega),Option.getD_some,tabL_getElem,Int.toNat_of_nonneg h0]
theorem tabL_congr (h:∀ i:Int,0≤i→i<(n:Int)→G i=G' i):tabL n G=tabL n G':=List.map_congr_left fun i hi=>h i (by omega) (by have:=List.mem_range.1 hi;omega)
theorem tabL_set {k:Int} {v:α} (h0:0≤k) (hk:G' k=v) (h:∀ i:Int,0≤i→i<(n:Int)→i≠k→G i=G' i):(tabL n G).set k.toNat v=tabL n G':=by
 refine List.ext_getElem (by rw [List.length_set,tabL_length,tabL_length]) fun q g1 g2=>?_
 rw [List.getElem_set,tabL_getElem,tabL_getElem];rw [tabL_length] at g2;split
 ·rename_i e;rw [←hk,←e,Int.toNat_of_nonneg h0]
 ·exact h q (by omega) (by omega) (by omega)
theorem tabL_rep {d:α} (h:∀ i:Int,0≤i→i<(n:Int)→G i=d):tabL n G=List.replicate n d:=by
 refine List.ext_getElem (by rw [tabL_length,List.length_replicate]) fun q g1 g2=>?_
 rw [tabL_getElem,List.getElem_replicate];rw [tabL_length] at g1;exact h q (by omega) (by omega)
end
end Go.Proofs.Ytelpkjellakigaa
/- Loops by their first error,by what is found,by a postcondition. No program in sight. -/
namespace Go.Proofs.Ytelpkjellakigaa
open Go Go.RowKit
set_option linter.unusedSimpArgs false
set_option linter.unusedSectionVars false
set_option linter.unusedVariables false
theorem postLoop {X β:Type} {f:(X→Option β)→X→Option β} (μ:X→Nat) (I:X→Prop) (Q:Option β→Prop)
  (h:∀ j x,I x→(∃ x',I x'∧μ x'<μ x∧f j x=j x')∨Q (f j x)):∀ (fu:Nat) (x:X),I x→μ x<fu→Q (loopF f fu x)
 | 0,_,_,h0=>absurd h0 (Nat.not_lt_zero _)
 | fu+1,x,hI,hm=>by
  rw [loopF];rcases h (loopF f fu) x hI with ⟨x',h1,h2,h3⟩ | h3
  ·rw [h3];exact postLoop μ I Q h fu x' h1 (by omega)
  ·exact h3
section
variable {β:Type} {f:(Int→Option β)→Int→Option β} {n fu:Nat} (hn:n<fu)
include hn
theorem findLoop {p:Nat→Prop} {hit:Nat→Option β} {miss:Option β} (hit':∀ j (i:Nat),i<n→p i→f j i=hit i) (next:∀ j (i:Nat),i<n→¬ p i→f j i=j ((i:Int)+1)) (last:∀ j,f j n=miss) :
  (∃ k,k<n∧p k∧(∀ l,l<k→¬ p l)∧loopF f fu 0=hit k)∨((∀ l,l<n→¬ p l)∧loopF f fu 0=miss):=by
 refine postLoop (f:=f) (fun i:Int=>((n:Int)-i).toNat) (fun i=>∃ k:Nat,i=k∧k≤n∧∀ l,l<k→¬ p l) (fun r=>(∃ k,k<n∧p k∧(∀ l,l<k→¬ p l)∧r=hit k)∨((∀ l,l<n→¬ p l)∧r=miss)) ?_ fu 0 ⟨0,rfl,by omega,by omega⟩ (by omega)
 rintro j _ ⟨i,rfl,k1,k2⟩
 by_cases hi:i<n
 ·by_cases hp:p i
  ·exact .inr (.inl ⟨i,hi,hp,k2,hit' j i hi hp⟩)
  ·refine .inl ⟨(i:Int)+1,⟨i+1,by omega,by omega,fun l hl=>?_⟩,by omega,next j i hi hp⟩;by_cases e:l=i
   ·rw [e];exact hp
   ·exact k2 l (by omega)
 ·have e:i=n:=by omega
  subst e;exact .inr (.inr ⟨k2,last j⟩)
end
theorem firstE_all {E:Nat→Int}:∀ (m i0:Nat),(∀ k,i0≤k→k<i0+m→E k=0)→firstE E m i0=0
 | 0,_,_=>rfl
 | m+1,i0,h=>by
  rw [firstE,if_pos (h i0 (Nat.le_refl _) (by omega))];exact firstE_all m (i0+1) fun k g1 g2=>h k (by omega) (by omega)
theorem errGen {X β:Type} {f:(X→Option β)→X→Option β} {n:Nat} {st:Nat→X} {E:Nat→Int} {out:Int→Option β} {fin:Option β}
  (step:∀ j (i:Nat),i<n→(∀ k,k<i→E k=0)→f j (st i)=if E i=0 then j (st (i+1)) else out (E i)) (last:(∀ k,k<n→E k=0)→∀ j,f j (st n)=fin) :
  ∀ (fu i:Nat),i≤n→n-i<fu→(∀ k,k<i→E k=0)→loopF f fu (st i)=if firstE E (n-i) i=0 then fin else out (firstE E (n-i) i)
 | 0,i,_,h,_=>by omega
 | fu+1,i,h0,h1,hE=>by
  rw [loopF];by_cases hi:i<n
  ·rw [step _ i hi hE,firstE_step hi];by_cases e:E i=0
   ·rw [if_pos e];simp only [if_pos e]
    exact errGen step last fu (i+1) (by omega) (by omega) fun k hk=>by
     by_cases q:k=i
     ·rw [q];exact e
     ·exact hE k (by omega)
   ·rw [if_neg e];simp only [if_neg e]
  ·have e:i=n:=by omega
   subst e;rw [last hE,Nat.sub_self];rfl
theorem tabL_getDN {α:Type} {n i:Nat} {G:Int→α} {d:α} (h:i<n):(tabL n G).getD i d=G i:=by
 have:=tabL_getD (n:=n) (G:=G) (d:=d) (i:=(i:Int)) (by omega) (by omega);rw [Int.toNat_natCast] at this;exact this
end Go.Proofs.Ytelpkjellakigaa
/- Remainders and the greatest common divisor,as the program and the document compute them. -/
namespace Go.Proofs.Ytelpkjellakigaa
open Go Go.RowKit
set_option linter.unusedSimpArgs false
set_option linter.unusedSectionVars false
set_option linter.unusedVariables false
namespace Sc
theorem rfloor (fu:Nat) {n d:Int} (hd:0<d) (h1:d≤1000000000000000) (h2:-9223372036854775808≤n) (h3:n≤9223372036854775807):R_Floor_r fu (n,(d,()))=some (n / d,()):=by
 have a1:=Int.mul_tdiv_add_tmod n d;have a2:n.tdiv d*d=d*n.tdiv d:=Int.mul_comm _ _
 have a3:-d<n.tmod d∧n.tmod d<d:=by
  constructor
  ·have:=Int.lt_tmod_of_pos n hd;omega
  ·exact Int.tmod_lt_of_pos n hd
 have a4:-9223372036854775808≤n.tdiv d∧n.tdiv d≤9223372036854775808:=by
  have:=tdiv_abs (m:=9223372036854775808) d (by omega:-9223372036854775808≤n) (by omega);omega
 have a5:n.tdiv d≤9223372036854775807:=by
  by_cases c:0≤n
  ·rw [Int.tdiv_eq_ediv_of_nonneg c];exact Int.le_trans (Int.ediv_le_self _ c) h3
  ·by_cases c2:n.tdiv d≤0
   ·omega
   ·have:=Int.mul_le_mul_of_nonneg_right (show 1≤n.tdiv d by omega) (show 0≤d by omega);omega
 have a6:0≤n→0≤n.tmod d:=fun c=>Int.tmod_nonneg _ c
 have a7:n≤0→n.tmod d≤0:=fun c=>by
  have:=Int.tmod_nonneg (a:=-n) d (by omega);rw [Int.neg_tmod] at this;omega
 unfold R_Floor_r R_Floor_j1;simp (disch:=omega) only [joinF_eq,bindO_some,s_wr,s_td,s_tm,s_pos,s_neg,cond_true,cond_false,Bool.not_true,Bool.not_false,Bool.true_and,Bool.and_true,Bool.false_and,Bool.and_false,bne_self_eq_false,decide_true,decide_false,Int.toNat_natCast];by_cases c:n<n.tdiv d*d
 ·simp (disch:=omega) only [joinF_eq,bindO_some,s_wr,s_td,s_tm,s_pos,s_neg,cond_true,cond_false,Bool.not_true,Bool.not_false,Bool.true_and,Bool.and_true,Bool.false_and,Bool.and_false,bne_self_eq_false,decide_true,decide_false,Int.toNat_natCast];have e:=tdiv_over hd c;by_cases lo:-9223372036854775808≤n.tdiv d-1
  ·simp (disch:=omega) only [joinF_eq,bindO_some,s_wr,s_td,s_tm,s_pos,s_neg,cond_true,cond_false,Bool.not_true,Bool.not_false,Bool.true_and,Bool.and_true,Bool.false_and,Bool.and_false,bne_self_eq_false,decide_true,decide_false,Int.toNat_natCast];rw [e]
  ·have:n.tdiv d=-9223372036854775808:=by omega
   rw [this] at c;have:d*1≤d*9223372036854775808:=Int.mul_le_mul_of_nonneg_left (by decide) (by omega);omega
 ·simp (disch:=omega) only [joinF_eq,bindO_some,s_wr,s_td,s_tm,s_pos,s_neg,cond_true,cond_false,Bool.not_true,Bool.not_false,Bool.true_and,Bool.and_true,Bool.false_and,Bool.and_false,bne_self_eq_false,decide_true,decide_false,Int.toNat_natCast];rw [tdiv_under hd (by omega)]
theorem rmod (fu:Nat) {n d:Int} (hd:0<d) (h1:d≤1000000000000000) (h2:-9223372036854775808≤n) (h3:n≤9223372036854775807):R_Mod_r fu (n,(d,()))=some (n % d,()):=by
 unfold R_Mod_r;rw [rfloor fu hd h1 h2 h3];have e:=Int.mul_ediv_add_emod n d;have e0:=Int.emod_nonneg n (show d≠0 by omega);have e1:=Int.emod_lt_of_pos n hd;by_cases c:-9223372036854775808≤d*(n / d)
 ·simp (disch:=omega) only [joinF_eq,bindO_some,s_wr,s_td,s_tm,s_pos,s_neg,cond_true,cond_false,Bool.not_true,Bool.not_false,Bool.true_and,Bool.and_true,Bool.false_and,Bool.and_false,bne_self_eq_false,decide_true,decide_false,Int.toNat_natCast];congr 2;omega
 ·have:IntKind.i64.wrap (d*(n / d))=d*(n / d)+18446744073709551616:=by rw [IntKind.wrap_i64];omega
  simp (disch:=omega) only [joinF_eq,bindO_some,s_wr,s_td,s_tm,s_pos,s_neg,cond_true,cond_false,Bool.not_true,Bool.not_false,Bool.true_and,Bool.and_true,Bool.false_and,Bool.and_false,bne_self_eq_false,decide_true,decide_false,Int.toNat_natCast];rw [this];have:IntKind.i64.wrap (n-(d*(n / d)+18446744073709551616))=n-d*(n / d):=by rw [IntKind.wrap_i64];omega
  rw [this];congr 2;omega
theorem smod (fu:Nat) {n d:Int} (hd:0<d) (h1:d≤1000000000000000):screen_mod_r fu (n,(d,()))=some (n % d,()):=by
 unfold screen_mod_r screen_mod_j1;simp only [joinF_eq];have e:=Int.tmod_eq_emod (a:=n) (b:=d);have e0:=Int.emod_nonneg n (show d≠0 by omega);have e1:=Int.emod_lt_of_pos n hd;rw [bif_pos (by omega)];by_cases c:0≤n∨d ∣ n
 ·rw [if_pos c] at e;rw [e,bif_neg (by omega)];congr 2;omega
 ·rw [if_neg c] at e;rw [e,bif_pos (by omega),s_wr (by omega) (by omega)];congr 2;omega
theorem bez_b {fu:Nat}:∀ (d:Nat) (a b:Int),0≤b→b<d→0≤a→a≤1000000000000000→b≤1000000000000000→(0<a∨0<b) →
  ∃ g x y,recN screen_bezout_b d fu (a,(b,()))=some (g,(x,(y,())))∧0<g∧a*x+b*y=g∧g ∣ a∧g ∣ b∧(-(max 1 b)≤x∧x≤max 1 b)∧(-(max 1 a)≤y∧y≤max 1 a)∧(b=0→x=1∧y=0)
 | 0,a,b,h0,h1,_,_,_,_=>by omega
 | d+1,a,b,h0,h1,h2,h3,h4,h5=>by
  rw [recN,show screen_bezout_b (recN screen_bezout_b d) fu (a,(b,()))=(bif decide (b=0) then some (a,((1:Int),((0:Int),()))) else bif decide (b≠0) then
   bindO (recN screen_bezout_b d fu (b,(Int.tmod a b,()))) fun v0=>(bif decide (b≠0) then some (v0.1,(v0.2.2.1,(IntKind.i64.wrap (v0.2.1-IntKind.i64.wrap (IntKind.i64.wrap (Int.tdiv a b)*v0.2.2.1)),()))) else none) else none) from rfl]
  by_cases c:b=0
  ·subst c;rw [bif_pos rfl];exact ⟨a,1,0,rfl,by omega,by omega,Int.dvd_refl _,Int.dvd_zero _,by omega,by omega,fun _=>⟨rfl,rfl⟩⟩
  ·have hb:0<b:=by omega
   have e0:=Int.emod_nonneg a c;have e1:=Int.emod_lt_of_pos a hb;have e2:=Int.mul_ediv_add_emod a b;have q0:0≤a / b:=Int.ediv_nonneg h2 h0;have q1:a / b≤a:=Int.ediv_le_self _ h2;obtain ⟨g,x,y,k1,k2,k3,k4,k5,k6,k7,k8⟩:=bez_b (fu:=fu) d b (a % b) e0 (by omega) h0 h4 (by omega) (.inl hb);rw [bif_neg c,bif_pos c,s_tm h2,k1];simp only [bindO_some];have hy:-b≤y∧y≤b:=by omega
   have m1:a / b*y≤a / b*b:=Int.mul_le_mul_of_nonneg_left hy.2 q0;have m2:a / b*(-b)≤a / b*y:=Int.mul_le_mul_of_nonneg_left hy.1 q0;have m3:a / b*(-b)=-(a / b*b):=by rw [Int.mul_neg]
   have m4:a / b*b=b*(a / b):=Int.mul_comm _ _
   have hyb:-(max 1 a)≤x-a / b*y∧x-a / b*y≤max 1 a:=by
    by_cases r:a % b=0
    ·obtain ⟨r1,r2⟩:=k8 r;subst r1;subst r2
     rw [Int.mul_zero];omega
    ·omega
   rw [bif_pos c,s_td h2,s_wr (x:=a / b) (by omega) (by omega),s_wr (x:=a / b*y) (by omega) (by omega),s_wr (x:=x-a / b*y) (by omega) (by omega)];refine ⟨g,y,x-a / b*y,rfl,k2,?_,?_,k4,by omega,hyb,fun h=>absurd h c⟩
   ·rw [←k3];have:a=b*(a / b)+a % b:=e2.symm;generalize a / b=q at *
    generalize a % b=r at *
    subst this
    grind
   ·rw [←e2];exact Int.dvd_add (Int.dvd_trans k4 (Int.dvd_mul_right _ _)) k5
theorem bez_r {fu:Nat} (hf:18446744073709551616≤fu) {a b:Int} (h0:0≤b) (h2:0≤a) (h3:a≤1000000000000000) (h4:b≤1000000000000000) (h5:0<a∨0<b) :
  ∃ g x y,screen_bezout_r fu (a,(b,()))=some (g,(x,(y,())))∧0<g∧a*x+b*y=g∧g ∣ a∧g ∣ b∧(-(max 1 b)≤x∧x≤max 1 b)∧(-(max 1 a)≤y∧y≤max 1 a):=by
 obtain ⟨g,x,y,k1,k2,k3,k4,k5,k6,k7,_⟩:=bez_b (fu:=fu) fu a b h0 (by omega) h2 h3 h4 h5;exact ⟨g,x,y,k1,k2,k3,k4,k5,k6,k7⟩
end Sc
end Go.Proofs.Ytelpkjellakigaa
/- Screens: the lattice of a screen,and the place of a pixel. -/
namespace Go.Proofs.Ytelpkjellakigaa
open Go Go.RowKit
set_option linter.unusedSimpArgs false
set_option linter.unusedSectionVars false
set_option linter.unusedVariables false
namespace Sc
def bel (A B dx dy:Int):Prop:=(A*A+B*B) ∣ (dx*A+dy*B)∧(A*A+B*B) ∣ (dy*A-dx*B)
structure FormOk (A B N S G:Int):Prop where
 g0:0<G
 n0:0<N
 mul:G*N=A*A+B*B
 s0:0≤S
 s1:S<N
 vec:bel A B S G
 row:bel A B N 0
 least:∀ d,bel A B d 0→N ∣ d
 ga:G ∣ A
 gb:G ∣ B
 great:∀ d,d ∣ A→d ∣ B→d ∣ G
structure ScrOk (A B:Int):Prop where
 a0:0≤A
 a1:A≤20
 b0:0≤B
 b1:B≤20
 n0:0<A*A+B*B
 n1:A*A+B*B≤400
theorem bel_sub {A B x y u v:Int} (h:bel A B x y) (k:bel A B u v):bel A B (x-u) (y-v):=by
 obtain ⟨h1,h2⟩:=h;obtain ⟨k1,k2⟩:=k;constructor
 ·have:=Int.dvd_sub h1 k1;have e:x*A+y*B-(u*A+v*B)=(x-u)*A+(y-v)*B:=by grind
  rw [e] at this;exact this
 ·have:=Int.dvd_sub h2 k2;have e:y*A-x*B-(v*A-u*B)=(y-v)*A-(x-u)*B:=by grind
  rw [e] at this;exact this
theorem bel_add {A B x y u v:Int} (h:bel A B x y) (k:bel A B u v):bel A B (x+u) (y+v):=by
 obtain ⟨h1,h2⟩:=h;obtain ⟨k1,k2⟩:=k;constructor
 ·have:=Int.dvd_add h1 k1;have e:x*A+y*B+(u*A+v*B)=(x+u)*A+(y+v)*B:=by grind
  rw [e] at this;exact this
 ·have:=Int.dvd_add h2 k2;have e:y*A-x*B+(v*A-u*B)=(y+v)*A-(x+u)*B:=by grind
  rw [e] at this;exact this
theorem bel_mul {A B x y:Int} (q:Int) (h:bel A B x y):bel A B (q*x) (q*y):=by
 obtain ⟨h1,h2⟩:=h;constructor
 ·have:=Int.dvd_trans h1 (Int.dvd_mul_left q (x*A+y*B));have e:q*(x*A+y*B)=q*x*A+q*y*B:=by grind
  rw [e] at this;exact this
 ·have:=Int.dvd_trans h2 (Int.dvd_mul_left q (y*A-x*B));have e:q*(y*A-x*B)=q*y*A-q*x*B:=by grind
  rw [e] at this;exact this
section
variable {A B N S G:Int} (f:FormOk A B N S G)
include f
theorem bel_row (d q:Int):bel A B d (q*G)↔N ∣ d-q*S:=by
 have hq:=bel_mul q f.vec;constructor
 ·intro h;have:=bel_sub h hq;rw [Int.sub_self] at this;exact f.least _ this
 ·rintro ⟨k,hk⟩
  have h2:=bel_add (bel_mul k f.row) hq;have e:k*N+q*S=d:=by have:k*N=N*k:=Int.mul_comm _ _;omega
  rw [e,Int.mul_zero,Int.zero_add] at h2;exact h2
end
section
variable {fu:Nat} (hf:18446744073709551616≤fu) {A B:Int} (ok:ScrOk A B) (K:Int)
include hf ok
theorem form_r:∃ N S G,screen_Of_r fu ((A,(B,K)),())=some ((N,(S,G)),())∧FormOk A B N S G∧N≤400∧G≤400:=by
 obtain ⟨a0,a1,b0,b1,n0,n1⟩:=ok
 have hpos:0<A∨0<B:=by
  rcases Int.lt_or_le 0 A with h | h
  ·exact .inl h
  ·rcases Int.lt_or_le 0 B with h' | h'
   ·exact .inr h'
   ·obtain rfl:A=0:=by omega
    obtain rfl:B=0:=by omega
    simp at n0
 obtain ⟨g,x,y,k1,k2,k3,k4,k5,k6,k7⟩:=bez_r hf (a:=A) (b:=B) b0 a0 (by omega) (by omega) hpos;obtain ⟨a',ha⟩:=k4;obtain ⟨b',hb⟩:=k5
 have hgg:A*A+B*B=g*(a'*A+b'*B):=by
  have:g*(a'*A+b'*B)=(g*a')*A+(g*b')*B:=by grind
  rw [this,←ha,←hb]
 have hN:(A*A+B*B) / g=a'*A+b'*B:=by rw [hgg];exact Int.mul_ediv_cancel_left _ (by omega)
 generalize hNN:a'*A+b'*B=N at *
 have hN0:0<N:=by
  rcases Int.lt_or_le 0 N with h | h
  ·exact h
  ·have:g*N≤g*0:=Int.mul_le_mul_of_nonneg_left h (by omega);omega
 have hg1:1*N≤g*N:=Int.mul_le_mul_of_nonneg_right (by omega) (by omega);have hg2:g*1≤g*N:=Int.mul_le_mul_of_nonneg_left (by omega) (by omega);have sq1:0≤A*A:=Int.mul_nonneg a0 a0;have sq2:0≤B*B:=Int.mul_nonneg b0 b0
 have m1:-(20*20)≤y*A∧y*A≤20*20:=by
  have h1:y*A≤20*A:=Int.mul_le_mul_of_nonneg_right (by omega) a0;have h2:-20*A≤y*A:=Int.mul_le_mul_of_nonneg_right (by omega) a0;omega
 have m2:-(20*20)≤x*B∧x*B≤20*20:=by
  have h1:x*B≤20*B:=Int.mul_le_mul_of_nonneg_right (by omega) b0;have h2:-20*B≤x*B:=Int.mul_le_mul_of_nonneg_right (by omega) b0;omega
 have e0:=Int.emod_nonneg (y*A-x*B) (show N≠0 by omega);have e1:=Int.emod_lt_of_pos (y*A-x*B) hN0;have e2:=Int.mul_ediv_add_emod (y*A-x*B) N;refine ⟨N,(y*A-x*B) % N,g,?_,⟨k2,hN0,by omega,e0,e1,?_,?_,?_,⟨a',ha⟩,⟨b',hb⟩,?_⟩,by omega,by omega⟩
 ·unfold screen_Of_r;simp only [k1,bindO_some];rw [s_wr (x:=A*A) (by omega) (by omega),s_wr (x:=B*B) (by omega) (by omega),s_wr (x:=A*A+B*B) (by omega) (by omega),s_td (by omega),hN,bif_pos (by omega),s_wr (x:=N) (by omega) (by omega),s_wr (x:=y*A) (by omega) (by omega),s_wr (x:=x*B) (by omega) (by omega),s_wr (x:=y*A-x*B) (by omega) (by omega),smod fu hN0 (by omega)];rfl
 ·have hrow:bel A B N 0:=by
   constructor
   ·refine ⟨a',?_⟩;rw [hgg,ha]
    grind
   ·refine ⟨-b',?_⟩;rw [hgg,hb]
    grind
  have hv:bel A B (y*A-x*B) g:=by
   constructor
   ·refine ⟨y,?_⟩;rw [←k3];grind
   ·refine ⟨x,?_⟩;rw [←k3];grind
  have:=bel_sub hv (bel_mul ((y*A-x*B) / N) hrow)
  have e3:y*A-x*B-(y*A-x*B) / N*N=(y*A-x*B) % N:=by
   have:(y*A-x*B) / N*N=N*((y*A-x*B) / N):=Int.mul_comm _ _;omega
  rw [e3,Int.mul_zero,Int.sub_zero] at this;exact this
 ·constructor
  ·refine ⟨a',?_⟩;rw [hgg,ha]
   grind
  ·refine ⟨-b',?_⟩;rw [hgg,hb]
   grind
 ·rintro d ⟨⟨p,hp⟩,⟨q,hq⟩⟩
  have h1:d*g=(A*A+B*B)*(p*x-q*y):=by
   have:d*g=(d*A+0*B)*x-(0*A-d*B)*y:=by rw [←k3];grind
   rw [this,hp,hq];grind
  rw [hgg] at h1;have h2:g*d=g*(N*(p*x-q*y)):=by rw [Int.mul_comm g d,h1];grind
  exact ⟨_,Int.eq_of_mul_eq_mul_left (by omega) h2⟩
 ·rintro d ⟨p,hp⟩ ⟨q,hq⟩
  refine ⟨p*x+q*y,?_⟩;rw [←k3];have:A*x+B*y=d*p*x+d*q*y:=by rw [←hp,←hq]
  rw [this];grind
theorem gcd_r {N S G:Int} (f:FormOk A B N S G):R_Gcd_r fu (A,(B,()))=some (G,()):=by
 obtain ⟨a0,a1,b0,b1,n0,n1⟩:=ok;have hG:=f.g0;obtain ⟨a',ha⟩:=f.ga;obtain ⟨b',hb⟩:=f.gb;unfold R_Gcd_r R_Gcd_j1 R_Gcd_j2;simp only [joinF_eq];rw [bif_neg (by omega),bif_neg (by omega)]
 have hle:G≤max B A:=by
  have key:∀ z z':Int,z=G*z'→0<z→G≤z:=fun z z' e h=>by
   have:0<z':=by
    rcases Int.lt_or_le 0 z' with h' | h'
    ·exact h'
    ·have:G*z'≤G*0:=Int.mul_le_mul_of_nonneg_left h' (by omega);omega
   have:G*1≤G*z':=Int.mul_le_mul_of_nonneg_left (by omega) (by omega);omega
  rcases Int.lt_or_le 0 A with h | h
  ·have:=key A a' ha h;omega
  ·rcases Int.lt_or_le 0 B with h' | h'
   ·have:=key B b' hb h';omega
   ·obtain rfl:A=0:=by omega
    obtain rfl:B=0:=by omega
    simp at n0
 have hle':G≤max A B:=by omega
 refine postLoop (f:=R_Gcd_l3 fu (B,A) B) (fun v=>v.toNat) (fun v=>G≤v∧v≤20) (fun r=>r=some (G,())) ?_ fu _ ⟨hle',by omega⟩ (by omega)
 rintro j v ⟨v0,v1⟩
 unfold R_Gcd_l3 R_Gcd_j4;simp only [joinF_eq];rw [bif_pos (by omega),s_tm a0,s_tm b0]
 have fin:A % v=0→B % v=0→v=G:=fun h h'=>by
  obtain ⟨k,hk⟩:=f.great v (Int.dvd_of_emod_eq_zero h) (Int.dvd_of_emod_eq_zero h')
  have:0<k:=by
   rcases Int.lt_or_le 0 k with g | g
   ·exact g
   ·have:v*k≤v*0:=Int.mul_le_mul_of_nonneg_left g (by omega);omega
  have:v*1≤v*k:=Int.mul_le_mul_of_nonneg_left (by omega) (by omega);omega
 by_cases c1:A % v=0
 ·rw [bif_pos c1,bif_pos (by omega)];by_cases c2:B % v=0
  ·right
   rw [s_pos c2,fin c1 c2];rfl
  ·left
   refine ⟨v-1,⟨?_,by omega⟩,by omega,by rw [s_neg c2,s_wr (by omega) (by omega)];rfl⟩;rcases Int.lt_or_le G v with g | g
   ·omega
   ·exact absurd (by rw [show v=G by omega];exact Int.emod_eq_zero_of_dvd f.gb) c2
 ·left
  rw [bif_neg c1];refine ⟨v-1,⟨?_,by omega⟩,by omega,by rw [s_wr (by omega) (by omega)];rfl⟩;rcases Int.lt_or_le G v with g | g
  ·omega
  ·exact absurd (by rw [show v=G by omega];exact Int.emod_eq_zero_of_dvd f.ga) c1
theorem belongs_r {dx dy:Int} (h1:-10000000≤dx∧dx≤10000000) (h2:-10000000≤dy∧dy≤10000000):∃ b,R_Belongs_r fu ((A,(B,K)),(dx,(dy,())))=some (b,())∧(b=true↔bel A B dx dy):=by
 obtain ⟨a0,a1,b0,b1,n0,n1⟩:=ok;have sq1:0≤A*A:=Int.mul_nonneg a0 a0;have sq2:0≤B*B:=Int.mul_nonneg b0 b0
 have bd:∀ z t:Int,-10000000≤z→z≤10000000→0≤t→t≤20→-200000000≤z*t∧z*t≤200000000:=fun z t g1 g2 g3 g4=>by
  have q1:z*t≤10000000*t:=Int.mul_le_mul_of_nonneg_right g2 g3;have q2:-10000000*t≤z*t:=Int.mul_le_mul_of_nonneg_right g1 g3;omega
 have p1:=bd dx A h1.1 h1.2 a0 a1;have p2:=bd dy B h2.1 h2.2 b0 b1;have p3:=bd dy A h2.1 h2.2 a0 a1;have p4:=bd dx B h1.1 h1.2 b0 b1;unfold R_Belongs_r;simp only;rw [s_wr (x:=A*A) (by omega) (by omega),s_wr (x:=B*B) (by omega) (by omega),s_wr (x:=A*A+B*B) (by omega) (by omega),s_wr (x:=dx*A) (by omega) (by omega),s_wr (x:=dy*B) (by omega) (by omega),s_wr (x:=dx*A+dy*B) (by omega) (by omega),rmod fu n0 (by omega) (by omega) (by omega)];simp only [bindO_some];have i1:(dx*A+dy*B) % (A*A+B*B)=0↔(A*A+B*B) ∣ (dx*A+dy*B):=⟨Int.dvd_of_emod_eq_zero,Int.emod_eq_zero_of_dvd⟩;have i2:(dy*A-dx*B) % (A*A+B*B)=0↔(A*A+B*B) ∣ (dy*A-dx*B):=⟨Int.dvd_of_emod_eq_zero,Int.emod_eq_zero_of_dvd⟩;by_cases c:(dx*A+dy*B) % (A*A+B*B)=0
 ·rw [bif_pos c,s_wr (x:=dy*A) (by omega) (by omega),s_wr (x:=dx*B) (by omega) (by omega),s_wr (x:=dy*A-dx*B) (by omega) (by omega),rmod fu n0 (by omega) (by omega) (by omega)];simp only [bindO_some];refine ⟨_,rfl,?_⟩;unfold bel;rw [decide_eq_true_iff,i2];exact ⟨fun h=>⟨i1.1 c,h⟩,fun h=>h.2⟩
 ·rw [bif_neg c];exact ⟨false,rfl,by simp;intro h;exact absurd (i1.2 h.1) c⟩
theorem place_r {N S G:Int} (f:FormOk A B N S G) (hN:N≤400) (hG:G≤400) {x y:Int} (h1:-1048576≤x∧x≤1048576) (h2:-1048576≤y∧y≤1048576) :
  _screen_Form__Place_r fu ((N,(S,G)),(x,(y,())))=some (y % G*N+(x-(y / G) % N*S) % N,())∧R_Place_r fu ((A,(B,K)),(x,(y,())))=some (y % G*N+(x-(y / G) % N*S) % N,()):=by
 have hg0:=f.g0;have hn0:=f.n0;have hs0:=f.s0;have hs1:=f.s1;have e0:=Int.emod_nonneg y (show G≠0 by omega);have e1:=Int.emod_lt_of_pos y hg0;have e2:=Int.mul_ediv_add_emod y G;have q0:=Int.emod_nonneg (y / G) (show N≠0 by omega);have q1:=Int.emod_lt_of_pos (y / G) hn0;have q2:=Int.mul_ediv_add_emod (y / G) N
 have hq:-1048577≤y / G∧y / G≤1048576:=by
  constructor
  ·rcases Int.lt_or_le (y / G) (-1048577) with h | h
   ·have h5:G*(y / G)≤G*(-1048578):=Int.mul_le_mul_of_nonneg_left (by omega) (by omega);have h6:G*(-1048578)≤-1048578+(G-1)*(-1048578):=by rw [Int.sub_mul];omega
    have h7:G*1048577≤G*1048578:=Int.mul_le_mul_of_nonneg_left (by omega) (by omega);omega
   ·omega
  ·rcases Int.lt_or_le 1048576 (y / G) with h | h
   ·have:1*(y / G)≤G*(y / G):=Int.mul_le_mul_of_nonneg_right (by omega) (by omega);omega
   ·omega
 have m1:0≤(y / G) % N*S∧(y / G) % N*S≤400*400:=by
  refine ⟨Int.mul_nonneg q0 hs0,?_⟩;have h1:(y / G) % N*S≤400*S:=Int.mul_le_mul_of_nonneg_right (by omega) hs0;omega
 have t0:=Int.emod_nonneg (x-(y / G) % N*S) (show N≠0 by omega);have t1:=Int.emod_lt_of_pos (x-(y / G) % N*S) hn0
 have m2:0≤y % G*N∧y % G*N≤400*400:=by
  refine ⟨Int.mul_nonneg e0 (by omega),?_⟩;have h1:y % G*N≤400*N:=Int.mul_le_mul_of_nonneg_right (by omega) (by omega);omega
 have hdiv:(y-y % G).tdiv G=y / G:=by
  rw [show y-y % G=G*(y / G) by omega];exact Int.mul_tdiv_cancel_left _ (by omega)
 constructor
 ·unfold _screen_Form__Place_r;simp only;rw [smod fu hg0 (by omega)];simp only [bindO_some];rw [bif_pos (by omega),s_wr (x:=y-y % G) (by omega) (by omega),hdiv,s_wr (x:=y / G) (by omega) (by omega),smod fu hn0 (by omega)];simp only [bindO_some];rw [s_wr (x:=(y / G) % N*S) (by omega) (by omega),s_wr (x:=x-(y / G) % N*S) (by omega) (by omega),smod fu hn0 (by omega)];simp only [bindO_some];rw [s_wr (x:=y % G*N) (by omega) (by omega),s_wr (by omega) (by omega)]
 ·have ok':=ok;obtain ⟨a0,a1,b0,b1,n0,n1⟩:=ok';have sq1:0≤A*A:=Int.mul_nonneg a0 a0;have sq2:0≤B*B:=Int.mul_nonneg b0 b0;have hNd:(A*A+B*B) / G=N:=by rw [←f.mul];exact Int.mul_ediv_cancel_left _ (by omega)
  unfold R_Place_r;simp only;rw [gcd_r hf ok f];simp only [bindO_some];rw [bif_pos (by omega),s_wr (x:=A*A) (by omega) (by omega),s_wr (x:=B*B) (by omega) (by omega),s_wr (x:=A*A+B*B) (by omega) (by omega),s_td (by omega),hNd,s_wr (x:=N) (by omega) (by omega),rmod fu hg0 (by omega) (by omega) (by omega)];simp only [bindO_some];obtain ⟨n,rfl⟩:=Int.eq_ofNat_of_zero_le (show 0≤N by omega)

  have key:∀ i:Nat,i<n→(bel A B (x-i) (y-y % G)↔(i:Int)=(x-(y / G) % (n:Int)*S) % (n:Int)):=fun i hi=>by
   rw [show y-y % G=(y / G)*G by have:(y / G)*G=G*(y / G):=Int.mul_comm _ _;omega,bel_row f]
   have eS:x-(i:Int)-y / G*S=(x-(y / G) % (n:Int)*S)-(i:Int)-(n:Int)*((y / G) / (n:Int)*S):=by
    have:y / G*S=((n:Int)*(y / G / (n:Int))+y / G % (n:Int))*S:=by rw [q2]
    rw [this];grind
   have e3:=Int.mul_ediv_add_emod (x-(y / G) % (n:Int)*S) (n:Int);generalize (x-(y / G) % (n:Int)*S) % (n:Int)=t at *
   generalize (x-(y / G) % (n:Int)*S) / (n:Int)=u at *
   generalize hz:(y / G) / (n:Int)*S=z at *
   rw [eS];constructor
   ·rintro ⟨k,hk⟩
    have h5:t-(i:Int)=(n:Int)*(k+z-u):=by
     have:(n:Int)*(k+z-u)=(n:Int)*k+(n:Int)*z-(n:Int)*u:=by grind
     omega
    generalize k+z-u=d at *
    rcases Int.lt_trichotomy d 0 with h | h | h
    ·have:(n:Int)*d≤(n:Int)*(-1):=Int.mul_le_mul_of_nonneg_left (by omega) (by omega);omega
    ·subst h;omega
    ·have:(n:Int)*1≤(n:Int)*d:=Int.mul_le_mul_of_nonneg_left (by omega) (by omega);omega
   ·intro h;refine ⟨u-z,?_⟩;have:(n:Int)*(u-z)=(n:Int)*u-(n:Int)*z:=by grind
    omega
  rcases findLoop (f:=R_Place_l1 fu ((A,(B,K)),(x,(y,()))) (n:Int) (y % G)) (n:=n) (fu:=fu) (by omega) (p:=fun i:Nat=>bel A B (x-i) (y-y % G)) (hit:=fun i=>some (y % G*(n:Int)+(i:Int),())) (miss:=some (-1,()))
   (fun j i hi hp=>by
    unfold R_Place_l1;simp only;obtain ⟨b,hb1,hb2⟩:=belongs_r hf ok K (dx:=x-i) (dy:=y-y % G) (by omega) (by omega);rw [bif_pos (by omega),s_wr (x:=x-(i:Int)) (by omega) (by omega),s_wr (x:=y-y % G) (by omega) (by omega),hb1];simp only [bindO_some]
    rw [hb2.2 hp,s_wr (x:=y % G*(n:Int)) (by omega) (by omega),s_wr (by omega) (by omega)];rfl)
   (fun j i hi hp=>by
    unfold R_Place_l1;simp only;obtain ⟨b,hb1,hb2⟩:=belongs_r hf ok K (dx:=x-i) (dy:=y-y % G) (by omega) (by omega);rw [bif_pos (by omega),s_wr (x:=x-(i:Int)) (by omega) (by omega),s_wr (x:=y-y % G) (by omega) (by omega),hb1];simp only [bindO_some]
    rw [show b=false from Bool.eq_false_iff.2 fun h=>hp (hb2.1 h),cond_false,s_wr (by omega) (by omega)])
   (fun j=>by
    unfold R_Place_l1;simp only
    rw [bif_neg (by omega)]) with ⟨k,hk,hp,_,h⟩ | ⟨hp,h⟩
  ·rw [h,(key k hk).1 hp]
  ·obtain ⟨i,hi⟩:=Int.eq_ofNat_of_zero_le t0;exact absurd ((key i (by omega)).2 hi.symm) (hp i (by omega))
end
end Sc
end Go.Proofs.Ytelpkjellakigaa
/- Screens: Check,Area,Period and Cell;the law ScreenPlaces. -/
namespace Go.Proofs.Ytelpkjellakigaa
open Go Go.RowKit
set_option linter.unusedSimpArgs false
set_option linter.unusedSectionVars false
set_option linter.unusedVariables false
namespace Sc
def scP (A B K:Int):Prop:=((0≤A∧A≤20)∧(0≤B∧B≤20))∧(0≤K∧K≤3)
instance (A B K:Int):Decidable (scP A B K):=by unfold scP;exact inferInstance
def scE (A B K:Int):Int:=if scP A B K then (if A*A+B*B=0 then 1 else if 400<A*A+B*B then 2 else 0) else 3
theorem scE_ok {A B K:Int} (h:scE A B K=0):ScrOk A B:=by
 unfold scE at h;by_cases c:scP A B K
 ·rw [if_pos c] at h;obtain ⟨⟨⟨a0,a1⟩,b0,b1⟩,_⟩:=c;have sq1:0≤A*A:=Int.mul_nonneg a0 a0;have sq2:0≤B*B:=Int.mul_nonneg b0 b0;by_cases c1:A*A+B*B=0
  ·rw [if_pos c1] at h;omega
  ·rw [if_neg c1] at h;by_cases c2:400<A*A+B*B
   ·rw [if_pos c2] at h;omega
   ·exact ⟨a0,a1,b0,b1,by omega,by omega⟩
 ·rw [if_neg c] at h;omega
theorem sq_bd {A:Int} (a0:0≤A) (a1:A≤20):0≤A*A∧A*A≤400:=by
 have h1:=Int.mul_nonneg a0 a0;have h2:A*A≤20*A:=Int.mul_le_mul_of_nonneg_right a1 a0;omega
theorem within_r (fu:Nat) (x lo hi:Int):R_Within_r fu (x,(lo,(hi,())))=some (decide (lo≤x∧x≤hi),()):=by
 unfold R_Within_r;simp only;by_cases h:lo≤x
 ·rw [bif_pos h];congr 2;simp [h]
 ·rw [bif_neg h];congr 2;simp [h]
theorem none_r (fu:Nat) (z:Bool) (g w:Int):law_none_r fu (z,(g,(w,())))=some (z&&decide (g=w),()):=by
 unfold law_none_r
 cases z <;> rfl
section
variable (fu:Nat) (A B K:Int)
theorem check_r:screen_Check_r fu ((A,(B,K)),())=some (scE A B K,()):=by
 have jt:screen_Check_j1 fu ((A,(B,K)),()) true=some (3,()):=rfl;unfold screen_Check_r;simp only [joinF_eq];by_cases c:scP A B K
 ·obtain ⟨⟨⟨a0,a1⟩,b0,b1⟩,k0,k1⟩:=id c;have s1:=sq_bd a0 a1;have s2:=sq_bd b0 b1;rw [bif_neg (by omega),bif_neg (by omega),bif_neg (by omega),bif_neg (by omega),bif_neg (by omega),s_neg (by omega)];unfold screen_Check_j1 scE;simp only [cond_false];rw [if_pos c,s_wr (x:=A*A) (by omega) (by omega),s_wr (x:=B*B) (by omega) (by omega),s_wr (x:=A*A+B*B) (by omega) (by omega)];by_cases c1:A*A+B*B=0
  ·rw [bif_pos c1,if_pos c1]
  ·rw [bif_neg c1,if_neg c1];by_cases c2:400<A*A+B*B
   ·rw [bif_pos c2,if_pos c2]
   ·rw [bif_neg c2,if_neg c2]
 ·have e:scE A B K=3:=by unfold scE;rw [if_neg c]
  rw [e];unfold scP at c;by_cases h1:A<0
  ·rw [bif_pos h1,jt]
  rw [bif_neg h1];by_cases h2:20<A
  ·rw [bif_pos h2,jt]
  rw [bif_neg h2];by_cases h3:B<0
  ·rw [bif_pos h3,jt]
  rw [bif_neg h3];by_cases h4:20<B
  ·rw [bif_pos h4,jt]
  rw [bif_neg h4];by_cases h5:K<0
  ·rw [bif_pos h5,jt]
  rw [bif_neg h5,s_pos (by omega),jt]
theorem err_r:R_ScreenErr_r fu ((A,(B,K)),())=some (scE A B K,()):=by
 have jt:R_ScreenErr_j1 fu ((A,(B,K)),()) true=some (3,()):=rfl;unfold R_ScreenErr_r;simp only [joinF_eq,within_r,bindO_some];by_cases c:scP A B K
 ·obtain ⟨⟨⟨a0,a1⟩,b0,b1⟩,k0,k1⟩:=id c;have s1:=sq_bd a0 a1;have s2:=sq_bd b0 b1;rw [s_pos (by omega),s_pos (by omega),s_pos (by omega)];simp only [Bool.not_true,cond_false];unfold R_ScreenErr_j1 R_ScreenErr_j2 scE;simp only [cond_false,joinF_eq];rw [if_pos c,s_wr (x:=A*A) (by omega) (by omega),s_wr (x:=B*B) (by omega) (by omega),s_wr (x:=A*A+B*B) (by omega) (by omega)]
  have z:A*A+B*B=0↔A=0∧B=0:=by
   constructor
   ·intro h;have h1:A*A=0:=by omega
    have h2:B*B=0:=by omega
    exact ⟨(Int.mul_eq_zero.1 h1).elim id id,(Int.mul_eq_zero.1 h2).elim id id⟩
   ·rintro ⟨rfl,rfl⟩;rfl
  by_cases c1:A=0
  ·rw [bif_pos c1];by_cases c2:B=0
   ·rw [s_pos c2,if_pos (z.2 ⟨c1,c2⟩)];rfl
   ·rw [s_neg c2,if_neg (fun g=>c2 (z.1 g).2),cond_false];by_cases c3:400<A*A+B*B
    ·rw [bif_pos c3,if_pos c3]
    ·rw [bif_neg c3,if_neg c3]
  ·rw [bif_neg c1,if_neg (fun g=>c1 (z.1 g).1)];by_cases c3:400<A*A+B*B
   ·rw [bif_pos c3,if_pos c3]
   ·rw [bif_neg c3,if_neg c3]
 ·have e:scE A B K=3:=by unfold scE;rw [if_neg c]
  rw [e];unfold scP at c;by_cases h1:0≤A∧A≤20
  ·rw [s_pos h1,Bool.not_true,cond_false];by_cases h2:0≤B∧B≤20
   ·rw [s_pos h2,Bool.not_true,cond_false,s_neg (fun g=>c ⟨⟨h1,h2⟩,g⟩),Bool.not_false,jt]
   ·rw [s_neg h2,Bool.not_false,cond_true,jt]
  ·rw [s_neg h1,Bool.not_false,cond_true,jt]
end
end Sc
end Go.Proofs.Ytelpkjellakigaa
/- Orders by choosing: no program. -/
namespace Go.Proofs.Ytelpkjellakigaa
set_option linter.unusedSimpArgs false
set_option linter.unusedSectionVars false
set_option linter.unusedVariables false
namespace Rk
structure Wk (bt:Nat→Nat→Bool):Prop where
 irr:∀ x,bt x x=false
 tr:∀ x y z,bt x y=true→bt y z=true→bt x z=true
 ntr:∀ x y z,bt x y=false→bt y z=false→bt x z=false
def scan (U:Nat→Bool) (bt:Nat→Nat→Bool):Nat→Option Nat
 | 0=>none
 | i+1=>match scan U bt i with
  | none=>if U i=true then some i else none
  | some b=>if U i=true∧bt i b=true then some i else some b
theorem scan_ok {U:Nat→Bool} {bt:Nat→Nat→Bool} (w:Wk bt):∀ i,(scan U bt i=none→∀ j,j<i→U j=false) ∧
  ∀ b,scan U bt i=some b→b<i∧U b=true∧(∀ j,j<i→U j=true→bt j b=false)∧∀ j,j<b→U j=true→bt b j=true
 | 0=>⟨fun _ j h=>by omega,fun b h=>by cases h⟩
 | i+1=>by
  obtain ⟨h1,h2⟩:=scan_ok w (U:=U) i;unfold scan
  cases hs:scan U bt i with
  | none =>
   have h1:=h1 hs;simp only;by_cases c:U i=true
   ·rw [if_pos c];refine ⟨fun h=>(by cases h),fun b hb=>?_⟩;cases hb;refine ⟨by omega,c,fun j hj hu=>?_,fun j hj hu=>?_⟩
    ·by_cases e:j=i
     ·rw [e];exact w.irr i
     ·have:=h1 j (by omega);rw [this] at hu;cases hu
    ·have:=h1 j hj;rw [this] at hu;cases hu
   ·rw [if_neg c];refine ⟨fun _ j hj=>?_,fun b hb=>(by cases hb)⟩;by_cases e:j=i
    ·rw [e];exact Bool.not_eq_true _ ▸ c
    ·exact h1 j (by omega)
  | some b0 =>
   obtain ⟨k1,k2,k3,k4⟩:=h2 b0 hs;simp only;by_cases c:U i=true∧bt i b0=true
   ·rw [if_pos c];refine ⟨fun h=>(by cases h),fun b hb=>?_⟩;cases hb
    have key:∀ j,j<i→U j=true→bt i j=true:=fun j hj hu=>by
     cases hx:bt i j with
     | true=>rfl
     | false=>have:=w.ntr i j b0 hx (k3 j hj hu);rw [c.2] at this;cases this
    refine ⟨by omega,c.1,fun j hj hu=>?_,fun j hj hu=>key j hj hu⟩;by_cases e:j=i
    ·rw [e];exact w.irr i
    ·have h5:=key j (by omega) hu
     cases hx:bt j i with
     | false=>rfl
     | true=>have:=w.tr i j i h5 hx;rw [w.irr] at this;cases this
   ·rw [if_neg c];refine ⟨fun h=>(by cases h),fun b hb=>?_⟩;cases hb;refine ⟨by omega,k2,fun j hj hu=>?_,k4⟩;by_cases e:j=i
    ·subst e
     cases hx:bt j b0 with
     | false=>rfl
     | true=>exact absurd ⟨hu,hx⟩ c
    ·exact k3 j (by omega) hu
theorem scan_congr {U U':Nat→Bool} {bt bt':Nat→Nat→Bool}:∀ i,(∀ j,j<i→U j=U' j)→(∀ j b,b<j→j<i→U j=true→U b=true→bt j b=bt' j b)→(∀ b,scan U bt i=some b→U b=true∧b<i)∧scan U bt i=scan U' bt' i
 | 0,_,_=>⟨fun b h=>(by cases h),rfl⟩
 | i+1,h1,h2=>by
  obtain ⟨a,e⟩:=scan_congr (U:=U) (U':=U') (bt:=bt) (bt':=bt') i (fun j hj=>h1 j (by omega)) (fun j b hb hj=>h2 j b hb (by omega));unfold scan;rw [←e,←h1 i (by omega)]
  cases hs:scan U bt i with
  | none =>
   simp only;refine ⟨fun b hb=>?_,trivial⟩;split at hb
   ·cases hb;exact ⟨by assumption,by omega⟩
   ·cases hb
  | some b0 =>
   obtain ⟨u,lt⟩:=a b0 hs;simp only;refine ⟨fun b hb=>?_,?_⟩
   ·split at hb
    ·rename_i c;cases hb;exact ⟨c.1,by omega⟩
    ·cases hb;exact ⟨u,by omega⟩
   ·by_cases c:U i=true
    ·rw [h2 i b0 lt (by omega) c u]
    ·rw [if_neg (fun g=>c g.1),if_neg (fun g=>c g.1)]
def sc (U:Nat→Bool) (bt:Nat→Nat→Bool) (i:Nat):Int:=match scan U bt i with
 | none=>-1
 | some b=>b
theorem sc_succ (U:Nat→Bool) (bt:Nat→Nat→Bool) (i:Nat):sc U bt (i+1)=(if U i=true then (if sc U bt i<0 then (i:Int) else if bt i (sc U bt i).toNat=true then (i:Int) else sc U bt i) else sc U bt i):=by
 unfold sc;rw [scan]
 cases scan U bt i with
 | none =>
  simp only;by_cases c:U i=true
  ·rw [if_pos c,if_pos c,if_pos (by omega)]
  ·rw [if_neg c,if_neg c]
 | some b =>
  show (match (if U i=true∧bt i b=true then some i else some b) with | none=>(-1:Int) | some b=>(b:Int))=(if U i=true then (if (b:Int)<0 then (i:Int) else if bt i (b:Int).toNat=true then (i:Int) else (b:Int)) else (b:Int));rw [Int.toNat_natCast,if_neg (show ¬ (b:Int)<0 by omega)];by_cases c:U i=true
  ·by_cases d:bt i b=true
   ·rw [if_pos ⟨c,d⟩,if_pos c,if_pos d]
   ·rw [if_neg (fun g=>d g.2),if_pos c,if_neg d]
  ·rw [if_neg (fun g=>c g.1),if_neg c]
theorem pig:∀ (n:Nat) (O:List Nat),(∀ i,i<n→i ∈ O)→n≤O.length
 | 0,_,_=>by omega
 | n+1,O,h=>by
  have h1:=pig n (O.erase n) fun i hi=>(List.mem_erase_of_ne (by omega)).2 (h i (by omega))
  rw [List.length_erase_of_mem (h n (by omega))] at h1;have:0<O.length:=List.length_pos_of_mem (h n (by omega));omega
theorem pig2:∀ (n:Nat) (O:List Nat),O.Nodup→(∀ i ∈ O,i<n)→O.length≤n
 | 0,O,_,h=>by
  cases O with
  | nil=>simp
  | cons a O=>have:=h a (by simp);omega
 | n+1,O,hd,h=>by
  have h1:=pig2 n (O.erase n) (hd.erase n) fun i hi=>by
   have h2:=(hd.mem_erase_iff).1 hi;have:=h i h2.2;have:=h2.1;omega
  by_cases c:n ∈ O
  ·rw [List.length_erase_of_mem c] at h1;omega
  ·rw [List.erase_of_not_mem c] at h1;omega
structure Ord (n:Nat) (O:List Nat):Prop where
 len:O.length=n
 nd:O.Nodup
 lt:∀ i ∈ O,i<n
theorem Ord.mem {n:Nat} {O:List Nat} (h:Ord n O) {i:Nat} (hi:i<n):i ∈ O:=by
 by_cases c:i ∈ O
 ·exact c
 ·have:=pig2 n (i::O) (List.nodup_cons.2 ⟨c,h.nd⟩) fun j hj=>by
   rcases List.mem_cons.1 hj with rfl | hj
   ·exact hi
   ·exact h.lt j hj
  rw [List.length_cons,h.len] at this;omega
theorem Ord.idx {n:Nat} {O:List Nat} (h:Ord n O) {i:Nat} (hi:i<n):O.idxOf i<n:=by
 rw [←h.len];exact List.idxOf_lt_length_iff.2 (h.mem hi)
theorem Ord.at_idx {n:Nat} {O:List Nat} (h:Ord n O) {r:Nat} (hr:r<O.length) {i:Nat} (hi:i<n):O.idxOf i=r↔i=O[r]:=by
 constructor
 ·rintro rfl
  exact (List.getElem_idxOf hr).symm
 ·rintro rfl
  exact h.nd.idxOf_getElem r hr
end Rk
end Go.Proofs.Ytelpkjellakigaa
/- ScreenRanks: keys of places. -/
namespace Go.Proofs.Ytelpkjellakigaa
open Go Go.RowKit
set_option linter.unusedSimpArgs false
set_option linter.unusedSectionVars false
set_option linter.unusedVariables false
namespace Rk
open Sc
def du (A B x y:Int):Int:=min ((x*A+y*B) % (A*A+B*B)) ((A*A+B*B)-(x*A+y*B) % (A*A+B*B))
def dv (A B x y:Int):Int:=min ((y*A-x*B) % (A*A+B*B)) ((A*A+B*B)-(y*A-x*B) % (A*A+B*B))
def k1 (K u v:Int):Int:=if K=1 then v else if K=2 then u*u+2*v*v else u*u+v*v
def k2 (K u:Int):Int:=if K=1 then u else 0
theorem prod_bd {a x:Int} (h0:-1000≤x) (h1:x≤1000) (a0:0≤a) (a1:a≤20):-20000≤x*a∧x*a≤20000:=by
 have q1:x*a≤1000*a:=Int.mul_le_mul_of_nonneg_right h1 a0;have q2:-1000*a≤x*a:=Int.mul_le_mul_of_nonneg_right h0 a0;omega
theorem sq_bd' {u v:Int} (h0:0≤u) (h1:u≤400) (g0:0≤v) (g1:v≤400):0≤u*v∧u*v≤160000 :=
 ⟨Int.mul_nonneg h0 g0,Int.mul_le_mul h1 g1 g0 (by omega)⟩
section
variable {A B:Int} (ok:ScrOk A B) {fu:Nat} {K:Int}
include ok
theorem n_eq:IntKind.i64.wrap (IntKind.i64.wrap (A*A)+IntKind.i64.wrap (B*B))=A*A+B*B:=by
 obtain ⟨a0,a1,b0,b1,n0,n1⟩:=ok;have q1:=sq_bd a0 a1;have q2:=sq_bd b0 b1;rw [wr64 (x:=A*A) (by omega) (by omega),wr64 (x:=B*B) (by omega) (by omega),wr64 (by omega) (by omega)]
theorem du_bd (x y:Int):0≤du A B x y∧du A B x y≤400:=by
 obtain ⟨a0,a1,b0,b1,n0,n1⟩:=ok;unfold du;generalize A*A+B*B=n at *
 have h1:=Int.emod_nonneg (x*A+y*B) (show n≠0 by omega);have h2:=Int.emod_lt_of_pos (x*A+y*B) n0;omega
theorem dv_bd (x y:Int):0≤dv A B x y∧dv A B x y≤400:=by
 obtain ⟨a0,a1,b0,b1,n0,n1⟩:=ok;unfold dv;generalize A*A+B*B=n at *
 have h1:=Int.emod_nonneg (y*A-x*B) (show n≠0 by omega);have h2:=Int.emod_lt_of_pos (y*A-x*B) n0;omega
theorem lin {x y:Int} (hx:-1000≤x∧x≤1000) (hy:-1000≤y∧y≤1000):IntKind.i64.wrap (IntKind.i64.wrap (x*A)+IntKind.i64.wrap (y*B))=x*A+y*B∧IntKind.i64.wrap (IntKind.i64.wrap (y*A)-IntKind.i64.wrap (x*B))=y*A-x*B∧(-40000≤x*A+y*B∧x*A+y*B≤40000)∧-40000≤y*A-x*B∧y*A-x*B≤40000:=by
 obtain ⟨a0,a1,b0,b1,n0,n1⟩:=ok;have p1:=prod_bd hx.1 hx.2 a0 a1;have p2:=prod_bd hy.1 hy.2 b0 b1;have p3:=prod_bd hy.1 hy.2 a0 a1;have p4:=prod_bd hx.1 hx.2 b0 b1;refine ⟨?_,?_,by omega,by omega⟩
 ·rw [wr64 (x:=x*A) (by omega) (by omega),wr64 (x:=y*B) (by omega) (by omega),wr64 (by omega) (by omega)]
 ·rw [wr64 (x:=y*A) (by omega) (by omega),wr64 (x:=x*B) (by omega) (by omega),wr64 (by omega) (by omega)]
theorem mods {x y:Int}:IntKind.i64.wrap (A*A+B*B-(x*A+y*B) % (A*A+B*B))=A*A+B*B-(x*A+y*B) % (A*A+B*B)∧IntKind.i64.wrap (A*A+B*B-(y*A-x*B) % (A*A+B*B))=A*A+B*B-(y*A-x*B) % (A*A+B*B):=by
 obtain ⟨a0,a1,b0,b1,n0,n1⟩:=ok;generalize A*A+B*B=n at *
 have h1:=Int.emod_nonneg (x*A+y*B) (show n≠0 by omega);have h2:=Int.emod_lt_of_pos (x*A+y*B) n0;have h3:=Int.emod_nonneg (y*A-x*B) (show n≠0 by omega);have h4:=Int.emod_lt_of_pos (y*A-x*B) n0;exact ⟨wr64 (by omega) (by omega),wr64 (by omega) (by omega)⟩
theorem tail_eq {u v:Int} (u0:0≤u∧u≤400) (v0:0≤v∧v≤400):IntKind.i64.wrap (IntKind.i64.wrap (u*u)+IntKind.i64.wrap (IntKind.i64.wrap (2*v)*v))=u*u+2*v*v∧IntKind.i64.wrap (IntKind.i64.wrap (u*u)+IntKind.i64.wrap (v*v))=u*u+v*v:=by
 clear ok;have q1:=sq_bd' u0.1 u0.2 u0.1 u0.2;have q2:=sq_bd' v0.1 v0.2 v0.1 v0.2;have q3:2*v*v=2*(v*v):=Int.mul_assoc _ _ _;constructor
 ·rw [wr64 (x:=u*u) (by omega) (by omega),wr64 (x:=2*v) (by omega) (by omega),wr64 (x:=2*v*v) (by omega) (by omega),wr64 (by omega) (by omega)]
 ·rw [wr64 (x:=u*u) (by omega) (by omega),wr64 (x:=v*v) (by omega) (by omega),wr64 (by omega) (by omega)]
theorem key_r {x y:Int} (hx:-1000≤x∧x≤1000) (hy:-1000≤y∧y≤1000):R_key_r fu ((A,(B,K)),(x,(y,())))=some ((k1 K (du A B x y) (dv A B x y),k2 K (du A B x y)),()):=by
 obtain ⟨l1,l2,l3,l4⟩:=lin ok hx hy;obtain ⟨m1,m2⟩:=mods ok (x:=x) (y:=y);have n0:=ok.n0;have n1:=ok.n1;have u0:=du_bd ok x y;have v0:=dv_bd ok x y;unfold R_key_r;simp only;rw [n_eq ok,l1,l2,rmod fu n0 (by omega) (by omega) (by omega),rmod fu n0 (by omega) (by omega) (by omega)];simp only [bindO_some];rw [m1,m2];have e1:min ((x*A+y*B) % (A*A+B*B)) (A*A+B*B-(x*A+y*B) % (A*A+B*B))=du A B x y:=rfl;have e2:min ((y*A-x*B) % (A*A+B*B)) (A*A+B*B-(y*A-x*B) % (A*A+B*B))=dv A B x y:=rfl;rw [e1,e2,(tail_eq ok u0 v0).1,(tail_eq ok u0 v0).2];unfold k1 k2;by_cases c:K=1
 ·rw [bif_pos c,if_pos c,if_pos c]
 ·rw [bif_neg c,if_neg c,if_neg c];by_cases d:K=2
  ·rw [bif_pos d,if_pos d]
  ·rw [bif_neg d,if_neg d]
theorem offset_r {N S G:Int} (n0:0<N) {p:Int} (p0:0≤p) (p1:p≤400):screen_offset_r fu ((A,(B,K)),((N,(S,G)),(p,())))=some (du A B (p % N) (p / N),(dv A B (p % N) (p / N),())):=by
 have x0:=Int.emod_nonneg p (show N≠0 by omega);have y0:0≤p / N:=Int.ediv_nonneg p0 (by omega)
 have x1:p % N≤p:=by
  have h1:=Int.mul_ediv_add_emod p N;have h2:=Int.mul_nonneg (show 0≤N by omega) y0;omega
 have y1:p / N≤p:=Int.ediv_le_self _ p0;obtain ⟨l1,l2,l3,l4⟩:=lin ok (x:=p % N) (y:=p / N) ⟨by omega,by omega⟩ ⟨by omega,by omega⟩;obtain ⟨m1,m2⟩:=mods ok (x:=p % N) (y:=p / N);have h0:=ok.n0;have h1:=ok.n1;unfold screen_offset_r;simp only;rw [n_eq ok,bif_pos (show N≠0 by omega),bif_pos (show N≠0 by omega),Int.tmod_eq_emod_of_nonneg p0,Int.tdiv_eq_ediv_of_nonneg p0,wr64 (x:=p / N) (by omega) (by omega),l1,l2,smod fu h0 (by omega),smod fu h0 (by omega)];simp only [bindO_some];rw [m1,m2];rfl
theorem rk1_r {N S G:Int} (n0:0<N) {p:Int} (p0:0≤p) (p1:p≤400):screen_Ranks_1_r fu (p,((A,(B,K)),((N,(S,G)),())))=some (k1 K (du A B (p % N) (p / N)) (dv A B (p % N) (p / N)),(k2 K (du A B (p % N) (p / N)),())):=by
 have u0:=du_bd ok (p % N) (p / N);have v0:=dv_bd ok (p % N) (p / N);unfold screen_Ranks_1_r;rw [offset_r ok n0 p0 p1];simp only [bindO_some];rw [(tail_eq ok u0 v0).1,(tail_eq ok u0 v0).2];unfold k1 k2;by_cases c:K=1
 ·rw [bif_pos c,if_pos c,if_pos c]
 ·rw [bif_neg c,if_neg c,if_neg c];by_cases d:K=2
  ·rw [bif_pos d,if_pos d]
  ·rw [bif_neg d,if_neg d]
def K1 (A B K N p:Int):Int:=k1 K (du A B (p % N) (p / N)) (dv A B (p % N) (p / N))
def K2 (A B K N p:Int):Int:=k2 K (du A B (p % N) (p / N))
omit ok in
theorem k1_bd {u v:Int} (u0:0≤u∧u≤400) (v0:0≤v∧v≤400):0≤k1 K u v∧k1 K u v≤1000000:=by
 have q1:=sq_bd' u0.1 u0.2 u0.1 u0.2;have q2:=sq_bd' v0.1 v0.2 v0.1 v0.2;have q3:2*v*v=2*(v*v):=Int.mul_assoc _ _ _;unfold k1;split
 ·omega
 ·split <;> omega
omit ok in
theorem k2_bd {u:Int} (u0:0≤u∧u≤400):0≤k2 K u∧k2 K u≤1000000:=by
 unfold k2
 split <;> omega
def cmpK (A B K N p q:Int):Int:=if K1 A B K N p≠K1 A B K N q then K1 A B K N p-K1 A B K N q else if K2 A B K N p≠K2 A B K N q then K2 A B K N p-K2 A B K N q else p-q
theorem cmp_r {N S G:Int} (n0:0<N) {p q:Int} (p0:0≤p) (p1:p≤400) (q0:0≤q) (q1:q≤400):Srt.cmpv fu (A,(B,K)) (N,(S,G)) p q=some (cmpK A B K N p q):=by
 have a1:=k1_bd (K:=K) (du_bd ok (p % N) (p / N)) (dv_bd ok (p % N) (p / N));have a2:=k1_bd (K:=K) (du_bd ok (q % N) (q / N)) (dv_bd ok (q % N) (q / N));have b1:=k2_bd (K:=K) (du_bd ok (p % N) (p / N));have b2:=k2_bd (K:=K) (du_bd ok (q % N) (q / N))
 have hg:screen_Ranks_2_g fu (p,(q,(((),()),((A,(B,K)),(N,(S,G))))))=some (cmpK A B K N p q,((N,(S,G)),((A,(B,K)),((),())))):=by
  unfold screen_Ranks_2_g;rw [rk1_r ok n0 p0 p1,bindO_some];simp only;rw [rk1_r ok n0 q0 q1,bindO_some];simp only;unfold cmpK K1 K2;rw [wr64 (x:=k1 K _ _-k1 K _ _) (by omega) (by omega),wr64 (x:=k2 K _-k2 K _) (by omega) (by omega),wr64 (x:=p-q) (by omega) (by omega)];by_cases c:k1 K (du A B (p % N) (p / N)) (dv A B (p % N) (p / N))≠k1 K (du A B (q % N) (q / N)) (dv A B (q % N) (q / N))
  ·rw [bif_pos c,if_pos c]
  ·rw [bif_neg c,if_neg c];by_cases d:k2 K (du A B (p % N) (p / N))≠k2 K (du A B (q % N) (q / N))
   ·rw [bif_pos d,if_pos d]
   ·rw [bif_neg d,if_neg d]
 unfold Srt.cmpv screen_Ranks_2_r chkE;rw [hg];rfl
end
end Rk
end Go.Proofs.Ytelpkjellakigaa
/- ScreenRanks: what screen.Ranks computes from an order. -/
namespace Go.Proofs.Ytelpkjellakigaa
open Go Go.RowKit
set_option linter.unusedSimpArgs false
set_option linter.unusedSectionVars false
set_option linter.unusedVariables false
namespace Rk
open Sc
theorem stLoop {X β:Type} {f:(X→Option β)→X→Option β} {n fu:Nat} (hn:n<fu) {st:Nat→X} {x0:X} {fin:Option β} (h0:st 0=x0)
  (step:∀ j (i:Nat),i<n→f j (st i)=j (st (i+1))) (last:∀ j,f j (st n)=fin):loopF f fu x0=fin:=by
 have key:=errGen (f:=f) (n:=n) (st:=st) (E:=fun _=>0) (out:=fun _=>none) (fin:=fin) (fun j i hi _=>by rw [if_pos rfl];exact step j i hi) (fun _=>last) fu 0 (by omega) (by omega) (by omega);rw [if_pos (firstE_all _ _ fun _ _ _=>rfl),h0] at key;exact key
theorem nx {k:Nat} (h:k≤2000000):IntKind.i64.wrap ((k:Int)+1)=((k+1:Nat):Int):=by rw [wr64 (by omega) (by omega)];omega
theorem lt_iff (A B K N p q:Int):cmpK A B K N p q<0↔K1 A B K N p<K1 A B K N q∨(K1 A B K N p=K1 A B K N q∧(K2 A B K N p<K2 A B K N q∨(K2 A B K N p=K2 A B K N q∧p<q))):=by
 unfold cmpK;by_cases c:K1 A B K N p=K1 A B K N q
 ·rw [if_neg (fun g=>g c)];by_cases d:K2 A B K N p=K2 A B K N q
  ·rw [if_neg (fun g=>g d)];omega
  ·rw [if_pos d];omega
 ·rw [if_pos c];omega
def rankL (n:Nat) (O:List Nat) (k:Nat) (d:Int):List Int:=tabL n fun i=>if O.idxOf i.toNat<k then (O.idxOf i.toNat:Int) else d
theorem rankL_len (n:Nat) (O:List Nat) (k:Nat) (d:Int):(rankL n O k d).length=n:=tabL_length _ _
theorem rankL_zero (n:Nat) (O:List Nat) (d:Int):rankL n O 0 d=List.replicate n d:=tabL_rep fun i _ _=>if_neg (by omega)
theorem rankL_get {n:Nat} {O:List Nat} {k:Nat} {d d':Int} {i:Nat} (hi:i<n):(rankL n O k d).getD i d'=if O.idxOf i<k then (O.idxOf i:Int) else d:=by
 unfold rankL;rw [tabL_getDN hi,Int.toNat_natCast]
theorem rankL_set {n:Nat} {O:List Nat} (h:Ord n O) {k:Nat} (hk:k<O.length) {d:Int}:(rankL n O k d).set O[k] (k:Int)=rankL n O (k+1) d:=by
 have hb:O[k]<n:=h.lt _ (List.getElem_mem hk);have hi:O.idxOf O[k]=k:=(h.at_idx hk hb).2 rfl
 have:=tabL_set (n:=n) (G:=fun i:Int=>if O.idxOf i.toNat<k then (O.idxOf i.toNat:Int) else d) (G':=fun i:Int=>if O.idxOf i.toNat<k+1 then (O.idxOf i.toNat:Int) else d) (k:=(O[k]:Int)) (v:=(k:Int)) (Int.natCast_nonneg _) (by
  simp only [Int.toNat_natCast]
  rw [hi,if_pos (by omega)]) fun i i0 i1 i2=>by
   have:O.idxOf i.toNat≠k:=fun e=>by
    have:=(h.at_idx hk (show i.toNat<n by omega)).1 e;omega
   by_cases c:O.idxOf i.toNat<k
   ·rw [if_pos c,if_pos (by omega)]
   ·rw [if_neg c,if_neg (by omega)]
 rw [Int.toNat_natCast] at this;exact this
theorem rankL_full {n:Nat} {O:List Nat} (h:Ord n O) (d d':Int):rankL n O n d=rankL n O n d':=tabL_congr fun i i0 i1=>by
 have:=h.idx (show i.toNat<n by omega);rw [if_pos this,if_pos this]
section
variable {fu:Nat} (hf:18446744073709551616≤fu) {n:Nat} (hn:n≤400)
include hf hn
theorem ranks_of {O:List Nat} (h:Ord n O):screen_Ranks_j2 fu (n:Int) (O.map Int.ofNat)=some (rankL n O n 0,()):=by
 unfold screen_Ranks_j2;rw [bif_and (Int.natCast_nonneg _) (by omega),Int.toNat_natCast];refine stLoop (n:=n) (by omega) (st:=fun k=>((k:Int),rankL n O k 0)) (by rw [rankL_zero];rfl) ?_ ?_
 ·intro j k hk;have hk':k<O.length:=by rw [h.len];exact hk
  have hb:O[k]<n:=h.lt _ (List.getElem_mem hk')
  have hg:(O.map Int.ofNat).getD k 0=(O[k]:Int):=by
   rw [List.getD_eq_getElem?_getD,List.getElem?_map,List.getElem?_eq_getElem hk'];rfl
  unfold screen_Ranks_l3;simp only;rw [List.length_map,h.len,bif_pos (Int.ofNat_lt.2 hk),bif_and (Int.natCast_nonneg _) (Int.ofNat_lt.2 hk),Int.toNat_natCast,hg,rankL_len,bif_and (Int.natCast_nonneg _) (Int.ofNat_lt.2 hb),Int.toNat_natCast,rankL_set h hk',nx (by omega)]
 ·intro j;unfold screen_Ranks_l3;simp only;rw [List.length_map,h.len,bif_neg (Int.lt_irrefl _)]
end
def ints (n:Nat):List Int:=tabL n fun k=>k
theorem ints_len (n:Nat):(ints n).length=n:=tabL_length _ _
theorem ints_mem {n:Nat} {x:Int} (h:x ∈ ints n):0≤x∧x<n:=by
 obtain ⟨i,hi,rfl⟩:=List.mem_map.1 h;have:=List.mem_range.1 hi;simp only;omega
theorem ints_nd (n:Nat):(ints n).Nodup:=by
 unfold ints tabL;refine List.pairwise_map.2 (List.Pairwise.imp (fun {a b} h e=>h (by have e:(a:Int)=(b:Int):=e;omega)) (List.nodup_range (n:=n)))
section
variable {A B:Int} (ok:ScrOk A B) {fu:Nat} {K N S G:Int} (n0:0<N) {n:Nat} (hn0:0<n) (hn:n≤400)
include ok n0 hn
theorem cfv_eq {p q:Int} (hp:p ∈ ints n) (hq:q ∈ ints n):Srt.cfv fu (A,(B,K)) (N,(S,G)) p q=cmpK A B K N p q:=by
 have a:=ints_mem hp;have b:=ints_mem hq;unfold Srt.cfv;rw [cmp_r ok n0 a.1 (by omega) b.1 (by omega)];rfl
theorem lt_sub (x y:{x:Int // x ∈ ints n}):Go.Proofs.ltOf (fun x y:{x:Int // x ∈ ints n}=>Srt.cfv fu (A,(B,K)) (N,(S,G)) x.val y.val) x y=decide (cmpK A B K N x.val y.val<0):=by
 unfold Go.Proofs.ltOf;show decide (Srt.cfv fu (A,(B,K)) (N,(S,G)) x.val y.val<0)=_;rw [cfv_eq ok n0 hn x.property y.property]
include hn0
theorem good:Srt.Good fu (A,(B,K)) (N,(S,G)) (ints n):=by
 refine ⟨fun e=>?_,by rw [ints_len];omega,fun x hx y hy=>?_,⟨fun x=>?_,fun x y z h1 h2=>?_,fun x y z h1 h2=>?_⟩,fun x y h1 h2=>?_⟩
 ·have:=congrArg List.length e;rw [ints_len] at this;simp at this;omega
 ·have a:=ints_mem hx;have b:=ints_mem hy;rw [cfv_eq ok n0 hn hx hy,cmp_r ok n0 a.1 (by omega) b.1 (by omega)]
 ·rw [lt_sub ok n0 hn,decide_eq_false_iff_not,lt_iff];omega
 ·rw [lt_sub ok n0 hn,decide_eq_true_eq,lt_iff] at *;omega
 ·rw [lt_sub ok n0 hn,decide_eq_false_iff_not,lt_iff] at *;omega
 ·rw [lt_sub ok n0 hn,decide_eq_false_iff_not,lt_iff] at *
  exact Subtype.ext (by omega)
theorem sorted:∃ O:List Nat,Ord n O∧Srt.srt (Srt.cfv fu (A,(B,K)) (N,(S,G))) (ints n)=O.map Int.ofNat∧∀ i j (hi:i<O.length) (hj:j<O.length),i<j→¬ cmpK A B K N (O[j]:Int) (O[i]:Int)<0:=by
 have hG:=good ok n0 hn0 hn (fu:=fu) (K:=K) (S:=S) (G:=G)
 have hperm:(Srt.srt (Srt.cfv fu (A,(B,K)) (N,(S,G))) (ints n)).Perm (ints n):=by
  unfold Srt.srt;have h1:=(List.mergeSort_perm (ints n).attach (fun x y=>!(Go.Proofs.ltOf (fun x y:{x:Int // x ∈ ints n}=>Srt.cfv fu (A,(B,K)) (N,(S,G)) x.val y.val)) y x)).map Subtype.val;rw [List.attach_map_subtype_val] at h1;exact h1
 have hpair:(Srt.srt (Srt.cfv fu (A,(B,K)) (N,(S,G))) (ints n)).Pairwise fun a b=>¬ cmpK A B K N b a<0:=by
  unfold Srt.srt;refine List.pairwise_map.2 (List.Pairwise.imp (fun h=>?_) (List.pairwise_mergeSort (fun a b c h1 h2=>?_) (fun a b=>?_) _))
  ·rw [Bool.not_eq_true',lt_sub ok n0 hn,decide_eq_false_iff_not] at h;exact h
  ·rw [Bool.not_eq_true'] at *
   exact hG.swo.ntrans _ _ _ h2 h1
  ·rw [Bool.or_eq_true,Bool.not_eq_true',Bool.not_eq_true'];rw [lt_sub ok n0 hn,lt_sub ok n0 hn,decide_eq_false_iff_not,decide_eq_false_iff_not,lt_iff,lt_iff];omega
 generalize Srt.srt (Srt.cfv fu (A,(B,K)) (N,(S,G))) (ints n)=L at hperm hpair;have hmem:∀ x ∈ L,0≤x∧x<n:=fun x hx=>ints_mem (hperm.mem_iff.1 hx)
 have hnd:=hperm.nodup_iff.2 (ints_nd n);refine ⟨L.map Int.toNat,⟨by rw [List.length_map,hperm.length_eq,ints_len],?_,fun i hi=>?_⟩,?_,fun i j hi hj hij=>?_⟩
 ·refine List.pairwise_iff_getElem.2 fun i j hi hj hij=>?_
  have h1:=List.pairwise_iff_getElem.1 hnd i j (by simpa using hi) (by simpa using hj) hij;have h2:=hmem _ (List.getElem_mem (show i<L.length by simpa using hi));have h3:=hmem _ (List.getElem_mem (show j<L.length by simpa using hj));rw [List.getElem_map,List.getElem_map];omega
 ·obtain ⟨x,hx,rfl⟩:=List.mem_map.1 hi;have:=hmem x hx;omega
 ·rw [List.map_map];exact ((List.map_congr_left (g:=id) fun x hx=>Int.toNat_of_nonneg (hmem x hx).1).trans (List.map_id L)).symm
 ·have h1:=List.pairwise_iff_getElem.1 hpair i j (by simpa using hi) (by simpa using hj) hij;have h2:=hmem _ (List.getElem_mem (show i<L.length by simpa using hi));have h3:=hmem _ (List.getElem_mem (show j<L.length by simpa using hj));rw [List.getElem_map,List.getElem_map,Int.toNat_of_nonneg h2.1,Int.toNat_of_nonneg h3.1];exact h1
end
end Rk
end Go.Proofs.Ytelpkjellakigaa
/- ScreenRanks: what the reference computes. -/
namespace Go.Proofs.Ytelpkjellakigaa
open Go Go.RowKit
set_option linter.unusedSimpArgs false
set_option linter.unusedSectionVars false
set_option linter.unusedVariables false
namespace Rk
open Sc
def btK (A B K N:Int) (i b:Nat):Bool:=decide (K1 A B K N i<K1 A B K N b∨(K1 A B K N i=K1 A B K N b∧K2 A B K N i<K2 A B K N b))
def dist (A B N:Int) (b i:Nat):Int:=k1 0 (du A B ((i:Int) % N-(b:Int) % N) ((i:Int) / N-(b:Int) / N)) (dv A B ((i:Int) % N-(b:Int) % N) ((i:Int) / N-(b:Int) / N))
def nr (A B N:Int) (O:List Nat):Nat→Nat→Int
 | 0,_=>0
 | r+1,i=>if r=0∨dist A B N (O.getD r 0) i<nr A B N O r i then dist A B N (O.getD r 0) i else nr A B N O r i
def btR (A B K N:Int) (O:List Nat) (r:Nat) (i b:Nat):Bool:=if K=3 then decide (0<r∧nr A B N O r b<nr A B N O r i) else btK A B K N i b
def UU (O:List Nat) (r i:Nat):Bool:=decide (r≤O.idxOf i)
theorem wk (A B K N:Int) (O:List Nat) (r:Nat):Wk (btR A B K N O r):=by
 unfold btR;by_cases c:K=3
 ·simp only [if_pos c];refine ⟨fun x=>decide_eq_false (by omega),fun x y z h1 h2=>?_,fun x y z h1 h2=>?_⟩
  ·rw [decide_eq_true_eq] at *;omega
  ·rw [decide_eq_false_iff_not] at *;omega
 ·simp only [if_neg c];unfold btK;refine ⟨fun x=>decide_eq_false (by omega),fun x y z h1 h2=>?_,fun x y z h1 h2=>?_⟩
  ·rw [decide_eq_true_eq] at *;omega
  ·rw [decide_eq_false_iff_not] at *;omega
def nearL (A B N:Int) (O:List Nat) (n r k:Nat):List Int:=tabL n fun i=>if i<(k:Int) then nr A B N O (r+1) i.toNat else nr A B N O r i.toNat
section
variable {fu:Nat} (hf:18446744073709551616≤fu) {A B:Int} (ok:ScrOk A B) {K N:Int} (n0:0<N) {n:Nat} (hn0:0<n) (hn:n≤400) (hN:A*A+B*B=(n:Int)) {O:List Nat} (h:Ord n O)
include n0 hn in
theorem pq_bd {i:Nat} (hi:i<n):(0≤(i:Int) % N∧(i:Int) % N≤400)∧0≤(i:Int) / N∧(i:Int) / N≤400:=by
 have y0:0≤(i:Int) / N:=Int.ediv_nonneg (by omega) (by omega);have x0:=Int.emod_nonneg (i:Int) (show N≠0 by omega);have h1:=Int.mul_ediv_add_emod (i:Int) N;have h2:=Int.mul_nonneg (show 0≤N by omega) y0;have y1:(i:Int) / N≤i:=Int.ediv_le_self _ (by omega);omega
include hf ok n0 hn hN h
theorem near_r {r:Nat} (hr:r<O.length) {j4}:loopF (R_Ranks_l7 fu ((A,(B,K)),()) (n:Int) N ((r:Int),(nearL A B N O n r 0,rankL n O r (-1))) (r:Int) ((O[r]:Int),(n:Int)) j4) fu (0,nearL A B N O n r 0)=j4 (((r+1:Nat):Int),(nearL A B N O n (r+1) 0,rankL n O (r+1) (-1))):=by
 have hb:O[r]<n:=h.lt _ (List.getElem_mem hr);have hrn:r<n:=by rw [←h.len];exact hr
 have hbb:=pq_bd n0 hn hb;refine stLoop (n:=n) (by omega) (st:=fun k=>((k:Int),nearL A B N O n r k)) rfl ?_ ?_
 ·intro j i hi;have hii:=pq_bd n0 hn hi;unfold R_Ranks_l7 R_Ranks_j8;simp only [joinF_eq];rw [bif_pos (Int.ofNat_lt.2 hi),bif_pos (show N≠0 by omega),bif_pos (show N≠0 by omega),bif_pos (show N≠0 by omega),bif_pos (show N≠0 by omega)];rw [Int.tmod_eq_emod_of_nonneg (show 0≤(i:Int) by omega),Int.tmod_eq_emod_of_nonneg (show 0≤(O[r]:Int) by omega),Int.tdiv_eq_ediv_of_nonneg (show 0≤(i:Int) by omega),Int.tdiv_eq_ediv_of_nonneg (show 0≤(O[r]:Int) by omega)];rw [wr64 (x:=(i:Int) / N) (by omega) (by omega),wr64 (x:=(O[r]:Int) / N) (by omega) (by omega),wr64 (x:=(i:Int) % N-(O[r]:Int) % N) (by omega) (by omega),wr64 (x:=(i:Int) / N-(O[r]:Int) / N) (by omega) (by omega),key_r ok (by omega) (by omega),bindO_some]
  have hd:k1 0 (du A B ((i:Int) % N-(O[r]:Int) % N) ((i:Int) / N-(O[r]:Int) / N)) (dv A B ((i:Int) % N-(O[r]:Int) % N) ((i:Int) / N-(O[r]:Int) / N))=dist A B N (O.getD r 0) i:=by
   rw [List.getD_eq_getElem?_getD,List.getElem?_eq_getElem hr];rfl
  simp only;rw [hd];have hlen:(nearL A B N O n r i).length=n:=tabL_length _ _
  have hget:(nearL A B N O n r i).getD i 0=nr A B N O r i:=by
   unfold nearL;rw [tabL_getDN hi,if_neg (by omega),Int.toNat_natCast]
  have hset:∀ v,v=nr A B N O (r+1) i→(nearL A B N O n r i).set i v=nearL A B N O n r (i+1):=fun v hv=>by
   have:=tabL_set (n:=n) (G:=fun q:Int=>if q<(i:Int) then nr A B N O (r+1) q.toNat else nr A B N O r q.toNat) (G':=fun q:Int=>if q<((i+1:Nat):Int) then nr A B N O (r+1) q.toNat else nr A B N O r q.toNat) (k:=(i:Int)) (v:=v) (Int.natCast_nonneg _) (by
    rw [if_pos (by omega),Int.toNat_natCast,hv]) fun q q0 q1 q2=>by
     by_cases c:q<(i:Int)
     ·rw [if_pos c,if_pos (by omega)]
     ·rw [if_neg c,if_neg (by omega)]
   rw [Int.toNat_natCast] at this;exact this
  have hkeep:nr A B N O r i=nr A B N O (r+1) i→nearL A B N O n r i=nearL A B N O n r (i+1):=fun e=>by
   refine tabL_congr fun q q0 q1=>?_
   by_cases c:q<(i:Int)
   ·rw [if_pos c,if_pos (by omega)]
   ·by_cases d:q=(i:Int)
    ·rw [if_neg c,if_pos (by omega),d,Int.toNat_natCast,e]
    ·rw [if_neg c,if_neg (by omega)]
  have fin:∀ b:Bool,b=decide (r=0∨dist A B N (O.getD r 0) i<nr A B N O r i)→R_Ranks_j9 fu ((i:Int),nearL A B N O n r i) (i:Int) (dist A B N (O.getD r 0) i) (fun v8=>j (IntKind.i64.wrap (v8.1+1),v8.2)) b=j (((i+1:Nat):Int),nearL A B N O n r (i+1)):=fun b hb=>by
   have e:nr A B N O (r+1) i=if r=0∨dist A B N (O.getD r 0) i<nr A B N O r i then dist A B N (O.getD r 0) i else nr A B N O r i:=rfl
   unfold R_Ranks_j9;by_cases c:r=0∨dist A B N (O.getD r 0) i<nr A B N O r i
   ·rw [hb,bif_pos c,hlen,bif_and (Int.natCast_nonneg _) (Int.ofNat_lt.2 hi),Int.toNat_natCast];show j (IntKind.i64.wrap ((i:Int)+1),(nearL A B N O n r i).set i (dist A B N (O.getD r 0) i))=_;rw [nx (by omega),hset _ (by rw [e,if_pos c])]
   ·rw [hb,bif_neg c];show j (IntKind.i64.wrap ((i:Int)+1),nearL A B N O n r i)=_;rw [nx (by omega),hkeep (by rw [e,if_neg c])]
  have fin':=fin;unfold R_Ranks_j9 at fin;by_cases c:(r:Int)=0
  ·rw [bif_pos c];exact fin' true (decide_eq_true (.inl (by omega))).symm
  ·rw [bif_neg c,hlen,bif_and (Int.natCast_nonneg _) (Int.ofNat_lt.2 hi),Int.toNat_natCast,hget];refine fin' _ ?_;rw [Bool.eq_iff_iff,decide_eq_true_eq,decide_eq_true_eq];omega
 ·intro j;unfold R_Ranks_l7;simp only;have e1:nearL A B N O n r n=nearL A B N O n (r+1) 0:=tabL_congr fun i i0 i1=>by rw [if_pos i1,if_neg (by omega)]
  rw [bif_neg (Int.lt_irrefl _),nx (by omega),Int.toNat_natCast,rankL_set h hr,e1]
theorem round_r {r:Nat} (hr:r<O.length) (hsel:scan (UU O r) (btR A B K N O r) n=some O[r]) {j4}:loopF (R_Ranks_l3 fu ((A,(B,K)),()) (n:Int) N ((r:Int),(nearL A B N O n r 0,rankL n O r (-1))) (r:Int) j4) fu (-1,0)=j4 (((r+1:Nat):Int),(nearL A B N O n (r+1) 0,rankL n O (r+1) (-1))):=by
 have hb:O[r]<n:=h.lt _ (List.getElem_mem hr);have hrn:r<n:=by rw [←h.len];exact hr
 refine stLoop (n:=n) (by omega) (st:=fun i=>(sc (UU O r) (btR A B K N O r) i,(i:Int))) rfl ?_ ?_
 ·intro j i hi;have hs:=sc_succ (UU O r) (btR A B K N O r) i;have hii:=pq_bd n0 hn hi;have hgr:(rankL n O r (-1)).getD i 0=if O.idxOf i<r then (O.idxOf i:Int) else -1:=rankL_get hi
  have hbest:sc (UU O r) (btR A B K N O r) i<0∨∃ b:Nat,sc (UU O r) (btR A B K N O r) i=(b:Int)∧b<i:=by
   unfold sc
   cases hq:scan (UU O r) (btR A B K N O r) i with
   | none=>left;simp only;omega
   | some b=>exact .inr ⟨b,rfl,((scan_ok (wk A B K N O r) i).2 b hq).1⟩
  generalize sc (UU O r) (btR A B K N O r) i=best at hs hbest ⊢;unfold R_Ranks_l3 R_Ranks_j4;simp only [joinF_eq];rw [bif_pos (Int.ofNat_lt.2 hi),rankL_len,bif_and (Int.natCast_nonneg _) (Int.ofNat_lt.2 hi),Int.toNat_natCast,hgr,nx (by omega)];by_cases c:O.idxOf i<r
  ·rw [if_pos c,bif_pos (by omega),hs,if_neg (by unfold UU;rw [decide_eq_true_eq];omega)]
  ·have hu:UU O r i=true:=by unfold UU;rw [decide_eq_true_eq];omega
   rw [if_neg c,bif_neg (by omega),hs,if_pos hu];by_cases c1:best<0
   ·rw [bif_pos c1,if_pos c1]
   ·obtain ⟨b,hbe,hbi⟩:=hbest.resolve_left c1;subst hbe;have hbn:b<n:=by omega
    have hbb:=pq_bd n0 hn hbn;rw [bif_neg c1,if_neg c1,Int.toNat_natCast]
    have fin:∀ z:Int,(fun v7:Int×Int=>j (v7.2,IntKind.i64.wrap (v7.1+1))) ((i:Int),z)=j (z,((i+1:Nat):Int)):=fun z=>by
     show j (z,IntKind.i64.wrap ((i:Int)+1))=_;rw [nx (by omega)]
    by_cases c2:K=3
    ·rw [bif_pos c2];have ebt:btR A B K N O r i b=decide (0<r∧nr A B N O r b<nr A B N O r i):=if_pos c2;rw [ebt];have hlen:(nearL A B N O n r 0).length=n:=tabL_length _ _
     have hg:∀ q:Nat,q<n→(nearL A B N O n r 0).getD q 0=nr A B N O r q:=fun q hq=>by
      unfold nearL;rw [tabL_getDN hq,if_neg (by omega),Int.toNat_natCast]
     unfold R_Ranks_j5;by_cases c3:(0:Int)<(r:Int)
     ·rw [bif_pos c3,hlen,bif_and (Int.natCast_nonneg _) (Int.ofNat_lt.2 hi),bif_and (Int.natCast_nonneg _) (Int.ofNat_lt.2 hbn),hg b hbn,hg i hi];by_cases c4:nr A B N O r b<nr A B N O r i
      ·rw [bif_pos c4,if_pos (decide_eq_true ⟨by omega,c4⟩)];exact fin _
      ·rw [bif_neg c4,if_neg (by rw [decide_eq_true_eq];exact fun g=>c4 g.2)];exact fin _
     ·rw [bif_neg c3,if_neg (by rw [decide_eq_true_eq];exact fun g=>c3 (by omega))];exact fin _
    ·rw [bif_neg c2,bif_pos (show N≠0 by omega),bif_pos (show N≠0 by omega)];have ebt:btR A B K N O r i b=btK A B K N i b:=if_neg c2;rw [ebt];rw [Int.tmod_eq_emod_of_nonneg (show 0≤(i:Int) by omega),Int.tdiv_eq_ediv_of_nonneg (show 0≤(i:Int) by omega),wr64 (x:=(i:Int) / N) (by omega) (by omega),key_r ok (by omega) (by omega),bindO_some,bif_pos (show N≠0 by omega),bif_pos (show N≠0 by omega)];rw [Int.tmod_eq_emod_of_nonneg (show 0≤(b:Int) by omega),Int.tdiv_eq_ediv_of_nonneg (show 0≤(b:Int) by omega),wr64 (x:=(b:Int) / N) (by omega) (by omega),key_r ok (by omega) (by omega),bindO_some];unfold R_Ranks_j6 btK K1 K2;simp only;by_cases c4:k1 K (du A B ((i:Int) % N) ((i:Int) / N)) (dv A B ((i:Int) % N) ((i:Int) / N))<k1 K (du A B ((b:Int) % N) ((b:Int) / N)) (dv A B ((b:Int) % N) ((b:Int) / N))
     ·rw [bif_pos c4,if_pos (decide_eq_true (.inl c4))];exact fin _
     ·rw [bif_neg c4];by_cases c5:k1 K (du A B ((i:Int) % N) ((i:Int) / N)) (dv A B ((i:Int) % N) ((i:Int) / N))=k1 K (du A B ((b:Int) % N) ((b:Int) / N)) (dv A B ((b:Int) % N) ((b:Int) / N))
      ·rw [bif_pos c5];by_cases c6:k2 K (du A B ((i:Int) % N) ((i:Int) / N))<k2 K (du A B ((b:Int) % N) ((b:Int) / N))
       ·rw [bif_pos c6,if_pos (decide_eq_true (.inr ⟨c5,c6⟩))];exact fin _
       ·rw [bif_neg c6,if_neg (by rw [decide_eq_true_eq];exact fun g=>g.elim c4 fun g=>c6 g.2)];exact fin _
      ·rw [bif_neg c5,if_neg (by rw [decide_eq_true_eq];exact fun g=>g.elim c4 fun g=>c5 g.1)];exact fin _
 ·intro j
  have e:sc (UU O r) (btR A B K N O r) n=(O[r]:Int):=by
   unfold sc;rw [hsel]
  unfold R_Ranks_l3;simp only;rw [bif_neg (Int.lt_irrefl _),rankL_len,e,bif_and (Int.natCast_nonneg _) (Int.ofNat_lt.2 hb)];exact near_r hf ok n0 hn hN h hr
include hn0
theorem rranks_r {S G:Int} (f:FormOk A B N S G) (hG:G≤400) (hsel:∀ r (hr:r<O.length),scan (UU O r) (btR A B K N O r) n=some O[r]):R_Ranks_r fu ((A,(B,K)),())=some (rankL n O n (-1),()):=by
 have hg:=f.g0
 have hdiv:Int.tdiv (A*A+B*B) G=N:=by
  rw [←f.mul,Int.tdiv_eq_ediv_of_nonneg (Int.mul_nonneg (by omega) (by omega)),Int.mul_ediv_cancel_left _ (by omega)]
 have hN4:N≤400:=by
  have:=f.mul;have h1:1*N≤G*N:=Int.mul_le_mul_of_nonneg_right (by omega) (by omega);omega
 unfold R_Ranks_r;simp only;rw [n_eq ok,gcd_r hf ok f,bindO_some,bif_pos (show G≠0 by omega),hdiv,wr64 (x:=N) (by omega) (by omega),hN,bif_and (Int.natCast_nonneg _) (by omega),Int.toNat_natCast];refine stLoop (n:=n) (by omega) (st:=fun k=>((k:Int),tabL n (fun i=>if i<(k:Int) then (-1:Int) else 0))) ?_ ?_ ?_
 ·refine Prod.ext rfl ?_;show tabL n (fun i:Int=>if i<((0:Nat):Int) then (-1:Int) else 0)=List.replicate n 0;exact tabL_rep fun i i0 _=>if_neg (by omega)
 ·intro j k hk;unfold R_Ranks_l1;simp only;rw [List.length_replicate,Int.toNat_natCast,bif_pos (Int.ofNat_lt.2 hk),tabL_length,bif_and (Int.natCast_nonneg _) (Int.ofNat_lt.2 hk),nx (by omega)]
  have:=tabL_set (n:=n) (G:=fun i:Int=>if i<(k:Int) then (-1:Int) else 0) (G':=fun i:Int=>if i<((k+1:Nat):Int) then (-1:Int) else 0) (k:=(k:Int)) (v:=-1) (Int.natCast_nonneg _) (if_pos (by omega)) fun q q0 q1 q2=>by
   by_cases c:q<(k:Int)
   ·rw [if_pos c,if_pos (by omega)]
   ·rw [if_neg c,if_neg (by omega)]
  rw [this]
 ·intro j;have e1:tabL n (fun i:Int=>if i<(n:Int) then (-1:Int) else 0)=rankL n O 0 (-1):=tabL_congr fun i i0 i1=>by rw [if_pos i1,if_neg (by omega)]
  have e2:List.replicate n (0:Int)=nearL A B N O n 0 0:=(tabL_rep fun i i0 i1=>by rw [if_neg (by omega)];rfl).symm;unfold R_Ranks_l1;simp only;rw [List.length_replicate,Int.toNat_natCast,bif_neg (Int.lt_irrefl _),bif_and (Int.natCast_nonneg _) (by omega),e1,e2];refine stLoop (n:=n) (by omega) (st:=fun r=>((r:Int),(nearL A B N O n r 0,rankL n O r (-1)))) rfl ?_ ?_
  ·intro j2 r hr;unfold R_Ranks_l2;simp only;rw [bif_pos (Int.ofNat_lt.2 hr)];exact round_r hf ok n0 hn hN h (by rw [h.len];exact hr) (hsel r (by rw [h.len];exact hr))
  ·intro j2;unfold R_Ranks_l2;simp only;rw [bif_neg (Int.lt_irrefl _)]
end
end Rk
end Go.Proofs.Ytelpkjellakigaa
/- ScreenRanks: orders that are sorted. -/
namespace Go.Proofs.Ytelpkjellakigaa
open Go Go.RowKit
set_option linter.unusedSimpArgs false
set_option linter.unusedSectionVars false
set_option linter.unusedVariables false
namespace Rk
open Sc
theorem sel_sorted {A B K N:Int} {n:Nat} {O:List Nat} (h:Ord n O) (hK:K≠3) (hs:∀ i j (hi:i<O.length) (hj:j<O.length),i<j→¬ cmpK A B K N (O[j]:Int) (O[i]:Int)<0) (r:Nat) (hr:r<O.length) :
  scan (UU O r) (btR A B K N O r) n=some O[r]:=by
 have hb:O[r]<n:=h.lt _ (List.getElem_mem hr);have hir:O.idxOf O[r]=r:=(h.at_idx hr hb).2 rfl;have hu:UU O r O[r]=true:=by unfold UU;rw [hir,decide_eq_true_eq];omega
 obtain ⟨s1,s2⟩:=scan_ok (U:=UU O r) (wk A B K N O r) n
 cases hq:scan (UU O r) (btR A B K N O r) n with
 | none=>have:=s1 hq _ hb;rw [hu] at this;cases this
 | some b =>
  obtain ⟨b1,b2,b3,b4⟩:=s2 b hq;by_cases e:b=O[r]
  ·rw [e]
  ·exfalso
   have hib:=h.idx b1;have hib':O.idxOf b<O.length:=by rw [h.len];exact hib
   have hbq:b=O[O.idxOf b]:=(h.at_idx hib' b1).1 rfl;unfold UU at b2;rw [decide_eq_true_eq] at b2;have hne:O.idxOf b≠r:=fun g=>e ((h.at_idx hr b1).1 g)
   have h1:=hs r (O.idxOf b) hr hib' (by omega);rw [←hbq,lt_iff] at h1;have h2:=b3 _ hb hu;have ebt:∀ x y,btR A B K N O r x y=btK A B K N x y:=fun x y=>if_neg hK
   rw [ebt] at h2;unfold btK at h2;rw [decide_eq_false_iff_not] at h2;have h3:O[r]<b:=by omega
   have h4:=b4 _ h3 hu;rw [ebt] at h4;unfold btK at h4;rw [decide_eq_true_eq] at h4;omega
section
variable {fu:Nat} (hf:18446744073709551616≤fu) {A B:Int} (ok:ScrOk A B) {K N S G:Int} (n0:0<N) {n:Nat} (hn0:0<n) (hn:n≤400) (hN:A*A+B*B=(n:Int))
include hf ok n0 hn0 hn hN
theorem ranks_r {O:List Nat} (h:Ord n O) (hO:screen_Of_r fu ((A,(B,K)),())=some ((N,(S,G)),()))
  (hc:K=3→screen_scatter_r fu ((A,(B,K)),((N,(S,G)),()))=some (O.map Int.ofNat,()))
  (hd:K≠3→Srt.srt (Srt.cfv fu (A,(B,K)) (N,(S,G))) (ints n)=O.map Int.ofNat):screen_Ranks_r fu ((A,(B,K)),())=some (rankL n O n 0,()):=by
 unfold screen_Ranks_r;rw [hO,bindO_some];simp only;rw [n_eq ok,hN,bif_and (Int.natCast_nonneg _) (by omega),Int.toNat_natCast];refine stLoop (n:=n) (by omega) (st:=fun k=>((k:Int),tabL n (fun i=>if i<(k:Int) then i else 0))) ?_ ?_ ?_
 ·refine Prod.ext rfl ?_;show tabL n (fun i:Int=>if i<((0:Nat):Int) then i else 0)=List.replicate n 0;exact tabL_rep fun i i0 _=>if_neg (by omega)
 ·intro j k hk;unfold screen_Ranks_l1;simp only;rw [List.length_replicate,Int.toNat_natCast,bif_pos (Int.ofNat_lt.2 hk),tabL_length,bif_and (Int.natCast_nonneg _) (Int.ofNat_lt.2 hk),nx (by omega)]
  have:=tabL_set (n:=n) (G:=fun i:Int=>if i<(k:Int) then i else 0) (G':=fun i:Int=>if i<((k+1:Nat):Int) then i else 0) (k:=(k:Int)) (v:=(k:Int)) (Int.natCast_nonneg _) (if_pos (by omega)) fun q q0 q1 q2=>by
   by_cases c:q<(k:Int)
   ·rw [if_pos c,if_pos (by omega)]
   ·rw [if_neg c,if_neg (by omega)]
  rw [this]
 ·intro j;have e1:tabL n (fun i:Int=>if i<(n:Int) then i else 0)=ints n:=tabL_congr fun i i0 i1=>if_pos i1
  unfold screen_Ranks_l1;simp only [joinF_eq];rw [List.length_replicate,Int.toNat_natCast,bif_neg (Int.lt_irrefl _),e1];by_cases c:K=3
  ·rw [bif_pos c,hc c,bindO_some];exact ranks_of hf hn h
  ·rw [bif_neg c]
   have hs:slices_SortFunc___int_int__r fu (ints n,(((),()),((A,(B,K)),(N,(S,G)))))=some (O.map Int.ofNat,(((),()),((A,(B,K)),(N,(S,G))))):=by
    unfold slices_SortFunc___int_int__r Srt.sortR;simp only;rw [if_pos (good ok n0 hn0 hn),hd c]
   rw [hs,bindO_some];exact ranks_of hf hn h
end
end Rk
end Go.Proofs.Ytelpkjellakigaa
/- ScreenRanks: the scattered order. -/
namespace Go.Proofs.Ytelpkjellakigaa
open Go Go.RowKit
set_option linter.unusedSimpArgs false
set_option linter.unusedSectionVars false
set_option linter.unusedVariables false
namespace Rk
open Sc
theorem nr_congr {A B N:Int} {O O':List Nat}:∀ (r i:Nat),(∀ q,q<r→O.getD q 0=O'.getD q 0)→nr A B N O r i=nr A B N O' r i
 | 0,_,_=>rfl
 | r+1,i,h=>by
  unfold nr;rw [nr_congr r i fun q hq=>h q (by omega),h r (by omega)]
theorem nr_pos {A B N:Int} {O:List Nat} (i:Nat):∀ r,0<r→(0<nr A B N O r i↔∀ q,q<r→0<dist A B N (O.getD q 0) i)
 | 0,h=>by omega
 | r+1,_=>by
  have e:nr A B N O (r+1) i=if r=0∨dist A B N (O.getD r 0) i<nr A B N O r i then dist A B N (O.getD r 0) i else nr A B N O r i:=rfl
  rw [e];by_cases r0:r=0
  ·subst r0;rw [if_pos (.inl rfl)];exact ⟨fun h q hq=>by rw [show q=0 by omega];exact h,fun h=>h 0 (by omega)⟩
  ·have ih:=nr_pos (A:=A) (B:=B) (N:=N) (O:=O) i r (by omega);constructor
   ·intro h q hq;by_cases c:dist A B N (O.getD r 0) i<nr A B N O r i
    ·rw [if_pos (.inr c)] at h;by_cases e:q=r
     ·rw [e];exact h
     ·exact ih.1 (by omega) q (by omega)
    ·rw [if_neg (by omega)] at h;by_cases e:q=r
     ·rw [e];omega
     ·exact ih.1 h q (by omega)
   ·intro h;have h1:=ih.2 fun q hq=>h q (by omega)
    have h2:=h r (by omega)
    split <;> assumption
def UP (P:List Nat) (i:Nat):Bool:=decide (i ∉ P)
def btP (A B N:Int) (P:List Nat) (i b:Nat):Bool:=decide (0<P.length∧nr A B N P P.length b<nr A B N P P.length i)
theorem wkP (A B N:Int) (P:List Nat):Wk (btP A B N P):=by
 unfold btP;refine ⟨fun x=>decide_eq_false (by omega),fun x y z h1 h2=>?_,fun x y z h1 h2=>?_⟩
 ·rw [decide_eq_true_eq] at *;omega
 ·rw [decide_eq_false_iff_not] at *;omega
def next (A B N:Int) (n:Nat) (P:List Nat):Nat:=(scan (UP P) (btP A B N P) n).getD 0
def seq (A B N:Int) (n:Nat):Nat→List Nat
 | 0=>[]
 | r+1=>seq A B N n r++[next A B N n (seq A B N n r)]
section
variable {A B N:Int} {n:Nat}
theorem seq_len:∀ r,(seq A B N n r).length=r
 | 0=>rfl
 | r+1=>by rw [seq,List.length_append,seq_len r];rfl
theorem next_ok {r:Nat} (hr:r<n):scan (UP (seq A B N n r)) (btP A B N (seq A B N n r)) n=some (next A B N n (seq A B N n r))∧next A B N n (seq A B N n r)<n∧next A B N n (seq A B N n r) ∉ seq A B N n r:=by
 obtain ⟨s1,s2⟩:=scan_ok (U:=UP (seq A B N n r)) (wkP A B N (seq A B N n r)) n
 cases hq:scan (UP (seq A B N n r)) (btP A B N (seq A B N n r)) n with
 | none =>
  have:=pig n (seq A B N n r) fun i hi=>by
   have h:=s1 hq i hi;unfold UP at h;rw [decide_eq_false_iff_not] at h;exact Classical.not_not.1 h
  rw [seq_len] at this;omega
 | some b =>
  obtain ⟨b1,b2,_⟩:=s2 b hq;have e:next A B N n (seq A B N n r)=b:=by unfold next;rw [hq];rfl
  rw [e];unfold UP at b2;rw [decide_eq_true_eq] at b2;exact ⟨rfl,b1,b2⟩
theorem seq_ok:∀ r,r≤n→(seq A B N n r).Nodup∧∀ i ∈ seq A B N n r,i<n
 | 0,_=>⟨List.nodup_nil,fun i h=>by cases h⟩
 | r+1,h=>by
  obtain ⟨h1,h2⟩:=seq_ok r (by omega);obtain ⟨_,k2,k3⟩:=next_ok (A:=A) (B:=B) (N:=N) (n:=n) (r:=r) (by omega);rw [seq];refine ⟨List.nodup_append.2 ⟨h1,by simp,fun a ha b hb e=>?_⟩,fun i hi=>?_⟩
  ·rw [List.mem_singleton.1 hb] at e;rw [e] at ha;exact k3 ha
  ·rcases List.mem_append.1 hi with hi | hi
   ·exact h2 i hi
   ·rw [List.mem_singleton.1 hi];exact k2
theorem seq_ord:Ord n (seq A B N n n):=⟨seq_len n,(seq_ok n (Nat.le_refl _)).1,(seq_ok n (Nat.le_refl _)).2⟩
theorem seq_take:∀ m r,r≤m→(seq A B N n m).take r=seq A B N n r
 | 0,r,h=>by rw [show r=0 by omega];rfl
 | m+1,r,h=>by
  by_cases e:r=m+1
  ·rw [e,List.take_of_length_le (by rw [seq_len];omega)]
  ·rw [seq,List.take_append_of_le_length (by rw [seq_len];omega),seq_take m r (by omega)]
theorem seq_at {m r:Nat} (h:r<m):(seq A B N n m).getD r 0=next A B N n (seq A B N n r):=by
 have h1:=seq_take (A:=A) (B:=B) (N:=N) (n:=n) m (r+1) h;have h2:((seq A B N n m).take (r+1))[r]?=(seq A B N n m)[r]?:=by rw [List.getElem?_take,if_pos (by omega)]
 rw [List.getD_eq_getElem?_getD,←h2,h1,seq,List.getElem?_append_right (by rw [seq_len];omega),seq_len,Nat.sub_self];rfl
theorem seq_mem {r i:Nat} (hr:r≤n) (hi:i<n):i ∈ seq A B N n r↔(seq A B N n n).idxOf i<r:=by
 have ho:=seq_ord (A:=A) (B:=B) (N:=N) (n:=n);rw [←seq_take n r hr];constructor
 ·intro h;obtain ⟨q,hq,he⟩:=List.getElem_of_mem h;rw [List.getElem_take] at he;have hq':q<(seq A B N n n).length:=by rw [List.length_take] at hq;omega
  have:=(ho.at_idx hq' hi).2 he.symm;rw [List.length_take] at hq;omega
 ·intro h;have hl:(seq A B N n n).idxOf i<(seq A B N n n).length:=by rw [seq_len];omega
  have e:=(ho.at_idx hl hi).1 rfl;refine List.mem_iff_getElem?.2 ⟨(seq A B N n n).idxOf i,?_⟩;rw [List.getElem?_take,if_pos h,List.getElem?_eq_getElem hl,←e]
theorem sel_seq (r:Nat) (hr:r<(seq A B N n n).length):scan (UU (seq A B N n n) r) (btR A B 3 N (seq A B N n n) r) n=some (seq A B N n n)[r]:=by
 have hrn:r<n:=by rw [seq_len] at hr;exact hr
 have e1:(seq A B N n n)[r]=next A B N n (seq A B N n r):=by
  have:=seq_at (A:=A) (B:=B) (N:=N) (n:=n) hrn;rw [List.getD_eq_getElem?_getD,List.getElem?_eq_getElem hr] at this;exact this
 rw [e1,←(next_ok hrn).1];refine ((scan_congr n (fun j hj=>?_) (fun j b _ hj _ _=>?_)).2).symm
 ·unfold UP UU;have:=seq_mem (A:=A) (B:=B) (N:=N) (n:=n) (r:=r) (by omega) hj;exact decide_eq_decide.2 (by rw [this];omega)
 ·have hc:∀ x,nr A B N (seq A B N n r) r x=nr A B N (seq A B N n n) r x:=fun x=>nr_congr r x fun q hq=>by rw [seq_at hq,seq_at (by omega)]
  unfold btP btR;rw [if_pos rfl,seq_len,hc,hc]
end
end Rk
end Go.Proofs.Ytelpkjellakigaa
/- The lattice that two lattices have in common. -/
namespace Go.Proofs.Ytelpkjellakigaa
open Go
set_option linter.unusedSimpArgs false
set_option linter.unusedSectionVars false
set_option linter.unusedVariables false
namespace Sc
theorem bel_high {A B N S G x y:Int} (f:FormOk A B N S G) (h:bel A B x y):G ∣ y:=by
 obtain ⟨⟨i,hi⟩,⟨j,hj⟩⟩:=h;obtain ⟨a,ha⟩:=f.ga;obtain ⟨b,hb⟩:=f.gb;have hpos:0<A*A+B*B:=by rw [←f.mul];exact Int.mul_pos f.g0 f.n0
 have e:(A*A+B*B)*y=(A*A+B*B)*(B*i+A*j):=by
  have e1:(A*A+B*B)*y=A*(y*A-x*B)+B*(x*A+y*B):=by grind
  rw [e1,hi,hj];grind
 have e2:y=B*i+A*j:=Int.eq_of_mul_eq_mul_left (by omega) e;refine ⟨b*i+a*j,?_⟩;have:B*i+A*j=(G*b)*i+(G*a)*j:=by rw [←ha,←hb]
 rw [e2,this];grind
section
variable {A B N S G A' B' N' S' G':Int} (f:FormOk A B N S G) (f':FormOk A' B' N' S' G')
 {d p q g u v e r t n1 n2 γ γ' m m2 x y z x2 y2 k:Int}
 (d0:0<d) (hd:N*p+N'*q=d) (hn1:N=d*n1) (hn2:N'=d*n2)
 (g0:0<g) (hg:G*u+G'*v=g) (hG:G=g*γ) (hG':G'=g*γ')
 (hx:N ∣ x-γ'*S) (hy:N' ∣ y-γ*S') (hz:d ∣ z-(x-y))
 (e0:0<e) (he:d*r+z*t=e) (hm:d=e*m) (hez:z=e*m2)
 (hx2:N ∣ x2-x*m) (hy2:N' ∣ y2-y*m)
 (hk:n2 ∣ k-(y2-x2) / d*p)
include f f' d0 hd hn1 hn2 g0 hg hG hG' hx hy hz e0 he hm hez hx2 hy2 hk
end
end Sc
end Go.Proofs.Ytelpkjellakigaa
/- ScreenRanks: screen.scatter. -/
namespace Go.Proofs.Ytelpkjellakigaa
open Go Go.RowKit
set_option linter.unusedSimpArgs false
set_option linter.unusedSectionVars false
set_option linter.unusedVariables false
namespace Rk
open Sc
theorem small {a m:Int} (hm:0<m) (h:m ∣ a) (h1:-m<a) (h2:a<m):a=0:=by
 obtain ⟨k,rfl⟩:=h
 have:k=0:=by
  rcases Int.lt_trichotomy k 0 with c | c | c
  ·have:=Int.mul_le_mul_of_nonneg_left (show k≤-1 by omega) (show 0≤m by omega);omega
  ·exact c
  ·have:=Int.mul_le_mul_of_nonneg_left (show 1≤k by omega) (show 0≤m by omega);omega
 rw [this,Int.mul_zero]
theorem du_congr {A B x y x' y':Int} (h:bel A B (x-x') (y-y')):du A B x y=du A B x' y'∧dv A B x y=dv A B x' y':=by
 have e1:(x*A+y*B) % (A*A+B*B)=(x'*A+y'*B) % (A*A+B*B):=by
  rw [Int.emod_eq_emod_iff_emod_sub_eq_zero];refine Int.emod_eq_zero_of_dvd ?_;have:=h.1;rw [show x*A+y*B-(x'*A+y'*B)=(x-x')*A+(y-y')*B by grind];exact this
 have e2:(y*A-x*B) % (A*A+B*B)=(y'*A-x'*B) % (A*A+B*B):=by
  rw [Int.emod_eq_emod_iff_emod_sub_eq_zero];refine Int.emod_eq_zero_of_dvd ?_;have:=h.2;rw [show y*A-x*B-(y'*A-x'*B)=(y-y')*A-(x-x')*B by grind];exact this
 unfold du dv;rw [e1,e2];exact ⟨rfl,rfl⟩
section
variable {A B N S G:Int} (f:FormOk A B N S G)
include f
theorem place_bel (x y:Int):bel A B (x-(x-(y / G) % N*S) % N) (y-y % G):=by
 have hy:y-y % G=y / G*G:=by
  have:=Int.mul_ediv_add_emod y G;rw [Int.mul_comm];omega
 rw [hy,bel_row f];have h1:=Int.mul_ediv_add_emod (x-(y / G) % N*S) N;have h2:=Int.mul_ediv_add_emod (y / G) N;refine ⟨(x-(y / G) % N*S) / N-(y / G) / N*S,?_⟩;generalize (x-(y / G) % N*S) / N=a at *
 generalize (x-(y / G) % N*S) % N=b at *
 generalize y / G % N=t at *
 generalize y / G / N=q at *
 generalize y / G=z at *
 subst h2;have:x=N*a+b+t*S:=by omega
 subst this
 grind
variable {n:Nat} (hN:A*A+B*B=(n:Int))
include hN
theorem div_lt {i:Nat} (hi:i<n):(i:Int) / N<G∧0≤(i:Int) / N∧0≤(i:Int) % N∧(i:Int) % N<N:=by
 have:=f.mul;have n0:=f.n0;refine ⟨Int.ediv_lt_of_lt_mul n0 (by omega),Int.ediv_nonneg (by omega) (by omega),Int.emod_nonneg _ (by omega),Int.emod_lt_of_pos _ n0⟩
theorem dist_zero {i:Nat}:dist A B N i i=0:=by
 unfold dist k1 du dv;simp;rw [Int.min_eq_left (by omega)];rfl
theorem dist_pos (ok:ScrOk A B) {b i:Nat} (hb:b<n) (hi:i<n) (hne:b≠i):0<dist A B N b i:=by
 obtain ⟨i1,i2,i3,i4⟩:=div_lt f hN hi;obtain ⟨b1,b2,b3,b4⟩:=div_lt f hN hb;have u0:=du_bd ok ((i:Int) % N-(b:Int) % N) ((i:Int) / N-(b:Int) / N);have v0:=dv_bd ok ((i:Int) % N-(b:Int) % N) ((i:Int) / N-(b:Int) / N);have e:dist A B N b i=du A B ((i:Int) % N-(b:Int) % N) ((i:Int) / N-(b:Int) / N)*du A B ((i:Int) % N-(b:Int) % N) ((i:Int) / N-(b:Int) / N)+dv A B ((i:Int) % N-(b:Int) % N) ((i:Int) / N-(b:Int) / N)*dv A B ((i:Int) % N-(b:Int) % N) ((i:Int) / N-(b:Int) / N):=rfl;rw [e];by_cases c:du A B ((i:Int) % N-(b:Int) % N) ((i:Int) / N-(b:Int) / N)=0∧dv A B ((i:Int) % N-(b:Int) % N) ((i:Int) / N-(b:Int) / N)=0
 ·exfalso
  have np:=ok.n0
  have hbel:bel A B ((i:Int) % N-(b:Int) % N) ((i:Int) / N-(b:Int) / N):=by
   obtain ⟨c1,c2⟩:=c;unfold du at c1;unfold dv at c2;have h2:=Int.emod_lt_of_pos (((i:Int) % N-(b:Int) % N)*A+((i:Int) / N-(b:Int) / N)*B) np;have h4:=Int.emod_lt_of_pos (((i:Int) / N-(b:Int) / N)*A-((i:Int) % N-(b:Int) % N)*B) np;refine ⟨Int.dvd_of_emod_eq_zero ?_,Int.dvd_of_emod_eq_zero ?_⟩
   ·generalize (((i:Int) % N-(b:Int) % N)*A+((i:Int) / N-(b:Int) / N)*B) % (A*A+B*B)=q at *
    omega
   ·generalize (((i:Int) / N-(b:Int) / N)*A-((i:Int) % N-(b:Int) % N)*B) % (A*A+B*B)=q at *
    omega
  have hG:=bel_high f hbel;have hy:(i:Int) / N-(b:Int) / N=0:=small f.g0 hG (by omega) (by omega);rw [hy] at hbel;have hx:=f.least _ hbel;have hx':(i:Int) % N-(b:Int) % N=0:=small f.n0 hx (by omega) (by omega);have h1:=Int.mul_ediv_add_emod (i:Int) N;have h2:=Int.mul_ediv_add_emod (b:Int) N;rw [show (i:Int) / N=(b:Int) / N by omega] at h1;omega
 ·have q1:0≤du A B ((i:Int) % N-(b:Int) % N) ((i:Int) / N-(b:Int) / N)*du A B ((i:Int) % N-(b:Int) % N) ((i:Int) / N-(b:Int) / N):=Int.mul_nonneg u0.1 u0.1;have q2:0≤dv A B ((i:Int) % N-(b:Int) % N) ((i:Int) / N-(b:Int) / N)*dv A B ((i:Int) % N-(b:Int) % N) ((i:Int) / N-(b:Int) / N):=Int.mul_nonneg v0.1 v0.1;by_cases d:du A B ((i:Int) % N-(b:Int) % N) ((i:Int) / N-(b:Int) / N)=0
  ·have:0<dv A B ((i:Int) % N-(b:Int) % N) ((i:Int) / N-(b:Int) / N):=by
    have:dv A B ((i:Int) % N-(b:Int) % N) ((i:Int) / N-(b:Int) / N)≠0:=fun g=>c ⟨d,g⟩
    omega
   have:=Int.mul_pos this this;omega
  ·have:0<du A B ((i:Int) % N-(b:Int) % N) ((i:Int) / N-(b:Int) / N):=by omega
   have:=Int.mul_pos this this;omega
def ap (A B N:Int) (n r i:Nat):Int:=if r=0 then 1099511627776 else nr A B N (seq A B N n r) r i
theorem ap_pos (ok:ScrOk A B) {r i:Nat} (hr:r≤n) (hi:i<n):0<ap A B N n r i↔i ∉ seq A B N n r:=by
 unfold ap;by_cases c:r=0
 ·subst c;rw [if_pos rfl];simp [seq]
 ·rw [if_neg c,nr_pos i r (by omega)];constructor
  ·intro h hm;obtain ⟨q,hq,he⟩:=List.getElem_of_mem hm;rw [seq_len] at hq;have:=h q hq;rw [List.getD_eq_getElem?_getD,List.getElem?_eq_getElem (by rw [seq_len];exact hq),he] at this;have:=dist_zero f hN (i:=i);simp only [Option.getD_some] at *
   omega
  ·intro h q hq;have hq':q<(seq A B N n r).length:=by rw [seq_len];exact hq
   rw [List.getD_eq_getElem?_getD,List.getElem?_eq_getElem hq'];have hm:=List.getElem_mem hq';exact dist_pos f hN ok ((seq_ok r hr).2 _ hm) hi fun e=>h (e ▸ hm)
theorem ap_scan (ok:ScrOk A B) {r:Nat} (hr:r<n):scan (fun i=>decide (0<ap A B N n r i)) (fun i b=>decide (ap A B N n r b<ap A B N n r i)) n=some (next A B N n (seq A B N n r)):=by
 rw [←(next_ok hr).1];refine (scan_congr n (fun j hj=>?_) (fun j b _ hj _ _=>?_)).2
 ·exact decide_eq_decide.2 (ap_pos f hN ok (by omega) hj)
 ·unfold btP ap;rw [seq_len];refine decide_eq_decide.2 ?_;by_cases c:r=0
  ·rw [if_pos c,if_pos c];omega
  ·rw [if_neg c,if_neg c];omega
end
end Rk
end Go.Proofs.Ytelpkjellakigaa
