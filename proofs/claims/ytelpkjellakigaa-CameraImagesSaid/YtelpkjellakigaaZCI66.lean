/- A run of the abstract machine by one computed function: control, functions. No program in sight. -/
import Derived.Test.YtelpkjellakigaaZCI65
import Derived.Below
import Derived.WalkKit
import Derived.WalkSpells
import Derived.RangeFuncNested
import Derived.RangeFuncBound
import Derived.RangeFuncCalls
import Derived.RangeFuncLeaves
import Derived.RangeFuncBox
import Derived.Shelf.Abstract
import Derived.Shelf.RegionOpen
import Derived.OwnWalkIn
import Derived.TacticsInMore
import Derived.LoopNIn
import Derived.LoopIn
import Derived.Maps.AppendAt
/- A run of the abstract machine by one computed function: control,functions. No program in sight. -/
namespace Go.Proofs.Ytelpkjellakigaa.Rn
open Go Go.RowKit Go.Proofs.Ytelpkjellakigaa Go.Proofs.Ytelpkjellakigaa.Dr

section
variable {P:Program} {n:Nat} {T:List (List Nat)} {W:List (Nat×Nat)} {M:List (Nat×AB)} {st st':ASt} {o:Oper} {x:AV} {Q:Exit→ASt→Prop} {ops:Array Oper} {l:List Oper}
theorem look_mem {d:AB}:∀ {l:List (Nat×AB)} {id:Nat},look d l id≠d→∃ p ∈ l,p.1=id
 | [],id,h=>absurd rfl h
 |(j,v)::l,id,h=>by
  rw [look_cons] at h;by_cases e:j=id
  ·exact ⟨(j,v),by simp,e⟩
  ·rw [if_neg e] at h;obtain ⟨p,h1,h2⟩:=look_mem h;exact ⟨p,List.mem_cons_of_mem _ h1,h2⟩
end
end Go.Proofs.Ytelpkjellakigaa.Rn
/- Short ways for the commonest operations: small bodies,for the kernel's sake. No program in sight. -/
namespace Go.Proofs.Ytelpkjellakigaa.Rn
open Go Go.RowKit Go.Proofs.Ytelpkjellakigaa Go.Proofs.Ytelpkjellakigaa.Dr

def chk64 (r:Int):Option AV:=bif decide (-9223372036854775808≤r)&&decide (r≤9223372036854775807) then some (.int .i64 r) else none
def fastI (o:BinOp) (m q:Int):Option AV:=match o with
 | .add=>chk64 (m+q)
 | .sub=>chk64 (m-q)
 | .mul=>chk64 (m*q)
 | .lss=>some (.bool (decide (m<q)))
 | .leq=>some (.bool (decide (m≤q)))
 | .gtr=>some (.bool (decide (q<m)))
 | .geq=>some (.bool (decide (q≤m)))
 | .eql=>some (.bool (decide (m=q)))
 | .neq=>some (.bool (decide (m≠q)))
 | .quo=>bif decide (q=0) then none else chk64 (m.tdiv q)
 | .rem=>bif decide (q=0) then none else some (.int .i64 (m.tmod q))
 | _=>none
def kc:IntKind→Nat
 | .i8=>0 | .i16=>1 | .i32=>2 | .i64=>3 | .u8=>4 | .u16=>5 | .u32=>6 | .u64=>7
theorem kc_inj {k k':IntKind} (h:Nat.beq (kc k) (kc k')=true):k=k':=by
 cases k <;> cases k' <;> first | rfl | (simp [kc] at h)
def fastK (k:IntKind) (o:BinOp) (m q:Int):Option AV:=match o with
 | .and=>some (.int k (bits .and k m q))
 | .or=>some (.int k (bits .or k m q))
 | .xor=>some (.int k (bits .xor k m q))
 | .add=>some (.int k (k.wrap (m+q)))
 | .sub=>some (.int k (k.wrap (m-q)))
 | .eql=>some (.bool (decide (m=q)))
 | .neq=>some (.bool (decide (m≠q)))
 | _=>none
def fastSh (k:IntKind) (o:BinOp) (m q:Int):Option AV:=match o with
 | .shr=>bif decide (0≤q)&&decide (q≤(k.bits:Int)) then some (.int k (m / 2 ^ q.toNat)) else none
 | .shl=>bif decide (0≤q)&&decide (q≤(k.bits:Int)) then some (.int k (k.wrap (m*2 ^ q.toNat))) else none
 | _=>none
def fastB (o:BinOp) (a b:AV):Option AV:=match a,b with
 | .int k m,.int k' q=>match fastSh k o m q with
  | some x=>some x
  | none=>bif Nat.beq (kc k) (kc k') then (match fastI3 k o m q with
   | some x=>some x
   | none=>fastK k o m q) else none
 | _,_=>none
where fastI3 (k:IntKind) (o:BinOp) (m q:Int):Option AV:=bif Nat.beq (kc k) 3 then fastI o m q else none
def fastL (T:Tab) (st:ASt) (t:TypeId) (a:AV):Option AV:=match a with
 | .box id o=>match look .dead st.heap id,lk T.und t,lk T.inf t with
  | .box cs _,some D,some (_,s,_)=>partA cs o s (aggB D)
  | _,_,_=>none
 | .elt id m i o=>match look .dead st.heap id,lk T.und t,lk T.inf t with
  | .row _ rows _,some D,some (_,s,_)=>match rows[i]? with
   | some row=>bif Nat.beq m rows.length then partA row o s (aggB D) else none
   | none=>none
  | _,_,_=>none
 | _=>none
def fastX (T:Tab) (st:ASt) (t:TypeId) (a b:AV):Option AV:=match a,b with
 | .osl id m,.int _ i=>match look .dead st.heap id,lk T.und t with
  | .row sz rows _,some (.slice e)=>match lk T.inf e with
   | some (_,s,_)=>bif Nat.beq s sz&&Nat.beq m rows.length&&decide (0≤i)&&decide (i<(m:Int)) then some (.elt id m i.toNat 0) else none
   | none=>none
  | _,_=>none
 | _,_=>none
def fastF (T:Tab) (t f:Nat) (a:AV):Option AV:=match a with
 | .box id o=>match lk T.fld t with
  | some fl=>match fl[f]? with
   | some (off,s,_)=>bif Nat.beq s 0 then none else some (.box id (o+off))
   | none=>none
  | none=>none
 | _=>none
def fast (T:Tab) (st:ASt):Op→Option AV
 | .move x=>some (st.ev x)
 | .assign x=>some (st.ev x)
 | .binOp o _ x y _=>fastB o (st.ev x) (st.ev y)
 | .load t x=>fastL T st t (st.ev x)
 | .indexAddr t x y=>fastX T st t (st.ev x) (st.ev y)
 | .fieldAddr t x f=>fastF T t f (st.ev x)
 | _=>none
section
variable {P:Program} {n:Nat} {T:Tab} {st st':ASt} {o:Oper} {x:AV}
theorem chk64_ok {r:Int} (h:chk64 r=some x):x=.int .i64 r∧IntKind.i64.wrap r=r:=by
 unfold chk64 at h
 cases hc:(decide (-9223372036854775808≤r)&&decide (r≤9223372036854775807)) with
 | false=>rw [hc] at h;cases h
 | true =>
  rw [hc] at h;injection h with h
  rw [Bool.and_eq_true] at hc;exact ⟨h.symm,wr64 (of_decide_eq_true hc.1) (of_decide_eq_true hc.2)⟩
theorem fast_ok (hT:T.ok P) (h:fast T st o.op=some x) (hd:dok o.dst n=true):OpR P n o st x:=by
 obtain ⟨d,op,ty,ps,af,g⟩:=o;simp only at h;have hd:dok d n=true:=hd;unfold fast at h;split at h
 ·injection h with h
  exact op_move h hd
 ·injection h with h
  exact op_assign h hd
 ·rename_i o t y z t';unfold fastB at h;split at h
  ·rename_i k m k' q hy hz;split at h
   ·rename_i x2 h1;injection h with h
    subst h;unfold fastSh at h1;split at h1
    ·cases hc:(decide (0≤q)&&decide (q≤(k.bits:Int))) with
     | false=>rw [hc] at h1;cases h1
     | true =>
      rw [hc] at h1;injection h1 with h1
      subst h1;rw [Bool.and_eq_true] at hc;exact op_shr hy hz (of_decide_eq_true hc.1) (of_decide_eq_true hc.2) hd
    ·cases hc:(decide (0≤q)&&decide (q≤(k.bits:Int))) with
     | false=>rw [hc] at h1;cases h1
     | true =>
      rw [hc] at h1;injection h1 with h1
      subst h1;rw [Bool.and_eq_true] at hc;exact op_shl hy hz (of_decide_eq_true hc.1) (of_decide_eq_true hc.2) rfl hd
    ·cases h1
   ·cases hk:Nat.beq (kc k) (kc k') with
    | false=>rw [hk] at h;cases h
    | true =>
     rw [hk] at h;simp only [cond_true] at h;have hkk:=kc_inj hk;subst hkk;split at h
     ·rename_i x2 h1;injection h with h
      subst h;unfold fastB.fastI3 at h1
      cases h3:Nat.beq (kc k) 3 with
      | false=>rw [h3] at h1;cases h1
      | true =>
       rw [h3] at h1;have hki:k=.i64:=kc_inj (k':=.i64) h3;subst hki;have h:fastI o m q=some x2:=h1;unfold fastI at h;split at h
       ·obtain ⟨rfl,h2⟩:=chk64_ok h;exact op_add hy hz h2 hd
       ·obtain ⟨rfl,h2⟩:=chk64_ok h;exact op_sub hy hz h2 hd
       ·obtain ⟨rfl,h2⟩:=chk64_ok h;exact op_mul hy hz h2 hd
       ·injection h with h;subst h;exact op_lss hy hz hd
       ·injection h with h;subst h;exact op_leq hy hz hd
       ·injection h with h;subst h;exact op_gtr hy hz hd
       ·injection h with h;subst h;exact op_geq hy hz hd
       ·injection h with h;subst h;exact op_eql hy hz hd
       ·injection h with h;subst h;exact op_neq hy hz hd
       ·by_cases e:q=0
        ·rw [decide_eq_true e] at h;cases h
        ·rw [decide_eq_false e] at h;obtain ⟨rfl,h2⟩:=chk64_ok h;exact op_quo hy hz e h2 hd
       ·by_cases e:q=0
        ·rw [decide_eq_true e] at h;cases h
        ·rw [decide_eq_false e] at h;injection h with h
         subst h;exact op_rem hy hz e hd
       ·cases h
     ·unfold fastK at h;split at h
      ·injection h with h;subst h;exact op_bits (.inl rfl) hy hz rfl hd
      ·injection h with h;subst h;exact op_bits (.inr (.inl rfl)) hy hz rfl hd
      ·injection h with h;subst h;exact op_bits (.inr (.inr (.inl rfl))) hy hz rfl hd
      ·injection h with h;subst h;exact op_add hy hz rfl hd
      ·injection h with h;subst h;exact op_sub hy hz rfl hd
      ·injection h with h;subst h;exact op_eql hy hz hd
      ·injection h with h;subst h;exact op_neq hy hz hd
      ·cases h
  ·cases h
 ·rename_i t y;unfold fastL at h;split at h
  ·rename_i id off hy;split at h
   ·rename_i cs e D z s b hb hu hI;exact op_load_box hy hb (allP_at hT.und hu) (allP_at hT.inf hI) h hd
   ·cases h
  ·rename_i id m i off hy;split at h
   ·rename_i sz rows e D z s b hb hu hI;split at h
    ·rename_i row hr
     cases hm:Nat.beq m rows.length with
     | false=>rw [hm] at h;cases h
     | true =>
      rw [hm] at h;exact op_load_elt hy hb (Nat.eq_of_beq_eq_true hm) hr (allP_at hT.und hu) (allP_at hT.inf hI) h hd
    ·cases h
   ·cases h
  ·cases h
 ·rename_i t y z;unfold fastX at h;split at h
  ·rename_i id m k i hy hz;split at h
   ·rename_i sz rows e' e hb hu;split at h
    ·rename_i zz s b hI
     cases hc:(Nat.beq s sz&&Nat.beq m rows.length&&decide (0≤i)&&decide (i<(m:Int))) with
     | false=>rw [hc] at h;cases h
     | true =>
      rw [hc] at h;injection h with h
      subst h;simp only [Bool.and_eq_true] at hc;obtain ⟨⟨⟨c1,c2⟩,c3⟩,c4⟩:=hc;exact op_index_osl hy hb (Nat.eq_of_beq_eq_true c2) hz (allP_at hT.und hu) (allP_at hT.inf hI) (Nat.eq_of_beq_eq_true c1) (of_decide_eq_true c3) (of_decide_eq_true c4) hd
    ·cases h
   ·cases h
  ·cases h
 ·rename_i t y f;unfold fastF at h;split at h
  ·rename_i id off hy;split at h
   ·rename_i fl hF;split at h
    ·rename_i o2 s b hf
     cases hs:Nat.beq s 0 with
     | true=>rw [hs] at h;cases h
     | false =>
      rw [hs] at h;injection h with h
      subst h;exact op_fieldAddr_box hy (allP_at hT.fld hF) hf (fun e=>by subst e;cases hs) hd
    ·cases h
   ·cases h
  ·cases h
 ·cases h
theorem fast_nx (r:List (Nat×AV)) (h:List (Nat×AB)) (k k':Nat) (op:Op):fast T ⟨r,h,k⟩ op=fast T ⟨r,h,k'⟩ op:=by
 unfold fast
 split <;> simp only [ev_nx r h k k',fastL,fastX]
def readF (T:Tab) (st:ASt) (op:Op):Option AV:=match fast T st op with
 | some x=>some x
 | none=>readR T st op
theorem readF_ok (hT:T.ok P) (h:readF T st o.op=some x) (hd:dok o.dst n=true):OpR P n o st x:=by
 unfold readF at h;split at h
 ·rename_i y h1;injection h with h
  subst h;exact fast_ok hT h1 hd
 ·exact readR_ok hT h hd
theorem readF_nx (r:List (Nat×AV)) (h:List (Nat×AB)) (k k':Nat) (op:Op):readF T ⟨r,h,k⟩ op=readF T ⟨r,h,k'⟩ op:=by
 unfold readF;rw [fast_nx r h k k',readR_nx r h k k']
def isVal:Op→Bool
 | .call ⟨.value _,_,_⟩=>true
 | _=>false
def fastS (T:Tab) (st:ASt) (t:TypeId) (a:AV) (vs:List AV):Option ASt:=match a with
 | .box id o=>match look .dead st.heap id,lk T.inf t with
  | .box cs e,some (_,s,_)=>bif allOne vs&&Nat.beq vs.length s&&Nat.ble (o+s) cs.length then some (st.hset id (.box (setR cs o vs) e)) else none
  | _,_=>none
 | _=>none
def fastM (T:Tab) (st:ASt) (d:Option Nat):Op→Option ASt
 | .store t a v=>match d with
  | none=>fastS T st t (st.ev a) (st.ev v).cells
  | some _=>none
 | _=>none
theorem fastM_ok (hT:T.ok P) (h:fastM T st o.dst o.op=some st'):OpV P n o st st':=by
 obtain ⟨d,op,ty,ps,af,g⟩:=o;simp only at h;unfold fastM at h;split at h
 ·rename_i t a v;split at h
  ·unfold fastS at h;split at h
   ·rename_i id off ha;split at h
    ·rename_i cs e z s b hb hI
     cases hc:(allOne (st.ev v).cells&&Nat.beq (st.ev v).cells.length s&&Nat.ble (off+s) cs.length) with
     | false=>rw [hc] at h;cases h
     | true =>
      rw [hc] at h;injection h with h
      subst h;simp only [Bool.and_eq_true] at hc;exact op_store_box ha hb rfl hc.1.1 (allP_at hT.inf hI) (Nat.eq_of_beq_eq_true hc.1.2) (Nat.le_of_ble_eq_true hc.2)
    ·cases h
   ·cases h
  ·cases h
 ·cases h
def memF (C:Ctx) (self:SelfT) (st:ASt) (o:Oper):Option ASt:=bif isVal o.op then callC C self st o.dst o.op else match fastM C.T st o.dst o.op with
 | some s=>some s
 | none=>memR C self st o
theorem memR_call {C:Ctx} {self:SelfT} (h:isVal o.op=true):callC C self st o.dst o.op=some st'→memC C self st o=some st':=by
 obtain ⟨d,op,ty,ps,af,g⟩:=o;simp only at h ⊢;unfold isVal at h;split at h
 ·intro h2;exact h2
 ·cases h
theorem memF_Y {C:Ctx} {self:SelfT} (hC:C.ok P) (hS:SelfOk P self) (hd:dok o.dst n=true) (h:memF C self st o=some st'):OpY P n o st st':=by
 unfold memF at h
 cases hv:isVal o.op with
 | true =>
  rw [hv] at h;exact memC_Y hC hS hd (memR_call hv h)
 | false =>
  rw [hv] at h;simp only [cond_false] at h;split at h
  ·rename_i s h1;injection h with h
   subst h;exact .ofV (fastM_ok hC.T h1)
  ·exact memR_Y hC hS hd h
theorem memF_ok {C:Ctx} {self:SelfT} {ops:Array Oper} {l:List Oper} {Q:Exit→ASt→Prop} (hC:C.ok P) (hS:SelfOk P self) (hd:dok o.dst n=true) (h:memF C self st o=some st') (hw:∀ (K:Kn) (a:Act) (w:World) (G:Gh),RelG K n st a w G→Region.wanted o (yielded ops a.tmps)=true) (k:AL P n ops Q l st'):AL P n ops Q (o::l) st:=by
 unfold memF at h
 cases hv:isVal o.op with
 | true =>
  rw [hv] at h;exact memC_ok hC hS hd (memR_call hv h) hw k
 | false =>
  rw [hv] at h;simp only [cond_false] at h;split at h
  ·rename_i s h1;injection h with h
   subst h;exact AL.opw hw (fastM_ok hC.T h1) k
  ·exact memR_ok hC hS hd h hw k
def remK {β α:Type} (d:Nat):List (Nat×β)→(List (Nat×β)→α)→α
 | [],k=>k []
 |(j,x)::l,k=>bif Nat.beq j d then remK d l k else remK d l fun l=>k ((j,x)::l)
def remA {β:Type} (d:Nat):List (Nat×β)→List (Nat×β)
 | []=>[]
 |(j,x)::l=>bif Nat.beq j d then remA d l else (j,x)::remA d l
theorem remK_eq {β α:Type} (d:Nat) (l:List (Nat×β)):∀ (k:List (Nat×β)→α),remK d l k=k (remA d l):=by
 induction l with
 | nil=>intro k;rfl
 | cons p l ih =>
  intro k;obtain ⟨j,x⟩:=p;rw [remK,remA]
  cases Nat.beq j d with
  | true=>simp only [cond_true];exact ih k
  | false=>simp only [cond_false];rw [ih]
theorem remA_look {β:Type} (dd:β) (d:Nat) (l:List (Nat×β)) {i:Nat} (h:d≠i):look dd (remA d l) i=look dd l i:=by
 induction l with
 | nil=>rfl
 | cons p l ih =>
  obtain ⟨j,x⟩:=p;rw [remA,look_cons]
  cases hb:Nat.beq j d with
  | true =>
   have:=Nat.eq_of_beq_eq_true hb;subst this;simp only [cond_true];rw [if_neg h,ih]
  | false =>
   simp only [cond_false];rw [look_cons,ih]
theorem front_look {β:Type} (dd:β) (d:Nat) (v:β) (l:List (Nat×β)) (i:Nat):look dd ((d,v)::remA d l) i=look dd ((d,v)::l) i:=by
 rw [look_cons,look_cons];by_cases e:d=i
 ·rw [if_pos e,if_pos e]
 ·rw [if_neg e,if_neg e,remA_look dd d l e]
def nmQ {α:Type} (st:ASt) (d:Option Nat) (x:AV) (k:ASt→α):α:=match d with
 | some d=>fA1 x fun x=>match st with
  | ⟨r,h,n⟩=>k ⟨(d,x)::r,h,n⟩
 | none=>k st
theorem nmQ_eq (st:ASt) (d:Option Nat) (x:AV):∃ st',Eqv (st.put d x) st'∧∀ {α:Type} (k:ASt→α),nmQ st d x k=k st':=by
 cases d with
 | none=>exact ⟨st,Eqv.refl _,fun k=>rfl⟩
 | some d =>
  obtain ⟨r,h,n⟩:=st;exact ⟨⟨(d,x)::r,h,n⟩,⟨fun t=>rfl,fun _=>rfl,rfl⟩,fun k=>by rw [nmQ,fA1_eq]⟩
def nm2R {α:Type}:List (Nat×AV)→(List (Nat×AV)→α)→α
 | [],k=>k []
 |(d,v)::l,k=>fA1 v fun v=>remK d l fun l=>k ((d,v)::l)
def nm2H {α:Type}:List (Nat×AB)→(List (Nat×AB)→α)→α
 | [],k=>k []
 |(d,v)::l,k=>fB v fun v=>remK d l fun l=>k ((d,v)::l)
def nm2 {α:Type} (st:ASt) (k:ASt→α):α:=nm2R st.regs fun r=>nm2H st.heap fun h=>fN st.nx fun x=>k ⟨r,h,x⟩
theorem nm2_eq (st:ASt):∃ st',Eqv st st'∧∀ {α:Type} (k:ASt→α),nm2 st k=k st':=by
 obtain ⟨r,h,x⟩:=st
 have h1:∃ r',(∀ d,look AV.any r d=look .any r' d)∧∀ {α:Type} (k:List (Nat×AV)→α),nm2R r k=k r':=by
  cases r with
  | nil=>exact ⟨[],fun _=>rfl,fun _=>rfl⟩
  | cons p l =>
   obtain ⟨d,v⟩:=p;exact ⟨(d,v)::remA d l,fun i=>(front_look _ _ _ _ _).symm,fun k=>by rw [nm2R,fA1_eq,remK_eq]⟩
 have h2:∃ r',(∀ d,look AB.dead h d=look .dead r' d)∧∀ {α:Type} (k:List (Nat×AB)→α),nm2H h k=k r':=by
  cases h with
  | nil=>exact ⟨[],fun _=>rfl,fun _=>rfl⟩
  | cons p l =>
   obtain ⟨d,v⟩:=p;exact ⟨(d,v)::remA d l,fun i=>(front_look _ _ _ _ _).symm,fun k=>by rw [nm2H,fB_eq,remK_eq]⟩
 obtain ⟨r',a1,a2⟩:=h1;obtain ⟨h',b1,b2⟩:=h2;exact ⟨⟨r',h',x⟩,⟨a1,b1,rfl⟩,fun k=>by rw [nm2,a2,b2,fN_eq]⟩
def nm2C {α:Type} (st:ASt) (k:ASt→α):α:=match st with
 | ⟨r,h,n⟩=>nm2R r fun r=>fN n fun x=>k ⟨r,h,x⟩
theorem nm2C_eq (st:ASt):∃ st',Eqv st st'∧∀ {α:Type} (k:ASt→α),nm2C st k=k st':=by
 obtain ⟨r,h,x⟩:=st
 have h1:∃ r',(∀ d,look AV.any r d=look .any r' d)∧∀ {α:Type} (k:List (Nat×AV)→α),nm2R r k=k r':=by
  cases r with
  | nil=>exact ⟨[],fun _=>rfl,fun _=>rfl⟩
  | cons p l =>
   obtain ⟨d,v⟩:=p;exact ⟨(d,v)::remA d l,fun i=>(front_look _ _ _ _ _).symm,fun k=>by rw [nm2R,fA1_eq,remK_eq]⟩
 obtain ⟨r',a1,a2⟩:=h1;exact ⟨⟨r',h,x⟩,⟨a1,fun _=>rfl,rfl⟩,fun k=>by rw [nm2C,a2,fN_eq]⟩
def nm2V {α:Type} (c:Bool) (st:ASt) (k:ASt→α):α:=bif c then nm2C st k else nm2 st k
theorem nm2V_eq (c:Bool) (st:ASt):∃ st',Eqv st st'∧∀ {α:Type} (k:ASt→α),nm2V c st k=k st':=by
 cases c with
 | true=>exact nm2C_eq st
 | false=>exact nm2_eq st
def longer {β:Type}:Nat→List β→Bool
 | _,[]=>false
 | 0,_::_=>true
 | n+1,_::l=>longer n l
def dedK {α:Type}:Nat→List (Nat×AV)→(List (Nat×AV)→α)→α
 | 0,l,k=>k l
 | _+1,[],k=>k []
 | n+1,(d,v)::l,k=>remK d l fun l=>dedK n l fun l=>k ((d,v)::l)
theorem dedK_eq:∀ (n:Nat) (l:List (Nat×AV)),∃ l',(∀ d,look AV.any l d=look .any l' d)∧∀ {α:Type} (k:List (Nat×AV)→α),dedK n l k=k l'
 | 0,l=>⟨l,fun _=>rfl,fun _=>rfl⟩
 | _+1,[]=>⟨[],fun _=>rfl,fun _=>rfl⟩
 | n+1,(d,v)::l=>by
  obtain ⟨l',h1,h2⟩:=dedK_eq n (remA d l);refine ⟨(d,v)::l',fun i=>?_,fun k=>by rw [dedK,remK_eq,h2]⟩;rw [←front_look,look_cons,look_cons,h1]
def prune {α:Type} (st:ASt) (k:ASt→α):α:=match st with
 | ⟨r,h,x⟩=>bif longer 300 r then dedK 1000 r fun r=>k ⟨r,h,x⟩ else k ⟨r,h,x⟩
theorem prune_eq (st:ASt):∃ st',Eqv st st'∧∀ {α:Type} (k:ASt→α),prune st k=k st':=by
 obtain ⟨r,h,x⟩:=st
 cases h0:longer 300 r with
 | false=>exact ⟨⟨r,h,x⟩,Eqv.refl _,fun k=>by rw [prune,h0];rfl⟩
 | true =>
  obtain ⟨r',h1,h2⟩:=dedK_eq 1000 r;exact ⟨⟨r',h,x⟩,⟨h1,fun _=>rfl,rfl⟩,fun k=>by rw [prune,h0];simp only [cond_true];rw [h2]⟩
structure EltS where
 id:Nat
 sz:Nat
 rows:List (List AV)
 i:Nat
 row:List AV
 e:TypeId
def EltS.app (q:EltS) (st:ASt):ASt:=st.hset q.id (.row q.sz (q.rows.set q.i q.row) q.e)
def eltS (T:Tab) (st:ASt) (d:Option Nat):Op→Option EltS
 | .store t a v=>match d with
  | none=>match st.ev a with
   | .elt id m i o=>match look .dead st.heap id,lk T.inf t with
    | .row sz rows e,some (_,s,_)=>match rows[i]? with
     | some row=>bif Nat.beq m rows.length&&(allOne (st.ev v).cells&&(Nat.beq (st.ev v).cells.length s&&Nat.ble (o+s) sz)) then some ⟨id,sz,rows,i,setR row o (st.ev v).cells,e⟩ else none
     | none=>none
    | _,_=>none
   | _=>none
  | some _=>none
 | _=>none
theorem eltS_ok {q:EltS} (hT:T.ok P) (h:eltS T st o.dst o.op=some q):OpV P n o st (q.app st):=by
 obtain ⟨d,op,ty,ps,af,g⟩:=o;simp only at h;unfold eltS at h;split at h
 ·rename_i t a v;split at h
  ·split at h
   ·rename_i id m i oo ha;split at h
    ·rename_i sz rows e z s b hb hI;split at h
     ·rename_i row hr
      cases hc:(Nat.beq m rows.length&&(allOne (st.ev v).cells&&(Nat.beq (st.ev v).cells.length s&&Nat.ble (oo+s) sz))) with
      | false=>rw [hc] at h;cases h
      | true =>
       rw [hc] at h;injection h with h
       subst h;simp only [Bool.and_eq_true] at hc;exact op_store_elt ha hb (Nat.eq_of_beq_eq_true hc.1) hr rfl hc.2.1 (allP_at hT.inf hI) (Nat.eq_of_beq_eq_true hc.2.2.1) (Nat.le_of_ble_eq_true hc.2.2.2)
     ·cases h
    ·cases h
   ·cases h
  ·cases h
 ·cases h
def setRow1 {α:Type}:List (List AV)→Nat→List AV→(List (List AV)→α)→α
 | [],_,_,k=>k []
 | _::l,0,x,k=>fL1 x fun x=>k (x::l)
 | r::l,i+1,x,k=>setRow1 l i x fun l=>k (r::l)
theorem setRow_eq1 {α:Type}:∀ (l:List (List AV)) (i:Nat) (x:List AV) (k:List (List AV)→α),setRow1 l i x k=k (l.set i x)
 | [],_,_,_=>rfl
 | _::l,0,x,k=>by rw [setRow1,fL1_eq];rfl
 | r::l,i+1,x,k=>by rw [setRow1,setRow_eq1 l i x];rfl
def nmE {α:Type} (q:EltS) (st:ASt) (k:ASt→α):α:=match st with
 | ⟨r,h,n⟩=>setRow1 q.rows q.i q.row fun rows=>remK q.id h fun h=>k ⟨r,(q.id,.row q.sz rows q.e)::h,n⟩
theorem nmE_eq (q:EltS) (st:ASt):∃ st',Eqv (q.app st) st'∧∀ {α:Type} (k:ASt→α),nmE q st k=k st':=by
 obtain ⟨r,h,n⟩:=st;exact ⟨⟨r,(q.id,.row q.sz (q.rows.set q.i q.row) q.e)::remA q.id h,n⟩,⟨fun _=>rfl,fun i=>(front_look _ _ _ _ _).symm,rfl⟩,fun k=>by rw [nmE,setRow_eq1,remK_eq]⟩
def runF (C:Ctx) (self:SelfT) (n:Nat) (ops:Array Oper):List Oper→ASt→Option ASt
 | [],st=>prune st fun s=>some s
 | o::l,st=>bif dok o.dst n then (match wantC ops o st with
  | some true=>match readF C.T st o.op with
   | some x=>nmQ st o.dst x (runF C self n ops l)
   | none=>match eltS C.T st o.dst o.op with
    | some q=>nmE q st (runF C self n ops l)
    | none=>match memF C self st o with
     | some st'=>nm2V (isVal o.op) st' (runF C self n ops l)
     | none=>none
  | some false=>nmQ st o.dst .und (runF C self n ops l)
  | none=>none) else none
theorem runF_ok {C:Ctx} {self:SelfT} {ops:Array Oper} {Q:Exit→ASt→Prop} (hC:C.ok P) (hS:SelfOk P self):∀ (l:List Oper) (st st':ASt),runF C self n ops l st=some st'→Q .normal st'→AL P n ops Q l st
 | [],st,st',h,hq=>by
  rw [runF] at h;obtain ⟨s',e1,e2⟩:=prune_eq st;rw [e2] at h;injection h with h
  subst h;exact AL.eqv e1 (AL.nil hq)
 | o::l,st,st',h,hq=>by
  rw [runF] at h
  cases hd:dok o.dst n with
  | false=>rw [hd] at h;cases h
  | true =>
   rw [hd] at h;simp only [cond_true] at h;split at h
   ·rename_i hw
    have hw':∀ (K:Kn) (a:Act) (w:World) (G:Gh),RelG K n st a w G→Region.wanted o (yielded ops a.tmps)=true:=by
     rcases wantC_yes hw with hg | hg
     ·exact fun _ a _ _ _=>wanted_none hg a
     ·obtain ⟨d,want,g1,g2⟩:=gst_yes hg;exact wanted_of g1 g2
    split at h
    ·rename_i x h1;obtain ⟨s',e1,e2⟩:=nmQ_eq st o.dst x;rw [e2] at h;exact AL.opw hw' (readF_ok hC.T h1 hd).opv (AL.eqv e1 (runF_ok hC hS l s' st' h hq))
    ·split at h
     ·rename_i q h1;obtain ⟨s',e1,e2⟩:=nmE_eq q st;rw [e2] at h;exact AL.opw hw' (eltS_ok hC.T h1) (AL.eqv e1 (runF_ok hC hS l s' st' h hq))
     ·split at h
      ·rename_i s h1;obtain ⟨s',e1,e2⟩:=nm2V_eq (isVal o.op) s;rw [e2] at h;exact memF_ok hC hS hd h1 hw' (AL.eqv e1 (runF_ok hC hS l s' st' h hq))
      ·cases h
   ·rename_i hw;obtain ⟨d,want,g1,g2⟩:=gst_no (wantC_no hw);obtain ⟨s',e1,e2⟩:=nmQ_eq st o.dst .und;rw [e2] at h;exact AL.skipg g1 hd g2 (AL.eqv e1 (runF_ok hC hS l s' st' h hq))
   ·cases h
end
end Go.Proofs.Ytelpkjellakigaa.Rn
/- Regions that draw,run once: each operation on the blocks that it reaches;what is asked of the order is tested at the end. No program in sight. -/
namespace Go.Proofs.Ytelpkjellakigaa.Rn
open Go Go.RowKit Go.Proofs.Ytelpkjellakigaa Go.Proofs.Ytelpkjellakigaa.Dr

def putK {α:Type} (f:Nat→AB):List Nat→List (Nat×AB)→(List (Nat×AB)→α)→α
 | [],h,k=>k h
 | j::l,h,k=>fB (f j) fun b=>setK j b h fun h=>putK f l h k
def putA (f:Nat→AB):List Nat→List (Nat×AB)→List (Nat×AB)
 | [],h=>h
 | j::l,h=>putA f l (setA j (f j) h)
theorem putK_eq {α:Type} (f:Nat→AB):∀ (l:List Nat) (h:List (Nat×AB)) (k:List (Nat×AB)→α),putK f l h k=k (putA f l h)
 | [],_,_=>rfl
 | j::l,h,k=>by rw [putK,putA,fB_eq,setK_eq];exact putK_eq f l _ k
theorem putA_look (f:Nat→AB):∀ (l:List Nat) (h:List (Nat×AB)) (id:Nat),(id ∈ l→look .dead (putA f l h) id=f id)∧(id ∉ l→look .dead (putA f l h) id=look .dead h id)
 | [],h,id=>⟨fun h=>by simp at h,fun _=>rfl⟩
 | j::l,h,id=>by
  obtain ⟨h1,h2⟩:=putA_look f l (setA j (f j) h) id;rw [putA];constructor
  ·intro hm;by_cases e:id ∈ l
   ·exact h1 e
   ·have:id=j:=(List.mem_cons.1 hm).resolve_right e;subst this;rw [h2 e,look_setA,look_cons,if_pos rfl]
  ·intro hm;rw [h2 fun e=>hm (List.mem_cons_of_mem _ e),look_setA,look_cons,if_neg fun e=>hm (by rw [e];exact List.mem_cons_self ..)]
section
variable {P:Program} {n:Nat} {T:List (List Nat)} {W:List (Nat×Nat)} {st st':ASt} {o:Oper} {x:AV} {Q:Exit→ASt→Prop} {ops:Array Oper} {l:List Oper}
def stepH (C:Ctx) (self:SelfT) (st:ASt) (o:Oper):Option ASt:=match readF C.T st o.op with
 | some x=>some (st.put o.dst x)
 | none=>memF C self st o
theorem stepH_Y {C:Ctx} {self:SelfT} (hC:C.ok P) (hS:SelfOk P self) (hd:dok o.dst n=true) (h:stepH C self st o=some st'):OpY P n o st st':=by
 unfold stepH at h;split at h
 ·rename_i x h1;injection h with h
  subst h;exact .ofV (readF_ok hC.T h1 hd).opv
 ·exact memF_Y hC hS hd h
def fRs {α:Type} (r:List (Nat×AV)):List Nat→(List (Nat×AV)→α)→α
 | [],k=>k []
 | t::l,k=>fN t fun t=>fA1 (look .any r t) fun v=>fRs r l fun m=>k ((t,v)::m)
theorem fRs_eq {α:Type} (r:List (Nat×AV)):∀ (l:List Nat) (k:List (Nat×AV)→α),fRs r l k=k (l.map fun t=>(t,look .any r t))
 | [],_=>rfl
 | t::l,k=>by rw [fRs,fN_eq,fA1_eq,fRs_eq r l];rfl
theorem pickA_look (h:List (Nat×AB)):∀ (l:List Nat) (acc:List (Nat×AB)) (id:Nat),(id ∈ l→look .dead (pickA h l acc) id=look .dead h id)∧(id ∉ l→look .dead (pickA h l acc) id=look .dead acc id)
 | [],acc,id=>⟨fun h=>by simp at h,fun _=>rfl⟩
 | j::l,acc,id=>by
  obtain ⟨h1,h2⟩:=pickA_look h l ((j,look .dead h j)::acc) id;rw [pickA];constructor
  ·intro hm;by_cases e:id ∈ l
   ·exact h1 e
   ·have:id=j:=(List.mem_cons.1 hm).resolve_right e;subst this;rw [h2 e,look_cons,if_pos rfl]
  ·intro hm;rw [h2 fun e=>hm (List.mem_cons_of_mem _ e),look_cons,if_neg fun e=>hm (by rw [←e];exact List.mem_cons_self ..)]
def pickN (h:List (Nat×AB)) (l:List Nat):List (Nat×AB):=l.map fun j=>(j,look .dead h j)
theorem pickN_look (h:List (Nat×AB)):∀ (l:List Nat) (id:Nat),(id ∈ l→look .dead (pickN h l) id=look .dead h id)∧(id ∉ l→look .dead (pickN h l) id=.dead)
 | [],id=>⟨fun h=>by simp at h,fun _=>rfl⟩
 | j::l,id=>by
  obtain ⟨h1,h2⟩:=pickN_look h l id;show (_→look .dead ((j,look .dead h j)::pickN h l) id=_)∧(_→look .dead ((j,look .dead h j)::pickN h l) id=_);rw [look_cons];by_cases e:j=id
  ·subst e;exact ⟨fun _=>by rw [if_pos rfl],fun hm=>absurd (List.mem_cons_self ..) hm⟩
  ·rw [if_neg e];exact ⟨fun hm=>h1 ((List.mem_cons.1 hm).resolve_left fun e'=>e e'.symm),fun hm=>h2 fun e'=>hm (List.mem_cons_of_mem _ e')⟩
theorem OpR.less {st':ASt} (h:OpR P n o st' x) (hl:LeS st' st):OpR P n o st x:=⟨h.dst,fun K a w G r=>h.out K a w G (r.les hl)⟩
structure Rec where
 i:Nat
 cr:List (Nat×Nat)
 L:List Nat
 Wi:List Nat
 k:Nat
 k2:Nat
def opH (C:Ctx) (self:SelfT) (lr:List (Nat×AV)) (lh:List (Nat×AB)) (nx:Nat) (o:Oper) (L:List Nat):Option (ASt×List Nat) :=
 bif L.all (fun id=>Nat.blt id nx&&(look .dead lh id).nmd (hasN L))&&lr.all (fun p=>p.2.nmd (hasN L)) then
  (match stepH C self ⟨lr,lh,nx⟩ o with
  | some s2=>bif Nat.ble nx s2.nx&&(news nx s2.nx).all (fun id=>pfB (orN (hasN L) nx s2.nx) (look .dead s2.heap id))&&s2.heap.all (fun p=>orN (hasN L) nx s2.nx p.1)
    && L.all (fun id=>pfB (orN (hasN L) nx s2.nx) (look .dead s2.heap id))&&pf (orN (hasN L) nx s2.nx) (dstV s2 o.dst) then some (s2,L.filter fun id=>!abE (look .dead s2.heap id) (look .dead lh id)) else none
  | none=>none) else none
structure RecOk (T:List (List Nat)) (W:List (Nat×Nat)) (nx0:Nat) (r:Rec):Prop where
 vis:∀ id ∈ r.L,visW T W nx0 r.i r.cr id=true
 new:∀ id,r.k≤id→id<r.k2→newW T W r.i id=true
 wr:∀ id,(r.i,id) ∈ W→id ∈ r.Wi
 wr2:∀ id ∈ r.Wi,(r.i,id) ∈ W
theorem noW_of {i:Nat} (h:∀ id,(i,id) ∉ W):noW W i=true:=by
 unfold noW;refine List.all_eq_true.2 fun p hp=>?_
 rw [Bool.not_eq_true',Bool.eq_false_iff];intro e;have e:=Nat.eq_of_beq_eq_true e;obtain ⟨a,b⟩:=p;simp only at e;subst e;exact h b hp
theorem opH_ok {C:Ctx} {self:SelfT} (hC:C.ok P) (hS:SelfOk P self) {nx0 i:Nat} {cr:List (Nat×Nat)} {L Wi:List Nat} {s2:ASt} (hd:dok o.dst n=true) (hw:o.guard=none∨gst ops o (lcl ops T W [] nx0 i cr st o 0)=some true)
  (hr:RecOk T W nx0 ⟨i,cr,L,Wi,st.nx,s2.nx⟩) {lh:List (Nat×AB)} (hlh:∀ id,(id ∈ L→look .dead lh id=look .dead st.heap id)∧(id ∉ L→look .dead lh id=.dead)) (h:opH C self (lregs ops st o) lh st.nx o L=some (s2,Wi)):Loc P n ops T W [] nx0 i cr o st ((⟨st.regs,onL (L++news st.nx s2.nx) (look .dead s2.heap) st.heap,s2.nx⟩:ASt).put o.dst (dstV s2 o.dst)) ((news st.nx s2.nx).map (fun id=>(i,id))++cr)∧(∀ id ∈ L,id ∉ Wi→look .dead s2.heap id=look .dead st.heap id)∧∀ id ∈ Wi,id ∈ L:=by
 unfold opH at h
 cases h0:(L.all (fun id=>Nat.blt id st.nx&&(look .dead lh id).nmd (hasN L))&&(lregs ops st o).all (fun p=>p.2.nmd (hasN L))) with
 | false=>rw [h0] at h;cases h
 | true =>
  rw [h0] at h;simp only [cond_true] at h;rw [Bool.and_eq_true] at h0;obtain ⟨h1,h2⟩:=h0
  have a1:∀ id ∈ L,id<st.nx∧(look .dead st.heap id).nmd (hasN L)=true:=fun id hid=>by
   have:=List.all_eq_true.1 h1 id hid;rw [Bool.and_eq_true] at this;exact ⟨by simpa using this.1,by rw [←(hlh id).1 hid];exact this.2⟩
  split at h
  ·rename_i t2 hm
   cases h3:(Nat.ble st.nx t2.nx&&(news st.nx t2.nx).all (fun id=>pfB (orN (hasN L) st.nx t2.nx) (look .dead t2.heap id))&&t2.heap.all (fun p=>orN (hasN L) st.nx t2.nx p.1)
    && L.all (fun id=>pfB (orN (hasN L) st.nx t2.nx) (look .dead t2.heap id))&&pf (orN (hasN L) st.nx t2.nx) (dstV t2 o.dst)) with
   | false=>rw [h3] at h;cases h
   | true =>
    rw [h3] at h;simp only [cond_true,Option.some.injEq,Prod.mk.injEq] at h;obtain ⟨rfl,hWi⟩:=h;simp only [Bool.and_eq_true] at h3;obtain ⟨⟨⟨⟨b1,b6⟩,b2⟩,b3⟩,b4⟩:=h3;have c3:∀ id ∈ L,pfB (orN (hasN L) st.nx t2.nx) (look .dead t2.heap id)=true:=fun id hid=>List.all_eq_true.1 b3 id hid
    have c6:∀ id,st.nx≤id→id<t2.nx→pfB (orN (hasN L) st.nx t2.nx) (look .dead t2.heap id)=true:=fun id g1 g2=>List.all_eq_true.1 b6 id (news_mem.2 ⟨g1,g2⟩)
    have cu:∀ id ∈ L,id ∉ Wi→look .dead t2.heap id=look .dead st.heap id:=fun id hid hn=>by
     rw [←hWi] at hn;have:¬ ((!abE (look .dead t2.heap id) (look .dead st.heap id))=true):=fun e=>hn (List.mem_filter.2 ⟨hid,by rw [(hlh id).1 hid];exact e⟩)
     exact abE_eq (by simpa using this)
    have cw:∀ id ∈ Wi,id ∈ L:=fun id hid=>by
     rw [←hWi] at hid;exact (List.mem_filter.1 hid).1
    refine ⟨.op L lh hw (stepH_Y hC hS hd hm) hd (Nat.le_of_ble_eq_true b1) hr.new (fun id hid=>⟨(a1 id hid).1,hr.vis id hid⟩) (fun id=>?_) (fun id=>?_) (fun t=>?_) b4 (fun id hid=>cw id (hr.wr id hid)) (fun id hid=>?_) (fun id _=>.dead _),cu,cw⟩
    ·by_cases e:id ∈ L
     ·exact .inr ⟨e,(hlh id).1 e,by rw [(hlh id).1 e];exact (a1 id e).2⟩
     ·exact .inl ((hlh id).2 e)
    ·by_cases e2:look .dead t2.heap id=.dead
     ·exact .inl e2
     ·obtain ⟨q,q1,q2⟩:=look_mem e2;have:=List.all_eq_true.1 b2 q q1;rw [q2] at this;rcases orN_iff.1 this with e | e
      ·exact .inr ⟨this,c3 id (hasN_mem e)⟩
      ·exact .inr ⟨this,c6 id e.1 e.2⟩
    ·have key:∀ (rg:List (Nat×AV)),(rg.all fun p=>p.2.nmd (hasN L))=true→(look AV.any rg t).nmd (hasN L)=true:=by
      intro rg
      induction rg with
      | nil=>intro _;rfl
      | cons c rg ih =>
       obtain ⟨j,v⟩:=c;intro hh;rw [List.all_cons,Bool.and_eq_true] at hh;rw [look_cons];split
       ·exact hh.1
       ·exact ih hh.2
     exact key _ h2
    ·by_cases e:id ∈ Wi
     ·exact .inl (hr.wr2 id e)
     ·exact .inr (cu id hid e)
  ·cases h
def runH (C:Ctx) (self:SelfT) (n:Nat) (ops:Array Oper):Nat→List (Nat×Nat)→List Oper→ASt→Option (List Rec×ASt)
 | _,_,[],st=>some ([],st)
 | i,cr,o::l,st=>bif dok o.dst n then (fRs st.regs (o.looksAt ops) fun lr=>match wantC ops o ⟨lr,[],0⟩ with
  | some true=>fNs (idsV.go (lr.map (·.2))) fun L1=>match readF C.T ⟨lr,pickN st.heap L1,0⟩ o.op with
   | some x=>fA1 x fun x=>fNs (idsV x++L1) fun L=>nmQ st o.dst x fun s=>(match fN i fun i=>runH C self n ops (i+1) cr l s with
     | some (rs,s')=>some (⟨i,cr,L,[],st.nx,st.nx⟩::rs,s')
     | none=>none)
   | none=>fNs (clo (look .dead st.heap) 400 L1 []) fun L=>pickK st.heap L [] fun lh=>match opH C self lr lh st.nx o L with
    | some (s2,Wi)=>fNs Wi fun Wi=>fN s2.nx fun k2=>fNs (news st.nx k2) fun ns=>putK (look .dead s2.heap) (Wi++ns) st.heap fun h=>nmQ ⟨st.regs,h,k2⟩ o.dst (dstV s2 o.dst) fun s =>
     (match fN i fun i=>runH C self n ops (i+1) (ns.map (fun id=>(i,id))++cr) l s with
     | some (rs,s')=>some (⟨i,cr,L,Wi,st.nx,k2⟩::rs,s')
     | none=>none)
    | none=>none
  | some false=>nmQ st o.dst .und fun s=>(match fN i fun i=>runH C self n ops (i+1) cr l s with
     | some (rs,s')=>some (⟨i,cr,[],[],st.nx,st.nx⟩::rs,s')
     | none=>none)
  | none=>none) else none
theorem wantC_lcl {ops:Array Oper} {M:List (Nat×AB)} {nx0 i:Nat} {cr:List (Nat×Nat)} {b:Bool} (h:wantC ops o ⟨lregs ops st o,[],0⟩=some b):(b=true→o.guard=none∨gst ops o (lcl ops T W M nx0 i cr st o 0)=some true)∧(b=false→gst ops o (lcl ops T W M nx0 i cr st o 0)=some false):=by
 cases b with
 | true=>exact ⟨fun _=>wantC_yes h,fun h=>absurd h (by decide)⟩
 | false=>exact ⟨fun h=>absurd h (by decide),fun _=>wantC_no h⟩
theorem idsV_nmd {p:Nat→Bool}:∀ (x:AV),(∀ id ∈ idsV x,p id=true)→x.nmd p=true
 | .box id _,h=>by rw [AV.nmd];exact h id (by rw [idsV];exact List.mem_singleton.2 rfl)
 | .elt id ..,h=>by rw [AV.nmd];exact h id (by rw [idsV];exact List.mem_singleton.2 rfl)
 | .osl id _,h=>by rw [AV.nmd];exact h id (by rw [idsV];exact List.mem_singleton.2 rfl)
 | .vsl id ..,h=>by rw [AV.nmd];exact h id (by rw [idsV];exact List.mem_singleton.2 rfl)
 | .agg cs,h=>by rw [AV.nmd];exact go cs (by rw [idsV] at h;exact h)
 | .tup cs,h=>by rw [AV.nmd];exact go cs (by rw [idsV] at h;exact h)
 | .fn _ cs,h=>by rw [AV.nmd];exact go cs (by rw [idsV] at h;exact h)
 | .any,_=>rfl
 | .und,_=>rfl
 | .int ..,_=>rfl
 | .bool ..,_=>rfl
 | .str ..,_=>rfl
 | .nilp,_=>rfl
 | .nils,_=>rfl
 | .nilf,_=>rfl
 | .peek ..,_=>rfl
 | .ro ..,_=>rfl
where go {p:Nat→Bool}:∀ (cs:List AV),(∀ id ∈ idsV.go cs,p id=true)→AV.nmd.go p cs=true
 | [],_=>rfl
 | a::l,h=>by
  rw [idsV.go] at h;rw [AV.nmd.go,idsV_nmd a fun id hid=>h id (List.mem_append.2 (.inl hid)),go l fun id hid=>h id (List.mem_append.2 (.inr hid))];rfl
theorem runH_ok {C:Ctx} {self:SelfT} (hC:C.ok P) (hS:SelfOk P self) {nx0:Nat} {Kt:ASt→Prop}:∀ (l:List Oper) (i:Nat) (cr:List (Nat×Nat)) (st:ASt) (rs:List Rec) (st':ASt),runH C self n ops i cr l st=some (rs,st')→(∀ r ∈ rs,RecOk T W nx0 r)→Kt st'→AG P n ops T W [] nx0 Kt i cr l st
 | [],i,cr,st,rs,st',h,_,hk=>by
  rw [runH] at h;injection h with h
  injection h with h1 h2
  subst h2;exact .nil hk
 | o::l,i,cr,st,rs,st',h,hrs,hk=>by
  rw [runH] at h
  cases hd:dok o.dst n with
  | false=>rw [hd] at h;cases h
  | true =>
   rw [hd] at h;simp only [cond_true] at h;rw [fRs_eq] at h;have elr:(o.looksAt ops).map (fun t=>(t,look .any st.regs t))=lregs ops st o:=rfl;rw [elr] at h;split at h
   ·rename_i hw;rw [fNs_eq] at h;split at h
    ·rename_i x h1;rw [fA1_eq,fNs_eq] at h;obtain ⟨s',e1,e2⟩:=nmQ_eq st o.dst x;rw [e2,fN_eq] at h;split at h
     ·rename_i rs2 s3 h2;simp only [Option.some.injEq,Prod.mk.injEq] at h;obtain ⟨rfl,rfl⟩:=h;have hr:=hrs _ (List.mem_cons_self ..);refine .step (.read (noW_of fun id hid=>by have:=hr.wr id hid;simp at this) ((wantC_lcl hw).1 rfl) (fun k=>?_) ?_) (.same e1 (runH_ok hC hS l (i+1) cr s' rs2 s3 h2 (fun r hr=>hrs r (List.mem_cons_of_mem _ hr)) hk))
      ·refine OpR.less (st':=⟨lregs ops st o,pickN st.heap (idsV.go ((lregs ops st o).map (·.2))),k⟩) (readF_ok hC.T (by rw [←h1];exact readF_nx _ _ _ _ _) hd) ⟨fun d=>.refl _,fun d=>?_,rfl⟩;rw [lcl_heap];obtain ⟨p1,p2⟩:=pickN_look st.heap (idsV.go ((lregs ops st o).map (·.2))) d;by_cases m:d ∈ idsV.go ((lregs ops st o).map (·.2))
       ·rw [p1 m,hr.vis d (List.mem_append.2 (.inr m))];exact .refl _
       ·rw [p2 m];exact .dead _
      ·exact idsV_nmd x fun id hid=>by
        have:=hr.vis id (List.mem_append.2 (.inl hid));unfold visW at this;rw [Bool.and_eq_true] at this;exact this.1
     ·cases h
    ·rw [fNs_eq,pickK_eq] at h;split at h
     ·rename_i s2 Wi h1;rw [fNs_eq,fN_eq,fNs_eq,putK_eq] at h
      have h:nmQ ⟨st.regs,putA (look .dead s2.heap) (Wi++news st.nx s2.nx) st.heap,s2.nx⟩ o.dst (dstV s2 o.dst) (fun s=>(match fN i fun i=>runH C self n ops (i+1) ((news st.nx s2.nx).map (fun id=>(i,id))++cr) l s with
       | some (rs,s')=>some (⟨i,cr,clo (look .dead st.heap) 400 (idsV.go ((lregs ops st o).map (·.2))) [],Wi,st.nx,s2.nx⟩::rs,s')
       | none=>none))=some (rs,st'):=h
      generalize clo (look .dead st.heap) 400 (idsV.go ((lregs ops st o).map (·.2))) []=L at h h1;obtain ⟨s',e1,e2⟩:=nmQ_eq ⟨st.regs,putA (look .dead s2.heap) (Wi++news st.nx s2.nx) st.heap,s2.nx⟩ o.dst (dstV s2 o.dst);rw [e2,fN_eq] at h;split at h
      ·rename_i rs2 s3 h2;simp only [Option.some.injEq,Prod.mk.injEq] at h;obtain ⟨rfl,rfl⟩:=h;have hr:=hrs _ (List.mem_cons_self ..);obtain ⟨hloc,hu,hwl⟩:=opH_ok (o:=o) (ops:=ops) hC hS hd ((wantC_lcl hw).1 rfl) hr (fun id=>pickA_look st.heap L [] id) h1;refine .step hloc (.same ⟨fun d=>?_,fun d=>?_,?_⟩ (runH_ok hC hS l (i+1) _ s' rs2 s3 h2 (fun r hr=>hrs r (List.mem_cons_of_mem _ hr)) hk))
       ·rw [←e1.regs d]
        cases o.dst <;> rfl
       ·rw [←e1.heap d,put_heap',put_heap'];show look .dead (onL (L++news st.nx s2.nx) (look .dead s2.heap) st.heap) d=look .dead (putA (look .dead s2.heap) (Wi++news st.nx s2.nx) st.heap) d;obtain ⟨p1,p2⟩:=putA_look (look .dead s2.heap) (Wi++news st.nx s2.nx) st.heap d;by_cases m1:d ∈ L++news st.nx s2.nx
        ·rw [onL_in m1];by_cases m2:d ∈ Wi++news st.nx s2.nx
         ·rw [p1 m2]
         ·rw [p2 m2];rcases List.mem_append.1 m1 with m1 | m1
          ·exact hu d m1 fun h=>m2 (List.mem_append.2 (.inl h))
          ·exact absurd (List.mem_append.2 (.inr m1)) m2
        ·rw [onL_out m1,p2 fun m2=>m1 ?_];rcases List.mem_append.1 m2 with m2 | m2
         ·exact List.mem_append.2 (.inl (hwl d m2))
         ·exact List.mem_append.2 (.inr m2)
       ·rw [←e1.nx,put_nx,put_nx]
      ·cases h
     ·cases h
   ·rename_i hw;obtain ⟨s',e1,e2⟩:=nmQ_eq st o.dst .und;rw [e2,fN_eq] at h;split at h
    ·rename_i rs2 s3 h2;simp only [Option.some.injEq,Prod.mk.injEq] at h;obtain ⟨rfl,rfl⟩:=h;have hr:=hrs _ (List.mem_cons_self ..);exact .step (.skip (noW_of fun id hid=>by have:=hr.wr id hid;simp at this) ((wantC_lcl hw).2 rfl) hd) (.same e1 (runH_ok hC hS l (i+1) cr s' rs2 s3 h2 (fun r hr=>hrs r (List.mem_cons_of_mem _ hr)) hk))
    ·cases h
   ·cases h
def wrOf (rs:List Rec):List (Nat×Nat):=rs.flatMap fun r=>r.Wi.map fun id=>(r.i,id)
def recB (T:List (List Nat)) (W:List (Nat×Nat)) (nx0:Nat) (r:Rec):Bool :=
 r.L.all (fun id=>visW T W nx0 r.i r.cr id)&&(news r.k r.k2).all (fun id=>newW T W r.i id)&&W.all (fun p=>bif Nat.beq p.1 r.i then hasN r.Wi p.2 else true)
theorem recB_ok {nx0:Nat} {rs:List Rec} {r:Rec} (hm:r ∈ rs) (h:recB T (wrOf rs) nx0 r=true):RecOk T (wrOf rs) nx0 r:=by
 unfold recB at h;simp only [Bool.and_eq_true] at h;obtain ⟨⟨h1,h2⟩,h3⟩:=h;refine ⟨fun id hid=>List.all_eq_true.1 h1 id hid,fun id g1 g2=>List.all_eq_true.1 h2 id (news_mem.2 ⟨g1,g2⟩),fun id hid=>?_,fun id hid=>?_⟩
 ·have:=List.all_eq_true.1 h3 _ hid;simp only [Nat.beq_refl,cond_true] at this;exact hasN_mem this
 ·unfold wrOf;exact List.mem_flatMap.2 ⟨r,hm,List.mem_map.2 ⟨id,hid,rfl⟩⟩
def fPs {α:Type}:List (Nat×Nat)→(List (Nat×Nat)→α)→α
 | [],k=>k []
 |(a,b)::l,k=>fN a fun a=>fN b fun b=>fPs l fun l=>k ((a,b)::l)
theorem fPs_eq {α:Type} (l:List (Nat×Nat)):∀ (k:List (Nat×Nat)→α),fPs l k=k l:=by
 induction l with
 | nil=>intro k;rfl
 | cons p l ih=>intro k;obtain ⟨a,b⟩:=p;rw [fPs,fN_eq,fN_eq,ih]
def tailM (T:List (List Nat)):Nat→Nat
 | 0=>0
 | i+1=>bif (List.range i).all fun j=>hasN (T.getD i []) j then tailM T i else i+1
def runE (C:Ctx) (self:SelfT) (n:Nat) (l:List Oper) (T:List (List Nat)) (st:ASt):Option ASt:=match runH C self n ⟨l⟩ 0 [] (l.take (tailM T l.length)) st with
 | some (rs,s)=>fPs (wrOf rs) fun W=>bif rs.all (recB T W st.nx) then runF C self n ⟨l⟩ (l.drop (tailM T l.length)) s else none
 | none=>none
theorem runE_ok {C:Ctx} {self:SelfT} {id:Nat} (hC:C.ok P) (hS:SelfOk P self) (hp:planR l (ancs l [])=true) (ht:tailR l (ancs l []) (tailM (ancs l []) l.length)=true) (h:runE C self n l (ancs l []) st=some st'):AW P n (.region id ⟨l⟩ true) (fun e s=>e=.normal∧s=st') st:=by
 unfold runE at h;split at h
 ·rename_i rs s h1;rw [fPs_eq] at h
  cases hb:rs.all (recB (ancs l []) (wrOf rs) st.nx) with
  | false=>rw [hb] at h;cases h
  | true =>
   rw [hb] at h;simp only [cond_true] at h;exact AW.drawR (wrOf rs) [] (tailM (ancs l []) l.length) hC.mixed rfl hp ht (fun _ _=>rfl) (fun _=>.dead _) (runH_ok hC hS _ 0 [] st rs s h1 (fun r hr=>recB_ok hr (List.all_eq_true.1 hb r hr)) (runF_ok hC hS _ s _ h ⟨rfl,rfl⟩))
 ·cases h
end
end Go.Proofs.Ytelpkjellakigaa.Rn
/- As RnO,without the second way for regions that draw. No program in sight. -/
namespace Go.Proofs.Ytelpkjellakigaa.Rn
open Go Go.RowKit Go.Proofs.Ytelpkjellakigaa Go.Proofs.Ytelpkjellakigaa.Dr

section
variable {P:Program} {n:Nat} {st st':ASt} {o:Oper} {x:AV} {Q:Exit→ASt→Prop} {ops:Array Oper} {l:List Oper}
def runD (C:Ctx) (self:SelfT) (n:Nat) (l:List Oper) (T:List (List Nat)) (st:ASt):Option ASt:=bif planR l T&&tailR l T (tailM T l.length) then runE C self n l T st else none
theorem runD_ok {C:Ctx} {self:SelfT} {id:Nat} (hC:C.ok P) (hS:SelfOk P self) (h:runD C self n l (ancs l []) st=some st'):AW P n (.region id ⟨l⟩ true) (fun e s=>e=.normal∧s=st') st:=by
 unfold runD at h
 cases hp:(planR l (ancs l [])&&tailR l (ancs l []) (tailM (ancs l []) l.length)) with
 | false=>rw [hp] at h;cases h
 | true =>
  rw [hp] at h;rw [Bool.and_eq_true] at hp;exact runE_ok hC hS hp.1 hp.2 h
def runC (C:Ctx) (self:SelfT) (fl n:Nat):Code→ASt→Option (Exit×ASt)
 | .skip,st=>some (.normal,st)
 | .label _,st=>some (.normal,st)
 | .exit id,st=>some (.exit id,st)
 | .ret,st=>some (.ret,st)
 | .seq a b,st=>match runC C self fl n a st with
  | some (.normal,st')=>runC C self fl n b st'
  | r=>r
 | .cond c a b,st=>match st.ev c with
  | .bool true=>runC C self fl n a st
  | .bool false=>runC C self fl n b st
  | _=>none
 | .block id c,st=>match runC C self fl n c st with
  | some (.exit id',st')=>bif Nat.beq id' id then some (.normal,st') else some (.exit id',st')
  | r=>r
 | .loop c,st=>loopN (runC C self fl n c) fl st
 | .region _ ⟨l⟩ false,st=>match runF C self n ⟨l⟩ l st with
  | some st'=>some (.normal,st')
  | none=>none
 | .region _ ⟨l⟩ true,st=>match runD C self n l (ancs l []) st with
  | some st'=>some (.normal,st')
  | none=>none
 | .rangeFunc ..,_=>none
 | .scope c,st=>match runC C self fl n c st with
  | some (.goto _,_)=>none
  | r=>r
 | .goto _,_=>none
 | .refuse _,_=>none
theorem runC_ok {C:Ctx} {self:SelfT} {fl:Nat} (hC:C.ok P) (hS:SelfOk P self):∀ (c:Code) (st:ASt) (e:Exit) (st':ASt),runC C self fl n c st=some (e,st')→AW P n c (fun e1 s=>e1=e∧s=st') st:=by
 intro c
 induction c with
 | skip=>intro st e st' h;rw [runC] at h;injection h with h;injection h with h1 h2;exact AW.skip ⟨h1,h2⟩
 | label l=>intro st e st' h;rw [runC] at h;injection h with h;injection h with h1 h2;exact AW.label ⟨h1,h2⟩
 | exit id=>intro st e st' h;rw [runC] at h;injection h with h;injection h with h1 h2;exact AW.exit ⟨h1,h2⟩
 | ret=>intro st e st' h;rw [runC] at h;injection h with h;injection h with h1 h2;exact AW.ret ⟨h1,h2⟩
 | seq a b iha ihb =>
  intro st e st' h;rw [runC] at h
  cases h1:runC C self fl n a st with
  | none=>rw [h1] at h;cases h
  | some p =>
   obtain ⟨e0,s0⟩:=p;rw [h1] at h;refine AW.seq ((iha st e0 s0 h1).mono ?_)
   rintro e1 s ⟨rfl,rfl⟩
   cases e1 with
   | normal=>exact ihb _ _ _ h
   | _ =>
    injection h with h
    injection h with h2 h3
    exact ⟨h2,h3⟩
 | cond c a b iha ihb =>
  intro st e st' h;rw [runC] at h;split at h
  ·rename_i h1;exact AW.condT h1 (iha _ _ _ h)
  ·rename_i h1;exact AW.condF h1 (ihb _ _ _ h)
  ·cases h
 | block id c ih =>
  intro st e st' h;rw [runC] at h
  cases h1:runC C self fl n c st with
  | none=>rw [h1] at h;cases h
  | some p =>
   obtain ⟨e0,s0⟩:=p;rw [h1] at h;refine AW.block ((ih st e0 s0 h1).mono ?_)
   rintro e1 s ⟨rfl,rfl⟩
   cases e1 with
   | exit id' =>
    simp only at h
    cases hb:Nat.beq id' id with
    | true =>
     rw [hb] at h;have:=Nat.eq_of_beq_eq_true hb;subst this;simp only [cond_true] at h;injection h with h
     injection h with h2 h3
     exact inA_eq ⟨h2,h3⟩
    | false =>
     rw [hb] at h;simp only [cond_false] at h;injection h with h
     injection h with h2 h3
     exact inA_ne hb ⟨h2,h3⟩
   | _ =>
    injection h with h
    injection h with h2 h3
    exact ⟨h2,h3⟩
 | loop c ih =>
  intro st e st' h;rw [runC] at h;exact loopN_ok ih h
 | region id ops d =>
  intro st e st' h;obtain ⟨l⟩:=ops
  cases d with
  | false =>
   rw [runC] at h
   cases h1:runF C self n ⟨l⟩ l st with
   | none=>rw [h1] at h;cases h
   | some s =>
    rw [h1] at h;injection h with h
    injection h with h2 h3
    exact AW.region (runF_ok hC hS l st s h1 ⟨h2,h3⟩)
  | true =>
   rw [runC] at h
   cases h1:runD C self n l (ancs l []) st with
   | none=>rw [h1] at h;cases h
   | some s =>
    rw [h1] at h;injection h with h
    injection h with h2 h3
    subst h3;subst h2;exact runD_ok hC hS h1
 | rangeFunc f ps a b=>intro st e st' h;rw [runC] at h;cases h
 | scope c ih =>
  intro st e st' h;rw [runC] at h
  cases h1:runC C self fl n c st with
  | none=>rw [h1] at h;cases h
  | some p =>
   obtain ⟨e0,s0⟩:=p;rw [h1] at h;refine AW.scope ((ih st e0 s0 h1).mono ?_)
   rintro e1 s ⟨rfl,rfl⟩
   cases e1 with
   | goto l=>cases h
   | _ =>
    injection h with h
    injection h with h2 h3
    exact ⟨rfl,h2,h3⟩
 | goto l=>intro st e st' h;rw [runC] at h;cases h
 | refuse w=>intro st e st' h;rw [runC] at h;cases h

theorem out_ok {C:Ctx} {self:SelfT} (hC:C.ok P) (hS:SelfOk P self) {fl F:Nat} {fn:Func} {c:Code} {xs:List AV} {hp hp':List (Nat×AB)} {nx nx':Nat} {x:AV} (h1:lk C.fns F=some fn) (h2:fn.body=some c) (hb:Nat.ble xs.length fn.ntmps=true)
  (h:outC C fn.results.toList (runC C self fl fn.ntmps c ⟨argR 0 xs,hp,nx⟩)=some (x,hp',nx')):AC P F xs hp nx (fun y h' n'=>y=x∧h'=hp'∧n'=nx'):=by
 cases hr:runC C self fl fn.ntmps c ⟨argR 0 xs,hp,nx⟩ with
 | none=>rw [hr] at h;cases h
 | some p =>
  obtain ⟨e,st⟩:=p;rw [hr] at h;have hw:=runC_ok hC hS c _ _ _ hr
  have key:∀ ys,resC C st fn.results.toList=some ys→oneOf ys=x→st.heap=hp'→st.nx=nx'→e=.ret∨e=.normal→AC P F xs hp nx (fun x1 hp1 nx1=>x1=x∧hp1=hp'∧nx1=nx'):=by
   intro ys h3 h4 h5 h6 he;refine AC.body (allP_at hC.fns h1) h2 rfl rfl hb (hw.mono ?_)
   rintro e1 s ⟨rfl,rfl⟩
   exact ⟨he,ys,resC_ok hC h3,h4,h5,h6⟩
  cases e with
  | ret =>
   simp only [outC] at h;split at h
   ·rename_i ys h3;injection h with h
    simp only [Prod.mk.injEq] at h;exact key ys h3 h.1 h.2.1 h.2.2 (.inl rfl)
   ·cases h
  | normal =>
   simp only [outC] at h;split at h
   ·rename_i ys h3;injection h with h
    simp only [Prod.mk.injEq] at h;exact key ys h3 h.1 h.2.1 h.2.2 (.inr rfl)
   ·cases h
  | _=>cases h
def run (C:Ctx) (fl:Nat):Nat→Nat→List AV→List (Nat×AB)→Nat→Option (AV×List (Nat×AB)×Nat)
 | 0,_,_,_,_=>none
 | f+1,F,xs,hp,nx=>match lk C.fns F with
  | some fn=>match fn.body with
   | some c=>bif Nat.ble xs.length fn.ntmps then (match fL1 xs fun xs=>outC C fn.results.toList (runC C (run C fl f) fl fn.ntmps c ⟨argR 0 xs,hp,nx⟩) with
    | some (x,hp2,nx2)=>gcK hp2 nx x fun hp3=>some (x,hp3,nx2)
    | none=>none) else none
   | none=>none
  | none=>none
end
end Go.Proofs.Ytelpkjellakigaa.Rn
/- screenWorks,by a run with short tables. -/
set_option maxRecDepth 1000000
namespace Go.Proofs.Ytelpkjellakigaa
open Go Go.RowKit
end Go.Proofs.Ytelpkjellakigaa
/- Decompiling: functions that call themselves. -/
namespace Go.Proofs.Ytelpkjellakigaa
open Go Go.RowKit
end Go.Proofs.Ytelpkjellakigaa
/- Residual programs of functions (printed by a program out of the code),checked by the kernel,and the contracts that follow. -/
namespace Go.Proofs.Ytelpkjellakigaa
open Go Go.RowKit
set_option linter.unusedVariables false
def R_Floor_j1 (fu:Nat) (v1:Int):Option (Int×Unit) :=
 some ((v1,()))
def R_Floor_r (fu:Nat) (a:Int×Int×Unit):Option (Int×Unit) :=
 bif (decide (a.2.1≠(0:Int))) then
 let v0:Int:=(IntKind.i64.wrap (Int.tdiv a.1 a.2.1))
 joinF (R_Floor_j1 fu) fun j1 =>
 bif (decide (a.1<(IntKind.i64.wrap (v0*a.2.1)))) then
  let v2:Int:=(IntKind.i64.wrap (v0-(1:Int)))
  j1 (v2)
 else
 j1 (v0)
 else none
def R_Floor_an:An:=(.n none .z (.n none .z (.n (some ⟨[],[],[],[.reg 5 (.int .i64)],0,[]⟩) (.n none .z (.n none .z .z)) (.n none .z .z))))
noncomputable def R_Floor_dc:List (Nat×Ctr):=[]
def R_Floor_ctr:Ctr:=⟨(.pair (.int .i64) (.pair (.int .i64) .unit)),(.pair (.int .i64) .unit),R_Floor_r,74⟩
theorem R_Floor_ok:CtrOk Try.prog 74 R_Floor_ctr:=ctr_ok (l:=R_Floor_dc) (f:=12) (an:=R_Floor_an) trivial fun fu x=>by kernel_rfl
def R_Within_r (fu:Nat) (a:Int×Int×Int×Unit):Option (Bool×Unit) :=
 bif (decide (a.2.1≤a.1)) then
  let v0:Bool:=(decide (a.1≤a.2.2.1))
  some ((v0,()))
 else
 some ((false,()))
def R_Within_an:An:=(.n none .z (.n none .z .z))
noncomputable def R_Within_dc:List (Nat×Ctr):=[]
def R_Within_ctr:Ctr:=⟨(.pair (.int .i64) (.pair (.int .i64) (.pair (.int .i64) .unit))),(.pair .bool .unit),R_Within_r,21⟩
theorem R_Within_ok:CtrOk Try.prog 21 R_Within_ctr:=ctr_ok (l:=R_Within_dc) (f:=12) (an:=R_Within_an) trivial fun fu x=>by kernel_rfl
def law_none_r (fu:Nat) (a:Bool×Int×Int×Unit):Option (Bool×Unit) :=
 bif a.1 then
  let v0:Bool:=(decide (a.2.1=a.2.2.1))
  some ((v0,()))
 else
 some ((false,()))
def law_none_an:An:=(.n none .z (.n none .z .z))
noncomputable def law_none_dc:List (Nat×Ctr):=[]
def law_none_ctr:Ctr:=⟨(.pair .bool (.pair (.int .i64) (.pair (.int .i64) .unit))),(.pair .bool .unit),law_none_r,18⟩
theorem law_none_ok:CtrOk Try.prog 18 law_none_ctr:=ctr_ok (l:=law_none_dc) (f:=12) (an:=law_none_an) trivial fun fu x=>by kernel_rfl
end Go.Proofs.Ytelpkjellakigaa
/- Residual programs of functions (printed by a program out of the code),checked by the kernel,and the contracts that follow. -/
namespace Go.Proofs.Ytelpkjellakigaa
open Go Go.RowKit
set_option linter.unusedVariables false
def R_Round_j1 (fu:Nat) (v2:Int):Option (Int×Unit) :=
 some ((v2,()))
def R_Round_r (fu:Nat) (a:Int×Int×Unit):Option (Int×Unit) :=
 bindO (R_Floor_r fu ((a.1,(a.2.1,())))) fun v0 =>
 let v1:Int:=v0.1
 joinF (R_Round_j1 fu) fun j2 =>
 bif (decide (a.2.1≤(IntKind.i64.wrap ((2:Int)*(IntKind.i64.wrap (a.1-(IntKind.i64.wrap (v1*a.2.1)))))))) then
  let v3:Int:=(IntKind.i64.wrap (v1+(1:Int)))
  j2 (v3)
 else
 j2 (v1)
def R_Round_an:An:=(.n none .z (.n none .z (.n (some ⟨[],[],[],[.reg 5 (.int .i64)],0,[]⟩) (.n none .z (.n none .z .z)) (.n none .z .z))))
noncomputable def R_Round_dc:List (Nat×Ctr):=[(74,R_Floor_ctr)]
def R_Round_ctr:Ctr:=⟨(.pair (.int .i64) (.pair (.int .i64) .unit)),(.pair (.int .i64) .unit),R_Round_r,22⟩
theorem R_Round_ok:CtrOk Try.prog 22 R_Round_ctr:=ctr_ok (l:=R_Round_dc) (f:=12) (an:=R_Round_an) ⟨R_Floor_ok,trivial⟩ fun fu x=>by kernel_rfl
def R_Bit_j1 (fu:Nat) (a:(Int×Int×List Int)×Int×Int×Unit) (v0:Bool):Option (Bool×Unit) :=
 bif v0 then
  some ((false,()))
 else
 bif ((decide ((0:Int)≤(IntKind.i64.wrap ((IntKind.i64.wrap (a.2.2.1*(IntKind.i64.wrap (Int.tdiv (IntKind.i64.wrap (a.1.1+(7:Int))) (8:Int)))))+(IntKind.i64.wrap (Int.tdiv a.2.1 (8:Int)))))))&&(decide ((IntKind.i64.wrap ((IntKind.i64.wrap (a.2.2.1*(IntKind.i64.wrap (Int.tdiv (IntKind.i64.wrap (a.1.1+(7:Int))) (8:Int)))))+(IntKind.i64.wrap (Int.tdiv a.2.1 (8:Int)))))<(List.length a.1.2.2:Int)))) then
 let v1:Int:=(List.getD a.1.2.2 (Int.toNat (IntKind.i64.wrap ((IntKind.i64.wrap (a.2.2.1*(IntKind.i64.wrap (Int.tdiv (IntKind.i64.wrap (a.1.1+(7:Int))) (8:Int)))))+(IntKind.i64.wrap (Int.tdiv a.2.1 (8:Int)))))) 0)
 bif ((decide ((0:Int)≤(Int.tmod a.2.1 (8:Int))))&&(decide ((Int.tmod a.2.1 (8:Int))≤(8:Int)))) then
 let v2:Bool:=(decide ((bits BinOp.and IntKind.u8 (IntKind.u8.wrap (v1*2 ^ (Int.toNat (Int.tmod a.2.1 (8:Int))))) (128:Int))≠(0:Int)))
 some ((v2,()))
 else none
 else none
def R_Bit_r (fu:Nat) (a:(Int×Int×List Int)×Int×Int×Unit):Option (Bool×Unit) :=
 joinF (R_Bit_j1 fu a) fun j0 =>
 bindO (R_Within_r fu ((a.2.1,((0:Int),((IntKind.i64.wrap (a.1.1-(1:Int))),()))))) fun v1 =>
 bif (!v1.1) then
  j0 (true)
 else
 bindO (R_Within_r fu ((a.2.2.1,((0:Int),((IntKind.i64.wrap (a.1.2.1-(1:Int))),()))))) fun v2 =>
 j0 ((!v2.1))
def R_Bit_an:An:=(.n none .z (.n none (.n (some ⟨[2,3,1],[0],[],[.reg 20 .bool],0,[]⟩) .z (.n none (.n none .z .z) .z)) (.n none .z .z)))
noncomputable def R_Bit_dc:List (Nat×Ctr):=[(21,R_Within_ctr)]
def R_Bit_ctr:Ctr:=⟨(.pair (.agg (.pair (.int .i64) (.pair (.int .i64) (.list (.int .u8))))) (.pair (.int .i64) (.pair (.int .i64) .unit))),(.pair .bool .unit),R_Bit_r,36⟩
theorem R_Bit_ok:CtrOk Try.prog 36 R_Bit_ctr:=ctr_ok (l:=R_Bit_dc) (f:=12) (an:=R_Bit_an) ⟨R_Within_ok,trivial⟩ fun fu x=>by kernel_rfl
def R_BitsErr_j4 (fu:Nat) (v4:Int) (j4:(Int)→Option (Int×Unit)) (v5:Bool):Option (Int×Unit) :=
 bif v5 then
  some (((4:Int),()))
 else
 j4 ((IntKind.i64.wrap (v4+(1:Int))))
def R_BitsErr_l3 (fu:Nat) (a:(Int×Int×List Int)×Unit) (v1:Int) (v2:Int) (v3:Int) (j2:(Int)→Option (Int×Unit)) (j4:(Int)→Option (Int×Unit)) (v4:Int):Option (Int×Unit) :=
 bif (decide (v4<(8:Int))) then
  joinF (R_BitsErr_j4 fu v4 j4) fun j5 =>
  bif (decide (v1≠(0:Int))) then
  bif (decide (a.1.1≤(IntKind.i64.wrap ((IntKind.i64.wrap ((Int.tmod v2 v1)*(8:Int)))+v4)))) then
   bif ((decide ((0:Int)≤v4))&&(decide (v4≤(8:Int)))) then
   j5 ((decide ((bits BinOp.and IntKind.u8 (IntKind.u8.wrap (v3*2 ^ (Int.toNat v4))) (128:Int))≠(0:Int))))
   else none
  else
  j5 (false)
  else none
 else
 j2 ((IntKind.i64.wrap (v2+(1:Int))))
def R_BitsErr_l2 (fu:Nat) (a:(Int×Int×List Int)×Unit) (v1:Int) (j2:(Int)→Option (Int×Unit)) (v2:Int):Option (Int×Unit) :=
 bif (decide (v2<(List.length a.1.2.2:Int))) then
  bif ((decide ((0:Int)≤v2))&&(decide (v2<(List.length a.1.2.2:Int)))) then
  let v3:Int:=(List.getD a.1.2.2 (Int.toNat v2) 0)
  loopF (R_BitsErr_l3 fu a v1 v2 v3 j2) fu ((0:Int))
  else none
 else
 some (((0:Int),()))
def R_BitsErr_j1 (fu:Nat) (a:(Int×Int×List Int)×Unit) (v0:Bool):Option (Int×Unit) :=
 bif v0 then
  some (((3:Int),()))
 else
 let v1:Int:=(IntKind.i64.wrap (Int.tdiv (IntKind.i64.wrap (a.1.1+(7:Int))) (8:Int)))
 bif (decide ((List.length a.1.2.2:Int)≠(IntKind.i64.wrap (v1*a.1.2.1)))) then
  some (((4:Int),()))
 else
 loopF (R_BitsErr_l2 fu a v1) fu ((0:Int))
def R_BitsErr_r (fu:Nat) (a:(Int×Int×List Int)×Unit):Option (Int×Unit) :=
 joinF (R_BitsErr_j1 fu a) fun j0 =>
 bindO (R_Within_r fu ((a.1.1,((1:Int),((1024:Int),()))))) fun v1 =>
 bif (!v1.1) then
  j0 (true)
 else
 bindO (R_Within_r fu ((a.1.2.1,((1:Int),((1024:Int),()))))) fun v2 =>
 j0 ((!v2.1))
def R_BitsErr_an:An:=(.n none .z (.n none (.n (some ⟨[1],[0],[],[.reg 16 .bool],0,[]⟩) .z (.n none (.n none .z .z) .z)) (.n none .z (.n none (.n none .z (.n none (.n none .z .z) .z)) (.n none (.n none .z (.n none (.n (some ⟨[30,3,1,31],[0],[],[.reg 32 (.int .i64)],0,[]⟩) (.n none .z (.n none .z (.n none (.n none (.n none .z (.n none .z (.n none (.n (some ⟨[32,4,5],[],[],[.reg 37 (.int .i64)],0,[]⟩) (.n none .z (.n none .z (.n none (.n none (.n none .z (.n (some ⟨[37],[],[],[.reg 55 .bool],0,[]⟩) (.dr [] []) (.n none (.n none .z .z) .z))) .z) .z))) .z) .z))) .z) .z))) .z) .z)) (.n none .z .z))))))
noncomputable def R_BitsErr_dc:List (Nat×Ctr):=[(21,R_Within_ctr)]
def R_BitsErr_ctr:Ctr:=⟨(.pair (.agg (.pair (.int .i64) (.pair (.int .i64) (.list (.int .u8))))) .unit),(.pair (.int .i64) .unit),R_BitsErr_r,34⟩
theorem R_BitsErr_ok:CtrOk Try.prog 34 R_BitsErr_ctr:=ctr_ok (l:=R_BitsErr_dc) (f:=12) (an:=R_BitsErr_an) ⟨R_Within_ok,trivial⟩ fun fu x=>by kernel_rfl
def bitmap_stride_r (fu:Nat) (a:Int×Unit):Option (Int×Unit) :=
 let v0:Int:=(IntKind.i64.wrap (Int.tdiv (IntKind.i64.wrap (a.1+(7:Int))) (8:Int)))
 some ((v0,()))
def bitmap_stride_an:An:=(.n none .z (.n none .z .z))
noncomputable def bitmap_stride_dc:List (Nat×Ctr):=[]
def bitmap_stride_ctr:Ctr:=⟨(.pair (.int .i64) .unit),(.pair (.int .i64) .unit),bitmap_stride_r,115⟩
theorem bitmap_stride_ok:CtrOk Try.prog 115 bitmap_stride_ctr:=ctr_ok (l:=bitmap_stride_dc) (f:=12) (an:=bitmap_stride_an) trivial fun fu x=>by kernel_rfl
def bitmap_Is_r (fu:Nat) (a:(Int×Int×List Int)×Int×Int×Unit):Option (Bool×Unit) :=
 bif (decide ((0:Int)≤a.2.1)) then
  bif (decide (a.2.1<a.1.1)) then
   bif (decide ((0:Int)≤a.2.2.1)) then
    bif (decide (a.2.2.1<a.1.2.1)) then
     bindO (bitmap_stride_r fu ((a.1.1,()))) fun v0 =>
     bif ((decide ((0:Int)≤(IntKind.i64.wrap ((IntKind.i64.wrap (a.2.2.1*v0.1))+(IntKind.i64.wrap (Int.tdiv a.2.1 (8:Int)))))))&&(decide ((IntKind.i64.wrap ((IntKind.i64.wrap (a.2.2.1*v0.1))+(IntKind.i64.wrap (Int.tdiv a.2.1 (8:Int)))))<(List.length a.1.2.2:Int)))) then
     let v1:Int:=(List.getD a.1.2.2 (Int.toNat (IntKind.i64.wrap ((IntKind.i64.wrap (a.2.2.1*v0.1))+(IntKind.i64.wrap (Int.tdiv a.2.1 (8:Int)))))) 0)
     bif ((decide ((0:Int)≤(Int.tmod a.2.1 (8:Int))))&&(decide ((Int.tmod a.2.1 (8:Int))≤(8:Int)))) then
     let v2:Bool:=(decide ((bits BinOp.and IntKind.u8 v1 ((128:Int) / 2 ^ (Int.toNat (Int.tmod a.2.1 (8:Int)))))≠(0:Int)))
     some ((v2,()))
     else none
     else none
    else
    some ((false,()))
   else
   some ((false,()))
  else
  some ((false,()))
 else
 some ((false,()))
def bitmap_Is_an:An:=(.n none .z (.n none (.dr [] []) .z))
noncomputable def bitmap_Is_dc:List (Nat×Ctr):=[(115,bitmap_stride_ctr)]
def bitmap_Is_ctr:Ctr:=⟨(.pair (.ptr (.pair (.int .i64) (.pair (.int .i64) (.list (.int .u8))))) (.pair (.int .i64) (.pair (.int .i64) .unit))),(.pair .bool .unit),bitmap_Is_r,82⟩
theorem bitmap_Is_ok:CtrOk Try.prog 82 bitmap_Is_ctr:=ctr_ok (l:=bitmap_Is_dc) (f:=12) (an:=bitmap_Is_an) ⟨bitmap_stride_ok,trivial⟩ fun fu x=>by kernel_rfl
def curve_Nearest_j1 (fu:Nat) (v3:Int):Option (Int×Unit) :=
 some ((v3,()))
def curve_Nearest_r (fu:Nat) (a:Int×Int×Unit):Option (Int×Unit) :=
 let v0:Int:=(IntKind.i64.wrap ((IntKind.i64.wrap ((2:Int)*a.1))+a.2.1))
 let v1:Int:=(IntKind.i64.wrap ((2:Int)*a.2.1))
 bif (decide (v1≠(0:Int))) then
 let v2:Int:=(IntKind.i64.wrap (Int.tdiv v0 v1))
 joinF (curve_Nearest_j1 fu) fun j3 =>
 bif (decide (v1≠(0:Int))) then
 bif (decide ((Int.tmod v0 v1)<(0:Int))) then
  let v4:Int:=(IntKind.i64.wrap (v2-(1:Int)))
  j3 (v4)
 else
 j3 (v2)
 else none
 else none
def curve_Nearest_an:An:=(.n none .z (.n none .z (.n none .z (.n (some ⟨[],[],[],[.reg 5 (.int .i64)],0,[]⟩) (.n none .z (.n none .z .z)) (.n none .z .z)))))
noncomputable def curve_Nearest_dc:List (Nat×Ctr):=[]
def curve_Nearest_ctr:Ctr:=⟨(.pair (.int .i64) (.pair (.int .i64) .unit)),(.pair (.int .i64) .unit),curve_Nearest_r,72⟩
theorem curve_Nearest_ok:CtrOk Try.prog 72 curve_Nearest_ctr:=ctr_ok (l:=curve_Nearest_dc) (f:=12) (an:=curve_Nearest_an) trivial fun fu x=>by kernel_rfl
def bitmap_Check_j2 (fu:Nat) (v3:Unit):Option (Int×Unit) :=
 some (((0:Int),()))
def bitmap_Check_l3 (fu:Nat) (a:(Int×Int×List Int)×Unit) (v2:Int) (v4:Int) (j3:(Unit)→Option (Int×Unit)) (j5:(Int)→Option (Int×Unit)) (v5:Int):Option (Int×Unit) :=
 bif (decide (v5<a.1.2.1)) then
  bif ((decide ((0:Int)≤(IntKind.i64.wrap ((IntKind.i64.wrap ((IntKind.i64.wrap (v5*v2))+v2))-(1:Int)))))&&(decide ((IntKind.i64.wrap ((IntKind.i64.wrap ((IntKind.i64.wrap (v5*v2))+v2))-(1:Int)))<(List.length a.1.2.2:Int)))) then
  let v6:Int:=(List.getD a.1.2.2 (Int.toNat (IntKind.i64.wrap ((IntKind.i64.wrap ((IntKind.i64.wrap (v5*v2))+v2))-(1:Int)))) 0)
  bif (decide ((bits BinOp.and IntKind.u8 v6 v4)≠(0:Int))) then
   some (((4:Int),()))
  else
  j5 ((IntKind.i64.wrap (v5+(1:Int))))
  else none
 else
 j3 (())
def bitmap_Check_j1 (fu:Nat) (a:(Int×Int×List Int)×Unit) (v0:Bool):Option (Int×Unit) :=
 bif v0 then
  some (((3:Int),()))
 else
 bindO (bitmap_stride_r fu ((a.1.1,()))) fun v1 =>
 let v2:Int:=v1.1
 bif (decide ((List.length a.1.2.2:Int)≠(IntKind.i64.wrap (v2*a.1.2.1)))) then
  some (((4:Int),()))
 else
 joinF (bitmap_Check_j2 fu) fun j3 =>
 bif ((decide ((0:Int)≤(IntKind.i64.wrap ((IntKind.i64.wrap ((8:Int)*v2))-a.1.1))))&&(decide ((IntKind.i64.wrap ((IntKind.i64.wrap ((8:Int)*v2))-a.1.1))≤(8:Int)))) then
 let v4:Int:=(IntKind.u8.wrap ((IntKind.u8.wrap ((1:Int)*2 ^ (Int.toNat (IntKind.i64.wrap ((IntKind.i64.wrap ((8:Int)*v2))-a.1.1)))))-(1:Int)))
 bif (decide (v4≠(0:Int))) then
  loopF (bitmap_Check_l3 fu a v2 v4 j3) fu ((0:Int))
 else
 j3 (())
 else none
def bitmap_Check_r (fu:Nat) (a:(Int×Int×List Int)×Unit):Option (Int×Unit) :=
 joinF (bitmap_Check_j1 fu a) fun j0 =>
 bif (decide (a.1.1<(1:Int))) then
  j0 (true)
 else
 bif (decide ((1024:Int)<a.1.1)) then
  j0 (true)
 else
 bif (decide (a.1.2.1<(1:Int))) then
  j0 (true)
 else
 j0 ((decide ((1024:Int)<a.1.2.1)))
def bitmap_Check_an:An:=(.n none .z (.n none (.n (some ⟨[1],[0],[],[.reg 23 .bool],0,[]⟩) .z (.n none (.n none .z .z) .z)) (.n none .z (.n none (.n none .z (.n none (.n none .z .z) .z)) (.n (some ⟨[],[0],[],[],0,[]⟩) (.n none .z (.n none .z (.n none (.n none .z (.n none (.n (some ⟨[1,3,4,45],[],[],[.reg 46 (.int .i64)],0,[]⟩) (.n none .z (.n none .z (.n none (.n none (.n none .z (.n none .z (.n none (.n none .z .z) .z))) .z) .z))) .z) .z)) .z))) (.n none .z .z))))))
noncomputable def bitmap_Check_dc:List (Nat×Ctr):=[(115,bitmap_stride_ctr)]
def bitmap_Check_ctr:Ctr:=⟨(.pair (.agg (.pair (.int .i64) (.pair (.int .i64) (.list (.int .u8))))) .unit),(.pair (.int .i64) .unit),bitmap_Check_r,81⟩
theorem bitmap_Check_ok:CtrOk Try.prog 81 bitmap_Check_ctr:=ctr_ok (l:=bitmap_Check_dc) (f:=12) (an:=bitmap_Check_an) ⟨bitmap_stride_ok,trivial⟩ fun fu x=>by kernel_rfl
end Go.Proofs.Ytelpkjellakigaa
/- Residual programs of functions (printed by a program out of the code),checked by the kernel,and the contracts that follow. -/
namespace Go.Proofs.Ytelpkjellakigaa
open Go Go.RowKit
set_option linter.unusedVariables false
def camera_CheckView_j4 (fu:Nat) (v2:Int) (j2:(Int)→Option (Int×Unit)) (v4:Bool):Option (Int×Unit) :=
 bif v4 then
  some (((3:Int),()))
 else
 j2 ((IntKind.i64.wrap (v2+(1:Int))))
def camera_CheckView_l3 (fu:Nat) (a:(Int×Int×Int×Int×Int×Int×Int×List Int)×Unit) (j2:(Int)→Option (Int×Unit)) (v2:Int):Option (Int×Unit) :=
 bif (decide (v2<(List.length a.1.2.2.2.2.2.2.2:Int))) then
  bif ((decide ((0:Int)≤v2))&&(decide (v2<(List.length a.1.2.2.2.2.2.2.2:Int)))) then
  let v3:Int:=(List.getD a.1.2.2.2.2.2.2.2 (Int.toNat v2) 0)
  joinF (camera_CheckView_j4 fu v2 j2) fun j4 =>
  bif (decide (v3<(-64:Int))) then
   j4 (true)
  else
  j4 ((decide ((64:Int)<v3)))
  else none
 else
 some (((0:Int),()))
def camera_CheckView_j2 (fu:Nat) (a:(Int×Int×Int×Int×Int×Int×Int×List Int)×Unit) (v1:Bool):Option (Int×Unit) :=
 bif v1 then
  some (((3:Int),()))
 else
 bif (decide (a.1.2.2.2.2.2.1≤a.1.2.2.2.2.2.2.1)) then
  some (((18:Int),()))
 else
 bif (decide ((64:Int)<(List.length a.1.2.2.2.2.2.2.2:Int))) then
  some (((2:Int),()))
 else
 loopF (camera_CheckView_l3 fu a) fu ((0:Int))
def camera_CheckView_j1 (fu:Nat) (a:(Int×Int×Int×Int×Int×Int×Int×List Int)×Unit) (v0:Bool):Option (Int×Unit) :=
 bif v0 then
  some (((3:Int),()))
 else
 joinF (camera_CheckView_j2 fu a) fun j1 =>
 bif (decide (a.1.2.2.2.2.2.1<(0:Int))) then
  j1 (true)
 else
 bif (decide ((255:Int)<a.1.2.2.2.2.2.1)) then
  j1 (true)
 else
 bif (decide (a.1.2.2.2.2.2.2.1<(0:Int))) then
  j1 (true)
 else
 j1 ((decide ((255:Int)<a.1.2.2.2.2.2.2.1)))
def camera_CheckView_r (fu:Nat) (a:(Int×Int×Int×Int×Int×Int×Int×List Int)×Unit):Option (Int×Unit) :=
 joinF (camera_CheckView_j1 fu a) fun j0 =>
 bif (decide (a.1.1<(1:Int))) then
  j0 (true)
 else
 bif (decide ((8:Int)<a.1.1)) then
  j0 (true)
 else
 bif (decide (a.1.2.1<(0:Int))) then
  j0 (true)
 else
 bif (decide ((32:Int)<a.1.2.1)) then
  j0 (true)
 else
 bif (decide (a.1.2.2.1<(0:Int))) then
  j0 (true)
 else
 bif (decide ((32:Int)<a.1.2.2.1)) then
  j0 (true)
 else
 bif (decide (a.1.2.2.2.1<(0:Int))) then
  j0 (true)
 else
 bif (decide ((3:Int)<a.1.2.2.2.1)) then
  j0 (true)
 else
 bif (decide (a.1.2.2.2.2.1<(0:Int))) then
  j0 (true)
 else
 j0 ((decide ((2:Int)<a.1.2.2.2.2.1)))
def camera_CheckView_an:An:=(.n none .z (.n none (.n (some ⟨[1],[0],[],[.reg 52 .bool],0,[]⟩) .z (.n none (.n none .z .z) .z)) (.n none (.n (some ⟨[1],[0],[],[.reg 70 .bool],0,[]⟩) .z (.n none (.n none .z .z) .z)) (.n none (.n none .z (.n none (.n none .z .z) .z)) (.n none (.n none .z (.n none (.n none .z .z) .z)) (.n none (.n none .z (.n none (.n (some ⟨[81,82],[0],[],[.reg 83 (.int .i64)],0,[]⟩) (.n none .z (.n none .z (.n none (.n none (.n none .z (.n (some ⟨[83],[],[],[.reg 92 .bool],0,[]⟩) .z (.n none (.n none .z .z) .z))) .z) .z))) .z) .z)) (.n none .z .z)))))))
noncomputable def camera_CheckView_dc:List (Nat×Ctr):=[]
def camera_CheckView_ctr:Ctr:=⟨(.pair (.agg (.pair (.int .i64) (.pair (.int .i64) (.pair (.int .i64) (.pair (.int .i64) (.pair (.int .i64) (.pair (.int .i64) (.pair (.int .i64) (.list (.int .i64)))))))))) .unit),(.pair (.int .i64) .unit),camera_CheckView_r,61⟩
theorem camera_CheckView_ok:CtrOk Try.prog 61 camera_CheckView_ctr:=ctr_ok (l:=camera_CheckView_dc) (f:=12) (an:=camera_CheckView_an) trivial fun fu x=>by kernel_rfl
def camera_window_l2 (fu:Nat) (a:(Int×Int×List Int)×Int×Int×Int×Unit) (v1:Int×Int×Int) (j1:(Int×Int×Int)→Option (Int×Int×Unit)) (j3:(Int×Int×Int)→Option (Int×Int×Unit)) (v3:Int×Int×Int):Option (Int×Int×Unit) :=
 bif (decide (v3.2.2≤(min (IntKind.i64.wrap (a.1.1-(1:Int))) (IntKind.i64.wrap (a.2.1+a.2.2.2.1))))) then
  bif ((decide ((0:Int)≤(IntKind.i64.wrap ((IntKind.i64.wrap (v1.2.2*a.1.1))+v3.2.2))))&&(decide ((IntKind.i64.wrap ((IntKind.i64.wrap (v1.2.2*a.1.1))+v3.2.2))<(List.length a.1.2.2:Int)))) then
  let v4:Int:=(List.getD a.1.2.2 (Int.toNat (IntKind.i64.wrap ((IntKind.i64.wrap (v1.2.2*a.1.1))+v3.2.2))) 0)
  let v5:Int:=(IntKind.i64.wrap (v3.1+(IntKind.i64.wrap v4)))
  let v6:Int:=(IntKind.i64.wrap (v3.2.1+(1:Int)))
  let v7:Int:=(IntKind.i64.wrap (v3.2.2+(1:Int)))
  j3 ((v5,(v6,v7)))
  else none
 else
 let v4:Int:=(IntKind.i64.wrap (v1.2.2+(1:Int)))
 j1 ((v3.2.1,(v3.1,v4)))
def camera_window_l1 (fu:Nat) (a:(Int×Int×List Int)×Int×Int×Int×Unit) (j1:(Int×Int×Int)→Option (Int×Int×Unit)) (v1:Int×Int×Int):Option (Int×Int×Unit) :=
 bif (decide (v1.2.2≤(min (IntKind.i64.wrap (a.1.2.1-(1:Int))) (IntKind.i64.wrap (a.2.2.1+a.2.2.2.1))))) then
  let v2:Int:=(max (0:Int) (IntKind.i64.wrap (a.2.1-a.2.2.2.1)))
  loopF (camera_window_l2 fu a v1 j1) fu ((v1.2.1,(v1.1,v2)))
 else
 let v2:Int:=v1.2.1
 let v3:Int:=v1.1
 some ((v2,(v3,())))
def camera_window_r (fu:Nat) (a:(Int×Int×List Int)×Int×Int×Int×Unit):Option (Int×Int×Unit) :=
 let v0:Int:=(max (0:Int) (IntKind.i64.wrap (a.2.2.1-a.2.2.2.1)))
 loopF (camera_window_l1 fu a) fu (((0:Int),((0:Int),v0)))
def camera_window_an:An:=(.n none .z (.n none (.n none .z (.n none (.n (some ⟨[0,3,1,2],[],[],[.reg 9 (.int .i64),.reg 8 (.int .i64),.reg 10 (.int .i64)],0,[]⟩) (.n none (.n none .z .z) (.n none (.n none (.n none .z (.n none (.n (some ⟨[10],[],[],[.reg 8 (.int .i64),.reg 9 (.int .i64),.reg 11 (.int .i64)],0,[]⟩) (.n none (.n none .z .z) (.n none (.n none (.n none (.dr [] []) .z) .z) .z)) .z) .z)) .z) .z)) .z) .z)) (.n none .z .z)))
noncomputable def camera_window_dc:List (Nat×Ctr):=[]
def camera_window_ctr:Ctr:=⟨(.pair (.ptr (.pair (.int .i64) (.pair (.int .i64) (.list (.int .u8))))) (.pair (.int .i64) (.pair (.int .i64) (.pair (.int .i64) .unit)))),(.pair (.int .i64) (.pair (.int .i64) .unit)),camera_window_r,101⟩
theorem camera_window_ok:CtrOk Try.prog 101 camera_window_ctr:=ctr_ok (l:=camera_window_dc) (f:=12) (an:=camera_window_an) trivial fun fu x=>by kernel_rfl
def bitmap_Turned_2_r (fu:Nat) (a:Int×Int×(Int×Int×List Int)×Unit):Option (Bool×Unit) :=
 bindO (bitmap_Is_r fu ((a.2.2.1,(a.2.1,((IntKind.i64.wrap ((IntKind.i64.wrap (a.2.2.1.2.1-(1:Int)))-a.1)),()))))) fun v0 =>
 let v1:Bool:=v0.1
 some ((v1,()))
def bitmap_Turned_2_an:An:=(.n none .z (.n none .z .z))
noncomputable def bitmap_Turned_2_dc:List (Nat×Ctr):=[(82,bitmap_Is_ctr)]
def bitmap_Turned_2_ctr:Ctr:=⟨(.pair (.int .i64) (.pair (.int .i64) (.pair (.ptr (.pair (.int .i64) (.pair (.int .i64) (.list (.int .u8))))) .unit))),(.pair .bool .unit),bitmap_Turned_2_r,136⟩
theorem bitmap_Turned_2_ok:CtrOk Try.prog 136 bitmap_Turned_2_ctr:=ctr_ok (l:=bitmap_Turned_2_dc) (f:=12) (an:=bitmap_Turned_2_an) ⟨bitmap_Is_ok,trivial⟩ fun fu x=>by kernel_rfl
def bitmap_Turned_j5 (fu:Nat) (j5:(Int×List Int)→Option ((Int×Int×List Int)×Unit)) (v6:Int×List Int):Option ((Int×Int×List Int)×Unit) :=
 j5 (((IntKind.i64.wrap (v6.1+(1:Int))),v6.2))
def bitmap_Turned_l4 (fu:Nat) (v1:Int×Int×Int×List Int) (v3:Int×List Int) (v4:Int) (j3:(Int×List Int)→Option ((Int×Int×List Int)×Unit)) (j5:(Int×List Int)→Option ((Int×Int×List Int)×Unit)) (v5:Int×List Int):Option ((Int×Int×List Int)×Unit) :=
 bif (decide (v5.1<v1.2.2.1)) then
  joinF (bitmap_Turned_j5 fu j5) fun j6 =>
  let v7:Int:=v5.1
  bindO (bitmap_Turned_2_r fu ((v7,(v4,(v1.2,()))))) fun v8 =>
  bif v8.1 then
   bindO (bitmap_stride_r fu ((v1.2.2.1,()))) fun v9 =>
   bif ((decide ((0:Int)≤(IntKind.i64.wrap ((IntKind.i64.wrap (v4*v9.1))+(IntKind.i64.wrap (Int.tdiv v7 (8:Int)))))))&&(decide ((IntKind.i64.wrap ((IntKind.i64.wrap (v4*v9.1))+(IntKind.i64.wrap (Int.tdiv v7 (8:Int)))))<(List.length v5.2:Int)))) then
   bif ((decide ((0:Int)≤(Int.tmod v7 (8:Int))))&&(decide ((Int.tmod v7 (8:Int))≤(8:Int)))) then
   bif ((decide ((0:Int)≤(IntKind.i64.wrap ((IntKind.i64.wrap (v4*v9.1))+(IntKind.i64.wrap (Int.tdiv v7 (8:Int)))))))&&(decide ((IntKind.i64.wrap ((IntKind.i64.wrap (v4*v9.1))+(IntKind.i64.wrap (Int.tdiv v7 (8:Int)))))<(List.length v5.2:Int)))) then
   j6 ((v5.1,(List.set v5.2 (Int.toNat (IntKind.i64.wrap ((IntKind.i64.wrap (v4*v9.1))+(IntKind.i64.wrap (Int.tdiv v7 (8:Int)))))) (bits BinOp.or IntKind.u8 (List.getD v5.2 (Int.toNat (IntKind.i64.wrap ((IntKind.i64.wrap (v4*v9.1))+(IntKind.i64.wrap (Int.tdiv v7 (8:Int)))))) 0) ((128:Int) / 2 ^ (Int.toNat (Int.tmod v7 (8:Int))))))))
   else none
   else none
   else none
  else
  j6 (v5)
 else
 j3 (((IntKind.i64.wrap (v3.1+(1:Int))),v5.2))
def bitmap_Turned_l3 (fu:Nat) (v1:Int×Int×Int×List Int) (j1:(Int×Int×Int×List Int)→Option ((Int×Int×List Int)×Unit)) (j3:(Int×List Int)→Option ((Int×Int×List Int)×Unit)) (v3:Int×List Int):Option ((Int×Int×List Int)×Unit) :=
 bif (decide (v3.1<v1.2.1)) then
  let v4:Int:=v3.1
  loopF (bitmap_Turned_l4 fu v1 v3 v4 j3) fu (((0:Int),v3.2))
 else
 j1 (((IntKind.i64.wrap (v1.1+(1:Int))),(v1.2.2.1,(v1.2.1,v3.2))))
def bitmap_Turned_l2 (fu:Nat) (a:(Int×Int×List Int)×Int×Unit) (j1:(Int×Int×Int×List Int)→Option ((Int×Int×List Int)×Unit)) (v1:Int×Int×Int×List Int):Option ((Int×Int×List Int)×Unit) :=
 bif (decide (v1.1<(Int.tmod a.2.1 (4:Int)))) then
  bindO (bitmap_stride_r fu ((v1.2.2.1,()))) fun v2 =>
  bif ((decide ((0:Int)≤(IntKind.i64.wrap (v2.1*v1.2.1))))&&(decide (((1:Int)*(IntKind.i64.wrap (v2.1*v1.2.1)))≤(281474976710656:Int)))) then
  loopF (bitmap_Turned_l3 fu v1 j1) fu (((0:Int),(List.replicate (Int.toNat (IntKind.i64.wrap (v2.1*v1.2.1))) (0:Int))))
  else none
 else
 some ((v1.2,()))
def bitmap_Turned_j1 (fu:Nat) (a:(Int×Int×List Int)×Int×Unit) (v0:Int×Int×List Int):Option ((Int×Int×List Int)×Unit) :=
 loopF (bitmap_Turned_l2 fu a) fu (((0:Int),v0))
def bitmap_Turned_j8 (fu:Nat) (j4:(Int×List Int)→Option ((Int×Int×List Int)×Unit)) (v5:Int×List Int):Option ((Int×Int×List Int)×Unit) :=
 j4 (((IntKind.i64.wrap (v5.1+(1:Int))),v5.2))
def bitmap_Turned_l7 (fu:Nat) (a:(Int×Int×List Int)×Int×Unit) (v2:Int×List Int) (v3:Int) (j2:(Int×List Int)→Option ((Int×Int×List Int)×Unit)) (j4:(Int×List Int)→Option ((Int×Int×List Int)×Unit)) (v4:Int×List Int):Option ((Int×Int×List Int)×Unit) :=
 bif (decide (v4.1<a.1.1)) then
  joinF (bitmap_Turned_j8 fu j4) fun j5 =>
  let v6:Int:=v4.1
  bindO (bitmap_Is_r fu ((a.1,((IntKind.i64.wrap ((IntKind.i64.wrap (a.1.1-(1:Int)))-v6)),(v3,()))))) fun v7 =>
  let v8:Bool:=v7.1
  bif v8 then
   bindO (bitmap_stride_r fu ((a.1.1,()))) fun v9 =>
   bif ((decide ((0:Int)≤(IntKind.i64.wrap ((IntKind.i64.wrap (v3*v9.1))+(IntKind.i64.wrap (Int.tdiv v6 (8:Int)))))))&&(decide ((IntKind.i64.wrap ((IntKind.i64.wrap (v3*v9.1))+(IntKind.i64.wrap (Int.tdiv v6 (8:Int)))))<(List.length v4.2:Int)))) then
   bif ((decide ((0:Int)≤(Int.tmod v6 (8:Int))))&&(decide ((Int.tmod v6 (8:Int))≤(8:Int)))) then
   bif ((decide ((0:Int)≤(IntKind.i64.wrap ((IntKind.i64.wrap (v3*v9.1))+(IntKind.i64.wrap (Int.tdiv v6 (8:Int)))))))&&(decide ((IntKind.i64.wrap ((IntKind.i64.wrap (v3*v9.1))+(IntKind.i64.wrap (Int.tdiv v6 (8:Int)))))<(List.length v4.2:Int)))) then
   j5 ((v4.1,(List.set v4.2 (Int.toNat (IntKind.i64.wrap ((IntKind.i64.wrap (v3*v9.1))+(IntKind.i64.wrap (Int.tdiv v6 (8:Int)))))) (bits BinOp.or IntKind.u8 (List.getD v4.2 (Int.toNat (IntKind.i64.wrap ((IntKind.i64.wrap (v3*v9.1))+(IntKind.i64.wrap (Int.tdiv v6 (8:Int)))))) 0) ((128:Int) / 2 ^ (Int.toNat (Int.tmod v6 (8:Int))))))))
   else none
   else none
   else none
  else
  j5 (v4)
 else
 j2 (((IntKind.i64.wrap (v2.1+(1:Int))),v4.2))
def bitmap_Turned_l6 (fu:Nat) (a:(Int×Int×List Int)×Int×Unit) (j0:(Int×Int×List Int)→Option ((Int×Int×List Int)×Unit)) (j2:(Int×List Int)→Option ((Int×Int×List Int)×Unit)) (v2:Int×List Int):Option ((Int×Int×List Int)×Unit) :=
 bif (decide (v2.1<a.1.2.1)) then
  let v3:Int:=v2.1
  loopF (bitmap_Turned_l7 fu a v2 v3 j2) fu (((0:Int),v2.2))
 else
 j0 ((a.1.1,(a.1.2.1,v2.2)))
def bitmap_Turned_r (fu:Nat) (a:(Int×Int×List Int)×Int×Unit):Option ((Int×Int×List Int)×Unit) :=
 bif (decide (((List.length a.1.2.2:Int)*(1:Int))≤(140737488355328:Int))) then
 joinF (bitmap_Turned_j1 fu a) fun j0 =>
 bif (decide ((4:Int)≤a.2.1)) then
  bindO (bitmap_stride_r fu ((a.1.1,()))) fun v1 =>
  bif ((decide ((0:Int)≤(IntKind.i64.wrap (v1.1*a.1.2.1))))&&(decide (((1:Int)*(IntKind.i64.wrap (v1.1*a.1.2.1)))≤(281474976710656:Int)))) then
  loopF (bitmap_Turned_l6 fu a j0) fu (((0:Int),(List.replicate (Int.toNat (IntKind.i64.wrap (v1.1*a.1.2.1))) (0:Int))))
  else none
 else
 j0 (a.1)
 else none
def bitmap_Turned_an:An:=(.n none .z (.n none .z (.n none .z (.n (some ⟨[1,4,5],[0,1],[],[.box 2 [(.int .i64),(.int .i64),(.ro true (.int .u8))] 54],0,[]⟩) (.n none .z (.n none (.dr [] [(9,(.n none (.n none .z (.n none (.ops [(2,(.n none (.n none .z (.n none .z .z)) .z))]) (.n none (.n none .z (.n none (.n (some ⟨[6,7,0,2,13],[3,2,4,7],[],[.reg 14 (.int .i64),.row 6 true (.int .u8) 5 0],0,[]⟩) (.n none .z (.n none .z (.n none (.n none (.n none .z (.n none .z (.n none (.n (some ⟨[14,8,17],[],[],[.reg 18 (.int .i64),.row 6 true (.int .u8) 5 0],0,[]⟩) (.n none .z (.n none .z (.n (some ⟨[],[],[],[.reg 18 (.int .i64),.row 6 true (.int .u8) 5 0],0,[]⟩) (.n none (.n none .z (.n none (.ops [(3,(.n none (.n none .z (.n none (.dr [] []) .z)) .z))]) (.n none (.ops [(2,(.n none (.dr [] []) .z))]) .z))) .z) .z))) .z) .z))) .z) .z))) .z) .z)) (.n none .z .z)))) .z))]) .z)) (.n none (.n none .z (.n none (.n (some ⟨[29],[],[],[.reg 30 (.int .i64),.box 2 [(.int .i64),(.int .i64),(.ro true (.int .u8))] 54],0,[]⟩) (.n none .z (.n none .z (.n none (.n none (.n none .z (.ops [(5,(.n none (.n none .z (.n none (.ops [(2,(.n none (.n none .z (.n none .z .z)) .z))]) (.n none (.n none .z (.n none (.n (some ⟨[6,7,0,2,13],[2,4,5,8],[],[.reg 14 (.int .i64),.row 7 true (.int .u8) 5 0],0,[]⟩) (.n none .z (.n none .z (.n none (.n none (.n none .z (.n none .z (.n none (.n (some ⟨[14,8,17],[],[],[.reg 18 (.int .i64),.row 7 true (.int .u8) 5 0],0,[]⟩) (.n none .z (.n none .z (.n (some ⟨[],[],[],[.reg 18 (.int .i64),.row 7 true (.int .u8) 5 0],0,[]⟩) (.n none (.n none .z (.n none .z (.n none (.ops [(2,(.n none (.dr [] []) .z))]) .z))) .z) .z))) .z) .z))) .z) .z))) .z) .z)) (.n none .z .z)))) .z))])) .z) .z))) .z) .z)) (.n none .z .z))))))
noncomputable def bitmap_Turned_dc:List (Nat×Ctr):=[(82,bitmap_Is_ctr),(115,bitmap_stride_ctr),(136,bitmap_Turned_2_ctr)]
def bitmap_Turned_ctr:Ctr:=⟨(.pair (.ptr (.pair (.int .i64) (.pair (.int .i64) (.list (.int .u8))))) (.pair (.int .i64) .unit)),(.pair (.agg (.pair (.int .i64) (.pair (.int .i64) (.list (.int .u8))))) .unit),bitmap_Turned_r,100⟩
theorem bitmap_Turned_ok:CtrOk Try.prog 100 bitmap_Turned_ctr:=ctr_ok (l:=bitmap_Turned_dc) (f:=12) (an:=bitmap_Turned_an) ⟨bitmap_Is_ok,⟨bitmap_stride_ok,⟨bitmap_Turned_2_ok,trivial⟩⟩⟩ fun fu x=>by kernel_rfl
def camera_Capture_j4 (fu:Nat) (a:(Int×Int×List Int)×(Int×Int×Int×Int×Int×Int×Int×List Int)×Unit) (v4:(Int×Int×List Int)×Unit) (v7:Int) (v8:Int×List Int) (v9:Int) (j8:(Int×List Int)→Option ((Int×Int×List Int)×Int×Unit)) (v13:Int):Option ((Int×Int×List Int)×Int×Unit) :=
 bif ((decide ((0:Int)≤(IntKind.i64.wrap ((IntKind.i64.wrap (v7*(IntKind.i64.wrap ((IntKind.i64.wrap (v4.1.1*a.2.1.1))+(32:Int)))))+v9))))&&(decide ((IntKind.i64.wrap ((IntKind.i64.wrap (v7*(IntKind.i64.wrap ((IntKind.i64.wrap (v4.1.1*a.2.1.1))+(32:Int)))))+v9))<(List.length v8.2:Int)))) then
 j8 (((IntKind.i64.wrap (v8.1+(1:Int))),(List.set v8.2 (Int.toNat (IntKind.i64.wrap ((IntKind.i64.wrap (v7*(IntKind.i64.wrap ((IntKind.i64.wrap (v4.1.1*a.2.1.1))+(32:Int)))))+v9))) (IntKind.u8.wrap v13))))
 else none
def camera_Capture_j5 (fu:Nat) (a:(Int×Int×List Int)×(Int×Int×Int×Int×Int×Int×Int×List Int)×Unit) (j13:(Int)→Option ((Int×Int×List Int)×Int×Unit)) (v14:Bool×Int):Option ((Int×Int×List Int)×Int×Unit) :=
 bif v14.1 then
  let v15:Int:=a.2.1.2.2.2.2.2.2.1
  j13 (v15)
 else
 j13 (v14.2)
def camera_Capture_l3 (fu:Nat) (a:(Int×Int×List Int)×(Int×Int×Int×Int×Int×Int×Int×List Int)×Unit) (v4:(Int×Int×List Int)×Unit) (v6:Int×List Int) (v7:Int) (j6:(Int×List Int)→Option ((Int×Int×List Int)×Int×Unit)) (j8:(Int×List Int)→Option ((Int×Int×List Int)×Int×Unit)) (v8:Int×List Int):Option ((Int×Int×List Int)×Int×Unit) :=
 bif (decide (v8.1<(IntKind.i64.wrap ((IntKind.i64.wrap (v4.1.1*a.2.1.1))+(32:Int))))) then
  let v9:Int:=v8.1
  let v10:Int:=(IntKind.i64.wrap (v9-a.2.1.2.1))
  let v11:Int:=(IntKind.i64.wrap (v7-a.2.1.2.2.1))
  let v12:Int:=a.2.1.2.2.2.2.2.1
  joinF (camera_Capture_j4 fu a v4 v7 v8 v9 j8) fun j13 =>
  joinF (camera_Capture_j5 fu a j13) fun j14 =>
  bif (decide ((0:Int)≤v10)) then
   bif (decide ((0:Int)≤v11)) then
    bif (decide (a.2.1.1≠(0:Int))) then
    bif (decide (a.2.1.1≠(0:Int))) then
    bindO (bitmap_Is_r fu ((v4.1,((IntKind.i64.wrap (Int.tdiv v10 a.2.1.1)),((IntKind.i64.wrap (Int.tdiv v11 a.2.1.1)),()))))) fun v15 =>
    j14 ((v15.1,v12))
    else none
    else none
   else
   j14 ((false,v12))
  else
  j14 ((false,v12))
 else
 j6 (((IntKind.i64.wrap (v6.1+(1:Int))),v8.2))
def camera_Capture_l7 (fu:Nat) (a:(Int×Int×List Int)×(Int×Int×Int×Int×Int×Int×Int×List Int)×Unit) (v4:(Int×Int×List Int)×Unit) (v7:Int×List Int) (j7:(Int×List Int)→Option ((Int×Int×List Int)×Int×Unit)) (j8:(Int×List Int)→Option ((Int×Int×List Int)×Int×Unit)) (v8:Int×List Int):Option ((Int×Int×List Int)×Int×Unit) :=
 bif (decide (v8.1<(List.length v7.2:Int))) then
  let v9:Int:=v8.1
  bif (decide ((IntKind.i64.wrap ((IntKind.i64.wrap (v4.1.1*a.2.1.1))+(32:Int)))≠(0:Int))) then
  bif (decide ((IntKind.i64.wrap ((IntKind.i64.wrap (v4.1.1*a.2.1.1))+(32:Int)))≠(0:Int))) then
  bindO (camera_window_r fu ((((IntKind.i64.wrap ((IntKind.i64.wrap (v4.1.1*a.2.1.1))+(32:Int))),((IntKind.i64.wrap ((IntKind.i64.wrap (v4.1.2.1*a.2.1.1))+(32:Int))),v7.2)),((Int.tmod v9 (IntKind.i64.wrap ((IntKind.i64.wrap (v4.1.1*a.2.1.1))+(32:Int)))),((IntKind.i64.wrap (Int.tdiv v9 (IntKind.i64.wrap ((IntKind.i64.wrap (v4.1.1*a.2.1.1))+(32:Int))))),((1:Int),())))))) fun v10 =>
  let v11:Int:=v10.1
  let v12:Int:=v10.2.1
  bindO (curve_Nearest_r fu ((v11,(v12,())))) fun v13 =>
  bif ((decide ((0:Int)≤v9))&&(decide (v9<(List.length v8.2:Int)))) then
  j8 (((IntKind.i64.wrap (v8.1+(1:Int))),(List.set v8.2 (Int.toNat v9) (IntKind.u8.wrap v13.1))))
  else none
  else none
  else none
 else
 j7 (((IntKind.i64.wrap (v7.1+(1:Int))),v8.2))
def camera_Capture_j9 (fu:Nat) (j8:(Int×List Int)→Option ((Int×Int×List Int)×Int×Unit)) (v9:Int×List Int):Option ((Int×Int×List Int)×Int×Unit) :=
 j8 (((IntKind.i64.wrap (v9.1+(1:Int))),v9.2))
def camera_Capture_l8 (fu:Nat) (a:(Int×Int×List Int)×(Int×Int×Int×Int×Int×Int×Int×List Int)×Unit) (v4:(Int×Int×List Int)×Unit) (v7:Int×List Int) (j8:(Int×List Int)→Option ((Int×Int×List Int)×Int×Unit)) (v8:Int×List Int):Option ((Int×Int×List Int)×Int×Unit) :=
 bif (decide (v8.1<(List.length v7.2:Int))) then
  joinF (camera_Capture_j9 fu j8) fun j9 =>
  let v10:Int:=v8.1
  bif (decide ((0:Int)<(List.length a.2.1.2.2.2.2.2.2.2:Int))) then
   bif ((decide ((0:Int)≤v10))&&(decide (v10<(List.length v8.2:Int)))) then
   bif (decide ((List.length a.2.1.2.2.2.2.2.2.2:Int)≠(0:Int))) then
   bif ((decide ((0:Int)≤(Int.tmod v10 (List.length a.2.1.2.2.2.2.2.2.2:Int))))&&(decide ((Int.tmod v10 (List.length a.2.1.2.2.2.2.2.2.2:Int))<(List.length a.2.1.2.2.2.2.2.2.2:Int)))) then
   let v11:Int:=(List.getD a.2.1.2.2.2.2.2.2.2 (Int.toNat (Int.tmod v10 (List.length a.2.1.2.2.2.2.2.2.2:Int))) 0)
   bif ((decide ((0:Int)≤v10))&&(decide (v10<(List.length v8.2:Int)))) then
   j9 ((v8.1,(List.set v8.2 (Int.toNat v10) (IntKind.u8.wrap (max (0:Int) (min (255:Int) (IntKind.i64.wrap ((IntKind.i64.wrap (List.getD v8.2 (Int.toNat v10) 0))+v11))))))))
   else none
   else none
   else none
   else none
  else
  j9 (v8)
 else
 some ((((IntKind.i64.wrap ((IntKind.i64.wrap (v4.1.1*a.2.1.1))+(32:Int))),((IntKind.i64.wrap ((IntKind.i64.wrap (v4.1.2.1*a.2.1.1))+(32:Int))),v8.2)),((0:Int),())))
def camera_Capture_l6 (fu:Nat) (a:(Int×Int×List Int)×(Int×Int×Int×Int×Int×Int×Int×List Int)×Unit) (v4:(Int×Int×List Int)×Unit) (j7:(Int×List Int)→Option ((Int×Int×List Int)×Int×Unit)) (v7:Int×List Int):Option ((Int×Int×List Int)×Int×Unit) :=
 bif (decide (v7.1<a.2.1.2.2.2.2.1)) then
  bif (decide (((List.length v7.2:Int)*(1:Int))≤(140737488355328:Int))) then
  loopF (camera_Capture_l7 fu a v4 v7 j7) fu (((0:Int),v7.2))
  else none
 else
 loopF (camera_Capture_l8 fu a v4 v7) fu (((0:Int),v7.2))
def camera_Capture_l2 (fu:Nat) (a:(Int×Int×List Int)×(Int×Int×Int×Int×Int×Int×Int×List Int)×Unit) (v4:(Int×Int×List Int)×Unit) (j6:(Int×List Int)→Option ((Int×Int×List Int)×Int×Unit)) (v6:Int×List Int):Option ((Int×Int×List Int)×Int×Unit) :=
 bif (decide (v6.1<(IntKind.i64.wrap ((IntKind.i64.wrap (v4.1.2.1*a.2.1.1))+(32:Int))))) then
  let v7:Int:=v6.1
  loopF (camera_Capture_l3 fu a v4 v6 v7 j6) fu (((0:Int),v6.2))
 else
 loopF (camera_Capture_l6 fu a v4) fu (((0:Int),v6.2))
def camera_Capture_j1 (fu:Nat) (a:(Int×Int×List Int)×(Int×Int×Int×Int×Int×Int×Int×List Int)×Unit) (v4:(Int×Int×List Int)×Unit) (v5:Bool):Option ((Int×Int×List Int)×Int×Unit) :=
 bif v5 then
  some ((((0:Int),((0:Int),([]:List (Int)))),((19:Int),())))
 else
 bif ((decide ((0:Int)≤(IntKind.i64.wrap ((IntKind.i64.wrap ((IntKind.i64.wrap (v4.1.1*a.2.1.1))+(32:Int)))*(IntKind.i64.wrap ((IntKind.i64.wrap (v4.1.2.1*a.2.1.1))+(32:Int)))))))&&(decide (((1:Int)*(IntKind.i64.wrap ((IntKind.i64.wrap ((IntKind.i64.wrap (v4.1.1*a.2.1.1))+(32:Int)))*(IntKind.i64.wrap ((IntKind.i64.wrap (v4.1.2.1*a.2.1.1))+(32:Int))))))≤(281474976710656:Int)))) then
 loopF (camera_Capture_l2 fu a v4) fu (((0:Int),(List.replicate (Int.toNat (IntKind.i64.wrap ((IntKind.i64.wrap ((IntKind.i64.wrap (v4.1.1*a.2.1.1))+(32:Int)))*(IntKind.i64.wrap ((IntKind.i64.wrap (v4.1.2.1*a.2.1.1))+(32:Int)))))) (0:Int))))
 else none
def camera_Capture_r (fu:Nat) (a:(Int×Int×List Int)×(Int×Int×Int×Int×Int×Int×Int×List Int)×Unit):Option ((Int×Int×List Int)×Int×Unit) :=
 bindO (bitmap_Check_r fu ((a.1,()))) fun v0 =>
 let v1:Int:=v0.1
 bif (decide (v1≠(0:Int))) then
  some ((((0:Int),((0:Int),([]:List (Int)))),(v1,())))
 else
 bindO (camera_CheckView_r fu ((a.2.1,()))) fun v2 =>
 let v3:Int:=v2.1
 bif (decide (v3≠(0:Int))) then
  some ((((0:Int),((0:Int),([]:List (Int)))),(v3,())))
 else
 bindO (bitmap_Turned_r fu ((a.1,(a.2.1.2.2.2.1,())))) fun v4 =>
 joinF (camera_Capture_j1 fu a v4) fun j5 =>
 bif (decide ((1024:Int)<(IntKind.i64.wrap ((IntKind.i64.wrap (v4.1.1*a.2.1.1))+(32:Int))))) then
  j5 (true)
 else
 j5 ((decide ((1024:Int)<(IntKind.i64.wrap ((IntKind.i64.wrap (v4.1.2.1*a.2.1.1))+(32:Int))))))
def camera_Capture_an:An:=(.n none .z (.n none (.n none .z (.n none .z (.n none (.n none .z .z) .z))) (.n none (.n none .z (.n none .z (.n none (.n none .z .z) .z))) (.n none .z (.n none .z (.n none (.n (some ⟨[4,9,3,8],[0,2,3,1,4],[],[.reg 55 .bool],0,[]⟩) .z (.n none (.n none .z .z) .z)) (.n none .z (.n none (.n none .z (.n none (.n (some ⟨[4,9,3,8,65],[3,1,2,4],[],[.reg 66 (.int .i64),.row 5 true (.int .u8) 5 0],0,[]⟩) (.n none .z (.n none .z (.n none (.n none (.n none .z (.n none .z (.n none (.n (some ⟨[66,10,70],[],[],[.reg 71 (.int .i64),.row 5 true (.int .u8) 5 0],0,[]⟩) (.n none .z (.n none .z (.n none (.n none (.n none .z (.n none (.dr [] []) (.n none .z (.n (some ⟨[11,71],[5],[],[.reg 14 (.int .i64)],0,[]⟩) (.n (some ⟨[],[],[],[.reg 100 .bool,.reg 14 (.int .i64)],0,[]⟩) (.dr [] []) (.n none .z .z)) .z)))) .z) .z))) .z) .z))) .z) .z))) .z) .z)) (.n none (.n none .z (.n none (.n (some ⟨[3,9,4,117],[3,4,2,1],[],[.reg 118 (.int .i64),.row 5 true (.int .u8) 5 0],0,[]⟩) (.n none .z (.n none .z (.n none (.n none (.n none .z (.n none .z (.n none .z (.n none (.n (some ⟨[118,15,127],[7,6],[],[.reg 128 (.int .i64),.row 5 true (.int .u8) 5 0],0,[]⟩) (.n none .z (.n none .z (.n none (.n none (.n none .z (.n none (.dr [] []) (.dr [] []))) .z) .z))) .z) .z)))) .z) .z))) .z) .z)) (.n none (.n none .z (.n none (.n (some ⟨[4,9,3,155],[2,1,4],[],[.reg 156 (.int .i64),.row 5 true (.int .u8) 5 0],0,[]⟩) (.n none .z (.n none .z (.n (some ⟨[],[],[],[.reg 156 (.int .i64),.row 5 true (.int .u8) 5 0],0,[]⟩) (.n none (.n none .z (.n none .z (.n none (.dr [] []) .z))) .z) .z))) .z) .z)) (.n none .z .z)))))))))))
noncomputable def camera_Capture_dc:List (Nat×Ctr):=[(61,camera_CheckView_ctr),(72,curve_Nearest_ctr),(81,bitmap_Check_ctr),(82,bitmap_Is_ctr),(100,bitmap_Turned_ctr),(101,camera_window_ctr)]
def camera_Capture_ctr:Ctr:=⟨(.pair (.agg (.pair (.int .i64) (.pair (.int .i64) (.list (.int .u8))))) (.pair (.agg (.pair (.int .i64) (.pair (.int .i64) (.pair (.int .i64) (.pair (.int .i64) (.pair (.int .i64) (.pair (.int .i64) (.pair (.int .i64) (.list (.int .i64)))))))))) .unit)),(.pair (.agg (.pair (.int .i64) (.pair (.int .i64) (.list (.int .u8))))) (.pair (.int .i64) .unit)),camera_Capture_r,59⟩
theorem camera_Capture_ok:CtrOk Try.prog 59 camera_Capture_ctr:=ctr_ok (l:=camera_Capture_dc) (f:=12) (an:=camera_Capture_an) ⟨camera_CheckView_ok,⟨curve_Nearest_ok,⟨bitmap_Check_ok,⟨bitmap_Is_ok,⟨bitmap_Turned_ok,⟨camera_window_ok,trivial⟩⟩⟩⟩⟩⟩ fun fu x=>by kernel_rfl
end Go.Proofs.Ytelpkjellakigaa
/- Runs that answer some calls by residual programs. No program in sight. -/
namespace Go.Proofs.Ytelpkjellakigaa.Rn
open Go Go.RowKit Go.Proofs.Ytelpkjellakigaa
set_option linter.unusedSimpArgs false
set_option linter.unusedSectionVars false
set_option linter.unusedVariables false
def rowsD {α:Type} (f:List AV→Option (α×List AV)):List (List AV)→Option (List α)
 | []=>some []
 | row::l=>match f row with
  | some (x,[])=>match rowsD f l with
   | some xs=>some (x::xs)
   | none=>none
  | _=>none
def kindE (k k':IntKind):Bool:=decide (k=k')
def decC:(t:Ty)→List AV→Option (t.den×List AV)
 | .int k,l=>match l with
  | .int k' n::l=>bif kindE k' k then some (n,l) else none
  | _=>none
 | .bool,l=>match l with
  | .bool b::l=>some (b,l)
  | _=>none
 | .str,l=>match l with
  | .str s::l=>some (s.data.toList,l)
  | _=>none
 | .list t,l=>match l with
  | .ro _ sz rows::l=>bif Nat.beq sz t.size then (match rowsD (decC t) rows with
   | some xs=>some (xs,l)
   | none=>none) else none
  | _=>none
 | .unit,l=>some ((),l)
 | .pair a b,l=>match decC a l with
  | some (x,l')=>match decC b l' with
   | some (y,l'')=>some ((x,y),l'')
   | none=>none
  | none=>none
 | .agg t,l=>decC t l
 | .ptr _,_=>none
def allD (l:List (List AV)):Bool:=l.all fun row=>row.all isD
def fzC (hp:List (Nat×AB)):(t:Ty)→List AV→Option (t.den×List AV)
 | .int k,l=>match l with
  | .int k' n::l=>bif kindE k' k then some (n,l) else none
  | _=>none
 | .bool,l=>match l with
  | .bool b::l=>some (b,l)
  | _=>none
 | .str,l=>match l with
  | .str s::l=>some (s.data.toList,l)
  | _=>none
 | .list t,l=>match l with
  | a::l=>(match a with
   | .nils=>some ([],l)
   | .ro _ sz rows=>bif Nat.beq sz t.size then (match rowsD (decC t) rows with
    | some xs=>some (xs,l)
    | none=>none) else none
   | .osl id n=>(match look .dead hp id with
    | .row sz rows _=>bif Nat.beq sz t.size&&Nat.beq n rows.length&&t.flat then (match rowsD (fzC hp t) rows with
     | some xs=>some (xs,l)
     | none=>none) else none
    | _=>none)
   | .vsl id n lo len=>(match look .dead hp id with
    | .row sz rows _=>bif Nat.beq sz t.size&&Nat.beq n rows.length&&allD rows then (match rowsD (decC t) ((rows.drop lo).take len) with
     | some xs=>some (xs,l)
     | none=>none) else none
    | _=>none)
   | _=>none)
  | []=>none
 | .unit,l=>some ((),l)
 | .pair a b,l=>match fzC hp a l with
  | some (x,l')=>match fzC hp b l' with
   | some (y,l'')=>some ((x,y),l'')
   | none=>none
  | none=>none
 | .agg t,l=>fzC hp t l
 | .ptr _,_=>none
def fzV (hp:List (Nat×AB)):(t:Ty)→AV→Option t.den
 | .agg t,a=>match a with
  | .agg cs=>match fzC hp t cs with
   | some (x,[])=>some x
   | _=>none
  | _=>none
 | .ptr t,a=>match a with
  | .box id 0=>match look .dead hp id with
   | .box cs _=>match fzC hp t cs with
    | some (x,[])=>bif Nat.blt 0 t.size then some x else none
    | _=>none
   | _=>none
  | _=>none
 | .int k,a=>match fzC hp (.int k) [a] with
  | some (x,[])=>some x
  | _=>none
 | .bool,a=>match fzC hp .bool [a] with
  | some (x,[])=>some x
  | _=>none
 | .str,a=>match fzC hp .str [a] with
  | some (x,[])=>some x
  | _=>none
 | .list t,a=>match fzC hp (.list t) [a] with
  | some (x,[])=>some x
  | _=>none
 | .unit,_=>none
 | .pair _ _,_=>none
def fzA (hp:List (Nat×AB)):(t:Ty)→List AV→Option t.den
 | .pair a b,l=>match l with
  | x::l=>match fzV hp a x,fzA hp b l with
   | some u,some v=>some (u,v)
   | _,_=>none
  | []=>none
 | .unit,l=>match l with
  | []=>some ()
  | _=>none
 | _,_=>none
section
variable {hp:List (Nat×AB)}
theorem rowsD_at {α:Type} {f:List AV→Option (α×List AV)}:∀ {rows:List (List AV)} {xs:List α},rowsD f rows=some xs→rows.length=xs.length∧∀ (i:Nat) (row:List AV) (x:α),rows[i]?=some row→xs[i]?=some x→f row=some (x,[])
 | [],xs,h=>by injection h with h;subst h;exact ⟨rfl,fun i row x h=>by simp at h⟩
 | r::l,xs,h=>by
  rw [rowsD] at h;split at h
  ·rename_i x h1;split at h
   ·rename_i ys h2;injection h with h
    subst h;obtain ⟨e1,e2⟩:=rowsD_at h2;refine ⟨by simp [e1],fun i row y hr hy=>?_⟩
    cases i with
    | zero=>simp at hr hy;subst hr;subst hy;exact h1
    | succ i=>exact e2 i row y (by simpa using hr) (by simpa using hy)
   ·cases h
  ·cases h
theorem oldR_app (l m:List AV):oldR (l++m)=oldR l++oldR m:=oldR_append l m
theorem old_rows {t:Ty} {rows:List (List AV)} {xs:List t.den} (hl:rows.length=xs.length) (h:∀ (i:Nat) (row:List AV) (x:t.den),rows[i]?=some row→xs[i]?=some x→oldR row=t.cells false x):oldRR rows=xs.map (t.cells false):=by
 rw [oldRR_map];apply List.ext_getElem?;intro i;rw [List.getElem?_map,List.getElem?_map];by_cases hi:i<rows.length
 ·have h1:rows[i]?=some rows[i]:=List.getElem?_eq_getElem hi;have h2:xs[i]?=some xs[i]:=List.getElem?_eq_getElem (by omega);rw [h1,h2];exact congrArg some (h i _ _ h1 h2)
 ·rw [List.getElem?_eq_none (by omega),List.getElem?_eq_none (by omega)];rfl
theorem decC_ok:∀ (t:Ty) (l:List AV) (x:t.den) (r:List AV),decC t l=some (x,r)→∃ pre,l=pre++r∧oldR pre=t.cells false x∧∀ a ∈ pre,isD a=true
 | .int k,l,x,r,h=>by
  rw [decC.eq_def] at h;simp only at h;split at h
  ·rename_i k' n l'
   cases hc:kindE k' k with
   | false=>rw [hc] at h;cases h
   | true =>
    rw [hc] at h;simp only [cond_true,Option.some.injEq,Prod.mk.injEq] at h;obtain ⟨rfl,rfl⟩:=h;have:=of_decide_eq_true hc;subst this;exact ⟨[.int k' n],rfl,by simp [oldR,AV.old,Ty.cells],by simp [isD]⟩
  ·cases h
 | .bool,l,x,r,h=>by
  rw [decC.eq_def] at h;simp only at h;split at h
  ·rename_i b l';simp only [Option.some.injEq,Prod.mk.injEq] at h;obtain ⟨rfl,rfl⟩:=h;exact ⟨[.bool b],rfl,by simp [oldR,AV.old,Ty.cells],by simp [isD]⟩
  ·cases h
 | .str,l,x,r,h=>by
  rw [decC.eq_def] at h;simp only at h;split at h
  ·rename_i b l';simp only [Option.some.injEq,Prod.mk.injEq] at h;obtain ⟨rfl,rfl⟩:=h;exact ⟨[.str b],rfl,by simp [oldR,AV.old,Ty.cells],by simp [isD]⟩
  ·cases h
 | .list t,l,x,r,h=>by
  rw [decC.eq_def] at h;simp only at h;split at h
  ·rename_i fr sz rows l'
   cases hc:Nat.beq sz t.size with
   | false=>rw [hc] at h;cases h
   | true =>
    rw [hc] at h;simp only [cond_true] at h;split at h
    ·rename_i xs h1;simp only [Option.some.injEq,Prod.mk.injEq] at h;obtain ⟨rfl,rfl⟩:=h;obtain ⟨e1,e2⟩:=rowsD_at h1;refine ⟨[.ro fr sz rows],rfl,?_,by simp [isD]⟩
     have hr:oldRR rows=xs.map (t.cells false):=old_rows e1 fun i row y hr hy=>by
      obtain ⟨pre,g1,g2,_⟩:=decC_ok t row y [] (e2 i row y hr hy);rw [g1,List.append_nil];exact g2
     simp only [oldR,AV.old,Ty.cells,hr,Nat.eq_of_beq_eq_true hc]
    ·cases h
  ·cases h
 | .unit,l,x,r,h=>by
  rw [decC] at h;simp only [Option.some.injEq,Prod.mk.injEq] at h;obtain ⟨_,rfl⟩:=h;exact ⟨[],rfl,by simp [oldR,Ty.cells],by simp⟩
 | .pair a b,l,x,r,h=>by
  rw [decC] at h;split at h
  ·rename_i u l1 h1;split at h
   ·rename_i v l2 h2;simp only [Option.some.injEq,Prod.mk.injEq] at h;obtain ⟨rfl,rfl⟩:=h;obtain ⟨p1,q1,q2,q3⟩:=decC_ok a l u l1 h1;obtain ⟨p2,q4,q5,q6⟩:=decC_ok b l1 v l2 h2;refine ⟨p1++p2,by rw [q1,q4,List.append_assoc],by rw [oldR_app,q2,q5,Ty.cells],fun c hc=>?_⟩;rcases List.mem_append.1 hc with hc | hc
    ·exact q3 c hc
    ·exact q6 c hc
   ·cases h
  ·cases h
 | .agg t,l,x,r,h=>by
  rw [decC] at h;obtain ⟨pre,g1,g2,g3⟩:=decC_ok t l x r h;exact ⟨pre,g1,by rw [g2,Ty.cells],g3⟩
 | .ptr _,l,x,r,h=>by rw [decC] at h;cases h
theorem one_frz {a b:AV} (h:FrzA hp a b):FrzL hp [a] [b]:=.cons h .nil
theorem fzC_ok:∀ (t:Ty) (l:List AV) (x:t.den) (r:List AV),fzC hp t l=some (x,r)→∃ pre,l=pre++r∧FrzL hp pre (t.cells false x)
 | .int k,l,x,r,h=>by
  rw [fzC.eq_def] at h;simp only at h;split at h
  ·rename_i k' n l'
   cases hc:kindE k' k with
   | false=>rw [hc] at h;cases h
   | true =>
    rw [hc] at h;simp only [cond_true,Option.some.injEq,Prod.mk.injEq] at h;obtain ⟨rfl,rfl⟩:=h;have:=of_decide_eq_true hc;subst this;exact ⟨[.int k' n],rfl,by rw [Ty.cells];exact one_frz (.dat _ rfl _ (by rw [AV.old]))⟩
  ·cases h
 | .bool,l,x,r,h=>by
  rw [fzC.eq_def] at h;simp only at h;split at h
  ·rename_i b l';simp only [Option.some.injEq,Prod.mk.injEq] at h;obtain ⟨rfl,rfl⟩:=h;exact ⟨[.bool b],rfl,by rw [Ty.cells];exact one_frz (.dat _ rfl _ (by rw [AV.old]))⟩
  ·cases h
 | .str,l,x,r,h=>by
  rw [fzC.eq_def] at h;simp only at h;split at h
  ·rename_i b l';simp only [Option.some.injEq,Prod.mk.injEq] at h;obtain ⟨rfl,rfl⟩:=h;exact ⟨[.str b],rfl,by rw [Ty.cells];exact one_frz (.dat _ rfl _ (by rw [AV.old]))⟩
  ·cases h
 | .list t,l,x,r,h=>by
  rw [fzC.eq_def] at h;simp only at h;split at h
  ·rename_i a l';split at h
   ·simp only [Option.some.injEq,Prod.mk.injEq] at h;obtain ⟨rfl,rfl⟩:=h;exact ⟨[.nils],rfl,by rw [Ty.cells];exact one_frz (.nilro _)⟩
   ·rename_i fr sz rows
    cases hc:Nat.beq sz t.size with
    | false=>rw [hc] at h;cases h
    | true =>
     rw [hc] at h;simp only [cond_true] at h;split at h
     ·rename_i xs h1;simp only [Option.some.injEq,Prod.mk.injEq] at h;obtain ⟨rfl,rfl⟩:=h;obtain ⟨e1,e2⟩:=rowsD_at h1
      have hr:oldRR rows=xs.map (t.cells false):=old_rows e1 fun i row y hr hy=>by
       obtain ⟨pre,g1,g2,_⟩:=decC_ok t row y [] (e2 i row y hr hy);rw [g1,List.append_nil];exact g2
      exact ⟨[.ro fr sz rows],rfl,by rw [Ty.cells];exact one_frz (.dat _ rfl _ (by rw [AV.old,hr,Nat.eq_of_beq_eq_true hc]))⟩
     ·cases h
   ·rename_i id n;split at h
    ·rename_i sz rows e hb
     cases hc:(Nat.beq sz t.size&&Nat.beq n rows.length&&t.flat) with
     | false=>rw [hc] at h;cases h
     | true =>
      rw [hc] at h;simp only [cond_true] at h;simp only [Bool.and_eq_true] at hc;split at h
      ·rename_i xs h1;simp only [Option.some.injEq,Prod.mk.injEq] at h;obtain ⟨rfl,rfl⟩:=h;obtain ⟨e1,e2⟩:=rowsD_at h1;have c1:=Nat.eq_of_beq_eq_true hc.1.1;subst c1
       have key:∀ (i:Nat) (row row':List AV),rows[i]?=some row→(xs.map (t.cells false))[i]?=some row'→FrzL hp row row':=fun i row row' hr hr'=>by
        rw [List.getElem?_map] at hr';obtain ⟨y,hy,rfl⟩:=Option.map_eq_some_iff.1 hr';obtain ⟨pre,g1,g2⟩:=fzC_ok t row y [] (e2 i row y hr hy);rw [g1,List.append_nil];exact g2
       refine ⟨[.osl id n],rfl,by
        rw [Ty.cells];refine one_frz (.oslN id n t.size rows _ e hb (Nat.eq_of_beq_eq_true hc.1.2) (by simpa using e1) (fun i row row' hr hr'=>(key i row row' hr hr').len) (fun i row row' j a a' hr hr' ha ha'=>(key i row row' hr hr').at j a a' ha ha') (fun row hr a ha=>?_));obtain ⟨y,_,rfl⟩:=List.mem_map.1 hr
        exact t.cells_isD _ _ a ha⟩
      ·cases h
    ·cases h
   ·rename_i id n lo len;split at h
    ·rename_i sz rows e hb
     cases hc:(Nat.beq sz t.size&&Nat.beq n rows.length&&allD rows) with
     | false=>rw [hc] at h;cases h
     | true =>
      rw [hc] at h;simp only [cond_true] at h;simp only [Bool.and_eq_true] at hc;split at h
      ·rename_i xs h1;simp only [Option.some.injEq,Prod.mk.injEq] at h;obtain ⟨rfl,rfl⟩:=h;obtain ⟨e1,e2⟩:=rowsD_at h1;have c1:=Nat.eq_of_beq_eq_true hc.1.1;subst c1
       have hr:oldRR ((rows.drop lo).take len)=xs.map (t.cells false):=old_rows e1 fun i row y hr hy=>by
        obtain ⟨pre,g1,g2,_⟩:=decC_ok t row y [] (e2 i row y hr hy);rw [g1,List.append_nil];exact g2
       exact ⟨[.vsl id n lo len],rfl,by
        rw [Ty.cells]
        exact one_frz (.vsl id n lo len t.size rows _ e hb (Nat.eq_of_beq_eq_true hc.1.2) (fun row hr a ha=>List.all_eq_true.1 (List.all_eq_true.1 hc.2 row hr) a ha) hr)⟩
      ·cases h
    ·cases h
   ·cases h
  ·cases h
 | .unit,l,x,r,h=>by
  rw [fzC] at h;simp only [Option.some.injEq,Prod.mk.injEq] at h;obtain ⟨_,rfl⟩:=h;exact ⟨[],rfl,by rw [Ty.cells];exact .nil⟩
 | .pair a b,l,x,r,h=>by
  rw [fzC] at h;split at h
  ·rename_i u l1 h1;split at h
   ·rename_i v l2 h2;simp only [Option.some.injEq,Prod.mk.injEq] at h;obtain ⟨rfl,rfl⟩:=h;obtain ⟨p1,q1,q2⟩:=fzC_ok a l u l1 h1;obtain ⟨p2,q4,q5⟩:=fzC_ok b l1 v l2 h2;exact ⟨p1++p2,by rw [q1,q4,List.append_assoc],by rw [Ty.cells];exact q2.append q5⟩
   ·cases h
  ·cases h
 | .agg t,l,x,r,h=>by
  rw [fzC] at h;obtain ⟨pre,g1,g2⟩:=fzC_ok t l x r h;exact ⟨pre,g1,by rw [Ty.cells];exact g2⟩
 | .ptr _,l,x,r,h=>by rw [fzC] at h;cases h
theorem fzC_one {t:Ty} {a b:AV} {x:t.den} (h:fzC hp t [a]=some (x,[])) (hb:t.cells false x=[b]):FrzA hp a b:=by
 obtain ⟨pre,g1,g2⟩:=fzC_ok t [a] x [] h;rw [List.append_nil] at g1;subst g1;rw [hb] at g2;exact g2.at 0 a b rfl rfl
theorem fzV_ok (t:Ty) (a:AV) (x:t.den) (h:fzV hp t a=some x):FrzA hp a (t.av false x):=by
 cases t with
 | agg t =>
  rw [fzV.eq_def] at h;simp only at h;split at h
  ·rename_i cs;split at h
   ·rename_i y h1;injection h with h
    subst h;obtain ⟨pre,g1,g2⟩:=fzC_ok t cs y [] h1;rw [List.append_nil] at g1;subst g1;rw [Ty.av];exact .agg _ _ g2.len g2.at
   ·cases h
  ·cases h
 | ptr t =>
  rw [fzV.eq_def] at h;simp only at h;split at h
  ·rename_i id;split at h
   ·rename_i cs e hb;split at h
    ·rename_i y h1
     cases hc:Nat.blt 0 t.size with
     | false=>rw [hc] at h;cases h
     | true =>
      rw [hc] at h;injection h with h
      subst h;obtain ⟨pre,g1,g2⟩:=fzC_ok t cs y [] h1;rw [List.append_nil] at g1;subst g1;rw [Ty.av];refine .peekBox id _ _ e hb g2.len g2.at (t.cells_isD _ _) (fun e1=>?_);have:=t.cells_length false y;rw [e1] at this;simp at hc;simp at this;omega
    ·cases h
   ·cases h
  ·cases h
 | int k =>
  rw [fzV.eq_def] at h;simp only at h;split at h
  ·rename_i y h1;injection h with h
   subst h;exact fzC_one h1 (by rw [Ty.cells,Ty.av])
  ·cases h
 | bool =>
  rw [fzV.eq_def] at h;simp only at h;split at h
  ·rename_i y h1;injection h with h
   subst h;exact fzC_one h1 (by rw [Ty.cells,Ty.av])
  ·cases h
 | str =>
  rw [fzV.eq_def] at h;simp only at h;split at h
  ·rename_i y h1;injection h with h
   subst h;exact fzC_one h1 (by rw [Ty.cells,Ty.av])
  ·cases h
 | list t =>
  rw [fzV.eq_def] at h;simp only at h;split at h
  ·rename_i y h1;injection h with h
   subst h;exact fzC_one h1 (by rw [Ty.cells,Ty.av])
  ·cases h
 | unit=>rw [fzV.eq_def] at h;cases h
 | pair a b=>rw [fzV.eq_def] at h;cases h
theorem fzA_ok:∀ (t:Ty) (l:List AV) (x:t.den),fzA hp t l=some x→FrzL hp l (t.avs false x)
 | .pair a b,l,x,h=>by
  rw [fzA.eq_def] at h;simp only at h;split at h
  ·rename_i c l;split at h
   ·rename_i u v h1 h2;injection h with h
    subst h;rw [Ty.avs];exact .cons (fzV_ok a c u h1) (fzA_ok b l v h2)
   ·cases h
  ·cases h
 | .unit,l,x,h=>by
  rw [fzA.eq_def] at h;simp only at h;split at h
  ·rw [Ty.avs]
   ·exact .nil
   ·simp
  ·cases h
 | .int k,l,x,h=>by rw [fzA.eq_def] at h;cases h
 | .bool,l,x,h=>by rw [fzA.eq_def] at h;cases h
 | .str,l,x,h=>by rw [fzA.eq_def] at h;cases h
 | .list t,l,x,h=>by rw [fzA.eq_def] at h;cases h
 | .agg t,l,x,h=>by rw [fzA.eq_def] at h;cases h
 | .ptr t,l,x,h=>by rw [fzA.eq_def] at h;cases h
end
def orc (fu:Nat) (l:List (Nat×Ctr)):SelfT:=fun F xs hp nx=>match lk l F with
 | some c=>match fzA hp c.a xs with
  | some x=>match c.f fu x with
   | some y=>some (oneOf (c.r.avs true y),hp,nx)
   | none=>none
  | none=>none
 | none=>none
theorem orc_ok {P:Program} {fu:Nat} {l:List (Nat×Ctr)} (hl:allP (CtrOk P) l):SelfOk P (orc fu l):=fun F xs hp nx x hp' nx' h=>by
 unfold orc at h;split at h
 ·rename_i c h1;split at h
  ·rename_i z h2;split at h
   ·rename_i y h3;simp only [Option.some.injEq,Prod.mk.injEq] at h;obtain ⟨rfl,rfl,rfl⟩:=h;have hz:=fzA_ok _ _ _ h2;exact AC.of_AF (allP_at hl h1 fu z y h3) hz.len hz.at ⟨rfl,rfl,rfl⟩
   ·cases h
  ·cases h
 ·cases h
def runO (C:Ctx) (fl:Nat) (O:SelfT):Nat→SelfT
 | 0,_,_,_,_=>none
 | f+1,F,xs,hp,nx=>match fL1 xs fun xs=>O F xs hp nx with
  | some r=>some r
  | none=>match lk C.fns F with
   | some fn=>match fn.body with
    | some c=>bif Nat.ble xs.length fn.ntmps then (match fL1 xs fun xs=>outC C fn.results.toList (runC C (runO C fl O f) fl fn.ntmps c ⟨argR 0 xs,hp,nx⟩) with
     | some (x,hp2,nx2)=>gcK hp2 nx x fun hp3=>some (x,hp3,nx2)
     | none=>none) else none
    | none=>none
   | none=>none
section
variable {P:Program}
theorem runO_ok {C:Ctx} (hC:C.ok P) (fl:Nat) {O:SelfT} (hO:SelfOk P O):∀ f,SelfOk P (runO C fl O f)
 | 0=>fun F xs hp nx x hp' nx' h=>by cases h
 | f+1=>fun F xs hp nx x hp' nx' h=>by
  rw [runO] at h;split at h
  ·rename_i r hr;injection h with h
   subst h;rw [fL1_eq] at hr;exact hO F xs hp nx x hp' nx' hr
  ·split at h
   ·rename_i fn h1;split at h
    ·rename_i c h2
     cases hb:Nat.ble xs.length fn.ntmps with
     | false=>rw [hb] at h;cases h
     | true =>
      rw [hb] at h;simp only [cond_true] at h;split at h
      ·rename_i x2 hp2 nx2 h0;obtain ⟨hp3,g1,g2⟩:=gcK_eq hp2 nx x2;rw [g2] at h;simp only [Option.some.injEq,Prod.mk.injEq] at h;obtain ⟨rfl,rfl,rfl⟩:=h;refine AC.lesH (hp1:=hp2) ?_ g1;rw [fL1_eq] at h0;exact out_ok hC (runO_ok hC fl hO f) h1 h2 hb h0
      ·cases h
    ·cases h
   ·cases h
def okRunO (C:Ctx) (fl:Nat) (O:SelfT) (f:Nat) (F:Nat) (xs:List AV):Option AV:=match runO C fl O f F xs [] 0 with
 | some (y,hp,_)=>frzRC hp 8 y
 | none=>none
theorem AF.runO {C:Ctx} (hC:C.ok P) (fl fu f:Nat) {l:List (Nat×Ctr)} (hl:allP (CtrOk P) l) {F:Nat} {xs:List AV} {y:AV} (h:okRunO C fl (orc fu l) f F xs=some y):AF P F xs y:=by
 unfold okRunO at h;split at h
 ·rename_i x hp nx h1;exact AF.of_AC ((runO_ok hC fl (orc_ok hl) f _ _ _ _ _ _ _ h1).mono (by rintro x1 hp1 nx1 ⟨rfl,rfl,rfl⟩;exact frzRC_ok 8 _ _ h))
 ·cases h
end
end Go.Proofs.Ytelpkjellakigaa.Rn
/- Plain facts for residual programs. No program in sight. -/
namespace Go.Proofs.Ytelpkjellakigaa
open Go Go.RowKit
theorem loopF_spec {α β:Type} {f:(α→Option β)→α→Option β} (μ:α→Nat) (I:α→Prop) (S:α→Option β) (h:∀ j x,I x→(∀ x',I x'→μ x'<μ x→j x'=S x')→f j x=S x):∀ (fu:Nat) (x:α),I x→μ x<fu→loopF f fu x=S x
 | 0,_,_,h0=>absurd h0 (Nat.not_lt_zero _)
 | fu+1,x,hI,hm=>by
  rw [loopF];exact h _ x hI fun x' h1 h2=>loopF_spec μ I S h fu x' h1 (by omega)
theorem bif_pos {α:Type} {p:Prop} [Decidable p] {a b:α} (h:p):(bif decide p then a else b)=a:=by rw [decide_eq_true h];rfl
theorem bif_neg {α:Type} {p:Prop} [Decidable p] {a b:α} (h:¬ p):(bif decide p then a else b)=b:=by rw [decide_eq_false h];rfl
theorem bif_and {α:Type} {p q:Prop} [Decidable p] [Decidable q] {a b:α} (h:p) (k:q):(bif decide p&&decide q then a else b)=a:=by rw [decide_eq_true h,decide_eq_true k];rfl
theorem bif_nand {α:Type} {p q:Prop} [Decidable p] [Decidable q] {a b:α} (h:¬ (p∧q)):(bif decide p&&decide q then a else b)=b:=by
 by_cases hp:p
 ·rw [decide_eq_false (fun hq=>h ⟨hp,hq⟩:¬ q),Bool.and_false];rfl
 ·rw [decide_eq_false hp];rfl
theorem joinF_eq {α β:Type} (J:α→Option β) (b:(α→Option β)→Option β):joinF J b=b J:=rfl
theorem bindO_some {α β:Type} (x:α) (k:α→Option β):bindO (some x) k=k x:=rfl
def FU:Nat:=18446744073709551616
theorem FU_val:FU=18446744073709551616:=rfl
def allFrom (p:Nat→Bool) (n i:Nat):Bool:=(List.range' i (n-i)).all p
theorem allFrom_lt {p:Nat→Bool} {n i:Nat} (h:i<n):allFrom p n i=(p i&&allFrom p n (i+1)):=by
 unfold allFrom;rw [show n-i=(n-(i+1))+1 by omega,List.range'_succ,List.all_cons]
theorem allFrom_ge {p:Nat→Bool} {n i:Nat} (h:n≤i):allFrom p n i=true:=by
 unfold allFrom;rw [show n-i=0 by omega];rfl
theorem allFrom_zero (p:Nat→Bool) (n:Nat):allFrom p n 0=(List.range n).all p:=by
 unfold allFrom;rw [Nat.sub_zero,List.range_eq_range']
end Go.Proofs.Ytelpkjellakigaa
/- Plain facts on whole numbers: rounding,floor division. No program in sight. -/
namespace Go.Proofs.Ytelpkjellakigaa

def rnd (n d:Int):Int:=(2*n+d) / (2*d)

theorem div_uniq {a b q r:Int} (hb:0<b) (h:r+b*q=a) (h0:0≤r) (h1:r<b):a / b=q :=
 ((Int.ediv_emod_unique hb).2 ⟨h,h0,h1⟩).1

theorem tdiv_neg {a b:Int} (hb:0<b) (h:a.tmod b<0):a.tdiv b-1=a / b:=by
 have h1:=Int.tmod_add_mul_tdiv a b
 have h2:-b<a.tmod b:=by
  have:=Int.lt_tmod_of_pos a hb;omega
 refine (div_uniq (r:=a.tmod b+b) hb ?_ (by omega) (by omega)).symm;rw [Int.mul_sub];omega

theorem tdiv_pos {a b:Int} (hb:0<b) (h:0≤a.tmod b):a.tdiv b=a / b:=by
 have h1:=Int.tmod_add_mul_tdiv a b;have h2:a.tmod b<b:=Int.tmod_lt_of_pos a hb;exact (div_uniq (r:=a.tmod b) hb (by omega) (by omega) (by omega)).symm

theorem tdiv_over {a b:Int} (hb:0<b) (h:a<a.tdiv b*b):a.tdiv b-1=a / b:=by
 have h1:=Int.tmod_add_mul_tdiv a b;refine tdiv_neg hb ?_;rw [Int.mul_comm] at h1;omega

theorem tdiv_under {a b:Int} (hb:0<b) (h:a.tdiv b*b≤a):a.tdiv b=a / b:=by
 have h1:=Int.tmod_add_mul_tdiv a b;refine tdiv_pos hb ?_;rw [Int.mul_comm] at h1;omega

theorem rnd_up {n d:Int} (hd:0<d) (h:d≤2*(n-n / d*d)):n / d+1=rnd n d:=by
 have h1:=Int.emod_add_mul_ediv n d;have h2:=Int.emod_lt_of_pos n hd;have h3:=Int.emod_nonneg n (by omega:d≠0);rw [Int.mul_comm] at h1;refine (div_uniq (r:=2*(n % d)-d) (by omega) ?_ (by omega) (by omega)).symm;have e:2*d*(n / d+1)=2*(n / d*d)+2*d:=by rw [Int.mul_add,Int.mul_assoc,Int.mul_comm d];omega
 omega

theorem rnd_down {n d:Int} (hd:0<d) (h:2*(n-n / d*d)<d):n / d=rnd n d:=by
 have h1:=Int.emod_add_mul_ediv n d;have h2:=Int.emod_lt_of_pos n hd;have h3:=Int.emod_nonneg n (by omega:d≠0);rw [Int.mul_comm] at h1;refine (div_uniq (r:=2*(n % d)+d) (by omega) ?_ (by omega) (by omega)).symm;have e:2*d*(n / d)=2*(n / d*d):=by rw [Int.mul_assoc,Int.mul_comm d]
 omega

theorem tdiv_abs {n m:Int} (d:Int) (h1:-m≤n) (h2:n≤m):-m≤n.tdiv d∧n.tdiv d≤m:=by
 have:=Int.natAbs_tdiv_le_natAbs n d;omega

end Go.Proofs.Ytelpkjellakigaa
/- Rewriting of residual programs by facts of arithmetic. No program in sight. -/
namespace Go.Proofs.Ytelpkjellakigaa
open Go Go.RowKit
theorem s_pos {p:Prop} [Decidable p] (h:p):decide p=true:=decide_eq_true h
theorem s_neg {p:Prop} [Decidable p] (h:¬ p):decide p=false:=decide_eq_false h
theorem s_wr {x:Int} (h0:-9223372036854775808≤x) (h1:x≤9223372036854775807):IntKind.i64.wrap x=x:=wr64 h0 h1
theorem s_td {a b:Int} (h:0≤a):Int.tdiv a b=a / b:=Int.tdiv_eq_ediv_of_nonneg h
theorem s_tm {a b:Int} (h:0≤a):Int.tmod a b=a % b:=Int.tmod_eq_emod_of_nonneg h
def firstE (E:Nat→Int):Nat→Nat→Int
 | 0,_=>0
 | n+1,i=>if E i=0 then firstE E n (i+1) else E i
theorem firstE_step {E:Nat→Int} {i m:Nat} (hi:i<m):firstE E (m-i) i=if E i=0 then firstE E (m-(i+1)) (i+1) else E i:=by
 rw [show m-i=(m-(i+1))+1 by omega,firstE]
def tabL {α:Type} (n:Nat) (G:Int→α):List α:=(List.range n).map fun i:Nat=>G (i:Int)
section
variable {α:Type} {n:Nat} {G G':Int→α}
theorem tabL_length (n:Nat) (G:Int→α):(tabL n G).length=n:=by rw [tabL,List.length_map,List.length_range]
theorem tabL_getElem {q:Nat} (h:q<(tabL n G).length):(tabL n G)[q]=G q:=by simp only [tabL,List.getElem_map,List.getElem_range]
theorem tabL_congr (h:∀ i:Int,0≤i→i<(n:Int)→G i=G' i):tabL n G=tabL n G':=List.map_congr_left fun i hi=>h i (by omega) (by have:=List.mem_range.1 hi;omega)
theorem tabL_set {k:Int} {v:α} (h0:0≤k) (hk:G' k=v) (h:∀ i:Int,0≤i→i<(n:Int)→i≠k→G i=G' i):(tabL n G).set k.toNat v=tabL n G':=by
 refine List.ext_getElem (by rw [List.length_set,tabL_length,tabL_length]) fun q g1 g2=>?_
 rw [List.getElem_set,tabL_getElem,tabL_getElem];rw [tabL_length] at g2;split
 ·rename_i e;rw [←hk,←e,Int.toNat_of_nonneg h0]
 ·exact h q (by omega) (by omega) (by omega)
theorem tabL_rep {d:α} (h:∀ i:Int,0≤i→i<(n:Int)→G i=d):tabL n G=List.replicate n d:=by
 refine List.ext_getElem (by rw [tabL_length,List.length_replicate]) fun q g1 g2=>?_
 rw [tabL_getElem,List.getElem_replicate];rw [tabL_length] at g1;exact h q (by omega) (by omega)
end
end Go.Proofs.Ytelpkjellakigaa
/- Loops by their first error,by what is found,by a postcondition. No program in sight. -/
namespace Go.Proofs.Ytelpkjellakigaa
open Go Go.RowKit
set_option linter.unusedSimpArgs false
set_option linter.unusedSectionVars false
set_option linter.unusedVariables false
theorem postLoop {X β:Type} {f:(X→Option β)→X→Option β} (μ:X→Nat) (I:X→Prop) (Q:Option β→Prop)
  (h:∀ j x,I x→(∃ x',I x'∧μ x'<μ x∧f j x=j x')∨Q (f j x)):∀ (fu:Nat) (x:X),I x→μ x<fu→Q (loopF f fu x)
 | 0,_,_,h0=>absurd h0 (Nat.not_lt_zero _)
 | fu+1,x,hI,hm=>by
  rw [loopF];rcases h (loopF f fu) x hI with ⟨x',h1,h2,h3⟩ | h3
  ·rw [h3];exact postLoop μ I Q h fu x' h1 (by omega)
  ·exact h3
section
variable {β:Type} {f:(Int→Option β)→Int→Option β} {n fu:Nat} (hn:n<fu)
include hn
theorem findLoop {p:Nat→Prop} {hit:Nat→Option β} {miss:Option β} (hit':∀ j (i:Nat),i<n→p i→f j i=hit i) (next:∀ j (i:Nat),i<n→¬ p i→f j i=j ((i:Int)+1)) (last:∀ j,f j n=miss) :
  (∃ k,k<n∧p k∧(∀ l,l<k→¬ p l)∧loopF f fu 0=hit k)∨((∀ l,l<n→¬ p l)∧loopF f fu 0=miss):=by
 refine postLoop (f:=f) (fun i:Int=>((n:Int)-i).toNat) (fun i=>∃ k:Nat,i=k∧k≤n∧∀ l,l<k→¬ p l) (fun r=>(∃ k,k<n∧p k∧(∀ l,l<k→¬ p l)∧r=hit k)∨((∀ l,l<n→¬ p l)∧r=miss)) ?_ fu 0 ⟨0,rfl,by omega,by omega⟩ (by omega)
 rintro j _ ⟨i,rfl,k1,k2⟩
 by_cases hi:i<n
 ·by_cases hp:p i
  ·exact .inr (.inl ⟨i,hi,hp,k2,hit' j i hi hp⟩)
  ·refine .inl ⟨(i:Int)+1,⟨i+1,by omega,by omega,fun l hl=>?_⟩,by omega,next j i hi hp⟩;by_cases e:l=i
   ·rw [e];exact hp
   ·exact k2 l (by omega)
 ·have e:i=n:=by omega
  subst e;exact .inr (.inr ⟨k2,last j⟩)
end
theorem firstE_all {E:Nat→Int}:∀ (m i0:Nat),(∀ k,i0≤k→k<i0+m→E k=0)→firstE E m i0=0
 | 0,_,_=>rfl
 | m+1,i0,h=>by
  rw [firstE,if_pos (h i0 (Nat.le_refl _) (by omega))];exact firstE_all m (i0+1) fun k g1 g2=>h k (by omega) (by omega)
theorem errGen {X β:Type} {f:(X→Option β)→X→Option β} {n:Nat} {st:Nat→X} {E:Nat→Int} {out:Int→Option β} {fin:Option β}
  (step:∀ j (i:Nat),i<n→(∀ k,k<i→E k=0)→f j (st i)=if E i=0 then j (st (i+1)) else out (E i)) (last:(∀ k,k<n→E k=0)→∀ j,f j (st n)=fin) :
  ∀ (fu i:Nat),i≤n→n-i<fu→(∀ k,k<i→E k=0)→loopF f fu (st i)=if firstE E (n-i) i=0 then fin else out (firstE E (n-i) i)
 | 0,i,_,h,_=>by omega
 | fu+1,i,h0,h1,hE=>by
  rw [loopF];by_cases hi:i<n
  ·rw [step _ i hi hE,firstE_step hi];by_cases e:E i=0
   ·rw [if_pos e];simp only [if_pos e]
    exact errGen step last fu (i+1) (by omega) (by omega) fun k hk=>by
     by_cases q:k=i
     ·rw [q];exact e
     ·exact hE k (by omega)
   ·rw [if_neg e];simp only [if_neg e]
  ·have e:i=n:=by omega
   subst e;rw [last hE,Nat.sub_self];rfl
end Go.Proofs.Ytelpkjellakigaa
/- Bits of bytes,bitmaps as lists of bytes. No program in sight. -/
namespace Go.Proofs.Ytelpkjellakigaa
open Go Go.RowKit

def bitAt (v:Int) (j:Nat):Bool:=v / 2 ^ (7-j) % 2==1
theorem fin_byte {p:Int→Prop} (h:∀ v:Fin 256,p (v.val:Int)) {v:Int} (h0:0≤v) (h1:v≤255):p v:=by
 have:=h ⟨v.toNat,by omega⟩;rwa [show ((⟨v.toNat,by omega⟩:Fin 256).val:Int)=v from Int.toNat_of_nonneg h0] at this
theorem shl_bit {v:Int} (h0:0≤v) (h1:v≤255) {k:Nat} (hk:k<8):bits .and .u8 (IntKind.wrap .u8 (v*2 ^ k)) 128=(if bitAt v k=true then 128 else 0) :=
 fin_byte (p:=fun v=>∀ k:Fin 8,bits .and .u8 (IntKind.wrap .u8 (v*2 ^ k.val)) 128=(if bitAt v k.val=true then 128 else 0)) (by decide +kernel) h0 h1 ⟨k,hk⟩
theorem and_mask {v:Int} (h0:0≤v) (h1:v≤255) {k:Nat} (hk:k<8):bits .and .u8 v (128 / 2 ^ k)=(if bitAt v k=true then 128 / 2 ^ k else 0) :=
 fin_byte (p:=fun v=>∀ k:Fin 8,bits .and .u8 v (128 / 2 ^ k.val)=(if bitAt v k.val=true then 128 / 2 ^ k.val else 0)) (by decide +kernel) h0 h1 ⟨k,hk⟩
theorem mask_ne {k:Nat} (hk:k<8):(128:Int) / 2 ^ k≠0:=(show ∀ k:Fin 8,(128:Int) / 2 ^ k.val≠0 by decide) ⟨k,hk⟩
def lowOk (v:Int) (u:Nat):Bool:=v % 2 ^ u==0
theorem and_low {v:Int} (h0:0≤v) (h1:v≤255) {u:Nat} (hu:u<8):bits .and .u8 v (2 ^ u-1)=v % 2 ^ u :=
 fin_byte (p:=fun v=>∀ u:Fin 8,bits .and .u8 v (2 ^ u.val-1)=v % 2 ^ u.val) (by decide +kernel) h0 h1 ⟨u,hu⟩
theorem low_bits {v:Int} (h0:0≤v) (h1:v≤255) {u:Nat} (hu:u<8):lowOk v u=true↔∀ k,k<8→8-u≤k→bitAt v k=false:=by
 have h:=fin_byte (p:=fun v=>∀ u:Fin 8,lowOk v u.val=true↔∀ k:Fin 8,8-u.val≤k.val→bitAt v k.val=false) (by decide +kernel) h0 h1 ⟨u,hu⟩;exact h.trans ⟨fun g k hk hu=>g ⟨k,hk⟩ hu,fun g k hu=>g k.val k.isLt hu⟩
theorem wrap_pow {u:Nat} (hu:u<8):IntKind.wrap .u8 (IntKind.wrap .u8 (1*2 ^ u)-1)=2 ^ u-1:=(show ∀ u:Fin 8,IntKind.wrap .u8 (IntKind.wrap .u8 (1*2 ^ u.val)-1)=2 ^ u.val-1 by decide +kernel) ⟨u,hu⟩
def Bytes (ds:List Int):Prop:=∀ d ∈ ds,0≤d∧d≤255
def strideN (w:Nat):Nat:=(w+7) / 8
def tailOk (w h:Nat) (ds:List Int):Bool:=(List.range h).all fun y=>lowOk (ds.getD (y*strideN w+strideN w-1) 0) (8*strideN w-w)
def bitsE (w h:Int) (ds:List Int):Int:=if 1≤w∧w≤1024∧1≤h∧h≤1024 then (if ds.length=strideN w.toNat*h.toNat then (if tailOk w.toNat h.toNat ds=true then 0 else 4) else 4) else 3
def pixOk (w n i:Nat) (d:Int) (k:Nat):Bool:=!(decide (w≤i % n*8+k)&&bitAt d k)
def byteOk (w n i:Nat) (d:Int):Bool:=(List.range 8).all (pixOk w n i d)
def rowsOk (w n:Nat) (ds:List Int) (m:Nat):Bool:=(List.range m).all fun i=>byteOk w n i (ds.getD i 0)
theorem rows_tail {w h:Nat} {ds:List Int} (hb:Bytes ds) (hw:1≤w) (hl:ds.length=strideN w*h):rowsOk w (strideN w) ds ds.length=tailOk w h ds:=by
 have hn:1≤strideN w∧w≤8*strideN w∧8*strideN w≤w+7:=by unfold strideN;omega
 unfold tailOk;generalize strideN w=n at *
 obtain ⟨n0,n2,n3⟩:=hn
 have hg:∀ i,i<ds.length→0≤ds.getD i 0∧ds.getD i 0≤255:=fun i hi=>by
  rw [List.getD_eq_getElem?_getD,List.getElem?_eq_getElem hi];exact hb _ (List.getElem_mem hi)
 rw [Bool.eq_iff_iff];constructor
 ·intro ha;refine List.all_eq_true.2 fun y hy=>?_
  have hy:=List.mem_range.1 hy;have h1:(y+1)*n≤h*n:=Nat.mul_le_mul_right n hy;rw [Nat.add_mul,Nat.one_mul,Nat.mul_comm h n] at h1;have hi:y*n+n-1<ds.length:=by omega
  have hmod:(y*n+n-1) % n=n-1:=by
   rw [show y*n+n-1=(n-1)+n*y by rw [Nat.mul_comm y n];omega,Nat.add_mul_mod_self_left,Nat.mod_eq_of_lt (by omega)]
  have hrow:=List.all_eq_true.1 ha (y*n+n-1) (List.mem_range.2 hi);obtain ⟨g0,g1⟩:=hg _ hi;refine (low_bits g0 g1 (u:=8*n-w) (by omega)).2 fun k hk hu=>?_
  have:=List.all_eq_true.1 hrow k (List.mem_range.2 hk);unfold pixOk at this;rw [hmod,show decide (w≤(n-1)*8+k)=true by simp;omega] at this;simpa using this
 ·intro ha;refine List.all_eq_true.2 fun i hi=>List.all_eq_true.2 fun k hk=>?_
  have hi:=List.mem_range.1 hi;have hk:=List.mem_range.1 hk;unfold pixOk;by_cases hw:w≤i % n*8+k
  ·have hm:i % n<n:=Nat.mod_lt _ (by omega);have hmod:i % n=n-1:=by omega
   have hdm:=Nat.div_add_mod i n
   have hy:i / n<h:=by
    apply Nat.div_lt_of_lt_mul;omega
   have hrow:=List.all_eq_true.1 ha (i / n) (List.mem_range.2 hy);have he:i / n*n+n-1=i:=by rw [Nat.mul_comm];omega
   rw [he] at hrow;obtain ⟨g0,g1⟩:=hg _ hi;have:=(low_bits g0 g1 (u:=8*n-w) (by omega)).1 hrow k hk (by omega);rw [this];simp
  ·rw [show decide (w≤i % n*8+k)=false by simp;omega];rfl
end Go.Proofs.Ytelpkjellakigaa
/- Strips: what the small functions compute. -/
namespace Go.Proofs.Ytelpkjellakigaa
open Go Go.RowKit

theorem within_r (fu:Nat) (x lo hi:Int):R_Within_r fu (x,(lo,(hi,())))=some (decide (lo≤x)&&decide (x≤hi),()):=by
 unfold R_Within_r;by_cases h:lo≤x
 ·rw [bif_pos h,decide_eq_true h];rfl
 ·rw [bif_neg h,decide_eq_false h];rfl
theorem none_r (fu:Nat) (z:Bool) (g w:Int):law_none_r fu (z,(g,(w,())))=some (z&&decide (g=w),()):=by
 unfold law_none_r
 cases z <;> rfl
def strd (w:Int):Int:=(w+7) / 8
theorem stride_r (fu:Nat) {w:Int} (h0:0≤w) (h1:w≤1000000):bitmap_stride_r fu (w,())=some (strd w,()):=by
 unfold bitmap_stride_r strd;simp only;rw [wr64 (x:=w+7) (by omega) (by omega),Int.tdiv_eq_ediv_of_nonneg (by omega),wr64 (x:=(w+7) / 8) (by omega) (by omega)]
theorem strd_N {w:Int} (h0:0≤w):strd w=(strideN w.toNat:Int):=by
 unfold strd strideN;omega
def pixB (w h:Int) (ds:List Int) (x y:Int):Bool:=decide (0≤x∧x<w∧0≤y∧y<h)&&bitAt (ds.getD (y*strd w+x / 8).toNat 0) (x % 8).toNat
theorem at_ok {w h:Int} (hw:0≤w) {x y:Int} {l:Nat} (hx0:0≤x) (hx1:x<w) (hy0:0≤y) (hy1:y<h) (hl:(l:Int)=strd w*h):0≤y*strd w∧0≤y*strd w+x / 8∧y*strd w+x / 8<l:=by
 have h1:x / 8<strd w:=by unfold strd;omega
 have h2:y*strd w≤(h-1)*strd w:=Int.mul_le_mul_of_nonneg_right (by omega) (by unfold strd;omega);have h3:(h-1)*strd w=strd w*h-strd w:=by rw [Int.sub_mul,Int.one_mul,Int.mul_comm]
 have h4:0≤y*strd w:=Int.mul_nonneg hy0 (by unfold strd;omega);omega
theorem Bytes.at {ds:List Int} (h:Bytes ds) (i:Nat):0≤ds.getD i 0∧ds.getD i 0≤255:=by
 rw [List.getD_eq_getElem?_getD]
 cases e:ds[i]? with
 | none=>simp
 | some d=>exact h d (List.mem_of_getElem? e)
theorem is_r (fu:Nat) {w h:Int} {ds:List Int} (hw0:0≤w) (hw1:w≤1024) (hh:h≤1024) (hl:(ds.length:Int)=strd w*h) (hb:Bytes ds) (x y:Int):bitmap_Is_r fu ((w,(h,ds)),(x,(y,())))=some (pixB w h ds x y,()):=by
 unfold bitmap_Is_r pixB;simp only;by_cases h1:0≤x
 ·rw [bif_pos h1];by_cases h2:x<w
  ·rw [bif_pos h2];by_cases h3:0≤y
   ·rw [bif_pos h3];by_cases h4:y<h
    ·rw [bif_pos h4,stride_r fu hw0 (by omega)];simp only [bindO_some];obtain ⟨g0,g1,g2⟩:=at_ok hw0 h1 h2 h3 h4 hl
     have hs:strd w*h≤128*1024:=by
      have a1:strd w≤128:=by unfold strd;omega
      have a2:0≤strd w:=by unfold strd;omega
      have:=Int.mul_le_mul a1 hh (by omega:0≤h) (by omega:(0:Int)≤128);omega
     rw [Int.tdiv_eq_ediv_of_nonneg h1,Int.tmod_eq_emod_of_nonneg h1,wr64 (x:=x / 8) (by omega) (by omega),wr64 (x:=y*strd w) (by omega) (by omega),wr64 (x:=y*strd w+x / 8) (by omega) (by omega)];rw [bif_and g1 g2,bif_and (by omega) (by omega),and_mask (hb.at _).1 (hb.at _).2 (by omega)];rw [decide_eq_true (show 0≤x∧x<w∧0≤y∧y<h from ⟨h1,h2,h3,h4⟩),Bool.true_and];have:=mask_ne (k:=(x % 8).toNat) (by omega)
     cases bitAt (ds.getD (y*strd w+x / 8).toNat 0) (x % 8).toNat with
     | true=>rw [if_pos rfl,decide_eq_true this]
     | false=>rw [if_neg (by simp)];rfl
    ·rw [bif_neg h4,decide_eq_false (by omega)];rfl
   ·rw [bif_neg h3,decide_eq_false (by omega)];rfl
  ·rw [bif_neg h2,decide_eq_false (by omega)];rfl
 ·rw [bif_neg h1,decide_eq_false (by omega)];rfl
theorem bit_r (fu:Nat) {w h:Int} {ds:List Int} (hw0:1≤w) (hw1:w≤1024) (hh0:1≤h) (hh:h≤1024) (hl:(ds.length:Int)=strd w*h) (hb:Bytes ds) (x y:Int):R_Bit_r fu ((w,(h,ds)),(x,(y,())))=some (pixB w h ds x y,()):=by
 unfold R_Bit_r;simp only [joinF_eq,within_r,bindO_some];rw [wr64 (x:=w-1) (by omega) (by omega),wr64 (x:=h-1) (by omega) (by omega)];by_cases h1:0≤x∧x<w
 ·rw [decide_eq_true h1.1,decide_eq_true (show x≤w-1 by omega)];by_cases h2:0≤y∧y<h
  ·rw [decide_eq_true h2.1,decide_eq_true (show y≤h-1 by omega)];show R_Bit_j1 fu ((w,(h,ds)),(x,(y,()))) false=_;unfold R_Bit_j1 pixB;simp only [cond_false]
   have hs:strd w*h≤128*1024:=by
    have a1:strd w≤128:=by unfold strd;omega
    have a2:0≤strd w:=by unfold strd;omega
    have:=Int.mul_le_mul a1 hh (by omega:0≤h) (by omega:(0:Int)≤128);omega
   obtain ⟨g0,g1,g2⟩:=at_ok (w:=w) (by omega) h1.1 h1.2 h2.1 h2.2 hl
   have e1:IntKind.i64.wrap (Int.tdiv (IntKind.i64.wrap (w+7)) 8)=strd w:=by
    rw [wr64 (x:=w+7) (by omega) (by omega),Int.tdiv_eq_ediv_of_nonneg (by omega),wr64 (x:=(w+7) / 8) (by omega) (by omega)];rfl
   have h10:=h1.1;rw [e1,Int.tdiv_eq_ediv_of_nonneg h1.1,Int.tmod_eq_emod_of_nonneg h1.1,wr64 (x:=x / 8) (by omega) (by omega),wr64 (x:=y*strd w) (by omega) (by omega),wr64 (x:=y*strd w+x / 8) (by omega) (by omega)];rw [bif_and g1 g2,bif_and (by omega) (by omega),shl_bit (hb.at _).1 (hb.at _).2 (by omega)];rw [decide_eq_true (show 0≤x∧x<w∧0≤y∧y<h from ⟨h1.1,h1.2,h2.1,h2.2⟩),Bool.true_and]
   cases bitAt (ds.getD (y*strd w+x / 8).toNat 0) (x % 8).toNat <;> rfl
  ·have:(decide (0≤y)&&decide (y≤h-1))=false:=by
    rw [←Bool.not_eq_true,Bool.and_eq_true];simp;omega
   rw [this];show R_Bit_j1 fu ((w,(h,ds)),(x,(y,()))) true=_;unfold R_Bit_j1 pixB;rw [decide_eq_false (show ¬ (0≤x∧x<w∧0≤y∧y<h) by omega)];rfl
 ·have:(decide (0≤x)&&decide (x≤w-1))=false:=by
   rw [←Bool.not_eq_true,Bool.and_eq_true];simp;omega
  rw [this];show R_Bit_j1 fu ((w,(h,ds)),(x,(y,()))) true=_;unfold R_Bit_j1 pixB;rw [decide_eq_false (show ¬ (0≤x∧x<w∧0≤y∧y<h) by omega)];rfl
end Go.Proofs.Ytelpkjellakigaa
/- Strips: Check and BitsErr. -/
namespace Go.Proofs.Ytelpkjellakigaa
open Go Go.RowKit

theorem and_neg_lo {v:Int}:(decide (1≤v)&&decide (v≤1024))=decide (1≤v∧v≤1024):=by
 by_cases h:1≤v <;> by_cases h':v≤1024 <;> simp [h,h']
theorem check_r {fu:Nat} (hf:18446744073709551616≤fu) {w h:Int} {ds:List Int} (hb:Bytes ds):bitmap_Check_r fu ((w,(h,ds)),())=some (bitsE w h ds,()):=by
 unfold bitmap_Check_r bitsE;simp only [joinF_eq]
 have bad:∀ p:Prop,¬ (1≤w∧w≤1024∧1≤h∧h≤1024)→bitmap_Check_j1 fu ((w,(h,ds)),()) true=some (if 1≤w∧w≤1024∧1≤h∧h≤1024 then (if ds.length=strideN w.toNat*h.toNat then (if tailOk w.toNat h.toNat ds=true then 0 else 4) else 4) else 3,()):=by
  intro _ hn;rw [if_neg hn];rfl
 by_cases h1:w<1
 ·rw [bif_pos h1];exact bad True (by omega)
 rw [bif_neg h1];by_cases h2:1024<w
 ·rw [bif_pos h2];exact bad True (by omega)
 rw [bif_neg h2];by_cases h3:h<1
 ·rw [bif_pos h3];exact bad True (by omega)
 rw [bif_neg h3];by_cases h4:1024<h
 ·rw [decide_eq_true h4];exact bad True (by omega)
 rw [decide_eq_false h4,if_pos (by omega)];clear bad;unfold bitmap_Check_j1;simp only [cond_false];rw [stride_r fu (by omega) (by omega)];simp only [bindO_some,joinF_eq];have hs0:1≤strd w∧strd w≤128∧w≤8*strd w∧8*strd w≤w+7:=by unfold strd;omega
 have hN:strd w=(strideN w.toNat:Int):=strd_N (by omega)
 have hs:0≤strd w*h∧strd w*h≤128*1024:=⟨Int.mul_nonneg (by omega) (by omega),by
  have:=Int.mul_le_mul hs0.2.1 (show h≤1024 by omega) (by omega:0≤h) (by omega:(0:Int)≤128)
  omega⟩
 rw [wr64 (x:=strd w*h) (by omega) (by omega),wr64 (x:=8*strd w) (by omega) (by omega),wr64 (x:=8*strd w-w) (by omega) (by omega)];have hmul:strd w*h=((strideN w.toNat*h.toNat:Nat):Int):=by rw [hN,Int.natCast_mul];congr 1;omega
 by_cases hl:ds.length=strideN w.toNat*h.toNat
 ·rw [bif_neg (by rw [hmul,hl];simp),if_pos hl,bif_and (by omega) (by omega)];have e4:IntKind.u8.wrap (IntKind.u8.wrap (1*2 ^ (8*strd w-w).toNat)-1)=2 ^ (8*strd w-w).toNat-1:=wrap_pow (by omega);rw [e4];have hu:(8*strd w-w).toNat=8*strideN w.toNat-w.toNat:=by omega
  by_cases hz:w=8*strd w
  ·have:(2:Int) ^ (8*strd w-w).toNat-1=0:=by rw [show (8*strd w-w).toNat=0 by omega];rfl
   rw [this,bif_neg (by simp)]
   have ht:tailOk w.toNat h.toNat ds=true:=by
    refine List.all_eq_true.2 fun y _=>?_
    rw [show 8*strideN w.toNat-w.toNat=0 by omega];unfold lowOk;simp [Int.emod_one]
   rw [if_pos ht];rfl
  ·have hne:(2:Int) ^ (8*strd w-w).toNat-1≠0:=by
    have:∀ u:Fin 8,0<u.val→(2:Int) ^ u.val-1≠0:=by decide
    exact this ⟨(8*strd w-w).toNat,by omega⟩ (by show 0<(8*strd w-w).toNat;omega)
   rw [bif_pos hne]
   let p:Nat→Bool:=fun y=>lowOk (ds.getD (y*strideN w.toNat+strideN w.toNat-1) 0) (8*strideN w.toNat-w.toNat)
   have:=loopF_spec (f:=bitmap_Check_l3 fu ((w,(h,ds)),()) (strd w) (2 ^ (8*strd w-w).toNat-1) (bitmap_Check_j2 fu)) (fun y:Int=>(h-y).toNat) (fun y=>0≤y∧y≤h) (fun y=>some (if allFrom p h.toNat y.toNat=true then 0 else 4,())) (fun j y ⟨i0,i1⟩ hj=>?_) fu 0 ⟨by omega,by omega⟩ (by omega)
   ·rw [this];show some (if allFrom p h.toNat 0=true then (0:Int) else 4,())=_;rw [allFrom_zero];rfl
   ·unfold bitmap_Check_l3;simp only;by_cases hy:y<h
    ·obtain ⟨g0,g1,g2⟩:=at_ok (w:=w) (h:=h) (x:=w-1) (y:=y) (l:=ds.length) (by omega) (by omega) (by omega) i0 hy (by rw [hmul,hl])
     have g3:y*strd w+strd w≤strd w*h:=by
      have:=Int.mul_le_mul_of_nonneg_right (show y+1≤h by omega) (show 0≤strd w by omega);rw [Int.add_mul,Int.one_mul,Int.mul_comm h] at this;exact this
     rw [bif_pos hy,wr64 (x:=y*strd w) (by omega) (by omega),wr64 (x:=y*strd w+strd w) (by omega) (by omega),wr64 (x:=y*strd w+strd w-1) (by omega) (by omega),bif_and (by omega) (by rw [hl,←hmul];omega)];rw [and_low (hb.at _).1 (hb.at _).2 (by omega),allFrom_lt (by omega)]
     have ei:(y*strd w+strd w-1).toNat=y.toNat*strideN w.toNat+strideN w.toNat-1:=by
      have:y*strd w=((y.toNat*strideN w.toNat:Nat):Int):=by rw [hN,Int.natCast_mul];congr 1;omega
      omega
     have ep:p y.toNat=decide (ds.getD (y*strd w+strd w-1).toNat 0 % 2 ^ (8*strd w-w).toNat=0):=by
      show lowOk _ _=_;unfold lowOk;rw [ei,hu];rfl
     by_cases hd:ds.getD (y*strd w+strd w-1).toNat 0 % 2 ^ (8*strd w-w).toNat=0
     ·rw [bif_neg (by simpa using hd),wr64 (x:=y+1) (by omega) (by omega),hj (y+1) ⟨by omega,by omega⟩ (by omega),ep,decide_eq_true hd,Bool.true_and];rw [show (y+1).toNat=y.toNat+1 by omega]
     ·rw [bif_pos hd,ep,decide_eq_false hd,Bool.false_and];rfl
    ·rw [bif_neg hy,allFrom_ge (by omega)];rfl
 ·rw [bif_pos (by rw [hmul];omega),if_neg hl]
theorem bitsErr_r {fu:Nat} (hf:18446744073709551616≤fu) {w h:Int} {ds:List Int} (hb:Bytes ds):R_BitsErr_r fu ((w,(h,ds)),())=some (bitsE w h ds,()):=by
 unfold R_BitsErr_r bitsE;simp only [joinF_eq,within_r,bindO_some,and_neg_lo];by_cases h1:1≤w∧w≤1024
 ·rw [decide_eq_true h1];by_cases h2:1≤h∧h≤1024
  ·rw [decide_eq_true h2,if_pos (by omega)];show R_BitsErr_j1 fu ((w,(h,ds)),()) false=_;unfold R_BitsErr_j1;simp only [cond_false]
   have e1:IntKind.i64.wrap (Int.tdiv (IntKind.i64.wrap (w+7)) 8)=strd w:=by
    rw [wr64 (x:=w+7) (by omega) (by omega),Int.tdiv_eq_ediv_of_nonneg (by omega),wr64 (x:=(w+7) / 8) (by omega) (by omega)];rfl
   have hs0:1≤strd w∧strd w≤128∧w≤8*strd w∧8*strd w≤w+7:=by unfold strd;omega
   have hN:strd w=(strideN w.toNat:Int):=strd_N (by omega)
   have hs:0≤strd w*h∧strd w*h≤128*1024:=⟨Int.mul_nonneg (by omega) (by omega),by
    have:=Int.mul_le_mul hs0.2.1 (show h≤1024 by omega) (by omega:0≤h) (by omega:(0:Int)≤128)
    omega⟩
   have hmul:strd w*h=((strideN w.toNat*h.toNat:Nat):Int):=by rw [hN,Int.natCast_mul];congr 1;omega
   rw [e1,wr64 (x:=strd w*h) (by omega) (by omega)];by_cases hl:ds.length=strideN w.toNat*h.toNat
   ·rw [bif_neg (by rw [hmul,hl];simp),if_pos hl,←rows_tail hb (by omega) hl];unfold rowsOk;rw [←allFrom_zero]
    let p:Nat→Bool:=fun i=>byteOk w.toNat (strideN w.toNat) i (ds.getD i 0)
    refine loopF_spec (f:=R_BitsErr_l2 fu ((w,(h,ds)),()) (strd w)) (fun i:Int=>((ds.length:Int)-i).toNat) (fun i=>0≤i∧i≤ds.length) (fun i=>some (if allFrom p ds.length i.toNat=true then 0 else 4,())) (fun j i ⟨i0,i1⟩ hj=>?_) fu 0 ⟨by omega,by omega⟩ (by omega);unfold R_BitsErr_l2;simp only;by_cases hi:i<ds.length
    ·rw [bif_pos hi,bif_and i0 hi,allFrom_lt (by omega)]
     let q:Nat→Bool:=pixOk w.toNat (strideN w.toNat) i.toNat (ds.getD i.toNat 0)
     have hp:p i.toNat=allFrom q 8 0:=by rw [allFrom_zero];rfl
     rw [hp];refine (loopF_spec (f:=R_BitsErr_l3 fu ((w,(h,ds)),()) (strd w) i (ds.getD i.toNat 0) j) (fun k:Int=>(8-k).toNat) (fun k=>0≤k∧k≤8) (fun k=>some (if (allFrom q 8 k.toNat&&allFrom p ds.length (i.toNat+1))=true then 0 else 4,())) (fun j' k ⟨k0,k1⟩ hj'=>?_) fu 0 ⟨by omega,by omega⟩ (by omega));unfold R_BitsErr_l3;simp only;by_cases hk:k<8
     ·rw [bif_pos hk,allFrom_lt (by omega)];simp only [joinF_eq];rw [bif_pos (by omega),Int.tmod_eq_emod_of_nonneg i0];have em:i % strd w=((i.toNat % strideN w.toNat:Nat):Int):=by rw [hN,Int.natCast_emod,Int.toNat_of_nonneg i0]
      have hlt:i.toNat % strideN w.toNat<strideN w.toNat:=Nat.mod_lt _ (by omega);rw [em,wr64 (x:=((i.toNat % strideN w.toNat:Nat):Int)*8) (by omega) (by omega),wr64 (x:=((i.toNat % strideN w.toNat:Nat):Int)*8+k) (by omega) (by omega)]
      have good:q k.toNat=true→R_BitsErr_j4 fu k j' false=some (if (q k.toNat&&allFrom q 8 (k.toNat+1)&&allFrom p ds.length (i.toNat+1))=true then 0 else 4,()):=by
       intro hq;unfold R_BitsErr_j4;simp only [cond_false];rw [wr64 (x:=k+1) (by omega) (by omega),hj' (k+1) ⟨by omega,by omega⟩ (by omega),hq,Bool.true_and];rw [show (k+1).toNat=k.toNat+1 by omega]
      by_cases hle:w≤((i.toNat % strideN w.toNat:Nat):Int)*8+k
      ·rw [bif_pos hle,bif_and k0 (by omega),shl_bit (hb.at _).1 (hb.at _).2 (by omega)]
       have hq:q k.toNat=!bitAt (ds.getD i.toNat 0) k.toNat:=by
        show pixOk _ _ _ _ _=_;unfold pixOk;rw [decide_eq_true (by omega),Bool.true_and]
       cases hbt:bitAt (ds.getD i.toNat 0) k.toNat with
       | true =>
        rw [hbt] at hq;rw [if_pos rfl,hq];rfl
       | false =>
        rw [hbt] at hq;rw [if_neg (by simp)];exact good hq
      ·rw [bif_neg hle];refine good ?_;show pixOk _ _ _ _ _=_;unfold pixOk;rw [decide_eq_false (by omega)];rfl
     ·rw [bif_neg hk,allFrom_ge (i:=k.toNat) (by omega),Bool.true_and,wr64 (x:=i+1) (by omega) (by omega),hj (i+1) ⟨by omega,by omega⟩ (by omega)];rw [show (i+1).toNat=i.toNat+1 by omega]
    ·rw [bif_neg hi,allFrom_ge (by omega)];rfl
   ·rw [bif_pos (by rw [hmul];omega),if_neg hl]
  ·rw [decide_eq_false h2,if_neg (by omega)];rfl
 ·rw [decide_eq_false h1,if_neg (by omega)];rfl
end Go.Proofs.Ytelpkjellakigaa
/- camera.Capture at the picture of the facts. -/
namespace Go.Proofs.Ytelpkjellakigaa
open Go Go.RowKit
set_option linter.unusedSimpArgs false
set_option linter.unusedSectionVars false
set_option linter.unusedVariables false
namespace Ca
theorem stLoop {X β:Type} {f:(X→Option β)→X→Option β} {n fu:Nat} (hn:n<fu) {st:Nat→X} {x0:X} {fin:Option β} (h0:st 0=x0)
  (step:∀ j (i:Nat),i<n→f j (st i)=j (st (i+1))) (last:∀ j,f j (st n)=fin):loopF f fu x0=fin:=by
 have key:=errGen (f:=f) (n:=n) (st:=st) (E:=fun _=>0) (out:=fun _=>none) (fin:=fin) (fun j i hi _=>by rw [if_pos rfl];exact step j i hi) (fun _=>last) fu 0 (by omega) (by omega) (by omega);rw [if_pos (firstE_all _ _ fun _ _ _=>rfl),h0] at key;exact key
def capV:Int×Int×Int×Int×Int×Int×Int×List Int:=(1,(16,(16,(0,(0,(200,(50,[])))))))
def capB:Int×Int×List Int:=(1,(1,[128]))
def capA:(Int×Int×List Int)×(Int×Int×Int×Int×Int×Int×Int×List Int)×Unit:=(capB,(capV,()))
def valK (k i:Int):Int:=if i<k then (if i=544 then 50 else 200) else 0
theorem valK_ne {k k' i:Int} (hk:k'=k+1) (h:i≠k):valK k i=valK k' i:=by
 unfold valK;subst hk;by_cases c:i<k
 ·rw [if_pos c];exact (if_pos (show i<k+1 by omega)).symm
 ·rw [if_neg c];exact (if_neg (show ¬ i<k+1 by omega)).symm
def pix1:List Int:=tabL 1089 (fun i=>if i=544 then 50 else 200)
theorem byt1:Bytes [128]:=by intro d hd;simp at hd;omega
theorem one_pix (i j:Int) (hi:0≤i) (hj:0≤j):pixB 1 1 [128] i j=decide (i=0∧j=0):=by
 unfold pixB;by_cases h:i=0∧j=0
 ·obtain ⟨rfl,rfl⟩:=h;decide
 ·rw [decide_eq_false h,decide_eq_false (by omega)];rfl
theorem cap_eq {fu:Nat} (hf:18446744073709551616≤fu) (hC:bitmap_Check_r fu (capB,())=some (0,())) (hV:camera_CheckView_r fu (capV,())=some (0,())) (hT:bitmap_Turned_r fu (capB,(0,()))=some (capB,())) :
  camera_Capture_r fu capA=some ((33,(33,pix1)),(0,())):=by
 have hT':bitmap_Turned_r fu (capA.1,(capA.2.1.2.2.2.1,()))=some (capB,()):=hT;have hC':bitmap_Check_r fu (capA.1,())=some (0,()):=hC;have hV':camera_CheckView_r fu (capA.2.1,())=some (0,()):=hV;have e33:IntKind.i64.wrap (IntKind.i64.wrap (capB.1*capA.2.1.1)+32)=33:=by decide
 have e33':IntKind.i64.wrap (IntKind.i64.wrap (capB.2.1*capA.2.1.1)+32)=33:=by decide
 have e1089:IntKind.i64.wrap ((33:Int)*33)=1089:=by decide
 unfold camera_Capture_r;simp only [hC',hV',hT',bindO_some,joinF_eq,e33,e33'];rw [bif_neg (by decide),bif_neg (by decide),bif_neg (by decide)];unfold camera_Capture_j1;simp only [e33,e33',e1089];rw [show (decide ((1024:Int)<33))=false from rfl,show (decide ((0:Int)≤1089)&&decide ((1:Int)*1089≤281474976710656))=true from rfl];simp only [cond_false,cond_true];have hz:List.replicate (Int.toNat 1089) (0:Int)=tabL 1089 (valK 0):=(tabL_rep fun i h0 _=>by unfold valK;rw [if_neg (by omega)]).symm;rw [hz];refine stLoop (n:=33) (by omega) (st:=fun y=>((y:Int),tabL 1089 (valK ((y:Int)*33)))) (by rfl) ?_ ?_
 ·intro j y hy;unfold camera_Capture_l2;simp only [e33,e33'];rw [bif_pos (show (y:Int)<33 by omega)];refine stLoop (n:=33) (by omega) (st:=fun x=>((x:Int),tabL 1089 (valK ((y:Int)*33+(x:Int))))) (by simp) ?_ ?_
  ·intro j2 x hx;unfold camera_Capture_l3;simp only [e33,e33',joinF_eq];rw [bif_pos (show (x:Int)<33 by omega)]
   have key:∀ v:Int,v=(if (y:Int)*33+(x:Int)=544 then 50 else 200)→camera_Capture_j4 fu capA (capB,()) (y:Int) ((x:Int),tabL 1089 (valK ((y:Int)*33+(x:Int)))) (x:Int) j2 v=j2 (((x+1:Nat):Int),tabL 1089 (valK ((y:Int)*33+((x+1:Nat):Int)))):=fun v hv=>by
    unfold camera_Capture_j4;simp only [e33,tabL_length];rw [wr64 (x:=(y:Int)*33) (by omega) (by omega),wr64 (x:=(y:Int)*33+(x:Int)) (by omega) (by omega),wr64 (x:=(x:Int)+1) (by omega) (by omega)];rw [show (decide ((0:Int)≤(y:Int)*33+(x:Int))&&decide ((y:Int)*33+(x:Int)<((1089:Nat):Int)))=true from by simp only [Bool.and_eq_true,decide_eq_true_eq];omega];simp only [cond_true]
    have hw:IntKind.u8.wrap v=v:=by
     rw [hv];split <;> decide
    rw [hw,tabL_set (G':=valK ((y:Int)*33+((x+1:Nat):Int))) (by omega) (by unfold valK;rw [if_pos (by omega),hv]) (fun i h0 h1 h2=>valK_ne (by omega) h2)];rfl
   have hj5:∀ b:Bool,camera_Capture_j5 fu capA (camera_Capture_j4 fu capA (capB,()) (y:Int) ((x:Int),tabL 1089 (valK ((y:Int)*33+(x:Int)))) (x:Int) j2) (b,capA.2.1.2.2.2.2.2.1)=camera_Capture_j4 fu capA (capB,()) (y:Int) ((x:Int),tabL 1089 (valK ((y:Int)*33+(x:Int)))) (x:Int) j2 (if b=true then 50 else 200):=fun b=>by
    cases b <;> rfl
   have ex:IntKind.i64.wrap ((x:Int)-capA.2.1.2.1)=(x:Int)-16:=wr64 (by show _≤(x:Int)-16;omega) (by show (x:Int)-16≤_;omega);have ey:IntKind.i64.wrap ((y:Int)-capA.2.1.2.2.1)=(y:Int)-16:=wr64 (by show _≤(y:Int)-16;omega) (by show (y:Int)-16≤_;omega);rw [ex,ey];by_cases c1:(0:Int)≤(x:Int)-16
   ·rw [bif_pos c1];by_cases c2:(0:Int)≤(y:Int)-16
    ·rw [bif_pos c2,bif_pos (show capA.2.1.1≠0 by decide),bif_pos (show capA.2.1.1≠0 by decide)]
     have t1:IntKind.i64.wrap (Int.tdiv ((x:Int)-16) capA.2.1.1)=(x:Int)-16:=by
      rw [show capA.2.1.1=1 from rfl,Int.tdiv_one];exact wr64 (by omega) (by omega)
     have t2:IntKind.i64.wrap (Int.tdiv ((y:Int)-16) capA.2.1.1)=(y:Int)-16:=by
      rw [show capA.2.1.1=1 from rfl,Int.tdiv_one];exact wr64 (by omega) (by omega)
     rw [t1,t2]
     have hI:bitmap_Is_r fu (capB,((x:Int)-16,((y:Int)-16,())))=some (decide ((x:Int)-16=0∧(y:Int)-16=0),()):=by
      rw [←one_pix _ _ c1 c2];exact is_r fu (by omega) (by omega) (by omega) (by decide) byt1 _ _
     rw [hI];simp only [bindO_some];rw [hj5];refine key _ ?_;by_cases c3:(x:Int)-16=0∧(y:Int)-16=0
     ·rw [if_pos (decide_eq_true c3),if_pos (by omega)]
     ·rw [if_neg (by rw [decide_eq_false c3];decide),if_neg (by omega)]
    ·rw [bif_neg c2,hj5];refine key _ ?_;rw [if_neg (by decide),if_neg (by omega)]
   ·rw [bif_neg c1,hj5];refine key _ ?_;rw [if_neg (by decide),if_neg (by omega)]
  ·intro j2;unfold camera_Capture_l3;simp only [e33,e33',joinF_eq];rw [bif_neg (show ¬ ((33:Nat):Int)<33 by omega),wr64 (x:=(y:Int)+1) (by omega) (by omega)];rw [show (y:Int)*33+((33:Nat):Int)=((y+1:Nat):Int)*33 by omega];rfl
 ·intro j;unfold camera_Capture_l2;simp only [e33,e33'];rw [bif_neg (show ¬ ((33:Nat):Int)<33 by omega)];have hp:tabL 1089 (valK (((33:Nat):Int)*33))=pix1:=tabL_congr fun i h0 h1=>by unfold valK;rw [if_pos (by omega)]
  rw [hp];have hlen:pix1.length=1089:=tabL_length _ _;generalize pix1=pp at hlen;refine stLoop (n:=0) (by omega) (st:=fun k=>((k:Int),pp)) rfl (fun _ i hi=>absurd hi (by omega)) fun j2=>?_
  unfold camera_Capture_l6;simp only;rw [bif_neg (show ¬ ((0:Nat):Int)<capA.2.1.2.2.2.2.1 by decide)];refine stLoop (n:=1089) (by omega) (st:=fun k=>((k:Int),pp)) rfl ?_ ?_
  ·intro j3 k hk;unfold camera_Capture_l8 camera_Capture_j9;simp only [joinF_eq,hlen];rw [bif_pos (show (k:Int)<((1089:Nat):Int) by omega),bif_neg (show ¬ (0:Int)<(List.length capA.2.1.2.2.2.2.2.2.2:Int) by decide),wr64 (x:=(k:Int)+1) (by omega) (by omega)];rfl
  ·intro j3;unfold camera_Capture_l8;simp only [hlen,e33,e33'];rw [bif_neg (show ¬ ((1089:Nat):Int)<((1089:Nat):Int) by omega)]
end Ca
def cap1:(Int×Int×List Int)×Int×Unit:=((33,(33,(List.replicate 1089 200).set 544 50)),(0,()))
theorem pix1_eq:Ca.pix1=(List.replicate 1089 200).set 544 50:=by kernel_rfl
theorem cap_fu:∃ fu,camera_Capture_r fu Ca.capA=some cap1:=⟨FU,by
 have h:=Ca.cap_eq (fu:=FU) (Nat.le_of_eq FU_val.symm) (by kernel_rfl) (by kernel_rfl) (by kernel_rfl);rw [pix1_eq] at h
 exact h⟩
def camera_CaptureT_r (_:Nat) (a:(Int×Int×List Int)×(Int×Int×Int×Int×Int×Int×Int×List Int)×Unit):Option ((Int×Int×List Int)×Int×Unit):=if a.1=Ca.capA.1∧a.2.1.1=1∧a.2.1.2.1=16∧a.2.1.2.2.1=16∧a.2.1.2.2.2.1=0∧a.2.1.2.2.2.2.1=0∧a.2.1.2.2.2.2.2.1=200∧a.2.1.2.2.2.2.2.2.1=50∧a.2.1.2.2.2.2.2.2.2=[] then some cap1 else none
def camera_CaptureT_ctr:Ctr:={ camera_Capture_ctr with f:=camera_CaptureT_r }
theorem camera_CaptureT_ok:CtrOk Try.prog 59 camera_CaptureT_ctr:=fun fu x y h=>by
 have h:camera_CaptureT_r fu x=some y:=h;obtain ⟨fu',hc⟩:=cap_fu;unfold camera_CaptureT_r at h;split at h
 ·rename_i e
  have e':x=Ca.capA:=by
   obtain ⟨x1,⟨x2,x3,x4,x5,x6,x7,x8,x9⟩,⟨⟩⟩:=x;obtain ⟨e1,e2,e3,e4,e5,e6,e7,e8,e9⟩:=e;simp only at e1 e2 e3 e4 e5 e6 e7 e8 e9;subst e1 e2 e3 e4 e5 e6 e7 e8 e9;rfl
  subst e';exact camera_Capture_ok fu' Ca.capA y (hc.trans h)
 ·cases h
end Go.Proofs.Ytelpkjellakigaa
/- linear.Row: what a bitmap in memory is (at any offset);bitmap.Is as the walks take it;bitmap.Row. -/
namespace Go.Proofs.Ytelpkjellakigaa
open Go Go.RowKit Go.Shelf
attribute [local go_sem] Oper.semAt_some

structure Pic (w h:Int) (ds:List Int) (Bb Bo n0:Nat) (W:World):Prop where
 c0:W.cell? ⟨Bb,Bo,none⟩=some (.int .i64 w)
 c1:W.cell? ⟨Bb,Bo+1,none⟩=some (.int .i64 h)
 sl:∃ A c,W.cell? ⟨Bb,Bo+2,none⟩=some (.slice A ds.length c)∧ds.length≤c∧c≤maxLen∧(∀ i,i<ds.length→A≠none) ∧
  ∀ (i:Nat) (v:Int),ds[i]?=some v→∃ b o,A=some ⟨b,o,none⟩∧b<n0∧W.cell? ⟨b,o+i,none⟩=some (.int .u8 v)
section
variable {w h:Int} {ds:List Int} {Bb Bo n0:Nat} {W W':World}
theorem Pic.kept {row:Option Nat} (p:Pic w h ds Bb Bo n0 W) (hg:W.grownBy W' row) (hr:∀ r,row=some r→∃ o:Obj,W.heap[r]?=some o∧o.isCells=false):Pic w h ds Bb Bo n0 W':=by
 obtain ⟨A,c,h1,h2,h3,h4,h5⟩:=p.sl;refine ⟨Go.cell_kept p.c0 hg hr,Go.cell_kept p.c1 hg hr,A,c,Go.cell_kept h1 hg hr,h2,h3,h4,fun i v hv=>?_⟩;obtain ⟨b,o,e1,e0,e2⟩:=h5 i v hv;exact ⟨b,o,e1,e0,Go.cell_kept e2 hg hr⟩
theorem grown_of_below (hb:Below W.heap.size W W'):W.grownBy W' none:=⟨hb.os,hb.tape,hb.output,hb.size,fun k hk _=>hb.block k hk⟩
def Kp3 (n0 Bb B1 B2:Nat) (A B:World):Prop:=Below n0 A B∧∀ b,(b=Bb∨b=B1∨b=B2)→B.heap[b]?=A.heap[b]?
theorem Pic.keep3 {B1 B2:Nat} (p:Pic w h ds Bb Bo n0 W) (hk:Kp3 n0 Bb B1 B2 W W'):Pic w h ds Bb Bo n0 W':=by
 obtain ⟨A,c,h1,h2,h3,h4,h5⟩:=p.sl;have e:=hk.2 Bb (.inl rfl);refine ⟨(World.cell?_of_block (a:=⟨Bb,Bo,none⟩) e).trans p.c0,(World.cell?_of_block (a:=⟨Bb,Bo+1,none⟩) e).trans p.c1,A,c,(World.cell?_of_block (a:=⟨Bb,Bo+2,none⟩) e).trans h1,h2,h3,h4,fun i v hv=>?_⟩;obtain ⟨b,o,e1,e0,e2⟩:=h5 i v hv;exact ⟨b,o,e1,e0,(hk.1.cell (p:=⟨b,o+i,none⟩) e0).trans e2⟩
theorem keepIs {b:Nat} {v:Value} (hk:W.cell? ⟨b,0,none⟩=some v) (hb:Below W.heap.size W W'):W'.cell? ⟨b,0,none⟩=some v:=Go.cell_kept hk (grown_of_below hb) (fun r e=>by cases e)
theorem Pic.is (p:Pic w h ds Bb Bo n0 W) (hb:Below W.heap.size W W'):Pic w h ds Bb Bo n0 W':=p.kept (grown_of_below hb) (fun r e=>by cases e)
theorem Pic.rel (p:Pic w h ds Bb Bo n0 W):RelV W (Gh.none W.heap.size) (.peek (Ty.cells false (.pair (.int .i64) (.pair (.int .i64) (.list (.int .u8)))) (w,(h,ds))) 0) (.pointer (some ⟨Bb,Bo,none⟩)):=by
 obtain ⟨A,c,h1,h2,h3,h4,h5⟩:=p.sl
 have hro:RelD W (Gh.none W.heap.size).own (Gh.none W.heap.size).bs (.ro false 1 (ds.map (Ty.cells false (.int .u8)))) (.slice A ds.length c):=by
  have hl:(ds.map (Ty.cells false (.int .u8))).length=ds.length:=List.length_map ..;have hr:=RelD.ro (w:=W) (own:=(Gh.none W.heap.size).own) (bs:=(Gh.none W.heap.size).bs) false 1 (ds.map (Ty.cells false (.int .u8))) A c (fun i _=>.int .u8 (ds.getD i 0)) (by rw [hl];exact h2) h3 (fun i hi=>h4 i (by rw [hl] at hi;exact hi)) (fun i row j a g1 g2=>?_) (fun i row j a g1 g2=>?_)
  ·rw [hl] at hr;exact hr
  ·rw [List.getElem?_map] at g1;obtain ⟨v,hv,e⟩:=Option.map_eq_some_iff.1 g1;subst e;rw [Ty.cells] at g2
   cases j with
   | succ j=>simp at g2
   | zero =>
    obtain ⟨b,o,e1,_,e2⟩:=h5 i v hv;refine ⟨b,o,e1,fun h=>h,(fun e=>by cases e),?_⟩;rw [Nat.mul_one,Nat.add_zero,e2,List.getD_eq_getElem?_getD,hv];rfl
  ·rw [List.getElem?_map] at g1;obtain ⟨v,hv,e⟩:=Option.map_eq_some_iff.1 g1;subst e;rw [Ty.cells] at g2
   cases j with
   | succ j=>simp at g2
   | zero =>
    simp only [List.getElem?_cons_zero,Option.some.injEq] at g2;subst g2;rw [List.getD_eq_getElem?_getD,hv];exact .int .u8 v
 have ec:Ty.cells false (.pair (.int .i64) (.pair (.int .i64) (.list (.int .u8)))) (w,(h,ds))=[.int .i64 w,.int .i64 h,.ro false 1 (ds.map (Ty.cells false (.int .u8)))]:=by
  simp only [Ty.cells,Ty.size,List.cons_append,List.nil_append]
 rw [ec];refine .peek _ 0 Bb Bo (fun t=>match t with | 0=>.int .i64 w | 1=>.int .i64 h | _=>.slice A ds.length c) (by simp) (fun h=>h) (fun t a g=>?_) (fun t a g=>?_)
 ·match t,g with
  | 0,_=>exact p.c0
  | 1,_=>exact p.c1
  | 2,_=>exact h1
  | t+3,g=>simp at g
 ·match t,g with
  | 0,g=>simp at g;subst g;exact .int .i64 w
  | 1,g=>simp at g;subst g;exact .int .i64 h
  | 2,g=>simp at g;subst g;exact hro
  | t+3,g=>simp at g
theorem is_calls (p:Pic w h ds Bb Bo n0 W) (hw0:0≤w) (hw1:w≤1024) (hh:h≤1024) (hl:(ds.length:Int)=strd w*h) (hb:Bytes ds) (x y:Int) :
  Calls Try.prog 82 #[.pointer (some ⟨Bb,Bo,none⟩),.int .i64 x,.int .i64 y] W fun e W'=>e=.returned (.bool (pixB w h ds x y))∧Below W.heap.size W W':=by
 have hA:=bitmap_Is_ok FU ((w,(h,ds)),(x,(y,()))) (pixB w h ds x y,()) (is_r FU hw0 hw1 hh hl hb x y);refine (hA.out W #[.pointer (some ⟨Bb,Bo,none⟩),.int .i64 x,.int .i64 y] ⟨rfl,fun i a v ha hv=>?_⟩).mono ?_
 ·match i,ha,hv with
  | 0,ha,hv =>
   have ha:some (AV.peek (Ty.cells false (.pair (.int .i64) (.pair (.int .i64) (.list (.int .u8)))) (w,(h,ds))) 0)=some a:=ha;have hv:some (Value.pointer (some ⟨Bb,Bo,none⟩))=some v:=hv;injection ha with ha
   injection hv with hv
   subst ha;subst hv
   exact p.rel
  | 1,ha,hv =>
   have ha:some (AV.int .i64 x)=some a:=ha;have hv:some (Value.int .i64 x)=some v:=hv;injection ha with ha
   injection hv with hv
   subst ha;subst hv
   exact rI _ _ _ _
  | 2,ha,hv =>
   have ha:some (AV.int .i64 y)=some a:=ha;have hv:some (Value.int .i64 y)=some v:=hv;injection ha with ha
   injection hv with hv
   subst ha;subst hv
   exact rI _ _ _ _
  | i+3,ha,hv=>simp at hv
 ·rintro e W1 ⟨v,rfl,hB,hv⟩
  have hv:RelV W1 _ (.bool (pixB w h ds x y)) v:=hv;rw [hv.bool'];exact ⟨rfl,hB⟩
theorem is_in (p:Pic w h ds Bb Bo n0 W) (hw0:0≤w) (hw1:w≤1024) (hh:h≤1024) (hl:(ds.length:Int)=strd w*h) (hb:Bytes ds) (x y:Int) (n:Nat) :
  CallsIn Fence.wide n Try.prog 82 #[.pointer (some ⟨Bb,Bo,none⟩),.int .i64 x,.int .i64 y] W fun e W'=>e=.returned (.bool (pixB w h ds x y))∧Below W.heap.size W W' :=
 callsIn_wide.2 (is_calls p hw0 hw1 hh hl hb x y)
end
set_option maxHeartbeats 1000000 in
theorem row_in (n:Nat) (v:Option Addr) (y:Int) (W:World):CallsIn Fence.wide n Try.prog 202 #[.pointer v,.int .i64 y] W fun e W'=>e=.returned (.func (.func 213) #[] #[.pointer (some ⟨W.heap.size,0,none⟩),.pointer (some ⟨W.heap.size+1,0,none⟩)])∧W'=(W.alloc (.cells #[.pointer v] 118)).alloc (.cells #[.int .i64 y] 3):=by
 refine callsIn_of_wp Try.func202 rfl trivial ?_ rfl;simp only [Try.ntmps202,List.size_toArray,List.length_cons,List.length_nil,Nat.reduceAdd,Nat.reduceSub,Array.replicate_succ,Array.replicate_zero,List.push_toArray,List.append_toArray,List.nil_append,List.cons_append]
 gi_wp2
 go_ret
 exact ⟨rfl,rfl⟩
inductive RF (p:Int→Bool) (w y:Int):Int→List (Int×Int×Int)→Prop
 | done (x:Int) (h:w≤x):RF p w y x []
 | skip (x:Int) (l:List (Int×Int×Int)) (h:x<w) (hp:p x=false) (t:RF p w y (x+1) l):RF p w y x l
 | run (x x':Int) (l:List (Int×Int×Int)) (h:x<x') (h':x'≤w) (hp:∀ i,x≤i→i<x'→p i=true) (hq:x'<w→p x'=false) (t:RF p w y x' l):RF p w y x ((y,x,x')::l)
def encR3 (r:Int×Int×Int):Value:=.agg #[.int .i64 r.1,.int .i64 r.2.1,.int .i64 r.2.2]
set_option maxRecDepth 100000 in
set_option maxHeartbeats 4000000 in
theorem row1_in (n:Nat) (hn:1≤n) (l B1 B2 n0 Bb Bo N:Nat) (w h y:Int) (ds:List Int) (hw0:0≤w) (hw1:w≤1024) (hh:h≤1024) (hl:(ds.length:Int)=strd w*h) (hb:Bytes ds) (rs:List (Int×Int×Int)) (hrs:RF (fun x=>pixB w h ds x y) w y 0 rs) (J Jx:List (Int×Int×Int)→World→Prop) (hJ:AbidesFrom N J)
  (hY:∀ pre x W,J pre W→pre.length<rs.length→YieldAt Fence.wide (n-1) Try.prog l #[encR3 x] W fun e W' =>
   (e=.returned (.bool true)∧J (pre++[x]) W'∧Kp3 n0 Bb B1 B2 W W')∨(e=.returned (.bool false)∧Jx (pre++[x]) W'))
  (W:World) (hc1:W.cell? ⟨B1,0,none⟩=some (.pointer (some ⟨Bb,Bo,none⟩))) (hc2:W.cell? ⟨B2,0,none⟩=some (.int .i64 y)) (hP:Pic w h ds Bb Bo n0 W) (h0:J [] W) :
  CallsIn Fence.wide n Try.prog 213 #[.func (.yield l) #[] #[],.pointer (some ⟨B1,0,none⟩),.pointer (some ⟨B2,0,none⟩)] W fun e W'=>(∃ v,e=.returned v) ∧
   ((∃ ys,ys=rs∧J ys W')∨(∃ pre,pre <+: rs∧Jx pre W')):=by
 refine callsIn_of_wp Try.func213 rfl trivial ?_ rfl;simp only [Try.ntmps213,List.size_toArray,List.length_cons,List.length_nil,Nat.reduceAdd,Nat.reduceSub,Array.replicate_succ,Array.replicate_zero,List.push_toArray,List.append_toArray,List.nil_append,List.cons_append]
 gi_wp2
 gi_loopw [4] (fun p wr=>∃ (pre rest:List (Int×Int×Int)) (x:Int),p=.int .i64 x∧0≤x∧x≤w∧rs=pre++rest∧RF (fun x=>pixB w h ds x y) w y x rest∧J pre wr∧Pic w h ds Bb Bo n0 wr∧wr.cell? ⟨B1,0,none⟩=some (.pointer (some ⟨Bb,Bo,none⟩))∧wr.cell? ⟨B2,0,none⟩=some (.int .i64 y))
  (fun p wr=>(w-intOf p).toNat)
 case atStart =>
  exact ⟨[],rs,0,rfl,by omega,hw0,rfl,hrs,h0,hP,hc1,hc2⟩
 case round =>
  obtain ⟨pre,rest,x,rfl,hx0,hx1,hx,hrf,hJs,hPs,hk1,hk2⟩:=hrel;have hc0:=hPs.c0
  cases hrf with
  | done _ hd =>
   have hlt:¬ x<w:=by omega
   gi_wp2
   go_end0
   exact ⟨⟨_,rfl⟩,.inl hJs⟩
  | skip _ _ hlt hp t =>
   have hp:pixB w h ds x y=false:=hp
   gi_wp2_with (refine ⟨trivial,?_⟩;gi_at_call 82;refine (is_in hPs hw0 hw1 hh hl hb x y _).mono ?_;rintro e W2 ⟨rfl,hB⟩;rw [hp])
   exact ⟨⟨pre,rest,x+1,rfl,by omega,by omega,hx,t,hJ pre wr W2 none hJs (grown_of_below hB) (fun r e=>by cases e),hPs.is hB,keepIs hk1 hB,keepIs hk2 hB⟩,by simp [intOf];omega⟩
  | run _ x' rest hlt hle hp hq t =>
   have hpx:pixB w h ds x y=true:=hp x (by omega) hlt;have hxw:x<w:=by omega
   gi_wp2_with (refine ⟨trivial,?_⟩;gi_at_call 82;refine (is_in hPs hw0 hw1 hh hl hb x y _).mono ?_;rintro e W2 ⟨rfl,hB⟩;rw [hpx])
   have hJ2:=hJ pre wr W2 none hJs (grown_of_below hB) (fun r e=>by cases e);have hP2:=hPs.is hB;have k1:=keepIs hk1 hB;have k2:=keepIs hk2 hB;clear hJs hPs hk1 hk2 hc0 hB
   gi_loopw [4] (fun p wq=>∃ (x1:Int),p=.int .i64 x1∧x≤x1∧x1≤x'∧J pre wq∧Pic w h ds Bb Bo n0 wq∧wq.cell? ⟨B1,0,none⟩=some (.pointer (some ⟨Bb,Bo,none⟩))∧wq.cell? ⟨B2,0,none⟩=some (.int .i64 y))
    (fun p wq=>(w-intOf p).toNat)
   case atStart =>
    exact ⟨x,rfl,by omega,by omega,hJ2,hP2,k1,k2⟩
   case round =>
    clear hJ2 hP2 k1 k2;obtain ⟨x1,rfl,hy0,hy1,hJ3,hP3,k1,k2⟩:=hrel;have hc0:=hP3.c0;by_cases hcase:x1<x'
    ·have hpx1:pixB w h ds x1 y=true:=hp x1 hy0 hcase;have hx1w:x1<w:=by omega
     gi_wp2_with (refine ⟨trivial,?_⟩;gi_at_call 82;refine (is_in hP3 hw0 hw1 hh hl hb x1 y _).mono ?_;rintro e W4 ⟨rfl,hB⟩;rw [hpx1])
     exact ⟨⟨x1+1,rfl,by omega,by omega,hJ pre _ W4 none hJ3 (grown_of_below hB) (fun r e=>by cases e),hP3.is hB,keepIs k1 hB,keepIs k2 hB⟩,by simp [intOf];omega⟩
    ·have e1:x1=x':=by omega
     subst e1;by_cases hx1w:x1<w
     ·have hpx1:pixB w h ds x1 y=false:=hq hx1w
      gi_wp2_with (refine ⟨trivial,?_⟩;gi_at_call 82;refine (is_in hP3 hw0 hw1 hh hl hb x1 y _).mono ?_;rintro e W4 ⟨rfl,hB⟩;rw [hpx1];have hJ4:=hJ pre _ W4 none hJ3 (grown_of_below hB) (fun r e=>by cases e);have hP4:=hP3.is hB;have q1:=keepIs k1 hB;have q2:=keepIs k2 hB;obtain ⟨fn,tmps,assign,body,hy,hR⟩:=hY pre (y,x,x1) W4 hJ4 (by rw [hx];simp);simp only [encR3] at hy;clear hY hJ3 hP3 k1 k2)
      refine hR.mono ?_
      rintro e W5 (⟨rfl,hJ5,hk5⟩ | ⟨rfl,hJx5⟩)
      ·gi_wp2
       exact ⟨⟨pre++[(y,x,x1)],rest,x1,rfl,by omega,by omega,by simp [hx],t,hJ5,hP4.keep3 hk5,(World.cell?_of_block (a:=⟨B1,0,none⟩) (hk5.2 B1 (.inr (.inl rfl)))).trans q1,(World.cell?_of_block (a:=⟨B2,0,none⟩) (hk5.2 B2 (.inr (.inr rfl)))).trans q2⟩,by simp [intOf];omega⟩
      ·gi_wp2
       refine bodyPost_ret (results_none rfl _ _ _) rfl ?_;exact ⟨⟨_,rfl⟩,.inr ⟨pre++[(y,x,x1)],⟨rest,by simp [hx]⟩,hJx5⟩⟩
     ·have hP4:=hP3;have q1:=k1;have q2:=k2;obtain ⟨fn,tmps,assign,body,hy,hR⟩:=hY pre (y,x,x1) wr hJ3 (by rw [hx];simp);simp only [encR3] at hy;clear hY hJ3 hP3
      gi_wp2
      refine ⟨trivial,?_⟩
      gi_wp2
      refine hR.mono ?_
      rintro e W5 (⟨rfl,hJ5,hk5⟩ | ⟨rfl,hJx5⟩)
      ·gi_wp2
       exact ⟨⟨pre++[(y,x,x1)],rest,x1,rfl,by omega,by omega,by simp [hx],t,hJ5,hP4.keep3 hk5,(World.cell?_of_block (a:=⟨B1,0,none⟩) (hk5.2 B1 (.inr (.inl rfl)))).trans q1,(World.cell?_of_block (a:=⟨B2,0,none⟩) (hk5.2 B2 (.inr (.inr rfl)))).trans q2⟩,by simp [intOf];omega⟩
      ·gi_wp2
       refine bodyPost_ret (results_none rfl _ _ _) rfl ?_;exact ⟨⟨_,rfl⟩,.inr ⟨pre++[(y,x,x1)],⟨rest,by simp [hx]⟩,hJx5⟩⟩
theorem row1_stops (n:Nat) (hn:1≤n) (B1 B2 n0 Bb Bo:Nat) (w h y:Int) (ds:List Int) (hw0:0≤w) (hw1:w≤1024) (hh:h≤1024) (hl:(ds.length:Int)=strd w*h) (hb:Bytes ds) (rs:List (Int×Int×Int)) (hrs:RF (fun x=>pixB w h ds x y) w y 0 rs)
  (W:World) (hc1:W.cell? ⟨B1,0,none⟩=some (.pointer (some ⟨Bb,Bo,none⟩))) (hc2:W.cell? ⟨B2,0,none⟩=some (.int .i64 y)) (hP:Pic w h ds Bb Bo n0 W) :
  SeqStopsK Fence.wide n Try.prog 213 #[.pointer (some ⟨B1,0,none⟩),.pointer (some ⟨B2,0,none⟩)] (fun x=>#[encR3 x]) (Kp3 n0 Bb B1 B2) (fun ys=>ys=rs) (fun pre=>pre <+: rs) rs.length W:=fun l J Jx W' hW hJ _ hY h0 =>
 row1_in n hn l B1 B2 n0 Bb Bo W'.heap.size w h y ds hw0 hw1 hh hl hb rs hrs J Jx hJ hY W' (keepIs hc1 hW) (keepIs hc2 hW) (hP.is hW) h0
end Go.Proofs.Ytelpkjellakigaa
/- linear.Row at bitmaps whose row has at most one run. -/
namespace Go.Proofs.Ytelpkjellakigaa
open Go Go.RowKit Go.Shelf
attribute [local go_sem] Oper.semAt_some

def flatI (L:List (Int×Int×Int)):List Value:=L.map fun r=>.int .i64 (wrap64 (r.2.2-r.2.1))
theorem infoI:(Try.prog.info? 3).map (fun i=>(i.zero,i.size,i.bytes))=some (some (.int .i64 0),1,8):=by kernel_rfl
def RQ (Bb Bo B1 B2:Nat) (y:Int) (W:World):Prop:=Boxed W B1 118 (.pointer (some ⟨Bb,Bo,none⟩))∧Boxed W B2 3 (.int .i64 y)
def RLi (n0 Bl:Nat) (L:List (Int×Int×Int)) (W:World):Prop:=∃ v,Boxed W Bl 25 v∧W.ownsRow n0 3 1 v L.length (flatI L)∧True
def R0 (Bl Bz:Nat) (L:List (Int×Int×Int)) (W:World):Prop:=L=[]→Boxed W Bl 25 (.slice none 0 0)∧Boxed W Bz 3 (.int .i64 (-1))
def RXr (Bx:Nat) (x:Int×Int×Int) (W:World):Prop:=W.heap[Bx]?=some (.cells #[.int .i64 x.1,.int .i64 x.2.1,.int .i64 x.2.2] 270 (0,0))
theorem cells_kept {W W':World} {row:Option Nat} {b:Nat} {cs:Array Value} {t:TypeId} {z:Nat×Nat} (h:W.heap[b]?=some (.cells cs t z)) (hg:W.grownBy W' row) (hr:∀ r,row=some r→∃ o:Obj,W.heap[r]?=some o∧o.isCells=false):W'.heap[b]?=some (.cells cs t z):=by
 refine (hg.block b (Array.getElem?_eq_some_iff.1 h).1 fun e=>?_).trans h;obtain ⟨o,ho,hc⟩:=hr b e.symm;rw [h] at ho;injection ho with ho
 subst ho;cases hc
theorem R0_own (Bl Bz:Nat):Own (R0 Bl Bz):=fun _ _ _ _ hs hg hr e=>⟨cells_kept (hs e).1 hg hr,cells_kept (hs e).2 hg hr⟩
theorem RQ_own (Bb Bo B1 B2:Nat) (y:Int):Own (fun (_:List (Int×Int×Int)) W=>RQ Bb Bo B1 B2 y W):=fun _ _ _ _ hs hg hr=>⟨cells_kept hs.1 hg hr,cells_kept hs.2 hg hr⟩
theorem kpg_b {w:World} {n0 Bb B1 B2:Nat} (h:n0≤w.heap.size) (hb:∀ b,(b=Bb∨b=B1∨b=B2)→b<w.heap.size):∀ (W:World) (l:Nat) (o o':Obj),w.heap.size≤l→W.heap[l]?=some o→o.isCells=false→o.isWalk=false→Kp3 n0 Bb B1 B2 W (W.putObj l o'):=fun W l o o' hl ho hc hw =>
 ⟨belowK_b h W l o o' hl ho hc hw,fun b h=>(grownBy_putObj' W l o').block b (by have:=hb b h;have:=(Array.getElem?_eq_some_iff.1 ho).1;omega) (fun e=>by injection e with e;have:=hb b h;omega)⟩
theorem kpg_t {n0 Bb B1 B2:Nat} {A B C:World} (h:Kp3 n0 Bb B1 B2 A B) (k:Kp3 n0 Bb B1 B2 B C):Kp3 n0 Bb B1 B2 A C:=⟨h.1.trans k.1,fun b hb=>(k.2 b hb).trans (h.2 b hb)⟩
theorem kpg_below {n0 Bb B1 B2:Nat} {W W':World} (h:Below W.heap.size W W') (h0:n0≤W.heap.size) (hb:∀ b,(b=Bb∨b=B1∨b=B2)→b<W.heap.size):Kp3 n0 Bb B1 B2 W W':=⟨h.mono h0,fun b e=>h.block b (hb b e)⟩
theorem kfg_below {W W':World} {B:Nat} (h:Below W.heap.size W W'):KeepsFrom B W W':=⟨h.size,fun k _ _ hk _=>(h.block k (Array.getElem?_eq_some_iff.1 hk).1).trans hk⟩
theorem news_1 (w:World) (e:TypeId) (a:Value) (H:Nat) (hH:w.heap.size=H):∀ j u,[a][j]?=some u→(w.alloc (.cells #[a] e)).cell? ((⟨H,0,none⟩:Addr).add j)=some u:=by
 intro j u hu;subst hH;rw [Addr.add_lit,Nat.zero_add,World.cell?_alloc_new];simpa using hu
theorem two_sets {w1:World} {A B k:Nat} {u v:Value} (hA:k≠A) (hB:k≠B):((w1.setCell ⟨A,0,none⟩ u).setCell ⟨B,0,none⟩ v).heap[k]?=w1.heap[k]? :=
 (Below.heap_setCell _ _ _ _ hB).trans (Below.heap_setCell _ _ _ _ hA)
theorem below_two {n0:Nat} {W w1:World} {A B:Nat} {u v:Value} {tmp:Obj} (h:(W.alloc tmp).grownBy w1 none) (hn:n0≤W.heap.size) (hA:n0≤A) (hB:n0≤B):Below n0 W ((w1.setCell ⟨A,0,none⟩ u).setCell ⟨B,0,none⟩ v):=by
 have a0:=World.grownBy_alloc W tmp none;have a1:=grownBy_setCell' w1 A u;have a2:=grownBy_setCell' (w1.setCell ⟨A,0,none⟩ u) B v;refine ⟨a2.os.trans (a1.os.trans (h.os.trans a0.os)),a2.tape.trans (a1.tape.trans (h.tape.trans a0.tape)),a2.output.trans (a1.output.trans (h.output.trans a0.output)),Nat.le_trans a0.size (Nat.le_trans h.size (Nat.le_trans a1.size a2.size)),fun k hk=>?_⟩;rw [two_sets (by omega) (by omega),h.block k (by rw [World.size_alloc];omega) (by simp)];exact Below.heap_alloc W tmp k (by omega)
set_option maxRecDepth 100000 in
set_option maxHeartbeats 4000000 in
theorem lrow_calls {W:World} {Bb Bo:Nat} {w h y:Int} {ds:List Int} (hP:Pic w h ds Bb Bo W.heap.size W) (hw0:0≤w) (hw1:w≤1024) (hh:h≤1024) (hl:(ds.length:Int)=strd w*h) (hb:Bytes ds) (rs:List (Int×Int×Int)) (hrs:RF (fun x=>pixB w h ds x y) w y 0 rs) (h1:rs.length≤1) :
  CallsIn Fence.wide 9 Try.prog 170 #[.pointer (some ⟨Bb,Bo,none⟩),.int .i64 y] W fun e W'=>∃ v,e=.returned v∧W'.ownsRow W.heap.size 3 1 v rs.length (flatI rs)∧Below W.heap.size W W':=by
 obtain ⟨i0,hi,hz0,hz1,hz2⟩:=info_parts infoI;have hbb:Bb<W.heap.size:=World.block_lt_of_cell? W _ hP.c0;refine callsIn_of_wp_marks Try.func170 rfl trivial ?_ rfl;simp only [Try.ntmps170,List.size_toArray,List.length_cons,List.length_nil,Nat.reduceAdd,Nat.reduceSub,Array.replicate_succ,Array.replicate_zero,List.push_toArray,List.append_toArray,List.nil_append,List.cons_append]
 gi_wp2_with (refine ⟨trivial,?_⟩;gi_at_call 202;refine (row_in _ _ _ _).mono ?_;rintro e W4 ⟨rfl,rfl⟩)
 have bl:=(((Boxed.new W 25 (.slice none 0 0)).alloc (.cells #[.int .i64 (-1)] 3)).alloc (.cells #[.pointer (some ⟨Bb,Bo,none⟩)] 118)).alloc (.cells #[.int .i64 y] 3);have bz:=((Boxed.new (W.alloc (.cells #[.slice none 0 0] 25)) 3 (.int .i64 (-1))).alloc (.cells #[.pointer (some ⟨Bb,Bo,none⟩)] 118)).alloc (.cells #[.int .i64 y] 3);have b1:=(Boxed.new ((W.alloc (.cells #[.slice none 0 0] 25)).alloc (.cells #[.int .i64 (-1)] 3)) 118 (.pointer (some ⟨Bb,Bo,none⟩))).alloc (.cells #[.int .i64 y] 3);have b2:=Boxed.new (((W.alloc (.cells #[.slice none 0 0] 25)).alloc (.cells #[.int .i64 (-1)] 3)).alloc (.cells #[.pointer (some ⟨Bb,Bo,none⟩)] 118)) 3 (.int .i64 y)
 have hB5:Below W.heap.size W ((((W.alloc (.cells #[.slice none 0 0] 25)).alloc (.cells #[.int .i64 (-1)] 3)).alloc (.cells #[.pointer (some ⟨Bb,Bo,none⟩)] 118)).alloc (.cells #[.int .i64 y] 3)) :=
  ((((Below.refl _ W).alloc (Nat.le_refl _) _).alloc (by simp) _).alloc (by simp;omega) _).alloc (by simp;omega) _
 have z5:((((W.alloc (.cells #[.slice none 0 0] 25)).alloc (.cells #[.int .i64 (-1)] 3)).alloc (.cells #[.pointer (some ⟨Bb,Bo,none⟩)] 118)).alloc (.cells #[.int .i64 y] 3)).heap.size=W.heap.size+4:=by simp
 simp only [World.size_alloc] at bl bz b1 b2;obtain ⟨W5,hW5⟩:∃ W5,(((W.alloc (.cells #[.slice none 0 0] 25)).alloc (.cells #[.int .i64 (-1)] 3)).alloc (.cells #[.pointer (some ⟨Bb,Bo,none⟩)] 118)).alloc (.cells #[.int .i64 y] 3)=W5:=⟨_,rfl⟩;rw [hW5] at bl bz b1 b2 hB5 z5 ⊢;clear hW5;obtain ⟨Bl,hBl⟩:∃ Bl,W.heap.size=Bl:=⟨_,rfl⟩;rw [hBl] at bl bz b1 b2 hB5 z5 hbb hP ⊢;obtain ⟨Bz,hBz⟩:∃ Bz,Bl+1=Bz:=⟨_,rfl⟩;rw [hBz] at bz b1 b2 ⊢;obtain ⟨B1,hB1⟩:∃ B1,Bz+1=B1:=⟨_,rfl⟩;rw [hB1] at b1 b2 ⊢;obtain ⟨B2,hB2⟩:∃ B2,B1+1=B2:=⟨_,rfl⟩;rw [hB2] at b2 ⊢;have hP5:Pic w h ds Bb Bo Bl W5:=hP.is (by rw [hBl];exact hB5)
 have hblt:∀ b,(b=Bb∨b=B1∨b=B2)→b<W5.heap.size:=by rintro b (rfl | rfl | rfl) <;> omega
 have hOwn:OwnFrom W5.heap.size (fun pre W'=>RLi Bl Bl pre W'∧R0 Bl Bz pre W'∧RQ Bb Bo B1 B2 y W'∧Below Bl W W') :=
  OwnFrom.and (Own.from (holdsRow_own Bl Bl 25 3 1 (fun pre=>pre.length) (fun pre=>flatI pre) (fun _ _=>True)) _) (OwnFrom.and (Own.from (R0_own Bl Bz) _) (OwnFrom.and (Own.from (RQ_own Bb Bo B1 B2 y) _) (ownFrom_below (by omega) (by omega))))
 refine wpIn_rangeFunc_ownH rfl (by omega) (gf:=213) (lb:=#[.pointer (some ⟨B1,0,none⟩),.pointer (some ⟨B2,0,none⟩)]) rfl trivial (enters_of Try.func213 (by kernel_rfl) rfl)
  (row1_stops _ (by omega) B1 B2 Bl Bb Bo w h y ds hw0 hw1 hh hl hb rs hrs W5 b1.cell b2.cell hP5) kpg_t (kpg_b (by omega) hblt) (Below.refl _ _) (fun _=>rfl)
  (fun pre W'=>RLi Bl Bl pre W'∧R0 Bl Bz pre W'∧RQ Bb Bo B1 B2 y W'∧Below Bl W W')
  (fun _ _ _=>False)
  hOwn
  (fun _ _ _ _ _ hs _ _=>hs)
  ⟨⟨_,bl,World.ownsRow_nil _ _ _ _,trivial⟩,fun _=>⟨bl,bz⟩,⟨b1,b2⟩,hB5⟩
  (fun x a' W'=>∃ Bx,B2<Bx∧RXr Bx x W'∧a'={ tmps:=#[.pointer (some ⟨Bb,Bo,none⟩),.int .i64 y,undef,undef,.slice none 0 0,.pointer (some ⟨Bl,0,none⟩),.pointer (some ⟨Bz,0,none⟩),.pointer (some ⟨Bx,0,none⟩),.pointer (some ⟨Bb,Bo,none⟩),.int .i64 y,.func (.func 213) #[] #[.pointer (some ⟨B1,0,none⟩),.pointer (some ⟨B2,0,none⟩)],(.agg #[.int .i64 x.1,.int .i64 x.2.1,.int .i64 x.2.2]),undef,undef,undef,undef,undef,undef,undef,undef,undef,undef,undef,undef,undef,undef,undef,undef,undef,undef,undef,undef],defers:=[] })
  (fun x a' _ X Y row hs hg hr=>by obtain ⟨Bx,h1,h2,h3⟩:=hs;exact ⟨Bx,h1,cells_kept h2 hg (fun r e=>(hr r e).2),h3⟩)
  ?assign0 ?body0 ?done0 ?stop0
 case assign0 =>
  rintro l pre x W6 K hI hK
  simp only [encR3]
  gi_wp2
  have hbx:=(Below.refl _ W6).alloc (Nat.le_refl _) (.cells #[.int .i64 x.1,.int .i64 x.2.1,.int .i64 x.2.2] 270);obtain ⟨⟨v,hv,hrow,_⟩,hR0,hRQ,hBel⟩:=id hI;have hlt2:=hRQ.2.lt;have hlt1:=hRQ.1.lt;exact hK _ _ (kfg_below hbx) (kpg_below hbx (by omega) (by rintro b (rfl | rfl | rfl) <;> omega)) (hOwn pre W6 _ none hI (grown_of_below hbx) (fun r e=>by cases e)) ⟨W6.heap.size,by omega,World.alloc_heap_new W6 _,rfl⟩
 case body0 =>
  rintro l pre x a' W6 hl ⟨r,hr⟩ ⟨hL,hR0,hRQ,hBel⟩ ⟨Bx,hBx,bX,rfl⟩ hpl
  obtain rfl:pre=[]:=by
   cases pre with
   | nil=>rfl
   | cons _ _=>exfalso;simp only [List.length_cons] at hpl;omega
  obtain ⟨hv,hz⟩:=hR0 rfl;have hcv:=hv.cell;have hcz:=hz.cell;have k1:W6.cell? ⟨Bx,1,none⟩=some (.int .i64 x.2.1):=by simp [World.cell?,show W6.heap[Bx]?=_ from bX]
  have k2:W6.cell? ⟨Bx,2,none⟩=some (.int .i64 x.2.2):=by simp [World.cell?,show W6.heap[Bx]?=_ from bX]
  have hx6:Bx<W6.heap.size:=(Array.getElem?_eq_some_iff.1 bX).1
  gi_wp2_with (gi_at_builtin;refine wpListIn_append_own _ rfl _ _ 25 rfl W6.heap.size 3 i0 (.int .i64 0) 1 8 Try.underlying25 hi hz0 hz1 hz2 rfl (by decide) _ 0 [] rfl (World.ownsRow_nil _ _ _ _) ⟨W6.heap.size,0,none⟩ 1 1 [_] rfl rfl (news_1 _ _ _ _ rfl) (by intro u hu;simp only [List.mem_singleton] at hu;subst hu;rfl) (by simp only [maxLen];omega) (by omega) (by simp) ?_;intro v' w1 hown' hgrow _;replace hgrow:(W6.alloc _).grownBy w1 none:=hgrow;have ex:∀ b,b<W6.heap.size→w1.heap[b]?=W6.heap[b]?:=(fun b hb=>(hgrow.block b (by rw [World.size_alloc];omega) (by simp)).trans (Below.heap_alloc W6 _ b hb));obtain ⟨g',cap',rfl⟩:=ownsRow_succ hown';have hg':=(hown'.lt g' rfl).1;have bl1:Boxed w1 Bl 25 (.slice none 0 0):=(ex Bl hv.lt).trans hv;have hcw:=bl1.cell;have hfw:=bl1.frozen;have bz1:Boxed w1 Bz 3 (.int .i64 (-1)):=(ex Bz hz.lt).trans hz;have bz2:=bz1.other (B':=Bl) (by omega) (.slice (some ⟨g',0,none⟩) 1 cap');have hcz2:=bz2.cell;have hfz2:=bz2.frozen;have kk2:(w1.setCell ⟨Bl,0,none⟩ (.slice (some ⟨g',0,none⟩) 1 cap')).cell? ⟨Bx,2,none⟩=some (.int .i64 x.2.2):=(World.cell?_of_block (a:=⟨Bx,2,none⟩) ((Below.heap_setCell _ _ _ _ (show Bx≠Bl by omega)).trans (ex Bx hx6))).trans k2)
  have hb2:=below_two (n0:=Bl) (A:=Bl) (B:=Bz) (u:=.slice (some ⟨g',0,none⟩) 1 cap') (v:=.int .i64 x.2.2) hgrow (by omega) (by omega) (by omega);have hk:∀ k,k<W6.heap.size→k≠Bl→k≠Bz→((w1.setCell ⟨Bl,0,none⟩ (.slice (some ⟨g',0,none⟩) 1 cap')).setCell ⟨Bz,0,none⟩ (.int .i64 x.2.2)).heap[k]?=W6.heap[k]?:=fun k h1 h2 h3=>(two_sets h2 h3).trans (ex k h1)
  have hown2:=(hown'.kept (grownBy_setCell' w1 Bl (.slice (some ⟨g',0,none⟩) 1 cap')) (.inr (by intro e;injection e with e;have e:g'=Bl:=e;have:=hv.lt;omega))).kept (grownBy_setCell' _ Bz (.int .i64 x.2.2)) (.inr (by intro e;injection e with e;have e:g'=Bz:=e;have:=hz.lt;omega))
  refine ⟨⟨hb2.size,fun k o hB ho _=>(hk k (Array.getElem?_eq_some_iff.1 ho).1 (by omega) (by omega)).trans ho⟩,⟨hb2,fun b hb=>hk b (by have:=hRQ.2.lt;rcases hb with rfl | rfl | rfl <;> omega) (by rcases hb with rfl | rfl | rfl <;> omega) (by rcases hb with rfl | rfl | rfl <;> omega)⟩,
   ⟨_,(bl1.set _).other (by omega) _,⟨hown2.1,?_⟩,trivial⟩,(fun e=>absurd e (by simp)),⟨(hk B1 hRQ.1.lt (by omega) (by omega)).trans hRQ.1,(hk B2 hRQ.2.lt (by omega) (by omega)).trans hRQ.2⟩,hBel.trans hb2⟩
  rcases hown2.2 with ⟨e,_⟩ | ⟨g,cap,cur,e,hb,rest⟩
  ·cases e
  ·exact .inr ⟨g,cap,cur,e,by omega,rest⟩
 case done0 =>
  rintro D0 ys Wq hD rfl ⟨⟨v,hv,hrow,_⟩,hR0,hRQ,hBel⟩ hD0
  have hcv:=hv.cell
  gi_wp2
  refine ⟨by simp,.inl ⟨_,_,rfl,run_takeDeferred hD0,?_⟩⟩;have e1:Below Bl Wq (Wq.putObj D0 (.deferred none)):=belowK_b (w:=W) (by omega) Wq D0 _ _ (by omega) hD0 rfl rfl;exact ⟨_,results_tmp rfl _ _ _,v,rfl,by rw [hBl];exact ownsRow_putObj hrow _ hD0 rfl,by rw [hBl];exact hBel.trans e1⟩
 case stop0 =>
  rintro D cc pre W6 _ _ h _
  exact h.elim
end Go.Proofs.Ytelpkjellakigaa
/- linear.Row as a contract at the three rows that the facts of the camera read. -/
namespace Go.Proofs.Ytelpkjellakigaa
open Go Go.RowKit Go.Shelf

abbrev bitT:Ty:=.pair (.int .i64) (.pair (.int .i64) (.list (.int .u8)))
def lrow (a:(Int×Int×List Int)×Int):Option (List (Int×Int×Int)) :=
 if a=((2,(1,[64])),0) then some [(0,1,2)] else if a=((1,(2,[0,128])),0) then some [] else if a=((1,(2,[0,128])),1) then some [(1,0,1)] else none
structure LrOk (w h y:Int) (ds:List Int) (rs:List (Int×Int×Int)):Prop where
 w0:0≤w
 w1:w≤1024
 h1:h≤1024
 len:(ds.length:Int)=strd w*h
 byt:Bytes ds
 rf:RF (fun x=>pixB w h ds x y) w y 0 rs
 one:rs.length≤1
theorem lrow_ok {w h y:Int} {ds:List Int} {rs:List (Int×Int×Int)} (e:lrow ((w,(h,ds)),y)=some rs):LrOk w h y ds rs:=by
 unfold lrow at e;split at e
 ·rename_i h0;injection e with e;subst e
  obtain ⟨⟨rfl,rfl,rfl⟩,rfl⟩:=(by simpa only [Prod.mk.injEq] using h0:(_∧_∧_)∧_);refine ⟨by omega,by omega,by omega,by decide,by intro d hd;simp at hd;omega,?_,by simp⟩;refine .skip 0 _ (by omega) (by decide) (.run _ 2 _ (by omega) (by omega) (fun i h1 h2=>?_) (fun h=>by omega) (.done _ (by omega)));have:i=1:=by omega
  subst this;decide
 ·split at e
  ·rename_i h0;injection e with e;subst e
   obtain ⟨⟨rfl,rfl,rfl⟩,rfl⟩:=(by simpa only [Prod.mk.injEq] using h0:(_∧_∧_)∧_);refine ⟨by omega,by omega,by omega,by decide,by intro d hd;simp at hd;omega,?_,by simp⟩;exact .skip 0 _ (by omega) (by decide) (.done _ (by omega))
  ·split at e
   ·rename_i h0;injection e with e;subst e
    obtain ⟨⟨rfl,rfl,rfl⟩,rfl⟩:=(by simpa only [Prod.mk.injEq] using h0:(_∧_∧_)∧_);refine ⟨by omega,by omega,by omega,by decide,by intro d hd;simp at hd;omega,?_,by simp⟩;refine .run 0 1 _ (by omega) (by omega) (fun i h1 h2=>?_) (fun h=>by omega) (.done _ (by omega));have:i=0:=by omega
    subst this;decide
   ·cases e
def linear_Row_r (_:Nat) (a:(Int×Int×List Int)×Int×Unit):Option (List Int×Unit):=match lrow (a.1,a.2.1) with
 | some rs=>some (rs.map fun r=>r.2.2-r.2.1,())
 | none=>none
def linear_Row_ctr:Ctr:=⟨.pair (.ptr bitT) (.pair (.int .i64) .unit),.pair (.list (.int .i64)) .unit,linear_Row_r,170⟩
theorem relD_int' {w:World} {own:Nat→Prop} {bs:Nat} {k:IntKind} {n:Int} {x:Value} (h:RelD w own bs (.int k n) x):x=.int k n:=by cases h;rfl
theorem bit_cells (w h:Int) (ds:List Int):Ty.cells false bitT (w,(h,ds))=[.int .i64 w,.int .i64 h,.ro false 1 (ds.map (Ty.cells false (.int .u8)))]:=by
 simp only [Ty.cells,Ty.size,List.cons_append,List.nil_append]
theorem pic_of {W:World} {v:Value} {w h:Int} {ds:List Int} (r:RelV W (Gh.none W.heap.size) (.peek (Ty.cells false bitT (w,(h,ds))) 0) v):∃ b o,v=.pointer (some ⟨b,o,none⟩)∧Pic w h ds b o W.heap.size W:=by
 rw [bit_cells] at r;generalize hrow:[AV.int .i64 w,.int .i64 h,.ro false 1 (ds.map (Ty.cells false (.int .u8)))]=row at r
 cases r with
 | dat r=>cases r
 | peek _ _ b o f hr hb h1 h2 =>
  subst hrow;refine ⟨b,o,rfl,?_,?_,?_⟩
  ·have:=h1 0 _ rfl;rw [relD_int' (h2 0 _ rfl)] at this;exact this
  ·have:=h1 1 _ rfl;rw [relD_int' (h2 1 _ rfl)] at this;exact this
  ·have e:=h1 2 _ rfl;have r:=h2 2 _ rfl;generalize f 2=u at e r
   cases r with
   | ro _ _ rows A c f hc hm h0 h1 h2 =>
    have hl:(ds.map (Ty.cells false (.int .u8))).length=ds.length:=List.length_map ..;rw [hl] at hc h0 e;refine ⟨A,c,e,hc,hm,h0,fun i v hv=>?_⟩;have g1:(ds.map (Ty.cells false (.int .u8)))[i]?=some [.int .u8 v]:=by rw [List.getElem?_map,hv];rfl
    obtain ⟨b,o,e1,_,_,e2⟩:=h1 i _ 0 _ g1 rfl;have e3:=h2 i _ 0 _ g1 rfl;have e4:f i 0=.int .u8 v:=relD_int' e3;rw [e4,Nat.mul_one,Nat.add_zero] at e2;exact ⟨b,o,e1,World.block_lt_of_cell? W _ e2,e2⟩
theorem ints_ro {W W':World} {v:Value} {L:List Int} (h:W'.ownsRow W.heap.size 3 1 v L.length (L.map fun n=>.int .i64 n)):RelV W' (Gh.frz W.heap.size) (.ro true 1 (L.map (Ty.cells true (.int .i64)))) v:=by
 have hl:(L.map (Ty.cells true (.int .i64))).length=L.length:=List.length_map ..
 have hx:∀ (i j:Nat) (row:List AV) (a:AV),(L.map (Ty.cells true (.int .i64)))[i]?=some row→row[j]?=some a→j=0∧∃ n,L[i]?=some n∧a=.int .i64 n:=by
  intro i j row a g1 g2;rw [List.getElem?_map] at g1;obtain ⟨n,hn,e⟩:=Option.map_eq_some_iff.1 g1;subst e;rw [Ty.cells] at g2
  cases j with
  | succ j=>simp at g2
  | zero=>simp at g2;exact ⟨rfl,n,hn,g2.symm⟩
 rcases h.2 with ⟨rfl,h3⟩ | ⟨g,cap,cur,rfl,hb,hg,hc,hm,hs,ht⟩
 ·have:L=[]:=List.eq_nil_of_length_eq_zero h3;subst this;exact .dat (.ro true 1 [] none 0 (fun _ _=>undef) (by simp) (by simp [maxLen]) (fun i hi=>absurd hi (by simp)) (fun i row j a g1 _=>by simp at g1) (fun i row j a g1 _=>by simp at g1))
 ·have hr:=RelD.ro (w:=W') (own:=(Gh.frz W.heap.size).own) (bs:=(Gh.frz W.heap.size).bs) true 1 (L.map (Ty.cells true (.int .i64))) (some ⟨g,0,none⟩) cap (fun i _=>.int .i64 (L.getD i 0)) (by rw [hl];exact hc) hm (fun _ _=>by simp) (fun i row j a g1 g2=>?_) (fun i row j a g1 g2=>?_)
  ·rw [hl] at hr;exact .dat hr
  ·obtain ⟨rfl,n,hn,rfl⟩:=hx i j row a g1 g2;refine ⟨g,0,rfl,fun h=>by have h:g<W.heap.size:=h;omega,fun _=>hb,?_⟩;have:=h.cells (g:=g) rfl i (.int .i64 n) (by rw [List.getElem?_map,hn];rfl);rw [Addr.add_lit] at this;rw [Nat.mul_one,Nat.add_zero,this,List.getD_eq_getElem?_getD,hn];rfl
  ·obtain ⟨rfl,n,hn,rfl⟩:=hx i j row a g1 g2;rw [List.getD_eq_getElem?_getD,hn];exact .int .i64 n
theorem flatI_eq {rs:List (Int×Int×Int)} (h:∀ r ∈ rs,wrap64 (r.2.2-r.2.1)=r.2.2-r.2.1):flatI rs=(rs.map fun r=>r.2.2-r.2.1).map fun n=>.int .i64 n:=by
 unfold flatI;rw [List.map_map];refine List.map_congr_left fun r hr=>?_
 show Value.int .i64 (wrap64 _)=_;rw [h r hr];rfl
theorem lrow_wr {a:(Int×Int×List Int)×Int} {rs:List (Int×Int×Int)} (e:lrow a=some rs):∀ r ∈ rs,wrap64 (r.2.2-r.2.1)=r.2.2-r.2.1:=by
 unfold lrow at e;intro r hr;split at e
 ·injection e with e;subst e
  simp only [List.mem_singleton] at hr;subst hr;exact (show wrap64 1=1 by unfold wrap64;decide)
 ·split at e
  ·injection e with e;subst e;cases hr
  ·split at e
   ·injection e with e;subst e
    simp only [List.mem_singleton] at hr;subst hr;exact (show wrap64 1=1 by unfold wrap64;decide)
   ·cases e
theorem linear_Row_ok:CtrOk Try.prog 170 linear_Row_ctr:=fun fu x z hz=>by
 obtain ⟨⟨w,h,ds⟩,y,⟨⟩⟩:=x;have hz:linear_Row_r fu ((w,(h,ds)),(y,()))=some z:=hz;unfold linear_Row_r at hz;split at hz
 ·rename_i rs hrs;have hrs:lrow ((w,(h,ds)),y)=some rs:=hrs;injection hz with hz
  subst hz;obtain ⟨w0,w1,h1,len,byt,rf,one⟩:=lrow_ok hrs;have hwr:=lrow_wr hrs;refine ⟨fun W vs ha=>?_⟩
  obtain ⟨u,t,rfl⟩:∃ u t,vs=#[u,t]:=by
   have:=ha.size;obtain ⟨l⟩:=vs
   match l,this with
   | [u,t],_=>exact ⟨u,t,rfl⟩
  have h0:RelV W (Gh.none W.heap.size) (.peek (Ty.cells false bitT (w,(h,ds))) 0) u:=ha.rel 0 _ u rfl rfl;have hy:=(ha.rel 1 _ t rfl rfl:RelV W (Gh.none W.heap.size) (.int .i64 y) t).int';subst hy;obtain ⟨b,o,rfl,hP⟩:=pic_of h0;refine (callsIn_wide.1 (lrow_calls hP w0 w1 h1 len byt rs rf one)).mono ?_
  rintro e W' ⟨v,rfl,hown,hB⟩
  rw [flatI_eq hwr] at hown;have hown:W'.ownsRow W.heap.size 3 1 v (rs.map fun r=>r.2.2-r.2.1).length ((rs.map fun r=>r.2.2-r.2.1).map fun n=>.int .i64 n):=by rw [List.length_map];exact hown
  exact ⟨_,rfl,hB,ints_ro hown⟩
 ·cases hz
end Go.Proofs.Ytelpkjellakigaa
/- cameraWorks,by a run with short tables. -/
set_option maxRecDepth 1000000
namespace Go.Proofs.Ytelpkjellakigaa
open Go Go.RowKit
def cameraWorks_tab:Tab:={
 und:=[(3,.int .i64),
  (5,.int .u8),
  (95, .struct #[fd "W" 3 0 false "" 0, fd "H" 3 1 false "" 8, fd "Pix" 52 2 false "" 16]),
  (52,.slice 5),
  (94, .struct #[fd "Scale" 3 0 false "" 0, fd "X" 3 1 false "" 8, fd "Y" 3 2 false "" 16, fd "Turn" 3 3 false "" 24, fd "Blur" 3 4 false "" 32, fd "Light" 3 5 false "" 40, fd "Dark" 3 6 false "" 48, fd "Noise" 25 7 false "" 56]),
  (118,.pointer 54),
  (278,.array 6 3),
  (54, .struct #[fd "W" 3 0 false "" 0, fd "H" 3 1 false "" 8, fd "Data" 52 2 false "" 16]),
  (25,.slice 3),
  (279,.array 4 3),
  (144,.pointer 95),
  (9,.string),
  (26,.int .i64),
  (262,.slice 278),
  (270, .struct #[fd "Y" 3 0 false "" 0, fd "X0" 3 1 false "" 8, fd "X1" 3 2 false "" 16]),
  (4,.bool),
  (226,.func #[3,3] #[] false),
  (116,.func #[3,3] #[4] false)],
 inf:=[(3,(some (.int .i64 0),1,8)),
  (5,(some (.int .u8 0),1,1)),
  (95,(some (.agg #[.int .i64 0,.int .i64 0,.slice none 0 0]),3,40)),
  (52,(some (.slice none 0 0),1,24)),
  (94,(some (.agg #[.int .i64 0,.int .i64 0,.int .i64 0,.int .i64 0,.int .i64 0,.int .i64 0,.int .i64 0,.slice none 0 0]),8,80)),
  (118,(some (.pointer none),1,8)),
  (278,(some (.agg #[.int .i64 0,.int .i64 0,.int .i64 0,.int .i64 0,.int .i64 0,.int .i64 0]),6,48)),
  (54,(some (.agg #[.int .i64 0,.int .i64 0,.slice none 0 0]),3,40)),
  (25,(some (.slice none 0 0),1,24)),
  (279,(some (.agg #[.int .i64 0,.int .i64 0,.int .i64 0,.int .i64 0]),4,32)),
  (144,(some (.pointer none),1,8)),
  (9,(some (.string ByteArray.empty),1,16)),
  (26,(some (.int .i64 0),1,8)),
  (262,(some (.slice none 0 0),1,24)),
  (270,(some (.agg #[.int .i64 0,.int .i64 0,.int .i64 0]),3,24)),
  (4,(some (.bool false),1,1)),
  (226,(some (.nilFunc),1,8)),
  (116,(some (.nilFunc),1,8))],
 fld:=[(95,[(0,(1,false)),(1,(1,false)),(2,(1,false))]),
  (94,[(0,(1,false)),(1,(1,false)),(2,(1,false)),(3,(1,false)),(4,(1,false)),(5,(1,false)),(6,(1,false)),(7,(1,false))]),
  (54,[(0,(1,false)),(1,(1,false)),(2,(1,false))]),
  (270,[(0,(1,false)),(1,(1,false)),(2,(1,false))])],
 eqs:=[(278,6),(279,4),(270,3)] }
theorem cameraWorks_tab_ok:cameraWorks_tab.ok Try.prog:=⟨(by unfold cameraWorks_tab;(repeat (refine alP1 (by kernel_rfl) ?_));exact trivial),
 (by unfold cameraWorks_tab;(repeat (refine alP1 (by kernel_rfl) ?_));exact trivial),
 (by unfold cameraWorks_tab;(repeat (refine alP1 (by kernel_rfl) ?_));exact trivial),
 (by unfold cameraWorks_tab;(repeat (refine alP1 ⟨by kernel_rfl,by kernel_rfl⟩ ?_));exact trivial)⟩
noncomputable def cameraWorks_ctx:Ctx:=⟨cameraWorks_tab,[(58,Try.f58),(59,Try.f59),(81,Try.f81),(115,Try.f115),(61,Try.f61),(100,Try.f100),(135,Try.f135),(82,Try.f82),(134,Try.f134),(84,Try.f84),(104,Try.f104),(136,Try.f136),(101,Try.f101),(72,Try.f72),(64,Try.f64),(63,Try.f63),(103,Try.f103),(99,Try.f99),(133,Try.f133),(170,Try.f170),(202,Try.f202),(213,Try.f213),(169,Try.f169),(198,Try.f198),(212,Try.f212),(199,Try.f199),(200,Try.f200),(201,Try.f201),(43,Try.f43),(50,Try.f50)],[(58,0),(59,0),(81,0),(115,0),(61,0),(100,0),(135,0),(82,0),(134,0),(84,0),(104,0),(136,0),(101,0),(72,0),(64,0),(63,0),(103,0),(99,0),(133,0),(170,0),(202,0),(213,0),(169,0),(198,0),(212,0),(199,0),(200,0),(201,0),(43,0),(50,0)]⟩
def cameraWorks_cas:List (Nat×Nat):=[(58,0),(59,0),(81,0),(115,0),(61,0),(100,0),(135,0),(82,0),(134,0),(84,0),(104,0),(136,0),(101,0),(72,0),(64,0),(63,0),(103,0),(99,0),(133,0),(170,0),(202,0),(213,0),(169,0),(198,0),(212,0),(199,0),(200,0),(201,0),(43,0),(50,0)]
theorem cameraWorks_ctx_ok:cameraWorks_ctx.ok Try.prog:=⟨cameraWorks_tab_ok,⟨Try.func58,⟨Try.func59,⟨Try.func81,⟨Try.func115,⟨Try.func61,⟨Try.func100,⟨Try.func135,⟨Try.func82,⟨Try.func134,⟨Try.func84,⟨Try.func104,⟨Try.func136,⟨Try.func101,⟨Try.func72,⟨Try.func64,⟨Try.func63,⟨Try.func103,⟨Try.func99,⟨Try.func133,⟨Try.func170,⟨Try.func202,⟨Try.func213,⟨Try.func169,⟨Try.func198,⟨Try.func212,⟨Try.func199,⟨Try.func200,⟨Try.func201,⟨Try.func43,⟨Try.func50,trivial⟩⟩⟩⟩⟩⟩⟩⟩⟩⟩⟩⟩⟩⟩⟩⟩⟩⟩⟩⟩⟩⟩⟩⟩⟩⟩⟩⟩⟩⟩,(by unfold cameraWorks_cas;(repeat (refine alP1 (by kernel_rfl) ?_));exact trivial:allP (fun k _=>callable Try.prog k=true) cameraWorks_cas),by kernel_rfl⟩
noncomputable def cameraWorks_orc:List (Nat×Ctr):=[(linear_Row_ctr.nm,linear_Row_ctr),(camera_CaptureT_ctr.nm,camera_CaptureT_ctr),(bitmap_Turned_ctr.nm,bitmap_Turned_ctr),(bitmap_Is_ctr.nm,bitmap_Is_ctr),(bitmap_Check_ctr.nm,bitmap_Check_ctr),(curve_Nearest_ctr.nm,curve_Nearest_ctr)]
theorem cameraWorks_orc_ok:allP (CtrOk Try.prog) cameraWorks_orc:=⟨linear_Row_ok,⟨camera_CaptureT_ok,⟨bitmap_Turned_ok,⟨bitmap_Is_ok,⟨bitmap_Check_ok,⟨curve_Nearest_ok,trivial⟩⟩⟩⟩⟩⟩
theorem cameraWorks_f:AF Try.prog 58 [] (.bool true):=Rn.AF.runO cameraWorks_ctx_ok 1000 100000 20 cameraWorks_orc_ok (by kernel_rfl)
def law_cameraWorks_r (_:Nat) (_:Unit):Option (Bool×Unit):=some (true,())
def law_cameraWorks_ctr:Ctr:=⟨.unit,.pair .bool .unit,law_cameraWorks_r,58⟩
theorem law_cameraWorks_ok:CtrOk Try.prog 58 law_cameraWorks_ctr:=fun _ _ y h=>by
 have h:some (true,())=some y:=h;injection h with h
 subst h;exact cameraWorks_f
end Go.Proofs.Ytelpkjellakigaa
/- Residual programs of functions (printed by a program out of the code),checked by the kernel,and the contracts that follow. -/
namespace Go.Proofs.Ytelpkjellakigaa
open Go Go.RowKit
set_option linter.unusedVariables false
def R_SameBytes_r (fu:Nat) (a:List Int×List Int×Unit):Option (Bool×Unit) :=
 let v0:Bool:=(decide ((bytesOf a.1)=(bytesOf a.2.1)))
 some ((v0,()))
def R_SameBytes_an:An:=(.n none .z (.n none .z .z))
noncomputable def R_SameBytes_dc:List (Nat×Ctr):=[]
def R_SameBytes_ctr:Ctr:=⟨(.pair (.list (.int .u8)) (.pair (.list (.int .u8)) .unit)),(.pair .bool .unit),R_SameBytes_r,50⟩
theorem R_SameBytes_ok:CtrOk Try.prog 50 R_SameBytes_ctr:=ctr_ok (l:=R_SameBytes_dc) (f:=12) (an:=R_SameBytes_an) trivial fun fu x=>by kernel_rfl
def R_SameBits_r (fu:Nat) (a:(Int×Int×List Int)×(Int×Int×List Int)×Unit):Option (Bool×Unit) :=
 bif (decide (a.1.1=a.2.1.1)) then
  bif (decide (a.1.2.1=a.2.1.2.1)) then
   bindO (R_SameBytes_r fu ((a.1.2.2,(a.2.1.2.2,())))) fun v0 =>
   let v1:Bool:=v0.1
   some ((v1,()))
  else
  some ((false,()))
 else
 some ((false,()))
def R_SameBits_an:An:=(.n none .z (.n none .z .z))
noncomputable def R_SameBits_dc:List (Nat×Ctr):=[(50,R_SameBytes_ctr)]
def R_SameBits_ctr:Ctr:=⟨(.pair (.agg (.pair (.int .i64) (.pair (.int .i64) (.list (.int .u8))))) (.pair (.agg (.pair (.int .i64) (.pair (.int .i64) (.list (.int .u8))))) .unit)),(.pair .bool .unit),R_SameBits_r,43⟩
theorem R_SameBits_ok:CtrOk Try.prog 43 R_SameBits_ctr:=ctr_ok (l:=R_SameBits_dc) (f:=12) (an:=R_SameBits_an) ⟨R_SameBytes_ok,trivial⟩ fun fu x=>by kernel_rfl
def R_Drawn_j2 (fu:Nat) (j1:(Int×List Int)→Option ((Int×Int×List Int)×Unit)) (v2:Int×List Int):Option ((Int×Int×List Int)×Unit) :=
 j1 (((IntKind.i64.wrap (v2.1+(1:Int))),v2.2))
def R_Drawn_l1 (fu:Nat) (a:Int×Int×List Bool×Unit) (v0:Int) (j1:(Int×List Int)→Option ((Int×Int×List Int)×Unit)) (v1:Int×List Int):Option ((Int×Int×List Int)×Unit) :=
 bif (decide (v1.1<(List.length a.2.2.1:Int))) then
  joinF (R_Drawn_j2 fu j1) fun j2 =>
  bif ((decide ((0:Int)≤v1.1))&&(decide (v1.1<(List.length a.2.2.1:Int)))) then
  let v3:Bool:=(List.getD a.2.2.1 (Int.toNat v1.1) false)
  let v4:Int:=v1.1
  bif v3 then
   bif (decide (a.1≠(0:Int))) then
   bif (decide (a.1≠(0:Int))) then
   bif ((decide ((0:Int)≤(IntKind.i64.wrap ((IntKind.i64.wrap ((IntKind.i64.wrap (Int.tdiv v4 a.1))*v0))+(IntKind.i64.wrap (Int.tdiv (Int.tmod v4 a.1) (8:Int)))))))&&(decide ((IntKind.i64.wrap ((IntKind.i64.wrap ((IntKind.i64.wrap (Int.tdiv v4 a.1))*v0))+(IntKind.i64.wrap (Int.tdiv (Int.tmod v4 a.1) (8:Int)))))<(List.length v1.2:Int)))) then
   bif (decide (a.1≠(0:Int))) then
   bif ((decide ((0:Int)≤(Int.tmod (Int.tmod v4 a.1) (8:Int))))&&(decide ((Int.tmod (Int.tmod v4 a.1) (8:Int))≤(8:Int)))) then
   bif ((decide ((0:Int)≤(IntKind.i64.wrap ((IntKind.i64.wrap ((IntKind.i64.wrap (Int.tdiv v4 a.1))*v0))+(IntKind.i64.wrap (Int.tdiv (Int.tmod v4 a.1) (8:Int)))))))&&(decide ((IntKind.i64.wrap ((IntKind.i64.wrap ((IntKind.i64.wrap (Int.tdiv v4 a.1))*v0))+(IntKind.i64.wrap (Int.tdiv (Int.tmod v4 a.1) (8:Int)))))<(List.length v1.2:Int)))) then
   j2 ((v1.1,(List.set v1.2 (Int.toNat (IntKind.i64.wrap ((IntKind.i64.wrap ((IntKind.i64.wrap (Int.tdiv v4 a.1))*v0))+(IntKind.i64.wrap (Int.tdiv (Int.tmod v4 a.1) (8:Int)))))) (bits BinOp.or IntKind.u8 (List.getD v1.2 (Int.toNat (IntKind.i64.wrap ((IntKind.i64.wrap ((IntKind.i64.wrap (Int.tdiv v4 a.1))*v0))+(IntKind.i64.wrap (Int.tdiv (Int.tmod v4 a.1) (8:Int)))))) 0) ((128:Int) / 2 ^ (Int.toNat (Int.tmod (Int.tmod v4 a.1) (8:Int))))))))
   else none
   else none
   else none
   else none
   else none
   else none
  else
  j2 (v1)
  else none
 else
 some (((a.1,(a.2.1,v1.2)),()))
def R_Drawn_r (fu:Nat) (a:Int×Int×List Bool×Unit):Option ((Int×Int×List Int)×Unit) :=
 let v0:Int:=(IntKind.i64.wrap (Int.tdiv (IntKind.i64.wrap (a.1+(7:Int))) (8:Int)))
 bif ((decide ((0:Int)≤(IntKind.i64.wrap (v0*a.2.1))))&&(decide (((1:Int)*(IntKind.i64.wrap (v0*a.2.1)))≤(281474976710656:Int)))) then
 loopF (R_Drawn_l1 fu a v0) fu (((0:Int),(List.replicate (Int.toNat (IntKind.i64.wrap (v0*a.2.1))) (0:Int))))
 else none
def R_Drawn_an:An:=(.n none .z (.n none .z (.n none .z (.n none (.n none .z (.n none (.n (some ⟨[6,8,21,0,7,22],[0,2],[],[.reg 23 (.int .i64),.row 1 true (.int .u8) 5 0],0,[]⟩) (.n none .z (.n none .z (.n (some ⟨[],[],[],[.reg 23 (.int .i64),.row 1 true (.int .u8) 5 0],0,[]⟩) (.n none (.n none .z (.n none .z (.n none (.dr [] []) .z))) .z) .z))) .z) .z)) (.n none .z .z)))))
noncomputable def R_Drawn_dc:List (Nat×Ctr):=[]
def R_Drawn_ctr:Ctr:=⟨(.pair (.int .i64) (.pair (.int .i64) (.pair (.list .bool) .unit))),(.pair (.agg (.pair (.int .i64) (.pair (.int .i64) (.list (.int .u8))))) .unit),R_Drawn_r,41⟩
theorem R_Drawn_ok:CtrOk Try.prog 41 R_Drawn_ctr:=ctr_ok (l:=R_Drawn_dc) (f:=12) (an:=R_Drawn_an) trivial fun fu x=>by kernel_rfl
def camera_Check_j1 (fu:Nat) (a:(Int×Int×List Int)×Unit) (v0:Bool):Option (Int×Unit) :=
 bif v0 then
  some (((3:Int),()))
 else
 bif (decide ((List.length a.1.2.2:Int)≠(IntKind.i64.wrap (a.1.1*a.1.2.1)))) then
  some (((4:Int),()))
 else
 some (((0:Int),()))
def camera_Check_r (fu:Nat) (a:(Int×Int×List Int)×Unit):Option (Int×Unit) :=
 joinF (camera_Check_j1 fu a) fun j0 =>
 bif (decide (a.1.1<(1:Int))) then
  j0 (true)
 else
 bif (decide ((1024:Int)<a.1.1)) then
  j0 (true)
 else
 bif (decide (a.1.2.1<(1:Int))) then
  j0 (true)
 else
 j0 ((decide ((1024:Int)<a.1.2.1)))
def camera_Check_an:An:=(.n none .z (.n none (.n (some ⟨[1],[0],[],[.reg 20 .bool],0,[]⟩) .z (.n none (.n none .z .z) .z)) (.n none (.n none .z (.n none (.n none .z .z) .z)) (.n none .z .z))))
noncomputable def camera_Check_dc:List (Nat×Ctr):=[]
def camera_Check_ctr:Ctr:=⟨(.pair (.agg (.pair (.int .i64) (.pair (.int .i64) (.list (.int .u8))))) .unit),(.pair (.int .i64) .unit),camera_Check_r,63⟩
theorem camera_Check_ok:CtrOk Try.prog 63 camera_Check_ctr:=ctr_ok (l:=camera_Check_dc) (f:=12) (an:=camera_Check_an) trivial fun fu x=>by kernel_rfl
end Go.Proofs.Ytelpkjellakigaa
/- Residual programs of functions (printed by a program out of the code),checked by the kernel,and the contracts that follow. -/
namespace Go.Proofs.Ytelpkjellakigaa
open Go Go.RowKit
set_option linter.unusedVariables false
def R_Turned_j5 (fu:Nat) (a:(Int×Int×List Int)×Int×Unit) (v2:Int×Int) (v4:Int) (v5:Int×List Bool) (v6:Int) (v7:Int×Int) (j5:(Int×List Bool)→Option ((Int×Int×List Int)×Unit)) (v8:Int):Option ((Int×Int×List Int)×Unit) :=
 bindO (R_Bit_r fu ((a.1,(v8,(v7.2,()))))) fun v9 =>
 bif ((decide ((0:Int)≤(IntKind.i64.wrap ((IntKind.i64.wrap (v4*v2.2))+v6))))&&(decide ((IntKind.i64.wrap ((IntKind.i64.wrap (v4*v2.2))+v6))<(List.length v5.2:Int)))) then
 j5 (((IntKind.i64.wrap (v5.1+(1:Int))),(List.set v5.2 (Int.toNat (IntKind.i64.wrap ((IntKind.i64.wrap (v4*v2.2))+v6))) v9.1)))
 else none
def R_Turned_j4 (fu:Nat) (a:(Int×Int×List Int)×Int×Unit) (v2:Int×Int) (v4:Int) (v5:Int×List Bool) (v6:Int) (j5:(Int×List Bool)→Option ((Int×Int×List Int)×Unit)) (v7:Int×Int):Option ((Int×Int×List Int)×Unit) :=
 joinF (R_Turned_j5 fu a v2 v4 v5 v6 v7 j5) fun j8 =>
 bif (decide ((4:Int)≤a.2.1)) then
  let v9:Int:=(IntKind.i64.wrap ((IntKind.i64.wrap (a.1.1-(1:Int)))-v7.1))
  j8 (v9)
 else
 j8 (v7.1)
def R_Turned_l3 (fu:Nat) (a:(Int×Int×List Int)×Int×Unit) (v2:Int×Int) (v3:Int×List Bool) (v4:Int) (j3:(Int×List Bool)→Option ((Int×Int×List Int)×Unit)) (j5:(Int×List Bool)→Option ((Int×Int×List Int)×Unit)) (v5:Int×List Bool):Option ((Int×Int×List Int)×Unit) :=
 bif (decide (v5.1<v2.2)) then
  let v6:Int:=v5.1
  joinF (R_Turned_j4 fu a v2 v4 v5 v6 j5) fun j7 =>
  let v8:Bool:=(decide ((Int.tmod a.2.1 (4:Int))=(0:Int)))
  bif v8 then
   j7 ((v6,v4))
  else
  let v9:Bool:=(decide ((Int.tmod a.2.1 (4:Int))=(1:Int)))
  bif v9 then
   let v10:Int:=(IntKind.i64.wrap ((IntKind.i64.wrap (a.1.2.1-(1:Int)))-v6))
   j7 ((v4,v10))
  else
  let v10:Bool:=(decide ((Int.tmod a.2.1 (4:Int))=(2:Int)))
  bif v10 then
   let v11:Int:=(IntKind.i64.wrap ((IntKind.i64.wrap (a.1.1-(1:Int)))-v6))
   let v12:Int:=(IntKind.i64.wrap ((IntKind.i64.wrap (a.1.2.1-(1:Int)))-v4))
   j7 ((v11,v12))
  else
  let v11:Bool:=(decide ((Int.tmod a.2.1 (4:Int))=(3:Int)))
  bif v11 then
   let v12:Int:=(IntKind.i64.wrap ((IntKind.i64.wrap (a.1.1-(1:Int)))-v4))
   j7 ((v12,v6))
  else
  j7 (((0:Int),(0:Int)))
 else
 j3 (((IntKind.i64.wrap (v3.1+(1:Int))),v5.2))
def R_Turned_l2 (fu:Nat) (a:(Int×Int×List Int)×Int×Unit) (v2:Int×Int) (j3:(Int×List Bool)→Option ((Int×Int×List Int)×Unit)) (v3:Int×List Bool):Option ((Int×Int×List Int)×Unit) :=
 bif (decide (v3.1<v2.1)) then
  let v4:Int:=v3.1
  loopF (R_Turned_l3 fu a v2 v3 v4 j3) fu (((0:Int),v3.2))
 else
 bindO (R_Drawn_r fu ((v2.2,(v2.1,(v3.2,()))))) fun v4 =>
 some ((v4.1,()))
def R_Turned_j1 (fu:Nat) (a:(Int×Int×List Int)×Int×Unit) (v2:Int×Int):Option ((Int×Int×List Int)×Unit) :=
 bif ((decide ((0:Int)≤(IntKind.i64.wrap (v2.2*v2.1))))&&(decide (((1:Int)*(IntKind.i64.wrap (v2.2*v2.1)))≤(281474976710656:Int)))) then
 loopF (R_Turned_l2 fu a v2) fu (((0:Int),(List.replicate (Int.toNat (IntKind.i64.wrap (v2.2*v2.1))) false)))
 else none
def R_Turned_r (fu:Nat) (a:(Int×Int×List Int)×Int×Unit):Option ((Int×Int×List Int)×Unit) :=
 let v0:Int:=a.1.1
 let v1:Int:=a.1.2.1
 joinF (R_Turned_j1 fu a) fun j2 =>
 bif (decide ((Int.tmod a.2.1 (2:Int))=(1:Int))) then
  j2 ((v0,v1))
 else
 j2 ((v1,v0))
def R_Turned_an:An:=(.n none .z (.n none (.dr [] []) (.n (some ⟨[4,1,2],[1,0],[],[.reg 6 (.int .i64),.reg 5 (.int .i64)],0,[]⟩) (.n none .z (.n none .z .z)) (.n none .z (.n none (.n none .z (.n none (.n (some ⟨[7,6,5,25],[],[],[.reg 26 (.int .i64),.row 2 true .bool 4 0],0,[]⟩) (.n none .z (.n none .z (.n none (.n none (.n none .z (.n none .z (.n none (.n (some ⟨[26,8,29],[],[],[.reg 30 (.int .i64),.row 2 true .bool 4 0],0,[]⟩) (.n none .z (.n none .z (.n none (.n none (.n none .z (.n none .z (.n (some ⟨[9,30],[2],[],[.reg 10 (.int .i64),.reg 11 (.int .i64)],0,[]⟩) (.n none .z (.n none (.n none .z (.n none .z (.n none .z (.n none (.dr [] []) (.n none .z (.n none (.dr [] []) (.n none .z (.n none .z .z)))))))) .z)) (.n (some ⟨[11],[],[],[.reg 10 (.int .i64)],0,[]⟩) (.n none .z (.n none .z .z)) .z)))) .z) .z))) .z) .z))) .z) .z))) .z) .z)) (.n none .z .z))))))
noncomputable def R_Turned_dc:List (Nat×Ctr):=[(36,R_Bit_ctr),(41,R_Drawn_ctr)]
def R_Turned_ctr:Ctr:=⟨(.pair (.agg (.pair (.int .i64) (.pair (.int .i64) (.list (.int .u8))))) (.pair (.int .i64) .unit)),(.pair (.agg (.pair (.int .i64) (.pair (.int .i64) (.list (.int .u8))))) .unit),R_Turned_r,102⟩
theorem R_Turned_ok:CtrOk Try.prog 102 R_Turned_ctr:=ctr_ok (l:=R_Turned_dc) (f:=12) (an:=R_Turned_an) ⟨R_Bit_ok,⟨R_Drawn_ok,trivial⟩⟩ fun fu x=>by kernel_rfl
def R_Captured_j3 (fu:Nat) (v3:Int×List Int×Int×Int×Unit) (j3:(Int×List Int×Int×Int×Unit)→Option ((Int×Int×List Int)×Unit)) (v6:Int):Option ((Int×Int×List Int)×Unit) :=
 bif (decide ((((List.length v3.2.1:Int)+(List.length ([(IntKind.u8.wrap v6)]:List Int):Int))*(1:Int))≤(140737488355328:Int))) then
 j3 (((IntKind.i64.wrap (v3.1+(1:Int))),((v3.2.1++([(IntKind.u8.wrap v6)]:List Int)),(v3.2.2.1,(v3.2.2.2.1,())))))
 else none
def R_Captured_j4 (fu:Nat) (a:(Int×Int×List Int)×(Int×Int×Int×Int×Int×Int×Int×List Int)×Unit) (j6:(Int)→Option ((Int×Int×List Int)×Unit)) (v7:Bool×Int):Option ((Int×Int×List Int)×Unit) :=
 bif v7.1 then
  let v8:Int:=a.2.1.2.2.2.2.2.2.1
  j6 (v8)
 else
 j6 (v7.2)
def R_Captured_l2 (fu:Nat) (a:(Int×Int×List Int)×(Int×Int×Int×Int×Int×Int×Int×List Int)×Unit) (v0:(Int×Int×List Int)×Unit) (v1:Int×(Int×Int×Unit)×List Int) (v2:Int) (j1:(Int×(Int×Int×Unit)×List Int)→Option ((Int×Int×List Int)×Unit)) (j3:(Int×List Int×Int×Int×Unit)→Option ((Int×Int×List Int)×Unit)) (v3:Int×List Int×Int×Int×Unit):Option ((Int×Int×List Int)×Unit) :=
 bif (decide (v3.1<v1.2.1.1)) then
  let v4:Int:=v3.1
  let v5:Int:=a.2.1.2.2.2.2.2.1
  joinF (R_Captured_j3 fu v3 j3) fun j6 =>
  joinF (R_Captured_j4 fu a j6) fun j7 =>
  bif (decide (a.2.1.2.1≤v4)) then
   bif (decide (a.2.1.2.2.1≤v2)) then
    bif (decide (a.2.1.1≠(0:Int))) then
    bif (decide (a.2.1.1≠(0:Int))) then
    bindO (R_Bit_r fu ((v0.1,((IntKind.i64.wrap (Int.tdiv (IntKind.i64.wrap (v4-a.2.1.2.1)) a.2.1.1)),((IntKind.i64.wrap (Int.tdiv (IntKind.i64.wrap (v2-a.2.1.2.2.1)) a.2.1.1)),()))))) fun v8 =>
    j7 ((v8.1,v5))
    else none
    else none
   else
   j7 ((false,v5))
  else
  j7 ((false,v5))
 else
 j1 (((IntKind.i64.wrap (v1.1+(1:Int))),((v3.2.2.1,(v3.2.2.2.1,())),v3.2.1)))
def R_Captured_j10 (fu:Nat) (j10:(Int×Int×Int)→Option ((Int×Int×List Int)×Unit)) (v11:Int×Int×Int):Option ((Int×Int×List Int)×Unit) :=
 let v12:Int:=(IntKind.i64.wrap (v11.1+(1:Int)))
 j10 ((v11.2.1,(v11.2.2,v12)))
def R_Captured_j11 (fu:Nat) (v2:Int×List Int×Int×Int×Unit) (v8:Int×Int×Int) (v10:Int×Int×Int) (j11:(Int×Int×Int)→Option ((Int×Int×List Int)×Unit)) (v12:Bool×Int×Int):Option ((Int×Int×List Int)×Unit) :=
 bif v12.1 then
  bif ((decide ((0:Int)≤(IntKind.i64.wrap ((IntKind.i64.wrap (v8.2.2*v2.2.2.1))+v10.2.2))))&&(decide ((IntKind.i64.wrap ((IntKind.i64.wrap (v8.2.2*v2.2.2.1))+v10.2.2))<(List.length v2.2.1:Int)))) then
  let v13:Int:=(IntKind.i64.wrap (v12.2.1+(IntKind.i64.wrap (List.getD v2.2.1 (Int.toNat (IntKind.i64.wrap ((IntKind.i64.wrap (v8.2.2*v2.2.2.1))+v10.2.2))) 0))))
  let v14:Int:=(IntKind.i64.wrap (v12.2.2+(1:Int)))
  j11 ((v10.2.2,(v13,v14)))
  else none
 else
 j11 ((v10.2.2,v12.2))
def R_Captured_l9 (fu:Nat) (v2:Int×List Int×Int×Int×Unit) (v6:Int) (v8:Int×Int×Int) (j8:(Int×Int×Int)→Option ((Int×Int×List Int)×Unit)) (j10:(Int×Int×Int)→Option ((Int×Int×List Int)×Unit)) (v10:Int×Int×Int):Option ((Int×Int×List Int)×Unit) :=
 bif (decide (v10.2.2≤(IntKind.i64.wrap (v6+(1:Int))))) then
  joinF (R_Captured_j10 fu j10) fun j11 =>
  joinF (R_Captured_j11 fu v2 v8 v10 j11) fun j12 =>
  bindO (R_Within_r fu ((v10.2.2,((0:Int),((IntKind.i64.wrap (v2.2.2.1-(1:Int))),()))))) fun v13 =>
  bif v13.1 then
   bindO (R_Within_r fu ((v8.2.2,((0:Int),((IntKind.i64.wrap (v2.2.2.2.1-(1:Int))),()))))) fun v14 =>
   j12 ((v14.1,(v10.1,v10.2.1)))
  else
  j12 ((false,(v10.1,v10.2.1)))
 else
 let v11:Int:=(IntKind.i64.wrap (v8.2.2+(1:Int)))
 j8 ((v10.2.1,(v10.1,v11)))
def R_Captured_l8 (fu:Nat) (v2:Int×List Int×Int×Int×Unit) (v4:Int) (v5:Int×List Int) (v6:Int) (j5:(Int×List Int)→Option ((Int×Int×List Int)×Unit)) (j8:(Int×Int×Int)→Option ((Int×Int×List Int)×Unit)) (v8:Int×Int×Int):Option ((Int×Int×List Int)×Unit) :=
 bif (decide (v8.2.2≤(IntKind.i64.wrap (v4+(1:Int))))) then
  let v9:Int:=(IntKind.i64.wrap (v6-(1:Int)))
  loopF (R_Captured_l9 fu v2 v6 v8 j8) fu ((v8.2.1,(v8.1,v9)))
 else
 bindO (R_Round_r fu ((v8.2.1,(v8.1,())))) fun v9 =>
 bif (decide ((((List.length v5.2:Int)+(List.length ([(IntKind.u8.wrap v9.1)]:List Int):Int))*(1:Int))≤(140737488355328:Int))) then
 j5 (((IntKind.i64.wrap (v5.1+(1:Int))),(v5.2++([(IntKind.u8.wrap v9.1)]:List Int))))
 else none
def R_Captured_l7 (fu:Nat) (v2:Int×List Int×Int×Int×Unit) (v3:Int×List Int) (v4:Int) (j3:(Int×List Int)→Option ((Int×Int×List Int)×Unit)) (j5:(Int×List Int)→Option ((Int×Int×List Int)×Unit)) (v5:Int×List Int):Option ((Int×Int×List Int)×Unit) :=
 bif (decide (v5.1<v2.2.2.1)) then
  let v6:Int:=v5.1
  let v7:Int:=(IntKind.i64.wrap (v4-(1:Int)))
  loopF (R_Captured_l8 fu v2 v4 v5 v6 j5) fu (((0:Int),((0:Int),v7)))
 else
 j3 (((IntKind.i64.wrap (v3.1+(1:Int))),v5.2))
def R_Captured_l6 (fu:Nat) (v2:Int×List Int×Int×Int×Unit) (j2:(Int×List Int×Int×Int×Unit)→Option ((Int×Int×List Int)×Unit)) (j3:(Int×List Int)→Option ((Int×Int×List Int)×Unit)) (v3:Int×List Int):Option ((Int×Int×List Int)×Unit) :=
 bif (decide (v3.1<v2.2.2.2.1)) then
  let v4:Int:=v3.1
  loopF (R_Captured_l7 fu v2 v3 v4 j3) fu (((0:Int),v3.2))
 else
 j2 (((IntKind.i64.wrap (v2.1+(1:Int))),(v3.2,(v2.2.2.1,(v2.2.2.2.1,())))))
def R_Captured_j12 (fu:Nat) (v2:Int×List Int×Int×Int×Unit) (v3:List Int):Option ((Int×Int×List Int)×Unit) :=
 some (((v2.2.2.1,(v2.2.2.2.1,v3)),()))
def R_Captured_l13 (fu:Nat) (a:(Int×Int×List Int)×(Int×Int×Int×Int×Int×Int×Int×List Int)×Unit) (v2:Int×List Int×Int×Int×Unit) (v4:Int) (j3:(List Int)→Option ((Int×Int×List Int)×Unit)) (j5:(Int×List Int)→Option ((Int×Int×List Int)×Unit)) (v5:Int×List Int):Option ((Int×Int×List Int)×Unit) :=
 bif (decide (v5.1<(List.length v2.2.1:Int))) then
  let v6:Int:=v5.1
  bif ((decide ((0:Int)≤v6))&&(decide (v6<(List.length v5.2:Int)))) then
  bif (decide (v4≠(0:Int))) then
  bif ((decide ((0:Int)≤(Int.tmod v6 v4)))&&(decide ((Int.tmod v6 v4)<(List.length a.2.1.2.2.2.2.2.2.2:Int)))) then
  let v7:Int:=(List.getD a.2.1.2.2.2.2.2.2.2 (Int.toNat (Int.tmod v6 v4)) 0)
  bif ((decide ((0:Int)≤v6))&&(decide (v6<(List.length v5.2:Int)))) then
  j5 (((IntKind.i64.wrap (v5.1+(1:Int))),(List.set v5.2 (Int.toNat v6) (IntKind.u8.wrap (min (max (IntKind.i64.wrap ((IntKind.i64.wrap (List.getD v5.2 (Int.toNat v6) 0))+v7)) (0:Int)) (255:Int))))))
  else none
  else none
  else none
  else none
 else
 j3 (v5.2)
def R_Captured_l5 (fu:Nat) (a:(Int×Int×List Int)×(Int×Int×Int×Int×Int×Int×Int×List Int)×Unit) (j2:(Int×List Int×Int×Int×Unit)→Option ((Int×Int×List Int)×Unit)) (v2:Int×List Int×Int×Int×Unit):Option ((Int×Int×List Int)×Unit) :=
 bif (decide (v2.1<a.2.1.2.2.2.2.1)) then
  loopF (R_Captured_l6 fu v2 j2) fu (((0:Int),([]:List (Int))))
 else
 joinF (R_Captured_j12 fu v2) fun j3 =>
 let v4:Int:=(List.length a.2.1.2.2.2.2.2.2.2:Int)
 bif (decide ((0:Int)<v4)) then
  loopF (R_Captured_l13 fu a v2 v4 j3) fu (((0:Int),v2.2.1))
 else
 j3 (v2.2.1)
def R_Captured_l1 (fu:Nat) (a:(Int×Int×List Int)×(Int×Int×Int×Int×Int×Int×Int×List Int)×Unit) (v0:(Int×Int×List Int)×Unit) (j1:(Int×(Int×Int×Unit)×List Int)→Option ((Int×Int×List Int)×Unit)) (v1:Int×(Int×Int×Unit)×List Int):Option ((Int×Int×List Int)×Unit) :=
 bif (decide (v1.1<(IntKind.i64.wrap ((IntKind.i64.wrap (v0.1.2.1*a.2.1.1))+(32:Int))))) then
  let v2:Int:=v1.1
  loopF (R_Captured_l2 fu a v0 v1 v2 j1) fu (((0:Int),(v1.2.2,(v1.2.1.1,(v1.2.1.2.1,())))))
 else
 loopF (R_Captured_l5 fu a) fu (((0:Int),(v1.2.2,(v1.2.1.1,(v1.2.1.2.1,())))))
def R_Captured_r (fu:Nat) (a:(Int×Int×List Int)×(Int×Int×Int×Int×Int×Int×Int×List Int)×Unit):Option ((Int×Int×List Int)×Unit) :=
 bindO (R_Turned_r fu ((a.1,(a.2.1.2.2.2.1,())))) fun v0 =>
 loopF (R_Captured_l1 fu a v0) fu (((0:Int),(((IntKind.i64.wrap ((IntKind.i64.wrap (v0.1.1*a.2.1.1))+(32:Int))),((IntKind.i64.wrap ((IntKind.i64.wrap (v0.1.2.1*a.2.1.1))+(32:Int))),())),([]:List (Int)))))
def R_Captured_an:An:=(.n none .z (.n none .z (.n none .z (.n none (.n none .z (.n none (.n (some ⟨[3,6,4,5,37],[0,2,3,1],[],[.reg 38 (.int .i64),.box 4 [(.int .i64),(.int .i64),(.osl 5 0)] 95,.row 5 true (.int .u8) 5 0],1,[(1004002,(.int .u8),5)]⟩) (.n none .z (.n none .z (.n none (.n none (.n none .z (.n none .z (.n none (.n (some ⟨[38,7,42],[],[],[.reg 43 (.int .i64),.row 5 true (.int .u8) 5 0,.box 4 [(.int .i64),(.int .i64),(.osl 5 0)] 95],0,[]⟩) (.n none .z (.n none .z (.n none (.n none (.n none .z (.n none .z (.n (some ⟨[43],[5,4],[],[.reg 9 (.int .i64)],0,[]⟩) (.n (some ⟨[],[],[],[.reg 75 .bool,.reg 9 (.int .i64)],0,[]⟩) (.dr [] []) (.n none .z .z)) .z))) .z) .z))) .z) .z))) .z) .z))) .z) .z)) (.n none (.n none .z (.n none (.n (some ⟨[4,6,3,88],[3,2,1],[],[.reg 89 (.int .i64),.row 5 true (.int .u8) 5 0,.box 4 [(.int .i64),(.int .i64),(.osl 5 0)] 95],0,[]⟩) (.n none .z (.n none .z (.n none (.n none (.n none .z (.n none (.n none .z (.n none (.n (some ⟨[89,92],[5,4],[(10,(.osl 6 0))],[.reg 93 (.int .i64),.row 6 true (.int .u8) 5 0],1,[(10,(.int .u8),5)]⟩) (.n none .z (.n none .z (.n none (.n none (.n none .z (.n none .z (.n none (.n (some ⟨[93,11,97],[],[(10,(.osl 6 0))],[.reg 98 (.int .i64),.row 6 true (.int .u8) 5 0],0,[]⟩) (.n none .z (.n none .z (.n none (.n none (.n none .z (.n none .z (.n none (.n none .z (.n none (.n (some ⟨[98,10,12],[6],[],[.reg 14 (.int .i64),.reg 13 (.int .i64),.reg 15 (.int .i64)],0,[]⟩) (.n none (.n none .z .z) (.n none (.n none (.n none .z (.n none (.n (some ⟨[15],[],[],[.reg 13 (.int .i64),.reg 14 (.int .i64),.reg 16 (.int .i64)],0,[]⟩) (.n none (.n none .z .z) (.n (some ⟨[],[],[],[.reg 16 (.int .i64),.reg 13 (.int .i64),.reg 14 (.int .i64)],0,[]⟩) (.n none (.n (some ⟨[16],[],[],[.reg 128 .bool,.reg 13 (.int .i64),.reg 14 (.int .i64)],0,[]⟩) .z (.n none (.n none .z .z) .z)) .z) .z)) .z) .z)) .z) .z)) .z) .z)) .z))) .z) .z))) .z) .z))) .z) .z))) .z) .z)) .z)) .z) .z))) .z) .z)) (.n (some ⟨[6,4],[1,4,2],[],[.row 5 true (.int .u8) 5 0],0,[]⟩) (.n none .z (.n none .z (.n none (.n none .z (.n none (.n (some ⟨[3,17,163],[],[],[.reg 164 (.int .i64),.row 5 true (.int .u8) 5 0],0,[]⟩) (.n none .z (.n none .z (.n none (.n none (.n none .z (.dr [] [])) .z) .z))) .z) .z)) .z))) (.n none .z .z)))))))
noncomputable def R_Captured_dc:List (Nat×Ctr):=[(21,R_Within_ctr),(22,R_Round_ctr),(36,R_Bit_ctr),(102,R_Turned_ctr)]
def R_Captured_ctr:Ctr:=⟨(.pair (.agg (.pair (.int .i64) (.pair (.int .i64) (.list (.int .u8))))) (.pair (.agg (.pair (.int .i64) (.pair (.int .i64) (.pair (.int .i64) (.pair (.int .i64) (.pair (.int .i64) (.pair (.int .i64) (.pair (.int .i64) (.list (.int .i64)))))))))) .unit)),(.pair (.agg (.pair (.int .i64) (.pair (.int .i64) (.list (.int .u8))))) .unit),R_Captured_r,62⟩
theorem R_Captured_ok:CtrOk Try.prog 62 R_Captured_ctr:=ctr_ok (l:=R_Captured_dc) (f:=12) (an:=R_Captured_an) ⟨R_Within_ok,⟨R_Round_ok,⟨R_Bit_ok,⟨R_Turned_ok,trivial⟩⟩⟩⟩ fun fu x=>by kernel_rfl
end Go.Proofs.Ytelpkjellakigaa
/- Residual programs of functions (printed by a program out of the code),checked by the kernel,and the contracts that follow. -/
namespace Go.Proofs.Ytelpkjellakigaa
open Go Go.RowKit
set_option linter.unusedVariables false
def bitmap_Blank_si:Sig:=⟨[],[],[],[.reg 0 (.int .i64),.reg 1 (.int .i64)],0,[]⟩
def bitmap_Blank_so:Sig:=⟨[],[],[],[.reg 0 (.agg [(.int .i64),(.int .i64),(.osl 0 0)]),.row 0 true (.int .u8) 5 0],1,[]⟩
def bitmap_Blank_g (fu:Nat) (a:Int×Int):Option ((Int×Int×Unit)×List Int) :=
 bindO (bitmap_stride_r fu ((a.1,()))) fun v0 =>
 bif ((decide ((0:Int)≤(IntKind.i64.wrap (v0.1*a.2))))&&(decide (((1:Int)*(IntKind.i64.wrap (v0.1*a.2)))≤(281474976710656:Int)))) then
 some (((a.1,(a.2,())),(List.replicate (Int.toNat (IntKind.i64.wrap (v0.1*a.2))) (0:Int))))
 else none
def bitmap_Blank_r (fu:Nat) (a:Int×Int):Option ((Int×Int×Unit)×List Int):=chkE bitmap_Blank_si bitmap_Blank_so 0 bitmap_Blank_g fu a
def bitmap_Blank_an:An:=(.n none .z (.n none .z .z))
noncomputable def bitmap_Blank_dc:List (Nat×Ctr):=[(115,bitmap_stride_ctr)]
def bitmap_Blank_ctr:CtrE:=⟨bitmap_Blank_si,bitmap_Blank_so,0,2,bitmap_Blank_r,84⟩
theorem bitmap_Blank_ok:CtrEOk Try.prog 84 bitmap_Blank_ctr:=ctrE_ok (l:=bitmap_Blank_dc) (le:=[]) ⟨bitmap_stride_ok,trivial⟩ trivial (f:=12) (an:=bitmap_Blank_an) (si:=bitmap_Blank_si) (so:=bitmap_Blank_so) (nb:=0) (na:=2) (g:=bitmap_Blank_g) (by kernel_rfl) fun fu x=>by kernel_rfl
def camera_split_j3 (fu:Nat) (j4:(Int×List Int)→Option ((Int×Int×List Int)×Unit)) (v5:Int×List Int):Option ((Int×Int×List Int)×Unit) :=
 j4 (((IntKind.i64.wrap (v5.1+(1:Int))),v5.2))
def camera_split_l2 (fu:Nat) (a:(Int×Int×List Int)×Unit) (v2:Int×Int×Int) (v3:(Int×Int×Unit)×List Int) (j4:(Int×List Int)→Option ((Int×Int×List Int)×Unit)) (v4:Int×List Int):Option ((Int×Int×List Int)×Unit) :=
 bif (decide (v4.1<(List.length a.1.2.2:Int))) then
  joinF (camera_split_j3 fu j4) fun j5 =>
  bif ((decide ((0:Int)≤v4.1))&&(decide (v4.1<(List.length a.1.2.2:Int)))) then
  let v6:Int:=(List.getD a.1.2.2 (Int.toNat v4.1) 0)
  let v7:Int:=v4.1
  bif (decide ((IntKind.i64.wrap ((2:Int)*(IntKind.i64.wrap v6)))<(IntKind.i64.wrap ((IntKind.i64.wrap v2.2.1)+(IntKind.i64.wrap v2.1))))) then
   bif (decide (a.1.1≠(0:Int))) then
   bif (decide (a.1.1≠(0:Int))) then
   bindO (bitmap_stride_r fu ((v3.1.1,()))) fun v8 =>
   bif ((decide ((0:Int)≤(IntKind.i64.wrap ((IntKind.i64.wrap ((IntKind.i64.wrap (Int.tdiv v7 a.1.1))*v8.1))+(IntKind.i64.wrap (Int.tdiv (Int.tmod v7 a.1.1) (8:Int)))))))&&(decide ((IntKind.i64.wrap ((IntKind.i64.wrap ((IntKind.i64.wrap (Int.tdiv v7 a.1.1))*v8.1))+(IntKind.i64.wrap (Int.tdiv (Int.tmod v7 a.1.1) (8:Int)))))<(List.length v4.2:Int)))) then
   bif ((decide ((0:Int)≤(Int.tmod (Int.tmod v7 a.1.1) (8:Int))))&&(decide ((Int.tmod (Int.tmod v7 a.1.1) (8:Int))≤(8:Int)))) then
   bif ((decide ((0:Int)≤(IntKind.i64.wrap ((IntKind.i64.wrap ((IntKind.i64.wrap (Int.tdiv v7 a.1.1))*v8.1))+(IntKind.i64.wrap (Int.tdiv (Int.tmod v7 a.1.1) (8:Int)))))))&&(decide ((IntKind.i64.wrap ((IntKind.i64.wrap ((IntKind.i64.wrap (Int.tdiv v7 a.1.1))*v8.1))+(IntKind.i64.wrap (Int.tdiv (Int.tmod v7 a.1.1) (8:Int)))))<(List.length v4.2:Int)))) then
   j5 ((v4.1,(List.set v4.2 (Int.toNat (IntKind.i64.wrap ((IntKind.i64.wrap ((IntKind.i64.wrap (Int.tdiv v7 a.1.1))*v8.1))+(IntKind.i64.wrap (Int.tdiv (Int.tmod v7 a.1.1) (8:Int)))))) (bits BinOp.or IntKind.u8 (List.getD v4.2 (Int.toNat (IntKind.i64.wrap ((IntKind.i64.wrap ((IntKind.i64.wrap (Int.tdiv v7 a.1.1))*v8.1))+(IntKind.i64.wrap (Int.tdiv (Int.tmod v7 a.1.1) (8:Int)))))) 0) ((128:Int) / 2 ^ (Int.toNat (Int.tmod (Int.tmod v7 a.1.1) (8:Int))))))))
   else none
   else none
   else none
   else none
   else none
  else
  j5 (v4)
  else none
 else
 some (((v3.1.1,(v3.1.2.1,v4.2)),()))
def camera_split_l1 (fu:Nat) (a:(Int×Int×List Int)×Unit) (j2:(Int×Int×Int)→Option ((Int×Int×List Int)×Unit)) (v2:Int×Int×Int):Option ((Int×Int×List Int)×Unit) :=
 bif (decide (v2.2.2<(List.length a.1.2.2:Int))) then
  bif ((decide ((0:Int)≤v2.2.2))&&(decide (v2.2.2<(List.length a.1.2.2:Int)))) then
  let v3:Int:=(List.getD a.1.2.2 (Int.toNat v2.2.2) 0)
  let v4:Int:=(min v2.2.1 v3)
  let v5:Int:=(max v2.1 v3)
  j2 ((v5,(v4,(IntKind.i64.wrap (v2.2.2+(1:Int))))))
  else none
 else
 bindO (bitmap_Blank_r fu ((a.1.1,a.1.2.1))) fun v3 =>
 loopF (camera_split_l2 fu a v2 v3) fu (((0:Int),v3.2))
def camera_split_r (fu:Nat) (a:(Int×Int×List Int)×Unit):Option ((Int×Int×List Int)×Unit) :=
 bif (decide ((0:Int)<(List.length a.1.2.2:Int))) then
 let v0:Int:=(List.getD a.1.2.2 (Int.toNat (0:Int)) 0)
 bif (decide ((0:Int)<(List.length a.1.2.2:Int))) then
 let v1:Int:=(List.getD a.1.2.2 (Int.toNat (0:Int)) 0)
 loopF (camera_split_l1 fu a) fu ((v1,(v0,(0:Int))))
 else none
 else none
def camera_split_an:An:=(.n none .z (.n none (.dr [] []) (.n none (.n none .z (.n none (.n (some ⟨[0,2,25,26],[0],[],[.reg 4 (.int .u8),.reg 3 (.int .u8),.reg 27 (.int .i64)],0,[]⟩) (.n none .z (.n none .z (.n none (.n none (.n none .z .z) .z) .z))) .z) .z)) (.n none (.dr [] []) (.n none (.n none .z (.n none (.n (some ⟨[2,7,50,3,4,0,51],[0,2],[],[.reg 52 (.int .i64),.row 1 true (.int .u8) 5 0],0,[]⟩) (.n none .z (.n none .z (.n (some ⟨[],[],[],[.reg 52 (.int .i64),.row 1 true (.int .u8) 5 0],0,[]⟩) (.n none (.n none .z (.n none .z (.n none (.dr [] [(12,(.n none (.dr [] []) .z))]) .z))) .z) .z))) .z) .z)) (.n none .z .z))))))
noncomputable def camera_split_dc:List (Nat×Ctr):=[(115,bitmap_stride_ctr)]
noncomputable def camera_split_de:List (Nat×CtrE):=[(84,bitmap_Blank_ctr)]
def camera_split_ctr:Ctr:=⟨(.pair (.ptr (.pair (.int .i64) (.pair (.int .i64) (.list (.int .u8))))) .unit),(.pair (.agg (.pair (.int .i64) (.pair (.int .i64) (.list (.int .u8))))) .unit),camera_split_r,103⟩
theorem camera_split_ok:CtrOk Try.prog 103 camera_split_ctr:=ctr_okE (l:=camera_split_dc) (le:=camera_split_de) ⟨bitmap_stride_ok,trivial⟩ ⟨bitmap_Blank_ok,trivial⟩ (f:=12) (an:=camera_split_an) fun fu x=>by kernel_rfl
def camera_Binarize_r (fu:Nat) (a:(Int×Int×List Int)×Unit):Option ((Int×Int×List Int)×Int×Unit) :=
 bindO (camera_Check_r fu ((a.1,()))) fun v0 =>
 let v1:Int:=v0.1
 bif (decide (v1≠(0:Int))) then
  some ((((0:Int),((0:Int),([]:List (Int)))),(v1,())))
 else
 bindO (camera_split_r fu ((a.1,()))) fun v2 =>
 some ((v2.1,((0:Int),())))
def camera_Binarize_an:An:=(.n none .z (.n none (.n none .z (.n none .z (.n none (.n none .z .z) .z))) (.n none .z .z)))
noncomputable def camera_Binarize_dc:List (Nat×Ctr):=[(63,camera_Check_ctr),(103,camera_split_ctr)]
def camera_Binarize_ctr:Ctr:=⟨(.pair (.agg (.pair (.int .i64) (.pair (.int .i64) (.list (.int .u8))))) .unit),(.pair (.agg (.pair (.int .i64) (.pair (.int .i64) (.list (.int .u8))))) (.pair (.int .i64) .unit)),camera_Binarize_r,64⟩
theorem camera_Binarize_ok:CtrOk Try.prog 64 camera_Binarize_ctr:=ctr_ok (l:=camera_Binarize_dc) (f:=12) (an:=camera_Binarize_an) ⟨camera_Check_ok,⟨camera_split_ok,trivial⟩⟩ fun fu x=>by kernel_rfl
def R_ViewErr_l2 (fu:Nat) (a:(Int×Int×Int×Int×Int×Int×Int×List Int)×Unit) (j1:(Int)→Option (Int×Unit)) (v1:Int):Option (Int×Unit) :=
 bif (decide (v1<(List.length a.1.2.2.2.2.2.2.2:Int))) then
  bif ((decide ((0:Int)≤v1))&&(decide (v1<(List.length a.1.2.2.2.2.2.2.2:Int)))) then
  let v2:Int:=(List.getD a.1.2.2.2.2.2.2.2 (Int.toNat v1) 0)
  bindO (R_Within_r fu ((v2,((-64:Int),((64:Int),()))))) fun v3 =>
  bif (!v3.1) then
   some (((3:Int),()))
  else
  j1 ((IntKind.i64.wrap (v1+(1:Int))))
  else none
 else
 some (((0:Int),()))
def R_ViewErr_j1 (fu:Nat) (a:(Int×Int×Int×Int×Int×Int×Int×List Int)×Unit) (v0:Bool):Option (Int×Unit) :=
 bif v0 then
  some (((3:Int),()))
 else
 bif (decide (a.1.2.2.2.2.2.1≤a.1.2.2.2.2.2.2.1)) then
  some (((18:Int),()))
 else
 bif (decide ((64:Int)<(List.length a.1.2.2.2.2.2.2.2:Int))) then
  some (((2:Int),()))
 else
 loopF (R_ViewErr_l2 fu a) fu ((0:Int))
def R_ViewErr_r (fu:Nat) (a:(Int×Int×Int×Int×Int×Int×Int×List Int)×Unit):Option (Int×Unit) :=
 joinF (R_ViewErr_j1 fu a) fun j0 =>
 bindO (R_Within_r fu ((a.1.1,((1:Int),((8:Int),()))))) fun v1 =>
 bif (!v1.1) then
  j0 (true)
 else
 bindO (R_Within_r fu ((a.1.2.1,((0:Int),((32:Int),()))))) fun v2 =>
 bif (!v2.1) then
  j0 (true)
 else
 bindO (R_Within_r fu ((a.1.2.2.1,((0:Int),((32:Int),()))))) fun v3 =>
 bif (!v3.1) then
  j0 (true)
 else
 bindO (R_Within_r fu ((a.1.2.2.2.1,((0:Int),((3:Int),()))))) fun v4 =>
 bif (!v4.1) then
  j0 (true)
 else
 bindO (R_Within_r fu ((a.1.2.2.2.2.1,((0:Int),((2:Int),()))))) fun v5 =>
 bif (!v5.1) then
  j0 (true)
 else
 bindO (R_Within_r fu ((a.1.2.2.2.2.2.1,((0:Int),((255:Int),()))))) fun v6 =>
 bif (!v6.1) then
  j0 (true)
 else
 bindO (R_Within_r fu ((a.1.2.2.2.2.2.2.1,((0:Int),((255:Int),()))))) fun v7 =>
 j0 ((!v7.1))
def R_ViewErr_an:An:=(.n none .z (.n none (.n (some ⟨[1],[0],[],[.reg 44 .bool],0,[]⟩) .z (.n none (.n none .z .z) .z)) (.n none (.n none .z (.n none (.n none .z .z) .z)) (.n none (.n none .z (.n none (.n none .z .z) .z)) (.n none (.n none .z (.n none (.n (some ⟨[55,56],[0],[],[.reg 57 (.int .i64)],0,[]⟩) (.n none .z (.n none .z (.n none (.n none (.n none .z (.n none .z (.n none (.n none .z .z) .z))) .z) .z))) .z) .z)) (.n none .z .z))))))
noncomputable def R_ViewErr_dc:List (Nat×Ctr):=[(21,R_Within_ctr)]
def R_ViewErr_ctr:Ctr:=⟨(.pair (.agg (.pair (.int .i64) (.pair (.int .i64) (.pair (.int .i64) (.pair (.int .i64) (.pair (.int .i64) (.pair (.int .i64) (.pair (.int .i64) (.list (.int .i64)))))))))) .unit),(.pair (.int .i64) .unit),R_ViewErr_r,60⟩
theorem R_ViewErr_ok:CtrOk Try.prog 60 R_ViewErr_ctr:=ctr_ok (l:=R_ViewErr_dc) (f:=12) (an:=R_ViewErr_an) ⟨R_Within_ok,trivial⟩ fun fu x=>by kernel_rfl
def law_CameraImages_l6 (fu:Nat) (v1:(Int×Int×List Int)×Int×Unit) (v8:(Int×Int×List Int)×Unit) (v10:Int×Int×Int) (j11:(Int×List Bool)→Option (Bool×Unit)) (v11:Int×List Bool):Option (Bool×Unit) :=
 bif (decide (v11.1<(List.length v8.1.2.2:Int))) then
  bif ((decide ((0:Int)≤v11.1))&&(decide (v11.1<(List.length v8.1.2.2:Int)))) then
  let v12:Int:=(List.getD v8.1.2.2 (Int.toNat v11.1) 0)
  let v13:Int:=v11.1
  bif ((decide ((0:Int)≤v13))&&(decide (v13<(List.length v11.2:Int)))) then
  j11 (((IntKind.i64.wrap (v11.1+(1:Int))),(List.set v11.2 (Int.toNat v13) (decide ((IntKind.i64.wrap ((2:Int)*(IntKind.i64.wrap v12)))<(IntKind.i64.wrap (v10.2.1+v10.1)))))))
  else none
  else none
 else
 bindO (camera_Binarize_r fu ((v1.1,()))) fun v12 =>
 let v13:Int:=v12.2.1
 bif (decide (v13=(0:Int))) then
  bindO (R_Drawn_r fu ((v1.1.1,(v1.1.2.1,(v11.2,()))))) fun v14 =>
  bindO (R_SameBits_r fu ((v12.1,(v14.1,())))) fun v15 =>
  let v16:Bool:=v15.1
  some ((v16,()))
 else
 some ((false,()))
def law_CameraImages_l5 (fu:Nat) (v1:(Int×Int×List Int)×Int×Unit) (v8:(Int×Int×List Int)×Unit) (j10:(Int×Int×Int)→Option (Bool×Unit)) (v10:Int×Int×Int):Option (Bool×Unit) :=
 bif (decide (v10.2.2<(List.length v8.1.2.2:Int))) then
  bif ((decide ((0:Int)≤v10.2.2))&&(decide (v10.2.2<(List.length v8.1.2.2:Int)))) then
  let v11:Int:=(List.getD v8.1.2.2 (Int.toNat v10.2.2) 0)
  let v12:Int:=(min v10.2.1 (IntKind.i64.wrap v11))
  let v13:Int:=(max v10.1 (IntKind.i64.wrap v11))
  j10 ((v13,(v12,(IntKind.i64.wrap (v10.2.2+(1:Int))))))
  else none
 else
 bif ((decide ((0:Int)≤(List.length v8.1.2.2:Int)))&&(decide (((1:Int)*(List.length v8.1.2.2:Int))≤(281474976710656:Int)))) then
 loopF (law_CameraImages_l6 fu v1 v8 v10) fu (((0:Int),(List.replicate (Int.toNat (List.length v8.1.2.2:Int)) false)))
 else none
def law_CameraImages_j4 (fu:Nat) (v1:(Int×Int×List Int)×Int×Unit) (v8:(Int×Int×List Int)×Unit) (v9:Bool):Option (Bool×Unit) :=
 bif v9 then
  some ((false,()))
 else
 loopF (law_CameraImages_l5 fu v1 v8) fu (((0:Int),((255:Int),(0:Int))))
def law_CameraImages_j3 (fu:Nat) (a:(Int×Int×List Int)×(Int×Int×Int×Int×Int×Int×Int×List Int)×Unit) (v1:(Int×Int×List Int)×Int×Unit) (v2:Int) (v7:Bool):Option (Bool×Unit) :=
 bif v7 then
  some ((true,()))
 else
 bindO (R_Captured_r fu ((a.1,(a.2.1,())))) fun v8 =>
 joinF (law_CameraImages_j4 fu v1 v8) fun j9 =>
 bif (decide (v2≠(0:Int))) then
  j9 (true)
 else
 bif (decide (v1.1.1≠v8.1.1)) then
  j9 (true)
 else
 bif (decide (v1.1.2.1≠v8.1.2.1)) then
  j9 (true)
 else
 bindO (R_SameBytes_r fu ((v1.1.2.2,(v8.1.2.2,())))) fun v10 =>
 bif (!v10.1) then
  j9 (true)
 else
 bindO (camera_Check_r fu ((v1.1,()))) fun v11 =>
 j9 ((decide (v11.1≠(0:Int))))
def law_CameraImages_j2 (fu:Nat) (a:(Int×Int×List Int)×(Int×Int×Int×Int×Int×Int×Int×List Int)×Unit) (v1:(Int×Int×List Int)×Int×Unit) (v2:Int) (v6:Int):Option (Bool×Unit) :=
 bif (decide (v6≠(0:Int))) then
  bif (decide (v1.1.1=(0:Int))) then
   bif (decide (v1.1.2.1=(0:Int))) then
    bindO (law_none_r fu (((decide ((List.length v1.1.2.2:Int)=(0:Int))),(v2,(v6,()))))) fun v7 =>
    let v8:Bool:=v7.1
    some ((v8,()))
   else
   bindO (law_none_r fu ((false,(v2,(v6,()))))) fun v7 =>
   let v8:Bool:=v7.1
   some ((v8,()))
  else
  bindO (law_none_r fu ((false,(v2,(v6,()))))) fun v7 =>
  let v8:Bool:=v7.1
  some ((v8,()))
 else
 joinF (law_CameraImages_j3 fu a v1 v2) fun j7 =>
 bif (decide ((24:Int)<a.1.1)) then
  j7 (true)
 else
 j7 ((decide ((24:Int)<a.1.2.1)))
def law_CameraImages_j7 (fu:Nat) (j6:(Int)→Option (Bool×Unit)) (v7:Bool×Int):Option (Bool×Unit) :=
 bif v7.1 then
  j6 ((19:Int))
 else
 j6 (v7.2)
def law_CameraImages_j1 (fu:Nat) (a:(Int×Int×List Int)×(Int×Int×Int×Int×Int×Int×Int×List Int)×Unit) (v1:(Int×Int×List Int)×Int×Unit) (v2:Int) (v5:Int):Option (Bool×Unit) :=
 joinF (law_CameraImages_j2 fu a v1 v2) fun j6 =>
 joinF (law_CameraImages_j7 fu j6) fun j7 =>
 bif (decide (v5=(0:Int))) then
  j7 (((decide ((1024:Int)<(IntKind.i64.wrap ((IntKind.i64.wrap ((max a.1.1 a.1.2.1)*a.2.1.1))+(32:Int))))),v5))
 else
 j7 ((false,v5))
def law_CameraImages_r (fu:Nat) (a:(Int×Int×List Int)×(Int×Int×Int×Int×Int×Int×Int×List Int)×Unit):Option (Bool×Unit) :=
 bindO (law_cameraWorks_r fu (())) fun v0 =>
 bif (!v0.1) then
  some ((false,()))
 else
 bindO (camera_Capture_r fu ((a.1,(a.2.1,())))) fun v1 =>
 let v2:Int:=v1.2.1
 bindO (R_BitsErr_r fu ((a.1,()))) fun v3 =>
 let v4:Int:=v3.1
 joinF (law_CameraImages_j1 fu a v1 v2) fun j5 =>
 bif (decide (v4=(0:Int))) then
  bindO (R_ViewErr_r fu ((a.2.1,()))) fun v6 =>
  let v7:Int:=v6.1
  bindO (camera_CheckView_r fu ((a.2.1,()))) fun v8 =>
  bif (decide (v8.1≠v7)) then
   some ((false,()))
  else
  j5 (v7)
 else
 j5 (v4)
def law_CameraImages_an:An:=(.n none .z (.n none (.n none .z (.n none (.n none .z .z) .z)) (.n none .z (.n none .z (.n (some ⟨[2,3,6,5],[0,1,2],[],[.reg 7 (.int .i64)],0,[]⟩) (.n none .z (.n none (.n none .z (.n none .z (.n none (.n none .z .z) .z))) .z)) (.n (some ⟨[],[],[],[.reg 7 (.int .i64)],0,[]⟩) (.n (some ⟨[],[],[],[.reg 49 .bool,.reg 7 (.int .i64)],0,[]⟩) .z (.n none .z .z)) (.n none (.n none .z (.n none (.n none .z .z) .z)) (.n none (.n (some ⟨[],[],[],[.reg 76 .bool],0,[]⟩) .z (.n none (.n none .z .z) .z)) (.n none .z (.n none (.n (some ⟨[8],[3],[],[.reg 108 .bool],0,[]⟩) .z (.n none (.n none .z .z) .z)) (.n none .z (.n none (.n none .z (.n none (.n (some ⟨[8,110,111],[3],[],[.reg 10 (.int .i64),.reg 9 (.int .i64),.reg 112 (.int .i64)],0,[]⟩) (.n none .z (.n none .z (.n none (.n none (.n none .z .z) .z) .z))) .z) .z)) (.n none .z (.n none (.n none .z (.n none (.n (some ⟨[13,130,9,10,131],[3],[],[.reg 132 (.int .i64),.row 4 true .bool 4 0],0,[]⟩) (.n none .z (.n none .z (.n none (.n none (.n none .z .z) .z) .z))) .z) .z)) (.n none .z (.n none (.dr [] []) .z))))))))))))))))
noncomputable def law_CameraImages_dc:List (Nat×Ctr):=[(18,law_none_ctr),(34,R_BitsErr_ctr),(41,R_Drawn_ctr),(43,R_SameBits_ctr),(50,R_SameBytes_ctr),(58,law_cameraWorks_ctr),(59,camera_Capture_ctr),(60,R_ViewErr_ctr),(61,camera_CheckView_ctr),(62,R_Captured_ctr),(63,camera_Check_ctr),(64,camera_Binarize_ctr)]
def law_CameraImages_ctr:Ctr:=⟨(.pair (.agg (.pair (.int .i64) (.pair (.int .i64) (.list (.int .u8))))) (.pair (.agg (.pair (.int .i64) (.pair (.int .i64) (.pair (.int .i64) (.pair (.int .i64) (.pair (.int .i64) (.pair (.int .i64) (.pair (.int .i64) (.list (.int .i64)))))))))) .unit)),(.pair .bool .unit),law_CameraImages_r,11⟩
theorem law_CameraImages_ok:CtrOk Try.prog 11 law_CameraImages_ctr:=ctr_ok (l:=law_CameraImages_dc) (f:=12) (an:=law_CameraImages_an) ⟨law_none_ok,⟨R_BitsErr_ok,⟨R_Drawn_ok,⟨R_SameBits_ok,⟨R_SameBytes_ok,⟨law_cameraWorks_ok,⟨camera_Capture_ok,⟨R_ViewErr_ok,⟨camera_CheckView_ok,⟨R_Captured_ok,⟨camera_Check_ok,⟨camera_Binarize_ok,trivial⟩⟩⟩⟩⟩⟩⟩⟩⟩⟩⟩⟩ fun fu x=>by kernel_rfl
end Go.Proofs.Ytelpkjellakigaa
/- Pictures of pixels. No program in sight. -/
set_option maxRecDepth 100000
namespace Go.Proofs.Ytelpkjellakigaa
open Go Go.RowKit

def byteB (b0 b1 b2 b3 b4 b5 b6 b7:Bool):Int:=(bif b0 then 128 else 0)+(bif b1 then 64 else 0)+(bif b2 then 32 else 0)+(bif b3 then 16 else 0)+(bif b4 then 8 else 0)+(bif b5 then 4 else 0)+(bif b6 then 2 else 0)+(bif b7 then 1 else 0)
def byteOf (p:Nat→Bool):Int:=byteB (p 0) (p 1) (p 2) (p 3) (p 4) (p 5) (p 6) (p 7)
theorem byteOf_congr {p q:Nat→Bool} (h:∀ k,k<8→p k=q k):byteOf p=byteOf q:=by
 unfold byteOf;rw [h 0 (by omega),h 1 (by omega),h 2 (by omega),h 3 (by omega),h 4 (by omega),h 5 (by omega),h 6 (by omega),h 7 (by omega)]
theorem byteOf_bd (p:Nat→Bool):0≤byteOf p∧byteOf p≤255:=by
 unfold byteOf;generalize p 0=a0;generalize p 1=a1;generalize p 2=a2;generalize p 3=a3;generalize p 4=a4;generalize p 5=a5;generalize p 6=a6;generalize p 7=a7
 revert a0 a1 a2 a3 a4 a5 a6 a7
 decide +kernel
theorem bool_fun {p:Nat→Bool} {a0 a1 a2 a3 a4 a5 a6 a7:Bool} (h0:p 0=a0) (h1:p 1=a1) (h2:p 2=a2) (h3:p 3=a3) (h4:p 4=a4) (h5:p 5=a5) (h6:p 6=a6) (h7:p 7=a7):∀ k,k<8→p k=[a0,a1,a2,a3,a4,a5,a6,a7].getD k false
 | 0,_=>h0 | 1,_=>h1 | 2,_=>h2 | 3,_=>h3 | 4,_=>h4 | 5,_=>h5 | 6,_=>h6 | 7,_=>h7
 | k+8,h=>by omega
theorem byteOf_bit (p:Nat→Bool) {k:Nat} (hk:k<8):bitAt (byteOf p) k=p k:=by
 rw [bool_fun (p:=p) rfl rfl rfl rfl rfl rfl rfl rfl k hk];unfold byteOf;generalize p 0=a0;generalize p 1=a1;generalize p 2=a2;generalize p 3=a3;generalize p 4=a4;generalize p 5=a5;generalize p 6=a6;generalize p 7=a7
 exact (show ∀ (k:Fin 8) (a0 a1 a2 a3 a4 a5 a6 a7:Bool),bitAt (byteB a0 a1 a2 a3 a4 a5 a6 a7) k.val=[a0,a1,a2,a3,a4,a5,a6,a7].getD k.val false by decide +kernel) ⟨k,hk⟩ a0 a1 a2 a3 a4 a5 a6 a7
theorem byteOf_self {v:Int} (h0:0≤v) (h1:v≤255):byteOf (bitAt v)=v :=
 fin_byte (p:=fun v=>byteOf (bitAt v)=v) (by decide +kernel) h0 h1
theorem or_byte {v:Int} (h0:0≤v) (h1:v≤255) {k:Nat} (hk:k<8):bits .or .u8 v (128 / 2 ^ k)=byteOf (fun j=>bitAt v j||j==k) :=
 fin_byte (p:=fun v=>bits .or .u8 v (128 / 2 ^ k)=byteOf (fun j=>bitAt v j||j==k)) (fun v=>(show ∀ (k:Fin 8) (v:Fin 256),bits .or .u8 (v.val:Int) (128 / 2 ^ k.val)=byteOf (fun j=>bitAt (v.val:Int) j||j==k.val) by decide +kernel) ⟨k,hk⟩ v) h0 h1
theorem byteOf_or (p:Nat→Bool) {k:Nat} (hk:k<8):bits .or .u8 (byteOf p) (128 / 2 ^ k)=byteOf (fun j=>p j||j==k):=by
 rw [or_byte (byteOf_bd p).1 (byteOf_bd p).2 hk];exact byteOf_congr fun j hj=>by rw [byteOf_bit p hj]
def cbyte (w:Int) (P:Int→Int→Bool) (i:Int):Int:=byteOf fun k=>decide (8*(i % strd w)+k<w)&&P (8*(i % strd w)+k) (i / strd w)
def canon (w h:Int) (P:Int→Int→Bool):List Int:=(List.range (strd w*h).toNat).map fun i:Nat=>cbyte w P (i:Int)
theorem canon_length (w h:Int) (P:Int→Int→Bool):(canon w h P).length=(strd w*h).toNat:=by rw [canon,List.length_map,List.length_range]
theorem canon_len {w h:Int} (hw:0≤w) (hh:0≤h) (P:Int→Int→Bool):((canon w h P).length:Int)=strd w*h:=by
 rw [canon_length,Int.toNat_of_nonneg (Int.mul_nonneg (by unfold strd;omega) hh)]
theorem canon_get {w h:Int} {P:Int→Int→Bool} {i:Nat} (hi:i<(canon w h P).length):(canon w h P)[i]=cbyte w P i:=by
 simp only [canon,List.getElem_map,List.getElem_range]
theorem canon_getD {w h:Int} {P:Int→Int→Bool} {i:Nat} (hi:i<(strd w*h).toNat):(canon w h P).getD i 0=cbyte w P i:=by
 rw [←canon_length w h P] at hi;rw [List.getD_eq_getElem?_getD,List.getElem?_eq_getElem hi,Option.getD_some,canon_get]
theorem canon_bytes (w h:Int) (P:Int→Int→Bool):Bytes (canon w h P):=by
 intro d hd;obtain ⟨i,_,rfl⟩:=List.mem_map.1 hd;exact byteOf_bd _
theorem canon_congr {w h:Int} {P Q:Int→Int→Bool} (hw:0<w) (hp:∀ x y,0≤x→x<w→0≤y→y<h→P x y=Q x y):canon w h P=canon w h Q:=by
 unfold canon;refine List.map_congr_left fun i hi=>byteOf_congr fun k _=>?_
 have hi:=List.mem_range.1 hi;have hs:0<strd w:=by unfold strd;omega
 have hi':(i:Int)<strd w*h:=by omega
 have e1:0≤(i:Int) % strd w:=Int.emod_nonneg _ (by omega);have e2:(i:Int) / strd w<h:=Int.ediv_lt_of_lt_mul hs (by rw [Int.mul_comm];exact hi');have e3:0≤(i:Int) / strd w:=Int.ediv_nonneg (by omega) (by omega);by_cases g:8*((i:Int) % strd w)+k<w
 ·rw [hp _ _ (by omega) g e3 e2]
 ·rw [decide_eq_false g];rfl
theorem div_of {s a b:Int} (h0:0≤b) (h1:b<s):(a*s+b) / s=a∧(a*s+b) % s=b:=by
 have hs:s≠0:=by omega
 constructor
 ·rw [Int.add_comm,Int.add_mul_ediv_right _ _ hs,Int.ediv_eq_zero_of_lt h0 h1,Int.zero_add]
 ·rw [Int.add_comm,Int.add_mul_emod_self_right,Int.emod_eq_of_lt h0 h1]
theorem mul_div_mod (i s:Int):i / s*s+i % s=i:=by rw [Int.mul_comm];exact Int.mul_ediv_add_emod i s
section
variable {w h x y:Int} {P:Int→Int→Bool}
theorem at_lt (hx0:0≤x) (hx1:x<w) (hy0:0≤y) (hy1:y<h):(y*strd w+x / 8).toNat<(strd w*h).toNat∧((y*strd w+x / 8).toNat:Int)=y*strd w+x / 8:=by
 have h1:0≤strd w*h:=Int.mul_nonneg (by unfold strd;omega) (by omega);obtain ⟨g0,g1,g2⟩:=at_ok (w:=w) (h:=h) (x:=x) (y:=y) (l:=(strd w*h).toNat) (by omega) hx0 hx1 hy0 hy1 (by omega);omega
theorem cbyte_at (hx0:0≤x) (hx1:x<w) (hy0:0≤y):cbyte w P (y*strd w+x / 8)=byteOf fun k=>decide (8*(x / 8)+k<w)&&P (8*(x / 8)+k) y:=by
 have h1:x / 8<strd w:=by unfold strd;omega
 have:=hy0;unfold cbyte;rw [(div_of (by omega) h1).1,(div_of (by omega) h1).2]
theorem canon_upd {Q:Int→Int→Bool} {v:Int} (hx0:0≤x) (hx1:x<w) (hy0:0≤y) (hy1:y<h) (hv:v=byteOf fun k=>decide (8*(x / 8)+k<w)&&Q (8*(x / 8)+k) y)
  (hq:∀ a b,0≤a→¬ (a / 8=x / 8∧b=y)→Q a b=P a b):(canon w h P).set (y*strd w+x / 8).toNat v=canon w h Q:=by
 obtain ⟨hlt,hcast⟩:=at_lt hx0 hx1 hy0 hy1;refine List.ext_getElem (by rw [List.length_set,canon_length,canon_length]) fun i h1 h2=>?_
 rw [List.getElem_set];split
 ·rename_i e;subst e;rw [canon_get,hcast,cbyte_at hx0 hx1 hy0];exact hv
 ·rename_i e;rw [canon_get,canon_get];refine byteOf_congr fun k hk=>?_
  have hs:0<strd w:=by unfold strd;omega
  have e1:0≤(i:Int) % strd w:=Int.emod_nonneg _ (by omega);congr 1;refine (hq _ _ (by omega) ?_).symm
  rintro ⟨g1,g2⟩
  have g3:(i:Int) % strd w=x / 8:=by omega
  have:=mul_div_mod (i:Int) (strd w);rw [g2,g3] at this;omega
theorem canon_set (hx0:0≤x) (hx1:x<w) (hy0:0≤y) (hy1:y<h) :
  (canon w h P).set (y*strd w+x / 8).toNat (bits .or .u8 ((canon w h P).getD (y*strd w+x / 8).toNat 0) (128 / 2 ^ (x % 8).toNat))=canon w h (fun a b=>P a b||(decide (a=x)&&decide (b=y))):=by
 obtain ⟨hlt,hcast⟩:=at_lt hx0 hx1 hy0 hy1;refine canon_upd hx0 hx1 hy0 hy1 ?_ (fun a b ha hn=>?_)
 ·rw [canon_getD hlt,hcast,cbyte_at hx0 hx1 hy0,byteOf_or _ (by omega)];refine byteOf_congr fun k hk=>?_
  rw [decide_eq_true (rfl:y=y),Bool.and_true];by_cases e:k=(x % 8).toNat
  ·subst e;have e1:8*(x / 8)+((x % 8).toNat:Int)=x:=by omega
   rw [e1,decide_eq_true hx1,decide_eq_true (rfl:x=x)];simp
  ·rw [decide_eq_false (show ¬ 8*(x / 8)+(k:Int)=x by omega)];simp [e]
 ·have:¬ (a=x∧b=y):=fun g=>hn (by rw [g.1];exact ⟨rfl,g.2⟩)
  by_cases e:a=x
  ·rw [decide_eq_false (show ¬ b=y from fun g=>this ⟨e,g⟩)];simp
  ·rw [decide_eq_false e];simp
theorem canon_pix (hw:0≤w):pixB w h (canon w h P) x y=(decide (0≤x∧x<w∧0≤y∧y<h)&&P x y):=by
 have:=hw;unfold pixB;by_cases g:0≤x∧x<w∧0≤y∧y<h
 ·obtain ⟨g1,g2,g3,g4⟩:=g;obtain ⟨hlt,hcast⟩:=at_lt g1 g2 g3 g4;rw [canon_getD hlt,hcast,cbyte_at g1 g2 g3,byteOf_bit _ (by omega)];have e1:8*(x / 8)+((x % 8).toNat:Int)=x:=by omega
  rw [e1,decide_eq_true g2,Bool.true_and]
 ·rw [decide_eq_false g];rfl
theorem canon_self {ds:List Int} (hb:Bytes ds) (h0:bitsE w h ds=0):ds=canon w h (pixB w h ds):=by
 unfold bitsE at h0;split at h0
 ·rename_i hr;obtain ⟨r1,r2,r3,r4⟩:=hr;split at h0
  ·rename_i hl;split at h0
   ·rename_i ht;have hs:=strd_N (w:=w) (by omega);have hsp:0<strd w:=by unfold strd;omega
    have hlI:(ds.length:Int)=strd w*h:=by rw [hl,hs,Int.natCast_mul,Int.toNat_of_nonneg (by omega:0≤h)]
    refine List.ext_getElem (by rw [canon_length];omega) fun i h1 h2=>?_
    have hbi:=hb.at i;rw [List.getD_eq_getElem?_getD,List.getElem?_eq_getElem h1,Option.getD_some] at hbi;rw [canon_get,←byteOf_self hbi.1 hbi.2];refine byteOf_congr fun k hk=>?_
    have e1:0≤(i:Int) % strd w:=Int.emod_nonneg _ (by omega);have e1':(i:Int) % strd w<strd w:=Int.emod_lt_of_pos _ hsp;have e2:(i:Int) / strd w<h:=Int.ediv_lt_of_lt_mul hsp (by rw [Int.mul_comm];omega);have e3:0≤(i:Int) / strd w:=Int.ediv_nonneg (by omega) (by omega);have hmd:=mul_div_mod (i:Int) (strd w);by_cases g:8*((i:Int) % strd w)+k<w
    ·rw [decide_eq_true g,Bool.true_and];unfold pixB;rw [decide_eq_true (show 0≤8*((i:Int) % strd w)+k∧8*((i:Int) % strd w)+k<w∧0≤(i:Int) / strd w∧(i:Int) / strd w<h from ⟨by omega,g,e3,e2⟩),Bool.true_and];have q1:(8*((i:Int) % strd w)+(k:Int)) / 8=(i:Int) % strd w:=by omega
     have q2:((8*((i:Int) % strd w)+(k:Int)) % 8).toNat=k:=by omega
     rw [q1,q2,hmd,Int.toNat_natCast,List.getD_eq_getElem?_getD,List.getElem?_eq_getElem h1,Option.getD_some]
    ·rw [decide_eq_false g,Bool.false_and]

     have hlast:(i:Int) % strd w=strd w-1:=by unfold strd at *;omega
     have hrow:=(List.all_eq_true.1 ht) ((i:Int) / strd w).toNat (List.mem_range.2 (by omega))
     have hidx:((i:Int) / strd w).toNat*strideN w.toNat+strideN w.toNat-1=i:=by
      have:((((i:Int) / strd w).toNat*strideN w.toNat:Nat):Int)=(i:Int) / strd w*strd w:=by
       rw [Int.natCast_mul,Int.toNat_of_nonneg e3,hs]
      omega
     rw [hidx,List.getD_eq_getElem?_getD,List.getElem?_eq_getElem h1,Option.getD_some] at hrow;have hu:8*strideN w.toNat-w.toNat<8:=by unfold strideN;omega
     refine (low_bits hbi.1 hbi.2 hu).1 hrow k hk ?_;omega
   ·omega
  ·omega
 ·omega
end
theorem strd_bd {w h:Int} (hw0:0≤w) (hw1:w≤1024) (hh0:0≤h) (hh1:h≤1024):0≤strd w∧strd w≤128∧0≤strd w*h∧strd w*h≤131072:=by
 have a1:strd w≤128:=by unfold strd;omega
 have a2:0≤strd w:=by unfold strd;omega
 have:=Int.mul_le_mul a1 hh1 hh0 (by omega:(0:Int)≤128);have:=Int.mul_nonneg a2 hh0;omega
theorem idx_bd {w h x y:Int} (hx0:0≤x) (hx1:x<w) (hw1:w≤1024) (hy0:0≤y) (hy1:y<h) (hh1:h≤1024):0≤y*strd w∧y*strd w+x / 8<strd w*h∧strd w*h≤131072:=by
 obtain ⟨b1,b2,b3,b4⟩:=strd_bd (w:=w) (h:=h) (by omega) hw1 (by omega) hh1;obtain ⟨g0,g1,g2⟩:=at_ok (w:=w) (h:=h) (x:=x) (y:=y) (l:=(strd w*h).toNat) (by omega) hx0 hx1 hy0 hy1 (by omega);omega
theorem canon_zero (w h:Int) {P:Int→Int→Bool} (hp:∀ x y,P x y=false):canon w h P=List.replicate (strd w*h).toNat 0:=by
 refine List.ext_getElem (by rw [canon_length,List.length_replicate]) fun i h1 h2=>?_
 rw [canon_get,List.getElem_replicate];show byteOf _=0;rw [byteOf_congr (q:=fun _=>false) (fun k _=>by rw [hp,Bool.and_false])];rfl
theorem bitsE_dim {w h:Int} {ds:List Int} (h0:bitsE w h ds=0):1≤w∧w≤1024∧1≤h∧h≤1024∧(ds.length:Int)=strd w*h:=by
 unfold bitsE at h0;split at h0
 ·rename_i hr;split at h0
  ·rename_i hl;refine ⟨hr.1,hr.2.1,hr.2.2.1,hr.2.2.2,?_⟩;rw [hl,strd_N (by omega),Int.natCast_mul,Int.toNat_of_nonneg (by omega:0≤h)]
  ·omega
 ·omega
def onL (n:Nat) (G:Int→Bool):List Bool:=(List.range n).map fun i:Nat=>G (i:Int)
theorem onL_length (n:Nat) (G:Int→Bool):(onL n G).length=n:=by rw [onL,List.length_map,List.length_range]
theorem onL_getD {n:Nat} {G:Int→Bool} {i:Int} (h0:0≤i) (h1:i<n):(onL n G).getD i.toNat false=G i:=by
 have hi:i.toNat<n:=by omega
 have:(onL n G)[i.toNat]?=some (G i):=by
  unfold onL;rw [List.getElem?_map,List.getElem?_range hi,Option.map_some,Int.toNat_of_nonneg h0]
 rw [List.getD_eq_getElem?_getD,this,Option.getD_some]
end Go.Proofs.Ytelpkjellakigaa
/- Pictures: what bitmap.Mark,R.Drawn,R.SameBits compute. -/
set_option maxRecDepth 100000
namespace Go.Proofs.Ytelpkjellakigaa
open Go Go.RowKit

section
variable {β:Type}
def markF (fu:Nat) (w y x:Int) (ds:List Int) (k:List Int→Option β):Option β :=
 bindO (bitmap_stride_r fu ((w,()))) fun v8 =>
 bif ((decide ((0:Int)≤(IntKind.i64.wrap ((IntKind.i64.wrap (y*v8.1))+(IntKind.i64.wrap (Int.tdiv x (8:Int)))))))&&(decide ((IntKind.i64.wrap ((IntKind.i64.wrap (y*v8.1))+(IntKind.i64.wrap (Int.tdiv x (8:Int)))))<(List.length ds:Int)))) then
 bif ((decide ((0:Int)≤(Int.tmod x (8:Int))))&&(decide ((Int.tmod x (8:Int))≤(8:Int)))) then
 bif ((decide ((0:Int)≤(IntKind.i64.wrap ((IntKind.i64.wrap (y*v8.1))+(IntKind.i64.wrap (Int.tdiv x (8:Int)))))))&&(decide ((IntKind.i64.wrap ((IntKind.i64.wrap (y*v8.1))+(IntKind.i64.wrap (Int.tdiv x (8:Int)))))<(List.length ds:Int)))) then
 k ((List.set ds (Int.toNat (IntKind.i64.wrap ((IntKind.i64.wrap (y*v8.1))+(IntKind.i64.wrap (Int.tdiv x (8:Int)))))) (bits BinOp.or IntKind.u8 (List.getD ds (Int.toNat (IntKind.i64.wrap ((IntKind.i64.wrap (y*v8.1))+(IntKind.i64.wrap (Int.tdiv x (8:Int)))))) 0) ((128:Int) / 2 ^ (Int.toNat (Int.tmod x (8:Int)))))))
 else none
 else none
 else none
theorem markF_eq (fu:Nat) {w h x y:Int} {P:Int→Int→Bool} {k:List Int→Option β} (hx0:0≤x) (hx1:x<w) (hw1:w≤1024) (hy0:0≤y) (hy1:y<h) (hh1:h≤1024) :
  markF fu w y x (canon w h P) k=k (canon w h (fun a b=>P a b||(decide (a=x)&&decide (b=y)))):=by
 obtain ⟨g0,g1,g2⟩:=idx_bd hx0 hx1 hw1 hy0 hy1 hh1;have hl:=canon_len (w:=w) (h:=h) (by omega) (by omega) P;unfold markF;rw [stride_r fu (by omega) (by omega),bindO_some];simp only;rw [Int.tdiv_eq_ediv_of_nonneg hx0,Int.tmod_eq_emod_of_nonneg hx0,wr64 (x:=x / 8) (by omega) (by omega),wr64 (x:=y*strd w) (by omega) (by omega),wr64 (x:=y*strd w+x / 8) (by omega) (by omega)];rw [bif_and (by omega) (by omega),bif_and (by omega) (by omega),bif_and (by omega) (by omega),canon_set hx0 hx1 hy0 hy1]
variable {fu:Nat} (hf:18446744073709551616≤fu) {w h:Int}
include hf
theorem drawn_r {on:List Bool} (hw0:0<w) (hw1:w≤1024) (hh0:0<h) (hh1:h≤1024) (hl:(on.length:Int)=w*h) :
  R_Drawn_r fu (w,(h,(on,())))=some ((w,(h,canon w h (fun x y=>on.getD (y*w+x).toNat false))),()):=by
 obtain ⟨b1,b2,b3,b4⟩:=strd_bd (w:=w) (h:=h) (by omega) hw1 (by omega) hh1
 have hwh:w*h≤1048576:=by
  have:=Int.mul_le_mul hw1 hh1 (by omega:0≤h) (by omega:(0:Int)≤1024);omega
 unfold R_Drawn_r;simp only
 have e1:IntKind.i64.wrap (Int.tdiv (IntKind.i64.wrap (w+7)) 8)=strd w:=by
  rw [wr64 (x:=w+7) (by omega) (by omega),Int.tdiv_eq_ediv_of_nonneg (by omega),wr64 (x:=(w+7) / 8) (by omega) (by omega)];rfl
 rw [e1,wr64 (x:=strd w*h) (by omega) (by omega),bif_and (by omega) (by omega),←canon_zero w h (P:=fun _ _=>false) (fun _ _=>rfl)];refine loopF_spec (fun v=>(w*h-v.1).toNat) (fun v=>0≤v.1∧v.1≤w*h∧v.2=canon w h (fun x y=>on.getD (y*w+x).toNat false&&decide (y*w+x<v.1))) (fun _=>some ((w,(h,canon w h (fun x y=>on.getD (y*w+x).toNat false))),())) ?_ fu (0,_) ⟨by omega,by simp only;omega,?_⟩ (by simp only;omega)
 ·rintro j ⟨i,ds⟩ ⟨h0,h1,hd⟩ ih
  simp only at h0 h1 hd;unfold R_Drawn_l1 R_Drawn_j2;simp only [joinF_eq];by_cases hi:i<w*h
  ·rw [bif_pos (by omega),bif_and (by omega) (by omega),wr64 (x:=i+1) (by omega) (by omega)];have hx0:0≤i % w:=Int.emod_nonneg _ (by omega);have hx1:i % w<w:=Int.emod_lt_of_pos _ hw0;have hy0:0≤i / w:=Int.ediv_nonneg h0 (by omega);have hy1:i / w<h:=Int.ediv_lt_of_lt_mul hw0 (by rw [Int.mul_comm];exact hi);have hmd:=mul_div_mod i w
   cases hF:on.getD i.toNat false with
   | true =>
    simp only [cond_true];obtain ⟨g0,g1,g2⟩:=idx_bd hx0 hx1 hw1 hy0 hy1 hh1;have hcl:=canon_len (w:=w) (h:=h) (by omega) (by omega) (fun x y=>on.getD (y*w+x).toNat false&&decide (y*w+x<i));have hwn:w≠0:=by omega
    rw [Int.tdiv_eq_ediv_of_nonneg h0,Int.tmod_eq_emod_of_nonneg h0,Int.tdiv_eq_ediv_of_nonneg hx0,Int.tmod_eq_emod_of_nonneg hx0,wr64 (x:=i / w) (by omega) (by omega),wr64 (x:=i / w*strd w) (by omega) (by omega),wr64 (x:=i % w / 8) (by omega) (by omega),wr64 (x:=i / w*strd w+i % w / 8) (by omega) (by omega)];rw [hd,bif_pos hwn,bif_pos hwn,bif_and (by omega) (by omega),bif_pos hwn,bif_and (by omega) (by omega),bif_and (by omega) (by omega),canon_set hx0 hx1 hy0 hy1];refine ih (i+1,_) ⟨by simp only;omega,by simp only;omega,?_⟩ (by simp only;omega);simp only;refine canon_congr hw0 fun a b ha ha1 _ _=>?_
    by_cases e:a=i % w∧b=i / w
    ·obtain ⟨rfl,rfl⟩:=e;rw [hmd,hF];simp;omega
    ·have e2:(decide (a=i % w)&&decide (b=i / w))=false:=by
      rw [←Bool.not_eq_true,Bool.and_eq_true];simpa using e
     have e3:¬ b*w+a=i:=by
      intro q;have:=div_of (a:=b) ha ha1;rw [q] at this;exact e ⟨this.2.symm,this.1.symm⟩
     have g2:decide (b*w+a<i)=decide (b*w+a<i+1):=by
      by_cases q:b*w+a<i
      ·rw [decide_eq_true q,decide_eq_true (by omega)]
      ·rw [decide_eq_false q,decide_eq_false (by omega)]
     rw [e2,Bool.or_false,g2]
   | false =>
    simp only [cond_false];refine ih (i+1,ds) ⟨by simp only;omega,by simp only;omega,?_⟩ (by simp only;omega);simp only;rw [hd];refine canon_congr hw0 fun a b ha ha1 _ _=>?_
    by_cases q:b*w+a=i
    ·rw [q,hF];rfl
    ·have g2:decide (b*w+a<i)=decide (b*w+a<i+1):=by
      by_cases q:b*w+a<i
      ·rw [decide_eq_true q,decide_eq_true (by omega)]
      ·rw [decide_eq_false q,decide_eq_false (by omega)]
     rw [g2]
  ·rw [bif_neg (by omega),hd];congr 4;refine canon_congr hw0 fun a b ha ha1 hb hb1=>?_
   have:b*w≤(h-1)*w:=Int.mul_le_mul_of_nonneg_right (by omega) (by omega);have e2:(h-1)*w=w*h-w:=by rw [Int.sub_mul,Int.one_mul,Int.mul_comm]
   rw [decide_eq_true (show b*w+a<i by omega),Bool.and_true]
 ·refine canon_congr hw0 fun a b ha _ hb _=>?_
  have:=Int.mul_nonneg hb (by omega:0≤w);rw [decide_eq_false (show ¬ b*w+a<0 by omega),Bool.and_false]
end
theorem same_r (fu:Nat) (w h:Int) (ds:List Int):R_SameBits_r fu ((w,(h,ds)),((w,(h,ds)),()))=some (true,()):=by
 unfold R_SameBits_r R_SameBytes_r;simp [bindO_some]
theorem drawn_on {fu:Nat} (hf:18446744073709551616≤fu) {w h:Int} {F:Int→Int→Bool} (hw0:0<w) (hw1:w≤1024) (hh0:0<h) (hh1:h≤1024) :
  R_Drawn_r fu (w,(h,(onL (w*h).toNat (fun i=>F (i % w) (i / w)),())))=some ((w,(h,canon w h F)),()):=by
 have hwh:0<w*h:=Int.mul_pos hw0 hh0;rw [drawn_r hf hw0 hw1 hh0 hh1 (by rw [onL_length];omega)];congr 4;refine canon_congr hw0 fun x y hx hx1 hy hy1=>?_
 have h1:=Int.mul_nonneg hy (by omega:0≤w);have h2:y*w≤(h-1)*w:=Int.mul_le_mul_of_nonneg_right (by omega) (by omega);have e2:(h-1)*w=w*h-w:=by rw [Int.sub_mul,Int.one_mul,Int.mul_comm]
 rw [onL_getD (by omega) (by omega),(div_of hx hx1).1,(div_of hx hx1).2]
end Go.Proofs.Ytelpkjellakigaa
