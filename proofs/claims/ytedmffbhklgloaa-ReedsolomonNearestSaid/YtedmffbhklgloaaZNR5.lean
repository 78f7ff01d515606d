/- Regions that draw their order, with strays in the tail: prefix, one operation that waits for all of it, addresses that wait for nothing, what waits for everything. No program in sight. -/
import Derived.Test.YtedmffbhklgloaaZNR4
import Derived.Test.YtedmffbhklgloaaProg
/- Regions that draw their order,with strays in the tail: prefix,one operation that waits for all of it,addresses that wait for nothing,what waits for everything. No program in sight. -/
namespace Go.Proofs.Ytedmffbhklgloaa.Dr
open Go Go.RowKit Go.Proofs.Ytedmffbhklgloaa
set_option linter.unusedSimpArgs false
set_option linter.unusedSectionVars false
set_option linter.unusedVariables false

section
variable {P:Program}
theorem wp_region_inv' {Q:Exit→Act→World→Prop} {Inv:(Nat→Bool)→Act→World→Prop} {id:Nat} {l:List Oper} {a:Act} {w:World} (hm:P.follows .mixedOrders=true) (hp:∀ i o,l.toArray[i]?=some o→∀ e ∈ o.after,Region.binds .any e=true→e.on<i) (k:Nat) (hkl:k≤l.length)
  (start:Inv (fun _=>false) a w.drew)
  (step:∀ i o d a w,i<k→l[i]?=some o→d i=false→ClosedD l d→(∀ e ∈ o.after,Region.binds .any e=true→d e.on=true)→Inv d a w →
   if Region.wanted o (yielded l.toArray a.tmps) then (o.wp P a w (fun a' w'=>Inv (upd d i) a' w') Q∨(o.asks P a w∧LetsOut Q)) else Inv (upd d i) (a.put o.dst undef) w)
  (fin:∀ d a w,(∀ i,i<k→d i=true)→Inv d a w→wpList P l.toArray Q (l.drop k) a w)
  (tail:∀ i,k≤i→i<l.length→∀ j,j<i→Reach l i j):(Code.region id l.toArray true).wp P Q a w:=by
 refine wp_region_any hm ?_
 let St (listed:Array Bool) (a:Act) (w:World):Prop :=
  (ClosedD l (fun j=>listed.getD j false)∧(∀ j,k≤j→listed.getD j false=false)∧Inv (fun j=>listed.getD j false) a w) ∨
  (∃ i,k≤i∧i≤l.length∧(∀ j,listed.getD j false=true↔j<i)∧wpList P l.toArray Q (l.drop i) a w)
 have conv:∀ (listed:Array Bool) (a:Act) (w:World),listed.size=l.length→St listed a w→(∀ j,j<k→listed.getD j false=true)→∃ i,k≤i∧i≤l.length∧(∀ j,listed.getD j false=true↔j<i)∧wpList P l.toArray Q (l.drop i) a w:=by
  intro listed a w _ hs hall;rcases hs with ⟨_,h2,h3⟩ | h
  ·refine ⟨k,Nat.le_refl _,hkl,fun j=>⟨fun h=>?_,hall j⟩,fin _ a w hall h3⟩;rcases Nat.lt_or_ge j k with h' | h'
   ·exact h'
   ·rw [h2 j h'] at h;cases h
  ·exact h
 have rd:∀ (listed:Array Bool) (j:Nat),listed.size=l.length→j<l.length→listed.getD j false=false→(∀ o,l[j]?=some o→∀ e ∈ o.after,Region.binds .any e=true→listed.getD e.on false=true)→j ∈ Region.ready .any l.toArray listed:=by
  intro listed j hsz hj hf he;rw [mem_ready];refine ⟨?_,l[j],by simp [hj],fun e hem hb=>he _ (List.getElem?_eq_getElem hj) e hem hb⟩;have hl:j<listed.size:=by omega
  simp [hl] at hf ⊢;exact hf
 have key:∀ (fuel:Nat) (listed:Array Bool) (a:Act) (w:World),listed.size=l.length→listed.countP (fun b=>!b)≤fuel→St listed a w→wpAny P .any l.toArray Q fuel listed a w:=by
  have fin':∀ (listed:Array Bool) (a:Act) (w:World),listed.size=l.length→St listed a w→Region.ready .any l.toArray listed=[]→Q .normal a w:=by
   intro listed a w hsz hs hr
   have hall:∀ j,j<k→listed.getD j false=true:=by
    intro j
    induction j using Nat.strongRecOn with
    | ind j ih =>
     intro hj;rcases hb:listed.getD j false with _ | _
     ·exfalso
      have:=rd listed j hsz (by omega) hb (fun o ho e he hb'=>by
       have:=hp j o (by simpa using ho) e he hb'
       exact ih _ this (by omega))
      rw [hr] at this;cases this
     ·rfl
   obtain ⟨i,h1,h2,h3,h4⟩:=conv listed a w hsz hs hall;rcases Nat.lt_or_ge i l.length with hi | hi
   ·exfalso
    have hf:listed.getD i false=false:=by
     rcases hb:listed.getD i false with _ | _
     ·rfl
     ·have:=(h3 i).1 hb;omega
    have:=rd listed i hsz hi hf (fun o ho e he hb'=>(h3 _).2 (hp i o (by simpa using ho) e he hb'));rw [hr] at this;cases this
   ·obtain rfl:i=l.length:=by omega
    rw [List.drop_length] at h4;exact h4
  intro fuel
  induction fuel with
  | zero =>
   intro listed a w hsz hf hs
   have hr:Region.ready .any l.toArray listed=[]:=by
    rcases he:Region.ready .any l.toArray listed with _ | ⟨i,rest⟩
    ·rfl
    ·exfalso
     have hmem:i ∈ Region.ready .any l.toArray listed:=by rw [he];simp
     have h1:=(mem_ready.1 hmem).1;have h0:listed.countP (fun b=>!b)=0:=by omega
     rw [Array.countP_eq_zero] at h0
     have hi:i<listed.size:=by
      rcases Nat.lt_or_ge i listed.size with h | h
      ·exact h
      ·simp [Array.getElem?_eq_none h] at h1
     have:=h0 listed[i] (Array.getElem_mem hi);simp [hi] at h1;simp [h1] at this
   exact ⟨hr,fin' listed a w hsz hs hr⟩
  | succ fuel ih =>
   intro listed a w hsz hf hs;refine ⟨fin' listed a w hsz hs,fun i hi=>?_⟩;obtain ⟨h0,o,ho,hall⟩:=mem_ready.1 hi;have hol:l[i]?=some o:=by simpa using ho
   have hil:i<listed.size:=by rw [hsz];exact (List.getElem?_eq_some_iff.1 hol).1
   have hd0:listed.getD i false=false:=by simpa [hil] using h0
   have hup:∀ j,(listed.setIfInBounds i true).getD j false=upd (fun j=>listed.getD j false) i j:=by
    intro j;by_cases hji:j=i
    ·subst hji;rw [upd_self];simp [hil]
    ·rw [upd_ne hji,Go.getD_set_ne false (fun e=>hji e.symm)]
   have hup':(fun j=>(listed.setIfInBounds i true).getD j false)=upd (fun j=>listed.getD j false) i:=funext hup
   have hcnt:(listed.setIfInBounds i true).countP (fun b=>!b)≤fuel:=by
    have hli:listed[i]=false:=by simpa [hil] using h0
    have h5:=Array.countP_set (xs:=listed) (p:=fun b=>!b) (a:=true) hil;have h6:listed.setIfInBounds i true=listed.set i true hil:=by simp [Array.setIfInBounds,hil]
    have h7:0<listed.countP (fun b=>!b):=Array.countP_pos_iff.2 ⟨listed[i],Array.getElem_mem hil,by simp [hli]⟩;rw [h6,h5];simp [hli];omega
   have phase2:(∃ i,k≤i∧i≤l.length∧(∀ j,listed.getD j false=true↔j<i)∧wpList P l.toArray Q (l.drop i) a w)→wpOp P l.toArray Q i (wpAny P .any l.toArray Q fuel (listed.setIfInBounds i true)) a w:=by
    rintro ⟨i',h1,h2,h3,h4⟩
    have hge:i'≤i:=by
     rcases Nat.lt_or_ge i i' with h | h
     ·have:=(h3 i).2 h;rw [hd0] at this;cases this
     ·exact h
    have hcl:ClosedD l (fun j=>listed.getD j false):=fun j o' ho' hj e he hb=>(h3 _).2 (by
     have:=hp j o' (by simpa using ho') e he hb;have:=(h3 j).1 hj
     omega)
    have hle:i≤i':=by
     rcases Nat.lt_or_ge i' i with h | h
     ·have:=(tail i (by omega) (by omega) i' h).done hcl hol hall;have:=(h3 i').1 this;omega
     ·exact h
    obtain rfl:i=i':=by omega
    have hdr:l.drop i=o::l.drop (i+1):=by
     obtain ⟨hlt,he⟩:=List.getElem?_eq_some_iff.1 hol;rw [List.drop_eq_getElem_cons hlt,he]
    rw [hdr] at h4
    have next:∀ a' w',wpList P l.toArray Q (l.drop (i+1)) a' w'→wpAny P .any l.toArray Q fuel (listed.setIfInBounds i true) a' w':=fun a' w' h =>
     ih _ a' w' (by simp [hsz]) hcnt (.inr ⟨i+1,by omega,by omega,fun j=>by
      rw [hup j];simp only [upd,Bool.or_eq_true,beq_iff_eq];rw [h3 j]
      omega,h⟩)
    unfold wpOp;simp only [ho];unfold wpList at h4;split
    ·rename_i hw;rw [if_pos hw] at h4;exact h4.imp (Oper.wp_mono next) (fun h=>h)
    ·rename_i hw;rw [if_neg hw] at h4;exact next _ _ h4
   by_cases hdone:∀ j,j<k→listed.getD j false=true
   ·exact phase2 (conv listed a w hsz hs hdone)
   ·rcases hs with ⟨h1,h2,h3⟩ | h
    ·have hik:i<k:=by
      rcases Nat.lt_or_ge i k with h | h
      ·exact h
      ·exfalso
       apply hdone;intro j hj;exact (tail i h (by omega) j (by omega)).done h1 hol hall
     have hst:=step i o _ a w hik hol hd0 h1 hall h3
     have next:∀ a' w',Inv (upd (fun j=>listed.getD j false) i) a' w'→wpAny P .any l.toArray Q fuel (listed.setIfInBounds i true) a' w':=fun a' w' h =>
      ih _ a' w' (by simp [hsz]) hcnt (.inl ⟨fun j o' ho' hj e he hb=>by
       rw [hup'] at hj ⊢;by_cases hji:j=i
       ·subst hji;rw [hol] at ho';cases ho';simp [upd,hall e he hb]
       ·rw [upd_ne hji] at hj;have:=h1 j o' ho' hj e he hb
        simp [upd,this],fun j hj=>by
       rw [hup j,upd_ne (by omega)]
       exact h2 j hj,by rw [hup'];exact h⟩)
     unfold wpOp;simp only [ho];split
     ·rename_i hw;rw [if_pos hw] at hst;exact hst.imp (Oper.wp_mono next) (fun h=>h)
     ·rename_i hw;rw [if_neg hw] at hst;exact next _ _ hst
    ·exact phase2 h
 have hg:∀ j,(Array.replicate l.toArray.size false).getD j false=false:=by
  intro j;simp only [List.size_toArray,Array.getD_eq_getD_getElem?,Array.getElem?_replicate]
  split <;> rfl
 refine key _ _ _ _ (by simp) ?_ (.inl ⟨fun j o ho hj=>?_,fun j _=>hg j,?_⟩)
 ·have:=Array.countP_le_size (p:=fun b=>!b) (xs:=Array.replicate l.toArray.size false);simpa using this
 ·have hj:(Array.replicate l.toArray.size false).getD j false=true:=hj;rw [hg j] at hj;cases hj
 ·have:(fun j=>(Array.replicate l.toArray.size false).getD j false)=fun _=>false:=funext hg
  rw [this];exact start
theorem setD_ne {xs:Array Value} {i j:Nat} {v:Value} (h:i≠j):(xs.setIfInBounds i v).getD j undef=xs.getD j undef:=by
 rw [Array.getD_eq_getD_getElem?,Array.getD_eq_getD_getElem?,Array.getElem?_setIfInBounds_ne h]
theorem wp_put {Q:Exit→Act→World→Prop} {K:Act→World→Prop} {o:Oper} {a:Act} {w:World} (h:o.wp P a w K Q):o.wp P a w (fun a' w'=>K a' w'∧a'.tmps.size=a.tmps.size∧∀ t,o.dst≠some t→a'.tmps.getD t undef=a.tmps.getD t undef) Q:=by
 have key:∀ (a1:Act) (v:Value),a1.tmps=a.tmps→(a1.put o.dst v).tmps.size=a.tmps.size∧∀ t,o.dst≠some t→(a1.put o.dst v).tmps.getD t undef=a.tmps.getD t undef:=by
  intro a1 v h1
  cases hd:o.dst with
  | none=>exact ⟨by show a1.tmps.size=_;rw [h1],fun t _=>by show a1.tmps.getD t undef=_;rw [h1]⟩
  | some d =>
   refine ⟨by show (a1.tmps.setIfInBounds d v).size=_;simp [h1],fun t ht=>?_⟩;show (a1.tmps.setIfInBounds d v).getD t undef=_;rw [h1];exact setD_ne (fun e=>ht (by rw [e]))
 unfold Oper.wp at *
 generalize (execOp a.eval o).run P w=r at *
 cases r with
 | ok n w' =>
  cases n <;> simp only [Oper.upon] at h ⊢ <;>
   first
    | exact ⟨h,key _ _ rfl⟩
    | exact Calls.mono h (fun e w'' he=>by cases e <;> first | exact ⟨he,key _ _ rfl⟩ | exact he)
    | exact Rows.mono h (fun _ _ he=>⟨he,key _ _ rfl⟩)
    | exact h
 | halt x w'=>cases x <;> simp only [Oper.upon] at h ⊢ <;> exact h
end
def pureOp:Op→Bool
 | .move _=>true
 | .indexAddr ..=>true
 | _=>false
def noDst (l:List Oper) (t:Nat):Bool:=l.all fun p=>match p.dst with | some d=>!Nat.beq d t | none=>true
theorem noDst_at {l:List Oper} {t:Nat} (h:noDst l t=true) {o:Oper} (ho:o ∈ l):o.dst≠some t:=fun e=>by
 have:=List.all_eq_true.1 h o ho;rw [e] at this;simp at this
def dstIs (l:List Oper) (j t:Nat):Bool:=match l[j]? with
 | some o=>match o.dst with
  | some d=>Nat.beq d t
  | none=>false
 | none=>false
def syOk (l:List Oper) (J:List Nat) (j:Nat):Bool:=match l[j]? with
 | some o=>match o.guard,o.dst with
  | none,some _=>pureOp o.op&&(o.looksAt l.toArray).all fun t=>noDst l t||J.any fun j0=>Nat.blt j0 j&&dstIs l j0 t
  | _,_=>false
 | none=>false
def PS {α:Type} (P:Program) (f:Sem α):Prop:=∀ w v w1,f.run P w=.ok v w1→∀ w',f.run P w'=.ok v w'
section
variable {α β:Type} {P:Program}
theorem PS.bind {x:Sem α} {g:α→Sem β} (hx:PS P x) (hg:∀ a,PS P (g a)):PS P (x >>= g):=by
 intro w v w1 h w';rw [Sem.run_bind] at h ⊢
 cases hr:x.run P w with
 | halt e w2=>rw [hr] at h;cases h
 | ok u w2 =>
  rw [hr] at h;rw [hx w u w2 hr w'];exact hg u w2 v w1 h w'
theorem PS.pure (a:α):PS P (Pure.pure a:Sem α):=fun w v w1 h w'=>by
 rw [Sem.run_pure] at h ⊢;cases h;rfl
theorem PS.never {x:Sem α} (h:∀ w v w1,x.run P w≠.ok v w1):PS P x:=fun w v w1 h'=>absurd h' (h w v w1)
theorem PS.halt (e:Halt):PS P (Sem.halt e:Sem α):=.never fun w v w1 h=>by rw [Sem.run_halt] at h;cases h
theorem PS.program:PS P Go.program:=fun w v w1 h w'=>by cases h;rfl
theorem PS.underlying (t:TypeId):PS P (underlying t):=.bind .program fun p=>by
 split
 ·exact .pure _
 ·exact .halt _
theorem PS.typeInfo (t:TypeId):PS P (typeInfo t):=.bind .program fun p=>by
 split
 ·exact .pure _
 ·exact .halt _
theorem PS.sizeOf (t:TypeId):PS P (sizeOf t):=.bind (.typeInfo t) fun _=>.pure _
theorem PS.intOf (v:Value):PS P (asIntOf v):=by
 unfold asIntOf;split
 ·exact .pure _
 ·exact .halt _
 ·exact .halt _
theorem PS.addr (v:Value):PS P (Instr.sureAddr v):=by
 unfold Instr.sureAddr;split
 ·exact .pure _
 ·exact .halt _
theorem never_bind {x:Sem α} {g:α→Sem β} (hg:∀ a w v w1,(g a).run P w≠.ok v w1):∀ w v w1,(x >>= g).run P w≠.ok v w1:=by
 intro w v w1 h;rw [Sem.run_bind] at h
 cases hr:x.run P w with
 | halt e w2=>rw [hr] at h;cases h
 | ok u w2 =>
  rw [hr] at h;exact hg u w2 v w1 h
theorem never_panic (x y:Int) (s:Bool) (c:BoundsCode):∀ w v w1,(runtimePanic (.bounds x y s c):Sem α).run P w≠.ok v w1:=by
 unfold runtimePanic;exact never_bind fun p w v w1 h=>by cases h
theorem never_bounds (k:IntKind) (x y:Int) (c:BoundsCode):∀ w v w1,(boundsPanic k x y c:Sem α).run P w≠.ok v w1:=by
 unfold boundsPanic;dsimp only;split
 ·exact never_bind fun a=>never_panic _ _ _ _
 ·exact never_bind fun a=>never_panic _ _ _ _
end
theorem pure_index {P:Program} {t:TypeId} {x y v:Value} {w w1:World} (h:(Instr.indexAt t x y).run P w=.ok v w1):∀ w',(Instr.indexAt t x y).run P w'=.ok v w':=by
 have:PS P (Instr.indexAt t x y):=by
  unfold Instr.indexAt;refine .bind (.intOf y) fun p=>?_
  obtain ⟨k,i⟩:=p;dsimp only
  repeat' (first | exact PS.pure _ | exact PS.halt _ | exact PS.underlying _ | exact PS.addr _ | exact PS.sizeOf _ | exact PS.never (never_bounds _ _ _ _) | (refine PS.bind ?_ fun _=>?_) | split)
 exact this _ _ _ h
theorem exec_pure {P:Program} {o:Oper} {a:Act} {w0 w1:World} {v:Value} (ho:pureOp o.op=true) (h:(execOp a.eval o).run P w0=.ok (.value v) w1):∀ w,(execOp a.eval o).run P w=.ok (.value v) w:=by
 obtain ⟨d,op,ty,ps,af,g⟩:=o
 cases op <;> simp only [pureOp,Bool.false_eq_true] at ho
 ·rename_i x;intro w;simp only [execOp,Sem.run_pure] at h ⊢;cases h;rfl
 ·rename_i t x y;intro w;simp only [execOp,Sem.run_bind,Sem.run_pure] at h ⊢
  cases hr:(Instr.indexAt t (a.eval x) (a.eval y)).run P w0 with
  | halt e w2=>rw [hr] at h;cases h
  | ok u w2 =>
   rw [hr] at h;rw [pure_index hr w];simp only [Result.andThen_ok] at h ⊢;cases h;rfl
def SyRun (P:Program) (n:Nat) (l:List Oper) (K:ASt→Prop):List Nat→ASt→Prop
 | [],s=>K s
 | j::J,s=>∃ o x,l[j]?=some o∧OpR P n o s x∧SyRun P n l K J (s.put o.dst x)
def asc:Nat→List Nat→Bool
 | _,[]=>true
 | b,j::J=>Nat.ble b j&&asc (j+1) J
theorem asc_ge:∀ {J:List Nat} {b:Nat},asc b J=true→∀ j ∈ J,b≤j
 | [],_,_,j,h=>by cases h
 | i::J,b,h,j,hj=>by
  rw [asc,Bool.and_eq_true] at h;have h1:b≤i:=Nat.le_of_ble_eq_true h.1;rcases List.mem_cons.1 hj with rfl | hj
  ·exact h1
  ·have:=asc_ge h.2 j hj;omega
theorem put_selfA {a:Act} {t:Nat} {v:Value} (ht:t<a.tmps.size) (hv:a.tmps.getD t undef=v):a.put (some t) v=a:=by
 have e:a.tmps.setIfInBounds t v=a.tmps:=by
  refine Array.ext (by simp) fun i h1 h2=>?_
  rw [Array.getElem_setIfInBounds];split
  ·rename_i e;subst e;rw [←hv];simp [h2]
  ·rfl
 show ({ a with tmps:=a.tmps.setIfInBounds t v }:Act)=a;rw [e]
theorem put_getD {a:Act} {d:Option Nat} {v:Value} {t:Nat} (h:d≠some t):(a.put d v).tmps.getD t undef=a.tmps.getD t undef:=by
 cases d with
 | none=>rfl
 | some d=>exact setD_ne (fun e=>h (by rw [e]))
theorem put_size {a:Act} {d:Option Nat} {v:Value}:(a.put d v).tmps.size=a.tmps.size:=by
 cases d with
 | none=>rfl
 | some d=>show (a.tmps.setIfInBounds d v).size=_;simp
theorem SyRun.out {P:Program} {n:Nat} {l:List Oper} {KA:ASt→Prop} {K:Kn} {a:Act} {w:World} {G:Gh}:∀ (J:List Nat) {s:ASt},SyRun P n l KA J s→RelG K n s a w G →
  (∀ j ∈ J,∀ o,l[j]?=some o→∃ t,o.dst=some t∧∀ v,(execOp a.eval o).run P w=.ok (.value v) w→a.tmps.getD t undef=v)→∃ s',KA s'∧RelG K n s' a w G
 | [],s,h,r,_=>⟨s,h,r⟩
 | j::J,s,h,r,hv=>by
  obtain ⟨o,x,ho,hop,h⟩:=h;obtain ⟨v,h1,h2⟩:=hop.out K a w G r;obtain ⟨t,ht,hv1⟩:=hv j (by simp) o ho;have e:=hv1 v (h1 w (Below.refl _ _));have hlt:t<n:=dok_lt hop.dst t ht;have e2:a.put o.dst v=a:=by rw [ht];exact put_selfA (by rw [r.size];exact hlt) e
  have:=r.put (dok_lt hop.dst) h2;rw [e2] at this;exact SyRun.out J h this fun j' hj'=>hv j' (by simp [hj'])
def HV (P:Program) (l:List Oper) (J:List Nat) (a0:Act) (vs:Nat→Value) (j:Nat):Prop:=∀ o,l[j]?=some o→∀ a':Act,
 (∀ t,t ∈ o.looksAt l.toArray→(noDst l t=true→a'.tmps.getD t undef=a0.tmps.getD t undef)∧(∀ j0 o0,j0 ∈ J→j0<j→l[j0]?=some o0→o0.dst=some t→a'.tmps.getD t undef=vs j0))→∀ w',(execOp a'.eval o).run P w'=.ok (.value (vs j)) w'
theorem syOk_at {l:List Oper} {J:List Nat} {j:Nat} {o:Oper} (h:syOk l J j=true) (ho:l[j]?=some o):o.guard=none∧(∃ t,o.dst=some t)∧pureOp o.op=true∧∀ t ∈ o.looksAt l.toArray,noDst l t=true∨∃ j0 o0,j0 ∈ J∧j0<j∧l[j0]?=some o0∧o0.dst=some t:=by
 unfold syOk at h;rw [ho] at h;simp only at h;split at h
 ·rename_i t hg hd;rw [Bool.and_eq_true] at h;refine ⟨hg,⟨t,hd⟩,h.1,fun t' ht'=>?_⟩;have:=List.all_eq_true.1 h.2 t' ht';rw [Bool.or_eq_true] at this;rcases this with h' | h'
  ·exact .inl h'
  ·obtain ⟨j0,hj0,h2⟩:=List.any_eq_true.1 h';rw [Bool.and_eq_true] at h2;obtain ⟨h2,h3⟩:=h2;unfold dstIs at h3;split at h3
   ·rename_i o0 ho0;split at h3
    ·rename_i d hd0;exact .inr ⟨j0,o0,hj0,by simpa using h2,ho0,by rw [hd0,Nat.eq_of_beq_eq_true h3]⟩
    ·cases h3
   ·cases h3
 ·cases h
theorem look_of {o:Oper} {ops:Array Oper} {t:Nat} (h:(Operand.tmp t) ∈ o.op.operands):t ∈ o.looksAt ops:=List.mem_append_left _ (List.mem_filterMap.2 ⟨.tmp t,by simpa using h,rfl⟩)
theorem exec_same {o:Oper} {ops:Array Oper} {a a':Act} (hs:∀ cs b,o.op≠.select cs b) (h:∀ t,t ∈ o.looksAt ops→a'.tmps.getD t undef=a.tmps.getD t undef):execOp a'.eval o=execOp a.eval o :=
 execOp_congr o hs fun x hx=>by
  cases x with
  | tmp t=>exact h t (look_of hx)
  | const v=>rfl
  | global g=>rfl
  | func f=>rfl
theorem sy_vals {P:Program} {n:Nat} {l:List Oper} {J0:List Nat} {KT:ASt→Prop} {K:Kn} {w:World} {G:Gh} {a0:Act} (hok:∀ j ∈ J0,syOk l J0 j=true) (hone:∀ (i j:Nat) (o p:Oper) (d:Nat),l[i]?=some o→l[j]?=some p→p.dst=some d→i≠j→o.dst≠some d) :
  ∀ (J:List Nat) (s:ASt) (a1:Act) (vs:Nat→Value) (b:Nat),asc b J=true→(∀ j ∈ J,j ∈ J0)→(∀ j ∈ J0,b≤j→j ∈ J)→SyRun P n l KT J s→RelG K n s a1 w G→(∀ t,noDst l t=true→a1.tmps.getD t undef=a0.tmps.getD t undef) →
   (∀ j0 o0 t0,j0 ∈ J0→j0<b→l[j0]?=some o0→o0.dst=some t0→a1.tmps.getD t0 undef=vs j0)→(∀ j ∈ J0,j<b→HV P l J0 a0 vs j)→∃ vs',∀ j ∈ J0,HV P l J0 a0 vs' j
 | [],s,a1,vs,b,_,_,hb,_,_,_,_,hv=>⟨vs,fun j hj=>hv j hj (by
   rcases Nat.lt_or_ge j b with h | h
   ·exact h
   ·cases hb j hj h)⟩
 | j::J,s,a1,vs,b,hasc,hin,hb,hrun,r,hnd,hval,hv=>by
  rw [asc,Bool.and_eq_true] at hasc;obtain ⟨hbj,hasc⟩:=hasc;have hbj:b≤j:=Nat.le_of_ble_eq_true hbj;obtain ⟨o,x,ho,hop,hrun⟩:=hrun;obtain ⟨v,h1,h2⟩:=hop.out K a1 w G r;have hj0:j ∈ J0:=hin j (by simp);obtain ⟨hg,⟨t,ht⟩,hpu,hlk⟩:=syOk_at (hok j hj0) ho;have htn:t<n:=dok_lt hop.dst t ht
  have lt_b:∀ i ∈ J0,i<j→i<b:=by
   intro i hi hij;rcases Nat.lt_or_ge i b with h | h
   ·exact h
   ·rcases List.mem_cons.1 (hb i hi h) with e | e
    ·omega
    ·have:=asc_ge hasc i e;omega
  let vs1:Nat→Value:=fun i=>if i=j then v else vs i
  have vs1_ne:∀ i,i≠j→vs1 i=vs i:=fun i h=>if_neg h
  have vs1_self:vs1 j=v:=if_pos rfl;refine sy_vals hok hone J (s.put o.dst x) (a1.put o.dst v) vs1 (j+1) hasc (fun i hi=>hin i (by simp [hi])) (fun i hi hle=>?_) hrun (r.put (dok_lt hop.dst) h2) (fun t' ht'=>?_) (fun i oi ti hi hlt hoi hti=>?_) (fun i hi hlt=>?_)
  ·rcases List.mem_cons.1 (hb i hi (by omega)) with e | e
   ·omega
   ·exact e
  ·rw [put_getD (noDst_at ht' (List.mem_of_getElem? ho))];exact hnd t' ht'
  ·by_cases e:i=j
   ·subst e;rw [ho] at hoi;cases hoi;rw [ht] at hti;cases hti;rw [ht,vs1_self];show (a1.tmps.setIfInBounds t v).getD t undef=v;rw [getD_set (by rw [r.size];exact htn),if_pos rfl]
   ·have hib:=lt_b i hi (by omega);rw [put_getD (hone j i o oi ti ho hoi hti (fun h=>e h.symm)),vs1_ne i e];exact hval i oi ti hi hib hoi hti
  ·by_cases e:i=j
   ·subst e;intro o' ho' a' ha' w';rw [ho] at ho';cases ho';rw [vs1_self]
    have hex:execOp a'.eval o=execOp a1.eval o:=exec_same (ops:=l.toArray) (fun cs b e=>by rw [e] at hpu;cases hpu) fun t' ht'=>by
     rcases hlk t' ht' with h | ⟨j0,o0,g1,g2,g3,g4⟩
     ·exact ((ha' t' ht').1 h).trans (hnd t' h).symm
     ·rw [(ha' t' ht').2 j0 o0 g1 g2 g3 g4,vs1_ne j0 (by omega)];exact (hval j0 o0 t' g1 (lt_b j0 g1 g2) g3 g4).symm
    rw [hex];exact exec_pure hpu (h1 w (Below.refl _ _)) w'
   ·have hib:=lt_b i hi (by omega);intro o' ho' a' ha' w';rw [vs1_ne i e];refine hv i hi hib o' ho' a' (fun t' ht'=>⟨(ha' t' ht').1,fun j0 o0 g1 g2 g3 g4=>?_⟩) w';rw [(ha' t' ht').2 j0 o0 g1 g2 g3 g4,vs1_ne j0 (by omega)]
def tailSy (l:List Oper) (T:List (List Nat)) (m k:Nat) (J:List Nat):Bool :=
 (Nat.ble k l.length&&Nat.blt m k&&asc 0 J&&!hasN J m)&&((List.range m).all (fun j=>hasN J j||hasN (T.getD m []) j)&&((List.range l.length).all (fun i=>Nat.blt i k||(List.range i).all fun j=>hasN (T.getD i []) j)&&((List.range k).all (fun i=>Nat.ble i m||hasN J i)&&J.all (fun j=>Nat.blt j k&&syOk l J j))))
def isCall:Op→Bool
 | .call _=>true
 | .buildSlice ..=>true
 | _=>false
structure SyV (l:List Oper) (J:List Nat) (n:Nat) (vs:Nat→Value) (a0:Act) (d:Nat→Bool) (a:Act):Prop where
 size:a.tmps.size=n
 same:∀ t,noDst l t=true→a.tmps.getD t undef=a0.tmps.getD t undef
 val:∀ j o t,j ∈ J→l[j]?=some o→d j=true→o.dst=some t→a.tmps.getD t undef=vs j
theorem wp_norm {P:Program} {Q Q':Exit→Act→World→Prop} {K K':Act→World→Prop} {o:Oper} {a b:Act} {w:World} (hQ:∀ e a w,e≠.normal→¬ Q e a w) (he:execOp b.eval o=execOp a.eval o) (hK:∀ (a1 b1:Act) (v:Value) (w':World),a1.tmps=a.tmps→b1.tmps=b.tmps→(a1.defers=a.defers↔b1.defers=b.defers)→K (b1.put o.dst v) w'→K' (a1.put o.dst v) w') (h:o.wp P b w K Q∨(o.asks P b w∧LetsOut Q)):o.wp P a w K' Q':=by
 have hl:¬ LetsOut Q:=fun ⟨a,w,h⟩=>hQ _ a w (by simp) h
 have h:=h.resolve_right fun h=>hl h.2
 unfold Oper.wp at *
 rw [he] at h;generalize (execOp a.eval o).run P w=r at *
 cases r with
 | ok n w' =>
  cases n <;> simp only [Oper.upon] at h ⊢ <;>
   first
    | exact hK _ _ _ _ rfl rfl ⟨fun _=>rfl,fun _=>rfl⟩ h
    | exact Calls.mono h (fun e w'' he=>by cases e <;> first | exact hK _ _ _ _ rfl rfl ⟨fun _=>rfl,fun _=>rfl⟩ he | exact absurd he (hQ _ _ _ (by simp)) | exact absurd he hl)
    | exact Rows.mono h (fun _ _ he=>hK _ _ _ _ rfl rfl ⟨fun _=>rfl,fun _=>rfl⟩ he)
    | exact hK {a with defers:=_::a.defers } {b with defers:=_::b.defers } _ _ rfl rfl (by simp) h
    | exact absurd h (hQ _ _ _ (by simp))
    | exact absurd h hl
 | halt x w'=>cases x <;> simp only [Oper.upon] at h ⊢ <;> first | exact h | exact absurd h (hQ _ _ _ (by simp)) | exact absurd h hl
section
variable {P:Program} {n:Nat} {l:List Oper} {T:List (List Nat)} {W:List (Nat×Nat)} {S:Nat→ASt} {C:Nat→List (Nat×Nat)} {m:Nat}
theorem lvD_late {m nx0 i:Nat} {d:Nat→Bool} (hi:m≤i):lvD S m nx0 (upd d i)=lvD S m nx0 d:=by
 funext id
 rw [Bool.eq_iff_iff,lvD_iff,lvD_iff];constructor
 ·rintro (h | ⟨j,h1,h2,h3⟩)
  ·exact .inl h
  ·rw [upd_ne (by omega)] at h2;exact .inr ⟨j,h1,h2,h3⟩
 ·rintro (h | ⟨j,h1,h2,h3⟩)
  ·exact .inl h
  ·exact .inr ⟨j,h1,by rw [upd_ne (by omega)];exact h2,h3⟩
theorem InvG.stray {K:Kn} {d:Nat→Bool} {a:Act} {w:World} {i t:Nat} {v:Value} (h:InvG K n l W S m (S 0).nx d a w) (hi:m≤i) (hW:∀ p ∈ W,p.1<m) (ht:t<n) (hS:∀ x,Les (look .any (S 0).regs t) x) (hno:∀ j o,j<m→l[j]?=some o→o.dst≠some t):InvG K n l W S m (S 0).nx (upd d i) (a.put (some t) v) w:=by
 obtain ⟨R,hp,G,hR,I1,I2,I3⟩:=h;refine ⟨updR R (some t) .any,hp,G,?_,fun j o t' hj ho hd ht'=>?_,fun t' hno'=>?_,fun id hid=>?_⟩
 ·rw [lvD_late hi];exact hR.put (by simpa [dok] using ht) (.dat (.any _)) rfl
 ·rw [upd_ne (by omega)] at hd;have:t≠t':=fun e=>hno j o hj ho (by rw [ht',e])
  show Les _ (if t=t' then AV.any else R t');rw [if_neg this];exact I1 j o t' hj ho hd ht'
 ·show Les _ (if t=t' then AV.any else R t');by_cases e:t=t'
  ·subst e;rw [if_pos rfl];exact hS _
  ·rw [if_neg e];exact I2 t' fun j o hj ho hd=>hno' j o hj ho (by rw [upd_ne (by omega)];exact hd)
 ·rw [lvD_late hi] at hid;obtain ⟨p,p1,p2,p3,p4,p5,p6⟩:=I3 id hid;refine ⟨p,p1,p2,p3,fun j hj hlt=>?_,fun j hj hge=>?_,p6.imp (fun h=>h) fun ⟨q,e,h1,h2⟩=>⟨q,e,by simp [upd,h1],h2⟩⟩
  ·rw [upd_ne (by have:=hW _ hj;omega)];exact p4 j hj hlt
  ·rw [upd_ne (by have:=hW _ hj;omega)];exact p5 j hj hge
theorem SyV.other {J:List Nat} {vs:Nat→Value} {a0 a1 a2:Act} {d:Nat→Bool} {i:Nat} {o:Oper} (hone:∀ (i j:Nat) (o p:Oper) (d:Nat),l[i]?=some o→l[j]?=some p→p.dst=some d→i≠j→o.dst≠some d) (hv:SyV l J n vs a0 d a1) (hi:i ∉ J) (ho:l[i]?=some o) (hs:a2.tmps.size=a1.tmps.size) (he:∀ t,o.dst≠some t→a2.tmps.getD t undef=a1.tmps.getD t undef):SyV l J n vs a0 (upd d i) a2:=by
 refine ⟨hs.trans hv.size,fun t ht=>(he t (noDst_at ht (List.mem_of_getElem? ho))).trans (hv.same t ht),fun j o' t hj ho' hd ht=>?_⟩;have hne:j≠i:=fun e=>hi (e ▸ hj)
 rw [upd_ne hne] at hd;exact (he t (hone i j o o' t ho ho' ht (fun e=>hne e.symm))).trans (hv.val j o' t hj ho' hd ht)
theorem SyV.updS {J:List Nat} {vs:Nat→Value} {a0 a1:Act} {d:Nat→Bool} {i t:Nat} {o:Oper} (hone:∀ (i j:Nat) (o p:Oper) (d:Nat),l[i]?=some o→l[j]?=some p→p.dst=some d→i≠j→o.dst≠some d) (hv:SyV l J n vs a0 d a1) (ho:l[i]?=some o) (ht:o.dst=some t) (htn:t<n):SyV l J n vs a0 (upd d i) (a1.put (some t) (vs i)):=by
 refine ⟨put_size.trans hv.size,fun t' ht'=>?_,fun j o' t' hj ho' hd ht'=>?_⟩
 ·rw [put_getD (fun e=>noDst_at ht' (List.mem_of_getElem? ho) (by rw [ht,e]))];exact hv.same t' ht'
 ·by_cases e:j=i
  ·subst e;rw [ho] at ho';cases ho';rw [ht] at ht';cases ht';show (a1.tmps.setIfInBounds t (vs j)).getD t undef=vs j;rw [getD_set (by rw [hv.size];exact htn),if_pos rfl]
  ·rw [upd_ne e] at hd;rw [put_getD (fun e'=>hone i j o o' t' ho ho' ht' (fun e2=>e e2.symm) (by rw [ht,e']))];exact hv.val j o' t' hj ho' hd ht'
end
theorem AW.drawS {P:Program} {n:Nat} {Q:Exit→ASt→Prop} {st:ASt} {id:Nat} {l:List Oper} {T:List (List Nat)} (W:List (Nat×Nat)) (m k:Nat) (J:List Nat) (hm:P.follows .mixedOrders=true) (hT:ancs l []=T) (hk:planR l T=true) (htl:tailSy l T m k J=true) (hW:∀ p ∈ W,p.1<m)
  {A:Oper} (hA:l[m]?=some A) (hcA:isCall A.op=true) {KT:ASt→Prop} (hO:SyRun P n l KT J st)
  (hany:∀ j o t,j ∈ J→l[j]?=some o→o.dst=some t→look .any st.regs t=.any)
  {QA:Exit→ASt→Prop} (hQA:∀ e s',QA e s'→e=.normal∧∃ s2,RLe s' s2∧(∀ j o t,j ∈ J→l[j]?=some o→o.dst=some t→look .any s2.regs t=.any)∧SyRun P n l (fun s3=>AL P n l.toArray Q (l.drop k) s3) J s2)
  (h:AG P n l.toArray T W st.nx (fun s=>AL P n l.toArray QA [A] s) 0 [] (l.take m) st):AW P n (.region id l.toArray true) Q st:=.mk fun K a w ⟨G,r⟩=>by
 have hT':AncOk l T:=by
  rw [←hT];exact ancs_ok l [] (fun i A hA=>by simp at hA) rfl
 have hpl:=planR_at n hT' hk;unfold tailSy at htl;simp only [Bool.and_eq_true] at htl;obtain ⟨⟨⟨⟨t1,t2⟩,t3⟩,t4⟩,t5,t6,t7,t8⟩:=htl;have t1:k≤l.length:=Nat.le_of_ble_eq_true t1;have t2:m<k:=by simpa using t2
 have hmJ:m ∉ J:=fun h=>by rw [hasN_of' h] at t4;cases t4
 have hJk:∀ j ∈ J,j<k:=fun j hj=>by
  have:=List.all_eq_true.1 t8 j hj;rw [Bool.and_eq_true] at this;simpa using this.1
 have hJs:∀ j ∈ J,syOk l J j=true:=fun j hj=>by
  have:=List.all_eq_true.1 t8 j hj;rw [Bool.and_eq_true] at this;exact this.2
 have hone:∀ (i j:Nat) (o p:Oper) (d:Nat),l[i]?=some o→l[j]?=some p→p.dst=some d→i≠j→o.dst≠some d:=fun i j o p d ho hp hd hne=>(hpl i o ho).one j p d hp hd hne
 obtain ⟨S,C,e0,hC0,hK,hS⟩:=h.facts;have hm':(l.take m).length=m:=by simp;omega
 rw [hm'] at hK;have r2:RelG K n (S 0) a w.drew G:=(r.same (below_drew' w)).les e0
 have hL:∀ j o,j<m→l[j]?=some o→∃ s',Loc P n l.toArray T W (S 0).nx j (C j) o (S j) s' (C (j+1))∧LeS (S (j+1)) s':=by
  intro j o hj ho;have:=hS j o (by rw [List.getElem?_take,if_pos (by omega)];exact ho);rw [Nat.zero_add,←e0.nx] at this;exact this
 have hdead:∀ id,(S 0).nx≤id→look .dead (S 0).heap id=.dead:=by
  intro id hid;have hkk:=r2.hr.blk id;have hn:=r2.nx
  cases hb:look AB.dead (S 0).heap id with
  | dead=>rfl
  | box cs e=>rw [hb] at hkk;have:=hkk.1;omega
  | row sz rows e=>rw [hb] at hkk;have:=hkk.1;omega
 have hnxM:(S 0).nx≤(S m).nx:=by
  have:∀ q,q≤m→(S 0).nx≤(S q).nx:=by
   intro q
   induction q with
   | zero=>intro _;exact Nat.le_refl _
   | succ q ih =>
    intro hq;have hql:q<l.length:=by omega
    obtain ⟨s',g1,g2⟩:=hL q l[q] (by omega) (List.getElem?_eq_getElem hql);have:=g1.nx_le;have:=g2.nx;have:=ih (by omega);omega
  exact this _ (Nat.le_refl _)

 obtain ⟨vs,hvs⟩:=sy_vals (a0:=a) hJs hone J st a (fun _=>undef) 0 t3 (fun _ h=>h) (fun _ h _=>h) hO r (fun _ _=>rfl) (fun _ _ _ _ h=>absurd h (Nat.not_lt_zero _)) (fun _ _ h=>absurd h (Nat.not_lt_zero _))
 have hdst:∀ j o t,j ∈ J→l[j]?=some o→o.dst=some t→t<n:=by
  have:∀ (J':List Nat) (s:ASt),SyRun P n l KT J' s→∀ j o t,j ∈ J'→l[j]?=some o→o.dst=some t→t<n:=by
   intro J'
   induction J' with
   | nil=>intro _ _ j o t h;cases h
   | cons i J' ih =>
    rintro s ⟨o',x,ho',hop,hr⟩ j o t hj ho ht
    rcases List.mem_cons.1 hj with rfl | hj
    ·rw [ho] at ho';cases ho';exact dok_lt hop.dst t ht
    ·exact ih _ hr j o t hj ho ht
  exact this J st hO
 have hex:∀ {d:Nat→Bool} {a':Act} {i:Nat} {o:Oper},SyV l J n vs a d a'→i ∈ J→l[i]?=some o→(∀ j0 ∈ J,j0<i→(∃ o0 t,l[j0]?=some o0∧o0.dst=some t∧t ∈ o.looksAt l.toArray)→d j0=true)→∀ w',(execOp a'.eval o).run P w'=.ok (.value (vs i)) w':=by
  intro d a' i o hv hi ho hd w';exact hvs i hi o ho a' (fun t ht=>⟨hv.same t,fun j0 o0 g1 g2 g3 g4=>hv.val j0 o0 t g1 g3 (hd j0 g1 g2 ⟨o0,t,g3,g4,ht⟩) g4⟩) w'
 let Inv:(Nat→Bool)→Act→World→Prop:=fun d a' w'=>SyV l J n vs a d a' ∧
  ((d m=false∧InvG K n l W S m (S 0).nx d a' w') ∨
   (d m=true∧(∀ j,j<m→j ∉ J→d j=true)∧∃ s2 G2,RelG K n s2 a' w' G2∧(∀ j o t,j ∈ J→l[j]?=some o→o.dst=some t→look .any s2.regs t=.any)∧SyRun P n l (fun s3=>AL P n l.toArray Q (l.drop k) s3) J s2))
 have hwn:∀ {o:Oper} {a':Act},o.guard=none→Region.wanted o (yielded l.toArray a'.tmps)=true:=by
  intro o a' hg;unfold Region.wanted;rw [hg]
 refine wp_region_inv' (Inv:=Inv) hm (fun i o ho=>(hpl i o (by simpa using ho)).after) k t1 ?_ (fun i o d a' w' hi ho hd0 hcl hdep hI=>?_) (fun d a' w' hall hI=>?_) (fun i hi hil j hj=>?_)
 ·obtain ⟨G',hR⟩:=r2.reserve (Nat.le_trans r.ext.size (below_drew' w).size) (S m).nx hnxM
  have hlv:lvD S m (S 0).nx (fun _=>false)=fun id=>Nat.blt id (S 0).nx:=by
   funext id
   rw [Bool.eq_iff_iff,lvD_iff];constructor
   ·rintro (h | ⟨j,_,h,_⟩)
    ·simpa using h
    ·cases h
   ·intro h;exact .inl (by simpa using h)
  refine ⟨⟨r.size,fun _ _=>rfl,fun j o t _ _ h=>by cases h⟩,.inl ⟨rfl,_,_,G',by rw [hlv];exact hR,fun j o t _ _ h=>absurd h (by simp),fun t _=>.refl _,fun id hid=>?_⟩⟩;rw [hlv] at hid;have hid:id<(S 0).nx:=by simpa using hid
  exact ⟨0,Nat.zero_le _,hid,.refl _,fun j _ h=>absurd h (Nat.not_lt_zero _),fun _ _ _=>rfl,.inl rfl⟩
 ·obtain ⟨hv,hI⟩:=hI;by_cases hiJ:i ∈ J
  ·
   obtain ⟨hg,⟨t,ht⟩,hpu,_⟩:=syOk_at (hJs i hiJ) ho;have htn:=hdst i o t hiJ ho ht
   have hexi:=hex hv hiJ ho (fun j0 _ hlt ⟨o0,t0,g1,g2,g3⟩=>by
    rcases (hpl i o ho).look j0 o0 t0 g1 g2 g3 with ⟨_,hr⟩ | ⟨h',_⟩
    ·exact hr.done hcl ho hdep
    ·omega)
   rw [if_pos (hwn hg)]
   left
   unfold Oper.wp;rw [hexi,Oper.upon_value,ht];refine ⟨hv.updS hone ho ht htn,?_⟩;have hne:i≠m:=fun e=>hmJ (e ▸ hiJ)
   rcases hI with ⟨h1,h2⟩ | ⟨h1,h2,s2,G2,k1,k2,k3⟩
   ·refine .inl ⟨by rw [upd_ne (fun e=>hne e.symm)];exact h1,?_⟩;rcases Nat.lt_or_ge i m with him | him
    ·have hst:=AG.step' (Q:=Qs K n Q) hpl hT' (by omega) hC0 hL him ho hd0 hcl hdep h2;rw [if_pos (hwn hg)] at hst;unfold Oper.wp at hst;rw [hexi,Oper.upon_value,ht] at hst;exact hst
    ·refine h2.stray him hW htn (fun x=>?_) fun j o' hj ho' e=>hone j i o' o t ho' ho ht (by omega) e
     have:=e0.regs t;rw [hany i o t hiJ ho ht] at this;exact this.trans (.any _)
   ·refine .inr ⟨by rw [upd_ne (fun e=>hne e.symm)];exact h1,fun j hj hjJ=>by rw [upd_ne (fun e=>hjJ (by rw [e];exact hiJ))];exact h2 j hj hjJ,s2,G2,?_,k2,k3⟩;have:=k1.put (d:=some t) (fun k e=>by cases e;exact htn) (x:=.any) (v:=vs i) (.dat (.any _))
    have hle:LeS s2 (s2.put (some t) .any):=by
     refine ⟨fun k=>?_,fun k=>.refl _,rfl⟩;show Les _ (look .any ((t,AV.any)::s2.regs) k);rw [look_cons];split
     ·rename_i e;subst e;rw [k2 i o t hiJ ho ht];exact .refl _
     ·exact .refl _
    exact this.les hle
  rcases Nat.lt_trichotomy i m with him | him | him
  ·
   have hI:d m=false∧InvG K n l W S m (S 0).nx d a' w':=by
    rcases hI with hI | ⟨_,h2,_⟩
    ·exact hI
    ·rw [h2 i him hiJ] at hd0;cases hd0
   have hst:=AG.step' (Q:=Qs K n Q) hpl hT' (by omega) hC0 hL him ho hd0 hcl hdep hI.2;have hdm:upd d i m=false:=by rw [upd_ne (by omega)];exact hI.1
   split
   ·rename_i hw;rw [if_pos hw] at hst;exact .inl (Oper.wp_mono (fun a2 w2 ⟨g1,g2,g3⟩=>⟨hv.other hone hiJ ho g2 g3,.inl ⟨hdm,g1⟩⟩) (wp_put hst))
   ·rename_i hw;rw [if_neg hw] at hst;exact ⟨hv.other hone hiJ ho put_size (fun t ht=>put_getD ht),.inl ⟨hdm,hst⟩⟩
  ·
   subst him;rw [hA] at ho;cases ho
   have hnon:∀ j,j<i→j ∉ J→d j=true:=fun j hj hjJ=>by
    have:=List.all_eq_true.1 t5 j (List.mem_range.2 hj);rw [Bool.or_eq_true] at this;rcases this with h' | h'
    ·exact absurd (hasN_mem h') hjJ
    ·exact (reachT hT' h').done hcl hA hdep
   have hI:d i=false∧InvG K n l W S i (S 0).nx d a' w':=by
    rcases hI with hI | ⟨h1,_⟩
    ·exact hI
    ·rw [h1] at hd0;cases hd0

   let dB:Nat→Nat→Bool:=fun b j=>d j||Nat.blt j b
   have pre:∀ b,b≤i→∃ ap,InvG K n l W S i (S 0).nx (dB b) ap w'∧SyV l J n vs a (dB b) ap∧ap.defers=a'.defers∧∀ t,(∀ j o,j<i→j ∈ J→d j=false→l[j]?=some o→o.dst≠some t)→ap.tmps.getD t undef=a'.tmps.getD t undef:=by
    intro b
    induction b with
    | zero =>
     intro _;have e:dB 0=d:=by funext j;show (d j||Nat.blt j 0)=d j;simp
     rw [e];exact ⟨a',hI.2,hv,rfl,fun _ _=>rfl⟩
    | succ b ih =>
     intro hb;obtain ⟨ap,g1,g2,g3,g4⟩:=ih (by omega);by_cases hdb:d b=true
     ·have e:dB (b+1)=dB b:=by
       funext j
       show (d j||Nat.blt j (b+1))=(d j||Nat.blt j b);by_cases e:j=b
       ·subst e;rw [hdb];rfl
       ·congr 1;rw [Bool.eq_iff_iff];simp only [Nat.blt_eq];omega
      rw [e];exact ⟨ap,g1,g2,g3,g4⟩
     ·have hdb:d b=false:=by simpa using hdb
      have hbJ:b ∈ J:=Classical.byContradiction fun h'=>by rw [hnon b (by omega) h'] at hdb;cases hdb
      obtain ⟨ob,hob⟩:∃ ob,l[b]?=some ob:=⟨l[b]'(by omega),List.getElem?_eq_getElem (by omega)⟩;obtain ⟨hg,⟨t,ht⟩,hpu,_⟩:=syOk_at (hJs b hbJ) hob;have htn:=hdst b ob t hbJ hob ht;have hdB:∀ j,j<b→dB b j=true:=fun j hj=>by show (d j||Nat.blt j b)=true;rw [show Nat.blt j b=true by simpa using hj];simp
      have hcl2:ClosedD l (dB b):=by
       intro j oj hoj hj e he hbn;have hj:(d j||Nat.blt j b)=true:=hj;rw [Bool.or_eq_true] at hj;rcases hj with hj | hj
       ·have:=hcl j oj hoj hj e he hbn;show (d e.on||_)=true;rw [this];rfl
       ·have hj:j<b:=by simpa using hj
        have:=(hpl j oj hoj).after e he hbn;exact hdB _ (by omega)
      have hdep2:∀ e ∈ ob.after,Region.binds .any e=true→dB b e.on=true:=fun e he hbn=>hdB _ ((hpl b ob hob).after e he hbn)
      have hd02:dB b b=false:=by show (d b||Nat.blt b b)=false;rw [hdb,Bool.false_or,Bool.eq_false_iff];intro h;simp at h
      have hexb:=hex g2 hbJ hob (fun j0 _ hlt _=>hdB j0 hlt);have hst:=AG.step' (Q:=Qs K n Q) hpl hT' (by omega) hC0 hL (show b<i by omega) hob hd02 hcl2 hdep2 g1;rw [if_pos (hwn hg)] at hst;unfold Oper.wp at hst;rw [hexb,Oper.upon_value,ht] at hst
      have e:upd (dB b) b=dB (b+1):=by
       funext j
       show ((d j||Nat.blt j b)||(j==b))=(d j||Nat.blt j (b+1));rw [Bool.or_assoc];congr 1;rw [Bool.eq_iff_iff];simp only [Bool.or_eq_true,Nat.blt_eq,beq_iff_eq];omega
      have g2':=g2.updS hone hob ht htn;rw [e] at hst g2';refine ⟨_,hst,g2',g3,fun t' ht'=>?_⟩;rw [put_getD (fun e'=>ht' b ob (by omega) hbJ hdb hob (by rw [ht,e']))];exact g4 t' ht'
   obtain ⟨ap,g1,g2,g3,g4⟩:=pre i (Nat.le_refl _);obtain ⟨G',hr⟩:=AG.last hpl (by omega) hC0 hL hdead (fun j hj=>by show (d j||Nat.blt j i)=true;rw [show Nat.blt j i=true by simpa using hj];simp) g1;have hwl:=AL.out hK K ap w' ⟨G',hr⟩
   have hagree:∀ t,t ∈ A.looksAt l.toArray→ap.tmps.getD t undef=a'.tmps.getD t undef:=fun t ht=>g4 t fun j o hj hjJ hdj hoj e=>by
    rcases (hpl i A hA).look j o t hoj e ht with ⟨_,hr⟩ | ⟨h',_⟩
    ·rw [hr.done hcl hA hdep] at hdj;cases hdj
    ·omega
   have hex2:execOp ap.eval A=execOp a'.eval A:=exec_same (ops:=l.toArray) (fun cs b e=>by rw [e] at hcA;cases hcA) hagree
   have hwt:Region.wanted A (yielded l.toArray ap.tmps)=Region.wanted A (yielded l.toArray a'.tmps):=by
    unfold Region.wanted
    cases hg:A.guard with
    | none=>rfl
    | some gw =>
     obtain ⟨g,want⟩:=gw
     have hy:yielded l.toArray ap.tmps g=yielded l.toArray a'.tmps g:=by
      unfold yielded
      cases ht:(l.toArray[g]?).bind (·.dst) with
      | none=>rfl
      | some t =>
       have e1:=hagree t (by
        unfold Oper.looksAt;rw [hg];simp only [List.mem_append]
        right
        simp only [ht]
        simp)
       simp only [Option.bind_some];rw [Array.getD_eq_getD_getElem?,Array.getD_eq_getD_getElem?] at e1;by_cases htn:t<n
       ·rw [Array.getElem?_eq_getElem (by rw [g2.size];exact htn),Array.getElem?_eq_getElem (by rw [hv.size];exact htn)] at e1 ⊢;simp only [Option.getD_some] at e1;rw [e1]
       ·rw [Array.getElem?_eq_none (Nat.le_trans (Nat.le_of_eq g2.size) (Nat.le_of_not_lt htn)),Array.getElem?_eq_none (Nat.le_trans (Nat.le_of_eq hv.size) (Nat.le_of_not_lt htn))]
     simp only [hy]
   have fin2:∀ (a1 b1:Act) (v:Value) w2,a1.tmps=a'.tmps→b1.tmps=ap.tmps→(a1.defers=a'.defers↔b1.defers=ap.defers)→Qs K n QA .normal (b1.put A.dst v) w2→Inv (upd d i) (a1.put A.dst v) w2:=by
    rintro a1 b1 v w2 e1 e2 e3 ⟨st',hq,k4⟩
    obtain ⟨_,s2,k1,k2,k3⟩:=hQA _ _ hq;obtain ⟨G2,k5⟩:=k1.ok k4;refine ⟨hv.other hone hmJ hA (put_size.trans (by rw [e1])) (fun t ht=>(put_getD ht).trans (by rw [e1])),.inr ⟨upd_self ..,fun j hj hjJ=>by rw [upd_ne (by omega)];exact hnon j hj hjJ,s2,G2,⟨k5.nx,k5.hr,k5.ext,?_,?_,fun t=>?_⟩,k2,k3⟩⟩
    ·rw [put_size,e1];exact hv.size
    ·have hb:=k5.defers
     have hpd:∀ (x:Act),(x.put A.dst v).defers=x.defers:=fun x=>by cases A.dst <;> rfl
     rw [hpd] at hb ⊢;have hap:ap.defers=[]:=hr.defers;have ha':a'.defers=[]:=by rw [←g3];exact hap
     rw [e3.2 (by rw [hb,hap]),ha']
    ·by_cases hs:∃ j o,j ∈ J∧l[j]?=some o∧o.dst=some t
     ·obtain ⟨j,o,h1,h2,h3⟩:=hs;rw [k2 j o t h1 h2 h3];exact .dat (.any _)
     ·have:=k5.regs t
      have e4:(b1.put A.dst v).tmps.getD t undef=(a1.put A.dst v).tmps.getD t undef:=by
       have e5:b1.tmps.getD t undef=a1.tmps.getD t undef:=by
        rw [e1,e2];exact g4 t fun j o _ hjJ _ hoj e=>hs ⟨j,o,hjJ,hoj,e⟩
       by_cases hd:A.dst=some t
       ·rw [hd];show (b1.tmps.setIfInBounds t v).getD t undef=(a1.tmps.setIfInBounds t v).getD t undef;rw [e1,e2];by_cases htn:t<n
        ·rw [getD_set (by rw [g2.size];exact htn),getD_set (by rw [hv.size];exact htn),if_pos rfl,if_pos rfl]
        ·rw [Array.getD_eq_getD_getElem?,Array.getD_eq_getD_getElem?,Array.getElem?_eq_none (by rw [Array.size_setIfInBounds];exact Nat.le_trans (Nat.le_of_eq g2.size) (Nat.le_of_not_lt htn)),Array.getElem?_eq_none (by rw [Array.size_setIfInBounds];exact Nat.le_trans (Nat.le_of_eq hv.size) (Nat.le_of_not_lt htn))]
       ·rw [put_getD hd,put_getD hd];exact e5
      rw [←e4];exact this
   unfold wpList at hwl;rw [hwt] at hwl;split
   ·rename_i hw;rw [if_pos hw] at hwl;exact .inl (wp_norm (fun e a w he ⟨s',h1,_⟩=>he (hQA _ _ h1).1) hex2 fin2 hwl)
   ·rename_i hw;rw [if_neg hw] at hwl;exact fin2 a' ap undef w' rfl rfl ⟨fun _=>rfl,fun _=>rfl⟩ hwl
  ·exfalso
   have:=List.all_eq_true.1 t7 i (List.mem_range.2 hi);rw [Bool.or_eq_true] at this;rcases this with h' | h'
   ·have:i≤m:=Nat.le_of_ble_eq_true h';omega
   ·exact hiJ (hasN_mem h')
 ·obtain ⟨hv,hI⟩:=hI
  have hI:∃ s2 G2,RelG K n s2 a' w' G2∧SyRun P n l (fun s3=>AL P n l.toArray Q (l.drop k) s3) J s2:=by
   rcases hI with ⟨h1,_⟩ | ⟨_,_,s2,G2,k1,_,k3⟩
   ·rw [hall m t2] at h1;cases h1
   ·exact ⟨s2,G2,k1,k3⟩
  obtain ⟨s2,G2,k1,k3⟩:=hI
  obtain ⟨s3,g1,g2⟩:=SyRun.out J k3 k1 (fun j hj o ho=>by
   obtain ⟨_,⟨t,ht⟩,_⟩:=syOk_at (hJs j hj) ho;refine ⟨t,ht,fun v hv2=>?_⟩;rw [hex hv hj ho (fun j0 hj0 _ _=>hall j0 (hJk j0 hj0)) w'] at hv2;cases hv2
   exact hv.val j o t hj ho (hall j (hJk j hj)) ht)
  exact AL.out g1 K a' w' ⟨G2,g2⟩
 ·have hge:=List.all_eq_true.1 t6 i (List.mem_range.2 hil);rw [Bool.or_eq_true] at hge;rcases hge with h | h
  ·have h:i<k:=by simpa using h
   omega
  ·exact reachT hT' (List.all_eq_true.1 h j (List.mem_range.2 hj))
end Go.Proofs.Ytedmffbhklgloaa.Dr
/- Decompiling: regions that draw their order,over terms. No program in sight. -/
namespace Go.Proofs.Ytedmffbhklgloaa
open Go Go.RowKit

section
variable {V W:Ty→Type} {ρ:Ty}
def visV (T:List (List Nat)) (b0 i:Nat) (cr:List (Nat×Nat)) (k:Nat):Bool:=Nat.blt k b0||cr.any fun c=>Nat.beq c.2 k&&hasN (T.getD i []) c.1
def visS (T:List (List Nat)) (ws:List (Nat×Nat)) (b0 i:Nat) (cr:List (Nat×Nat)) (k:Nat):Bool:=visV T b0 i cr k&&Dr.okW T ws i k
def lclS (ops:Array Oper) (T:List (List Nat)) (ws:List (Nat×Nat)) (b0 i:Nat) (cr:List (Nat×Nat)) (st:SSt V) (o:Oper):SSt V :=
 ⟨(o.looksAt ops).map fun t=>(t,st.get t),[],(st.heap++st.hk).filter fun p=>visS T ws b0 i cr p.1,[],[],st.nx⟩
def callR (C:DC) (lst:SSt V) (K:SV V→G V W ρ):Op→G V W ρ
 | .call ⟨.value cal,args,_⟩=>match lst.ev cal with
  | .fn F caps=>match lk C.cas F with
   | some _=>match lk C.ctrs F with
    | some c=>match exArgs lst c.a (evS lst args.toList++caps) with
     | some e=>.call c.f c.nm e fun y=>K (oneOfS (svsE true c.r (.var y)))
     | none=>.fail
    | none=>.fail
   | none=>.fail
  | _=>.fail
 | _=>.fail
def isNew:Op→Bool
 | .alloc _=>true
 | .box _ _=>true
 | .makeSlice ..=>true
 | .buildSlice ..=>true
 | .call ⟨.builtin .append,_,_⟩=>true
 | _=>false
def newR (C:DC) (T:List (List Nat)) (ws:List (Nat×Nat)) (b0 i:Nat) (cr:List (Nat×Nat)) (lst st:SSt V) (o:Oper) (K:List (Nat×Nat)→SSt V→G V W ρ):G V W ρ:=match mem0 C.T lst o.dst o.op with
 | some (.new b row,g)=>bif Dr.noW ws i&&Dr.newW T ws i st.nx&&b.refs (fun k=>visS T ws b0 i cr k&&!Nat.beq k st.nx) (fun k _=>visS T ws b0 i cr k&&!Nat.beq k st.nx)&&st.refs (fun id=>!Nat.beq id st.nx) (fun id _=>!Nat.beq id st.nx) then grdG g (K ((i,st.nx)::cr) (MR.app st o.dst (.new b row))) else .fail
 | _=>.fail
def storeB (T:Tab) (st:SSt V) (t:TypeId) (a v:SV V):Option (Nat×SB V):=match lk T.inf t with
 | some (_,s,_)=>bif allOneS st v.cells&&Nat.beq v.cells.length s then (match a with
  | .box id o=>match st.blk id with
   | .box cs e=>bif Nat.ble (o+s) cs.length then some (id,.box (setRS cs o v.cells) e) else none
   | _=>none
  | _=>none) else none
 | none=>none
def storeE (T:Tab) (st:SSt V) (t:TypeId) (a v:SV V):Option (Nat×SB V):=match lk T.inf t with
 | some (_,s,_)=>bif allOneS st v.cells&&Nat.beq v.cells.length s then (match a with
  | .elt id ver i o=>match st.blk id with
   | .row fr ty xs e ver'=>bif Nat.beq ver ver'&&Nat.ble (o+s) ty.size then (match exA fr ty (setRS (cellsE fr ty (.at xs i)) o v.cells) with
    | some x=>some (id,.row fr ty (.set xs i x) e ver')
    | none=>match exA false ty (setRS (cellsE fr ty (.at xs i)) o v.cells) with
     | some x=>some (id,.row false ty (.set xs i x) e ver')
     | none=>none) else none
   | _=>none
  | _=>none) else none
 | none=>none
def idsA (x:SV V):List Nat:=match x with
 | .osl id _=>[id]
 | .vsl id _ _ _=>[id]
 | _=>[]
def notA (x:SV V):Bool:=match x with
 | .aelt ..=>false
 | _=>true
def appR (C:DC) (T:List (List Nat)) (ws:List (Nat×Nat)) (b0 i:Nat) (cr:List (Nat×Nat)) (st:SSt V) (d:Option Nat) (t:TypeId) (y z:SV V) (K:List (Nat×Nat)→SSt V→G V W ρ):G V W ρ:=match appS C.T (fun t=>t) st t y z with
 | some (.upd id b (some x),g)=>bif visS T ws b0 i cr id&&(ws.any fun p=>Nat.beq p.1 i&&Nat.beq p.2 id)&&Dr.onlyW ws i id&&(idsA z).all (fun j=>visS T ws b0 i cr j)&&notA z then grdG g (K cr ((st.hset id b).put d x)) else .fail
 | _=>.fail
def writeR (C:DC) (T:List (List Nat)) (ws:List (Nat×Nat)) (b0 i:Nat) (cr:List (Nat×Nat)) (st:SSt V) (o:Oper) (K:List (Nat×Nat)→SSt V→G V W ρ):G V W ρ:=match o.dst,o.op with
 | none,.store t a v=>match storeB C.T st t (st.ev a) (st.ev v) with
  | some (id,b)=>bif visS T ws b0 i cr id&&(ws.any fun p=>Nat.beq p.1 i&&Nat.beq p.2 id)&&Dr.onlyW ws i id&&b.refs (visS T ws b0 i cr) (fun k _=>visS T ws b0 i cr k)&&(st.blk id).refs (visS T ws b0 i cr) (fun k _=>visS T ws b0 i cr k) then K cr (st.hset id b) else .fail
  | none=>match storeE C.T st t (st.ev a) (st.ev v) with
   | some (id,b)=>bif visS T ws b0 i cr id&&(ws.any fun p=>Nat.beq p.1 i&&Nat.beq p.2 id)&&Dr.onlyW ws i id&&(st.blk id).refs (visS T ws b0 i cr) (fun k _=>visS T ws b0 i cr k) then K cr (st.hset id b) else .fail
   | none=>.fail
 | d,.call ⟨.builtin .append,⟨[y,z]⟩,⟨[t,t']⟩⟩=>bif Nat.beq t' t then appR C T ws b0 i cr st d t (st.ev y) (st.ev z) K else .fail
 | _,_=>.fail
def effOf (C:DC) (lst:SSt V):Op→Option (CtrE×List (SV V))
 | .call ⟨.value cal,args,_⟩=>match lst.ev cal with
  | .fn F caps=>match lk C.cas F with
   | some _=>match lk C.ctrs F with
    | some _=>none
    | none=>match lk C.effs F with
     | some ce=>some (ce,evS lst args.toList++caps)
     | none=>none
   | none=>none
  | _=>none
 | _=>none
def effD (T:List (List Nat)) (ws:List (Nat×Nat)) (b0 i:Nat) (cr:List (Nat×Nat)) (lst st:SSt V) (o:Oper) (ce:CtrE) (vs:List (SV V)) (K:List (Nat×Nat)→SSt V→G V W ρ):G V W ρ :=
 bif (detOk ce.si ce.so ce.nb&&!(st.blk 0).isA)&&(((itemB ce.si.items).all fun b=>visS T ws b0 i cr (mpI (mapE ce.si lst vs) b)&&(ws.any fun p=>Nat.beq p.1 i&&Nat.beq p.2 (mpI (mapE ce.si lst vs) b))) &&
  ((ws.all fun p=>!Nat.beq p.1 i||((itemB ce.si.items).any fun b=>Nat.beq p.2 (mpI (mapE ce.si lst vs) b)))&&(((List.range ce.so.ex).all fun j=>Dr.newW T ws i (st.nx+j))&&refE ce.si ce.so ce.nb (mapE ce.si lst vs) st))) then (match arrE ce.si ce.so ce.nb ce.na lst vs with
  | some e=>.call ce.f ce.nm e fun y=>K ((List.range ce.so.ex).map (fun j=>(i,st.nx+j))++cr) ((outE ce.si ce.so ce.nb (mapE ce.si lst vs) st (.var y)).put o.dst (resE ce.si ce.so ce.nb (mapE ce.si lst vs) st (.var y)))
  | none=>.fail) else .fail
def isMv:Op→Option Operand
 | .move y=>some y
 | .assign y=>some y
 | _=>none
def moveR (T:List (List Nat)) (ws:List (Nat×Nat)) (b0 i:Nat) (cr:List (Nat×Nat)) (st:SSt V) (o:Oper) (y:Operand) (K:List (Nat×Nat)→SSt V→G V W ρ):G V W ρ :=
 bif Dr.noW ws i&&(st.ev y).refs (visV T b0 i cr) (fun k _=>visV T b0 i cr k) then (bif lets o.op then letV (st.ev y) fun x=>K cr (st.put o.dst x) else K cr (st.put o.dst (st.ev y))) else .fail
def stepR' (C:DC) (T:List (List Nat)) (ws:List (Nat×Nat)) (b0 i:Nat) (cr:List (Nat×Nat)) (lst st:SSt V) (o:Oper) (K:List (Nat×Nat)→SSt V→G V W ρ):G V W ρ:=match isMv o.op with
 | some y=>moveR T ws b0 i cr st o y K
 | none=>match rd C.T lst o.op with
 | some (x,g)=>bif Dr.noW ws i&&x.refs (visS T ws b0 i cr) (fun k _=>visS T ws b0 i cr k) then
   grdG g (bif lets o.op then letV x fun x=>K cr (st.put o.dst x) else K cr (st.put o.dst x)) else .fail
 | none=>bif isNew o.op&&Dr.noW ws i then newR C T ws b0 i cr lst st o K else match effOf C lst o.op with
  | some (ce,vs)=>effD T ws b0 i cr lst st o ce vs K
  | none=>bif Dr.noW ws i then callR C lst (fun x=>K cr (st.put o.dst x)) o.op else writeR C T ws b0 i cr st o K
def sR (C:DC) (n:Nat) (ops:Array Oper) (T:List (List Nat)) (ws:List (Nat×Nat)) (b0:Nat) (K:SSt V→G V W ρ):Nat→List (Nat×Nat)→List Oper→SSt V→G V W ρ
 | _,_,[],st=>K st
 | i,cr,o::l,st=>bif dok o.dst n then (match wantS ops o st with
  | .yes=>stepR' C T ws b0 i cr (lclS ops T ws b0 i cr st o) st o fun cr' st'=>sR C n ops T ws b0 K (i+1) cr' l st'
  | .no=>bif Dr.noW ws i then sR C n ops T ws b0 K (i+1) cr l (st.put o.dst .und) else .fail
  | .ask c d want=>.ite c
    (bif want then stepR' C T ws b0 i cr (lclS ops T ws b0 i cr (st.put (some d) (.bool (.bL true))) o) (st.put (some d) (.bool (.bL true))) o fun cr' st'=>sR C n ops T ws b0 K (i+1) cr' l st'
     else bif Dr.noW ws i then sR C n ops T ws b0 K (i+1) cr l ((st.put (some d) (.bool (.bL true))).put o.dst .und) else .fail)
    (bif want then bif Dr.noW ws i then sR C n ops T ws b0 K (i+1) cr l ((st.put (some d) (.bool (.bL false))).put o.dst .und) else .fail
     else stepR' C T ws b0 i cr (lclS ops T ws b0 i cr (st.put (some d) (.bool (.bL false))) o) (st.put (some d) (.bool (.bL false))) o fun cr' st'=>sR C n ops T ws b0 K (i+1) cr' l st')
  | .bad=>.fail) else .fail
def tailN (T:List (List Nat)):Nat→Nat
 | 0=>0
 | i+1=>bif (List.range i).all fun j=>hasN (T.getD i []) j then tailN T i else i+1
def wsD (C:DC):Nat→List Oper→SSt V→List (Nat×Nat)
 | _,[],_=>[]
 | i,o::l,st=>match rd C.T st o.op with
  | some (x,_)=>wsD C (i+1) l (st.put o.dst x)
  | none=>match o.op with
   | .store _ a _=>match st.ev a with
    | .box id _=>(i,id)::wsD C (i+1) l st
    | .elt id _ _ _=>(i,id)::wsD C (i+1) l st
    | _=>wsD C (i+1) l st
   | _=>match effOf C st o.op with
    | some (ce,vs)=>((itemB ce.si.items).map fun b=>(i,mpI (mapE ce.si st vs) b))++wsD C (i+1) l ((⟨st.regs,st.kp,st.heap,st.hk,st.fr,st.nx+ce.so.ex⟩:SSt V).put o.dst .any)
    | none=>match mem0 C.T st o.dst o.op with
     | some (.new b row,_)=>wsD C (i+1) l (MR.app st o.dst (.new b row))
     | some (.upd id b (some r),_)=>(i,id)::wsD C (i+1) l ((st.hset id b).put o.dst r)
     | _=>wsD C (i+1) l (st.put o.dst .any)
def drW (C:DC) (self:SelfG V W ρ) (an:An) (n:Nat) (l:List Oper) (st:SSt V) (ws:List (Nat×Nat)) (K:SSt V→G V W ρ):G V W ρ :=
 bif Dr.planR l (ancs l [])&&(ws.all fun p=>isLive (st.blk p.2)||Nat.ble st.nx p.2)&&Dr.tailR l (ancs l []) (tailN (ancs l []) l.length) then
  sR C n ⟨l⟩ (ancs l []) ws st.nx (fun st'=>sL C self n ⟨l⟩ an (tailN (ancs l []) l.length) (l.drop (tailN (ancs l []) l.length)) st' K) 0 [] (l.take (tailN (ancs l []) l.length)) st else .fail
def anyS (l:List Oper):List Nat→SSt V→SSt V
 | [],st=>st
 | j::J,st=>match l[j]? with
  | some o=>anyS l J (st.put o.dst .any)
  | none=>anyS l J st
def syG (C:DC) (n:Nat) (l:List Oper):List Nat→SSt V→(SSt V→G V W ρ)→G V W ρ
 | [],st,K=>K st
 | j::J,st,K=>match l[j]? with
  | some o=>bif dok o.dst n then (match rd C.T st o.op with
   | some (x,g)=>grdG g (letV x fun x=>syG C n l J (st.put o.dst x) K)
   | none=>.fail) else .fail
  | none=>.fail
def syP (C:DC) (n:Nat) (l:List Oper):List Nat→SSt V→G V W ρ→G V W ρ
 | [],_,k=>k
 | j::J,st,k=>match l[j]? with
  | some o=>bif dok o.dst n then (match rd C.T st o.op with
   | some (x,g)=>grdG g (syP C n l J (st.put o.dst x) k)
   | none=>.fail) else .fail
  | none=>.fail
def drS (C:DC) (self:SelfG V W ρ) (an:An) (n:Nat) (l:List Oper) (m k:Nat) (J:List Nat) (st:SSt V) (ws:List (Nat×Nat)) (K:SSt V→G V W ρ):G V W ρ:=match l[m]? with
 | some A=>bif (Dr.planR l (ancs l [])&&(ws.all fun p=>isLive (st.blk p.2)||Nat.ble st.nx p.2)&&Dr.tailSy l (ancs l []) m k J)&&((ws.all fun p=>Nat.blt p.1 m)&&Dr.isCall A.op) then
   syP C n l J st (sR C n ⟨l⟩ (ancs l []) ws st.nx (fun st'=>sL C self n ⟨l⟩ an m [A] st' fun st2=>syG C n l J (anyS l J st2) fun st3=>sL C self n ⟨l⟩ an k (l.drop k) st3 K) 0 [] (l.take m) st) else .fail
 | none=>.fail
def An.sy:An→Option (Nat×Nat×List Nat)
 | .dr ((888888,m)::(k,_)::J) _=>some (m,k,J.map (·.1))
 | _=>none
def drR (C:DC):DrawG V W ρ:=fun self an n l st K=>match an.sy with
 | some (m,k,J)=>drS C self an n l m k J (anyS l J st) (wsD C 0 (l.take m) (anyS l J st)) K
 | none=>drW C self an n l st (wsD C 0 (l.take (tailN (ancs l []) l.length)) st) K
end
section
variable {m:Nat→Nat} {H:Nat→SB D} {q:Nat→Bool} {pB:Nat→Bool} {pR:Nat→Nat→Bool}
theorem cells_nmd {fr:Bool}:∀ (t:Ty) (e:E D t),SV.refsL pB pR (cellsE fr t e)=true:=by
 intro t
 induction t with
 | pair a b iha ihb =>
  intro e;rw [cellsE]
  have key:∀ (l r:List (SV D)),SV.refsL pB pR l=true→SV.refsL pB pR r=true→SV.refsL pB pR (l++r)=true:=by
   intro l r hl hr
   induction l with
   | nil=>exact hr
   | cons c l ih =>
    rw [SV.refsL,Bool.and_eq_true] at hl;rw [List.cons_append,SV.refsL,hl.1,ih hl.2];rfl
  exact key _ _ (iha _) (ihb _)
 | agg t ih=>intro e;rw [cellsE];exact ih _
 | unit=>intro e;rw [cellsE,SV.refsL]
 | int k=>intro e;rw [cellsE,SV.refsL,SV.refsL];rw [SV.refs] <;> simp
 | bool=>intro e;rw [cellsE,SV.refsL,SV.refsL];rw [SV.refs] <;> simp
 | str=>intro e;rw [cellsE,SV.refsL,SV.refsL];rw [SV.refs] <;> simp
 | list t _=>intro e;rw [cellsE,SV.refsL,SV.refsL];rw [SV.refs] <;> simp
 | ptr t _=>intro e;rw [cellsE,SV.refsL,SV.refsL];rw [SV.refs] <;> simp
 | aix=>intro e;rw [cellsE,SV.refsL,SV.refsL];rw [SV.refs] <;> simp
theorem data_nmd {t:Ty} {fr:Bool}:∀ (e:E D t),SV.refs pB pR (svE fr t e)=true:=by
 intro e
 cases t with
 | agg t=>rw [svE,SV.refs];exact cells_nmd _ _
 | _=>rw [svE,SV.refs] <;> simp
theorem datas_nmd {fr:Bool}:∀ (t:Ty) (e:E D t),SV.refsL pB pR (svsE fr t e)=true
 | .pair a b,e=>by rw [svsE,SV.refsL,data_nmd,datas_nmd b];rfl
 | .int _,_=>by rw [svsE,SV.refsL];all_goals simp
 | .bool,_=>by rw [svsE,SV.refsL];all_goals simp
 | .str,_=>by rw [svsE,SV.refsL];all_goals simp
 | .list _,_=>by rw [svsE,SV.refsL];all_goals simp
 | .unit,_=>by rw [svsE,SV.refsL];all_goals simp
 | .agg _,_=>by rw [svsE,SV.refsL];all_goals simp
 | .ptr _,_=>by rw [svsE,SV.refsL];all_goals simp
 | .aix,_=>by rw [svsE,SV.refsL];all_goals simp
theorem one_nmd {l:List (SV D)} (h:SV.refsL pB pR l=true):(oneOfS l).refs pB pR=true:=by
 unfold oneOfS;split
 ·rw [SV.refsL,Bool.and_eq_true] at h;exact h.1
 ·rw [SV.refs];exact h
end
structure Lay (m:Nat→Nat) (nx0 b0:Nat) (st0:SSt D):Prop where
 new:∀ k,b0≤k→m k=nx0+(k-b0)
 old:∀ k,k<b0→st0.blk k≠.dead→m k<nx0
 inj:∀ k k',st0.blk k≠.dead→st0.blk k'≠.dead→m k=m k'→k=k'
 lt:∀ k,st0.blk k≠.dead→k<b0
 ge:bigA≤nx0∧∀ k,st0.blk k≠.dead→bigA≤m k
def Good (b0:Nat) (st0:SSt D) (k:Nat):Prop:=b0≤k∨st0.blk k≠.dead
section
variable {m:Nat→Nat} {nx0 b0:Nat} {st0:SSt D}
theorem Lay.geG (h:Lay m nx0 b0 st0) {k:Nat} (hk:Good b0 st0 k):bigA≤m k:=by
 rcases hk with hk | hk
 ·rw [h.new k hk];have:=h.ge.1;omega
 ·exact h.ge.2 k hk
theorem Lay.injG (h:Lay m nx0 b0 st0) {k k':Nat} (hk:Good b0 st0 k) (hk':Good b0 st0 k') (e:m k=m k'):k=k':=by
 rcases hk with hk | hk
 ·rcases hk' with hk' | hk'
  ·rw [h.new k hk,h.new k' hk'] at e;omega
  ·have:=h.old k' (h.lt k' hk') hk';rw [h.new k hk] at e;omega
 ·rcases hk' with hk' | hk'
  ·have:=h.old k (h.lt k hk) hk;rw [h.new k' hk'] at e;omega
  ·exact h.inj k k' hk hk' e
def mapP (m:Nat→Nat) (l:List (Nat×Nat)):List (Nat×Nat):=l.map fun p=>(p.1,m p.2)
theorem beq_m (h:Lay m nx0 b0 st0) {k k':Nat} (hk:Good b0 st0 k) (hk':Good b0 st0 k'):Nat.beq (m k) (m k')=Nat.beq k k':=by
 cases hb:Nat.beq k k' with
 | true =>
  have:=Nat.eq_of_beq_eq_true hb;subst this;exact Nat.beq_refl _
 | false =>
  rw [←Bool.not_eq_true];intro e;have:=h.injG hk hk' (Nat.eq_of_beq_eq_true e);subst this;rw [Nat.beq_refl] at hb;cases hb
variable {T:List (List Nat)} {ws cr:List (Nat×Nat)} {i:Nat}
theorem okW_m (h:Lay m nx0 b0 st0) (hw:∀ p ∈ ws,Good b0 st0 p.2) {k:Nat} (hk:Good b0 st0 k):Dr.okW T (mapP m ws) i (m k)=Dr.okW T ws i k:=by
 unfold Dr.okW mapP
 induction ws with
 | nil=>rfl
 | cons p l ih =>
  rw [List.map_cons,List.all_cons,List.all_cons,ih (fun p hp=>hw p (List.mem_cons_of_mem _ hp)),beq_m h (hw p (by simp)) hk]
theorem vis_m (h:Lay m nx0 b0 st0) (hc:∀ p ∈ cr,b0≤p.2) {k:Nat} (hk:Good b0 st0 k):vis T nx0 i (mapP m cr) (m k)=visV T b0 i cr k:=by
 unfold vis visV mapP
 have e1:Nat.blt (m k) nx0=Nat.blt k b0:=by
  rw [Bool.eq_iff_iff];simp only [Nat.blt_eq];rcases hk with hk | hk
  ·rw [h.new k hk];omega
  ·have:=h.old k (h.lt k hk) hk;have:=h.lt k hk;omega
 rw [e1];congr 1
 induction cr with
 | nil=>rfl
 | cons p l ih =>
  rw [List.map_cons,List.any_cons,List.any_cons,ih (fun p hp=>hc p (List.mem_cons_of_mem _ hp)),beq_m h (.inl (hc p (by simp))) hk]
theorem noW_m (ws:List (Nat×Nat)):Dr.noW (mapP m ws) i=Dr.noW ws i:=by
 unfold Dr.noW mapP;rw [List.all_map];rfl
end
theorem vis_arn {m:Nat→Nat} {nx0 b0:Nat} {st0:SSt D} {T:List (List Nat)} {i:Nat} {cr:List (Nat×Nat)} (hL:Lay m nx0 b0 st0) {q:Nat} (hq:q<bigA):vis T nx0 i cr q=true:=by
 unfold vis;rw [show Nat.blt q nx0=true by rw [Nat.blt_eq];exact Nat.lt_of_lt_of_le hq hL.ge.1];rfl
theorem visW_arn {m:Nat→Nat} {nx0 b0:Nat} {st0:SSt D} {T:List (List Nat)} {i:Nat} {ws cr:List (Nat×Nat)} (hL:Lay m nx0 b0 st0) (hw:∀ p ∈ ws,Good b0 st0 p.2) {q:Nat} (hq:q<bigA):Dr.visW T (mapP m ws) nx0 i (mapP m cr) q=true:=by
 unfold Dr.visW;rw [vis_arn hL hq,Bool.true_and];unfold Dr.okW;refine List.all_eq_true.2 fun p hp=>?_
 obtain ⟨p',hp',rfl⟩:=List.mem_map.1 hp;have h1:=hL.geG (hw p' hp')
 have:Nat.beq (m p'.2) q=false:=by
  rw [←Bool.not_eq_true];intro e
  have:=Nat.eq_of_beq_eq_true e;omega
 simp [this]
section
variable {P:Program} {n:Nat} {m:Nat→Nat} {nx nx0 b0:Nat} {st0 st:SSt D} {T:List (List Nat)} {ws cr:List (Nat×Nat)} {i:Nat} {ops:Array Oper} {o:Oper}
theorem lclS_get (d:Nat):(lclS ops T ws b0 i cr st o).get d=look .any ((o.looksAt ops).map fun t=>(t,st.get t)) d:=rfl
theorem lclS_blk (k:Nat):(lclS ops T ws b0 i cr st o).blk k=bif visS T ws b0 i cr k then st.blk k else .dead:=by
 show look (look .dead [] k) ((st.heap++st.hk).filter fun p=>visS T ws b0 i cr p.1) k=_;have:(look .dead ([]:List (Nat×SB D)) k)=.dead:=rfl;rw [this,look_filt (f:=fun k=>visS T ws b0 i cr k),blk_look]
theorem lclS_mem:MemLe m st.blk m (lclS ops T ws b0 i cr st o).blk (fun _=>true) (fun _ _=>true):=by
 refine ⟨fun id _=>?_,fun id v _=>?_⟩
 ·cases hv:visS T ws b0 i cr id with
  | true=>right;unfold isBox;rw [lclS_blk,hv];exact ⟨rfl,rfl⟩
  | false=>left;unfold isBox;rw [lclS_blk,hv];rfl
 ·cases hv:visS T ws b0 i cr id with
  | true=>right;unfold rowLen;rw [lclS_blk,hv];exact ⟨rfl,rfl⟩
  | false=>left;unfold rowLen;rw [lclS_blk,hv];rfl
theorem lclS_mok (hm:MOk m nx st) {k:Nat} (hkA:bigA≤k) (hk:∀ j,(lclS ops T ws b0 i cr st o).blk j≠.dead→m j<k):MOk m k (lclS ops T ws b0 i cr st o):=by
 have live:∀ j,(lclS ops T ws b0 i cr st o).blk j≠.dead→st.blk j≠.dead:=by
  intro j hj;rw [lclS_blk] at hj
  cases hv:visS T ws b0 i cr j with
  | true=>rw [hv] at hj;exact hj
  | false=>rw [hv] at hj;exact absurd rfl hj
 refine ⟨hk,fun j j' h1 h2 e=>hm.inj j j' (live j h1) (live j' h2) e,fun p hp=>?_,fun h=>?_,hkA,fun j hj=>hm.ge.2 j (live j hj)⟩
 rotate_left
 ·rw [lclS_blk] at h
  cases hv:visS T ws b0 i cr 0 with
  | true=>rw [hv] at h;exact hm.ar' h
  | false=>rw [hv] at h;cases h
 have hp:p ∈ ((st.heap++st.hk).filter fun p=>visS T ws b0 i cr p.1)++[]:=hp;rw [List.append_nil] at hp;exact hm.keys p (List.mem_filter.1 hp).1
theorem lclS_les (hL:Lay m nx0 b0 st0) (hw:∀ p ∈ ws,Good b0 st0 p.2) (hc:∀ p ∈ cr,b0≤p.2) (hg:∀ k,st.blk k≠.dead→Good b0 st0 k) (hm:MOk m nx st) {k:Nat} (hkA:bigA≤k) (hk:∀ j,(lclS ops T ws b0 i cr st o).blk j≠.dead→m j<k) :
  LeS ((lclS ops T ws b0 i cr st o).enc m k) (Dr.lcl ops T (mapP m ws) nx0 i (mapP m cr) (st.enc m nx) o k):=by
 refine ⟨fun d=>?_,fun q=>?_,rfl⟩
 ·rw [enc_get,lclS_get];show Les _ (look .any ((o.looksAt ops).map fun t=>(t,look .any (st.enc m nx).regs t)) d);by_cases hd:d ∈ o.looksAt ops
  ·have key:∀ (l:List Nat),d ∈ l→look SV.any (l.map fun t=>(t,st.get t)) d=st.get d∧look AV.any (l.map fun t=>(t,look .any (st.enc m nx).regs t)) d=look .any (st.enc m nx).regs d:=by
    intro l
    induction l with
    | nil=>intro h;cases h
    | cons a l ih =>
     intro h;rw [List.map_cons,List.map_cons,look_cons,look_cons];by_cases e:a=d
     ·subst e;rw [if_pos rfl,if_pos rfl];exact ⟨rfl,rfl⟩
     ·rw [if_neg e,if_neg e];exact ih ((List.mem_cons.1 h).resolve_left fun e'=>e e'.symm)
   obtain ⟨e1,e2⟩:=key _ hd;rw [e1,e2,enc_get];exact enc_les lclS_mem _ (sv_refs_all _)
  ·rw [look_pick_in hd,SV.enc];exact .any _
 ·rcases heap_cases (lclS_mok hm hkA hk) q with h | ⟨j,h,e⟩ | ⟨h1,h2,h3⟩
  ·rw [h];exact .dead _
  rotate_left
  ·have hv:visS T ws b0 i cr 0=true:=by
    cases hv:visS T ws b0 i cr 0 with
    | true=>rfl
    | false=>rw [lclS_blk,hv] at h1;cases h1
   have e1:(lclS ops T ws b0 i cr st o).blk 0=st.blk 0:=by rw [lclS_blk,hv];rfl
   rw [e1] at h1 h3;rw [hm.ar' h1] at h2;rw [h3];show LesB _ (look .dead ((st.enc m nx).heap.filter fun p=>Dr.visW T (mapP m ws) nx0 i (mapP m cr) p.1) q);rw [look_filt (f:=fun id=>Dr.visW T (mapP m ws) nx0 i (mapP m cr) id),visW_arn hL hw h2,enc_look hm,h1,show Nat.blt q (m 0)=true by rw [hm.ar' h1,Nat.blt_eq];exact h2];exact .refl _
  ·subst e;rw [enc_blk (lclS_mok hm hkA hk) h]
   have hv:visS T ws b0 i cr j=true:=by
    cases hv:visS T ws b0 i cr j with
    | true=>rfl
    | false=>rw [lclS_blk,hv] at h;exact absurd rfl h
   have hlj:st.blk j≠.dead:=by rw [lclS_blk,hv] at h;exact h
   have hgj:=hg j hlj;show LesB _ (look .dead ((st.enc m nx).heap.filter fun p=>Dr.visW T (mapP m ws) nx0 i (mapP m cr) p.1) (m j))
   have hvv:Dr.visW T (mapP m ws) nx0 i (mapP m cr) (m j)=true:=by
    unfold Dr.visW;rw [vis_m hL hc hgj,okW_m hL hw hgj];exact hv
   rw [look_filt (f:=fun id=>Dr.visW T (mapP m ws) nx0 i (mapP m cr) id),hvv,enc_blk hm hlj];have e1:(lclS ops T ws b0 i cr st o).blk j=st.blk j:=by rw [lclS_blk,hv];rfl
   rw [e1];exact encB_les lclS_mem _ (sb_refs_all _)
theorem lt_of_rel {K:Kn} {a:Act} {w:World} {G:Gh} (hL:Lay m nx0 b0 st0) (hw:∀ p ∈ ws,Good b0 st0 p.2) (hc:∀ p ∈ cr,b0≤p.2) (hg:∀ k,st.blk k≠.dead→Good b0 st0 k) (hA:∀ j,(st.blk j).isA=true→(st0.blk j).isA=true) (hm:MOk m nx st) {k:Nat} (hkA:nx0≤k) (r:RelG K n (Dr.lcl ops T (mapP m ws) nx0 i (mapP m cr) (st.enc m nx) o k) a w G):∀ j,(lclS ops T ws b0 i cr st o).blk j≠.dead→m j<k:=by
 intro j h
 have hv:visS T ws b0 i cr j=true:=by
  cases hv:visS T ws b0 i cr j with
  | true=>rfl
  | false=>rw [lclS_blk,hv] at h;exact absurd rfl h
 have hlj:st.blk j≠.dead:=by rw [lclS_blk,hv] at h;exact h
 have hgj:=hg j hlj;have hb:=r.hr.blk (m j)
 have e1:look .dead (Dr.lcl ops T (mapP m ws) nx0 i (mapP m cr) (st.enc m nx) o k).heap (m j)=(st.blk j).enc m st.blk:=by
  show look .dead ((st.enc m nx).heap.filter fun p=>Dr.visW T (mapP m ws) nx0 i (mapP m cr) p.1) (m j)=_
  have hvv:Dr.visW T (mapP m ws) nx0 i (mapP m cr) (m j)=true:=by
   unfold Dr.visW;rw [vis_m hL hc hgj,okW_m hL hw hgj];exact hv
  rw [look_filt (f:=fun id=>Dr.visW T (mapP m ws) nx0 i (mapP m cr) id),hvv,enc_blk hm hlj];rfl
 rw [e1] at hb;have hn:G.nx=k:=r.nx;rw [←hn];have hA:=hA j;generalize st.blk j=b at hb hlj hA
 cases b with
 | dead=>exact absurd rfl hlj
 | box cs e=>rw [SB.enc] at hb;exact hb.1
 | row fr t xs e v=>rw [SB.enc] at hb;exact hb.1
 | arn t xs e =>
  rw [hn];have h1:st0.blk j≠.dead:=fun e=>by have:=hA rfl;rw [e] at this;cases this
  exact Nat.lt_of_lt_of_le (hL.old j (hL.lt j h1) h1) hkA
end
end Go.Proofs.Ytedmffbhklgloaa
/- Decompiling: regions that draw their order: the machine over terms says what they do. No program in sight. -/
namespace Go.Proofs.Ytedmffbhklgloaa
open Go Go.RowKit

theorem OpF.le {P:Program} {n:Nat} {s s':ASt} {o:Oper} {x:AV} (h:LeS s s') (k:OpF P n o s x):OpF P n o s' x:=⟨k.dst,fun K a w G r=>k.out K a w G (r.les h)⟩
theorem gdst_looks {ops:Array Oper} {o:Oper} {d:Nat} {want:Bool} (h:gdst ops o=some (d,want)):d ∈ o.looksAt ops:=by
 unfold gdst at h;unfold Oper.looksAt;split at h
 ·rename_i j want' hg;rw [Option.map_eq_some_iff] at h;obtain ⟨d',h1,h2⟩:=h;injection h2 with h2 _
  subst h2;rw [hg];simp [h1]
 ·cases h
theorem lregs_get {ops:Array Oper} {o:Oper} {s:ASt} {d:Nat} (hd:d ∈ o.looksAt ops):look .any (Dr.lregs ops s o) d=look .any s.regs d:=by
 unfold Dr.lregs
 revert hd
 generalize o.looksAt ops=l
 induction l with
 | nil=>intro h;cases h
 | cons a l ih =>
  intro h;rw [List.map_cons,look_cons];by_cases e:a=d
  ·subst e;rw [if_pos rfl]
  ·rw [if_neg e];exact ih ((List.mem_cons.1 h).resolve_left fun e'=>e e'.symm)
def nxOf (nx0 b0:Nat) (st:SSt D):Nat:=nx0+(st.nx-b0)
structure RI (F:List (Nat→AV)) (m:Nat→Nat) (nx0 b0:Nat) (st0 st:SSt D):Prop where
 mok:MOk m (nxOf nx0 b0 st) st
 ge:b0≤st.nx
 fr:FrOk m st.blk st.fr F
 fix:Fix st0 st
 good:∀ k,st.blk k≠.dead→Good b0 st0 k
 arn:∀ k,(st.blk k).isA=true→(st0.blk k).isA=true
section
variable {P:Program} {n:Nat} {F:List (Nat→AV)} {ρ:Ty} {fu:Nat} {C:DC} {r:ρ.den}
variable {m:Nat→Nat} {nx0 b0:Nat} {st0 st:SSt D} {T:List (List Nat)} {ws cr:List (Nat×Nat)} {i:Nat} {ops:Array Oper} {o:Oper} {l:List Oper} {Kt:ASt→Prop}
theorem RI.put (h:RI F m nx0 b0 st0 st) (d:Option Nat) (x:SV D):RI F m nx0 b0 st0 (st.put d x):=by
 have e:nxOf nx0 b0 (st.put d x)=nxOf nx0 b0 st:=by cases d <;> rfl
 refine ⟨by rw [e];exact put_mok h.mok d x,by cases d <;> exact h.ge,by rw [put_blk];cases d <;> exact h.fr,h.fix.trans (put_fix st d x),by rw [put_blk];exact h.good,by rw [put_blk];exact h.arn⟩
theorem arn_hset (h:RI F m nx0 b0 st0 st) {id:Nat} {b:SB D} (hb:b.isA=false) (k:Nat) (hk:((st.hset id b).blk k).isA=true):(st0.blk k).isA=true:=by
 rw [hset_blk] at hk;by_cases e:id=k
 ·rw [if_pos e,hb] at hk;cases hk
 ·rw [if_neg e] at hk;exact h.arn k hk
theorem gst_yesS (h:wantS ops o st=.yes) {nx:Nat} {W cr:List (Nat×Nat)}:o.guard=none∨gst ops o (Dr.lcl ops T W nx0 i cr (st.enc m nx) o 0)=some true:=by
 unfold wantS at h;split at h
 ·rename_i hg;exact .inl hg
 ·split at h
  ·cases h
  ·rename_i d want hg
   right
   have e:=wantV_yes (m:=m) (st:=st) h;rw [←enc_get st m nx,←lregs_get (gdst_looks hg)] at e;unfold gst;rw [hg]
   show (match look AV.any (Dr.lregs ops (st.enc m nx) o) d,want with
    | .bool true,true=>some true
    | .bool false,false=>some true
    | .bool true,false=>some false
    | .bool false,true=>some false
    | .und,_=>some false
    | _,_=>none)=_
   rw [e]
   cases want <;> rfl
theorem gst_noS (h:wantS ops o st=.no) {nx:Nat} {W cr:List (Nat×Nat)}:gst ops o (Dr.lcl ops T W nx0 i cr (st.enc m nx) o 0)=some false:=by
 obtain ⟨d,want,hg,hb⟩:=wantS_no (m:=m) (nx:=nx) h;rw [←lregs_get (gdst_looks hg)] at hb;unfold gst;rw [hg]
 show (match look AV.any (Dr.lregs ops (st.enc m nx) o) d,want with
  | .bool true,true=>some true
  | .bool false,false=>some true
  | .bool true,false=>some false
  | .bool false,true=>some false
  | .und,_=>some false
  | _,_=>none)=_
 rcases hb with hb | hb <;> rw [hb] <;> cases want <;> rfl
theorem gst_put {d:Nat} {want b:Bool} (hg:gdst ops o=some (d,want)) {nx:Nat} {W cr:List (Nat×Nat)}:gst ops o (Dr.lcl ops T W nx0 i cr ((st.put (some d) (.bool (.bL b))).enc m nx) o 0)=some (b==want):=by
 have e:look AV.any (Dr.lregs ops ((st.put (some d) (.bool (.bL b))).enc m nx) o) d=.bool b:=by
  rw [lregs_get (gdst_looks hg),put_enc];show look .any ((d,SV.enc m st.blk (.bool (.bL b)))::(st.enc m nx).regs) d=_;rw [look_self,SV.enc];rfl
 unfold gst;rw [hg]
 show (match look AV.any (Dr.lregs ops ((st.put (some d) (.bool (.bL b))).enc m nx) o) d,want with
  | .bool true,true=>some true
  | .bool false,false=>some true
  | .bool true,false=>some false
  | .bool false,true=>some false
  | .und,_=>some false
  | _,_=>none)=_
 rw [e]
 cases b <;> cases want <;> rfl
theorem lclS_memS:MemLe m (lclS ops T ws b0 i cr st o).blk m st.blk (visS T ws b0 i cr) (fun k _=>visS T ws b0 i cr k):=by
 have e:∀ k,visS T ws b0 i cr k=true→(lclS ops T ws b0 i cr st o).blk k=st.blk k:=fun k hk=>by rw [lclS_blk,hk];rfl
 exact ⟨fun id h=>.inr ⟨by unfold isBox;rw [e id h],rfl⟩,fun id v h=>.inr ⟨by unfold rowLen;rw [e id h],rfl⟩⟩
theorem nmdS (hL:Lay m nx0 b0 st0) (hc:∀ p ∈ cr,b0≤p.2) (hI:RI F m nx0 b0 st0 st) {x:SV D} (h:x.refs (visS T ws b0 i cr) (fun k _=>visS T ws b0 i cr k)=true):(x.enc m (lclS ops T ws b0 i cr st o).blk).nmd (vis T nx0 i (mapP m cr))=true:=by
 have key:∀ id,visS T ws b0 i cr id=true→(lclS ops T ws b0 i cr st o).blk id≠.dead→vis T nx0 i (mapP m cr) (m id)=true:=by
  intro id hv hb;rw [lclS_blk,hv] at hb;rw [vis_m hL hc (hI.good id hb)];unfold visS at hv;rw [Bool.and_eq_true] at hv;exact hv.1
 refine enc_nmd (fun id hp hb=>key id hp fun e=>?_) (fun id v n hp hb=>key id hp fun e=>?_) x h (.inr fun _ h=>vis_arn hL h)
 ·unfold isBox at hb;rw [e] at hb;cases hb
 ·unfold rowLen at hb;rw [e] at hb;cases hb
theorem liveS (hL:Lay m nx0 b0 st0) (hc:∀ p ∈ cr,b0≤p.2) (hI:RI F m nx0 b0 st0 st) {id:Nat} (hv:visS T ws b0 i cr id=true) (hb:st.blk id≠.dead):vis T nx0 i (mapP m cr) (m id)=true:=by
 rw [vis_m hL hc (hI.good id hb)];unfold visS at hv;rw [Bool.and_eq_true] at hv;exact hv.1
theorem rowD {q:Nat→Bool} (hq:∀ k,k<bigA→q k=true) (g:Bool) (t:Ty) (us:List t.den):(us.map (t.cells g)).all (AV.nmd.go q)=true:=by
 refine List.all_eq_true.2 fun row hr=>?_
 obtain ⟨x,_,rfl⟩:=List.mem_map.1 hr;have e1:SV.encL (fun k=>k) (fun _=>.dead) (cellsE g t (.var x:E D t))=t.cells g x:=cellsE_enc g t (.var x);rw [←e1];exact encL_nmd (pB:=fun _=>false) (pR:=fun _ _=>false) (fun id h=>by cases h) (fun id v n h=>by cases h) _ (cells_nmd _ _) (.inr hq)
theorem nmdB (hL:Lay m nx0 b0 st0) (hc:∀ p ∈ cr,b0≤p.2) (hI:RI F m nx0 b0 st0 st) {b:SB D} (h:b.refs (visS T ws b0 i cr) (fun k _=>visS T ws b0 i cr k)=true):(b.enc m st.blk).nmd (vis T nx0 i (mapP m cr))=true:=by
 cases b with
 | dead=>rfl
 | box cs e =>
  rw [SB.refs] at h;refine encL_nmd (fun id hp hb=>liveS hL hc hI hp fun e=>?_) (fun id v n hp hb=>liveS hL hc hI hp fun e=>?_) cs h (.inr fun _ h=>vis_arn hL h)
  ·unfold isBox at hb;rw [e] at hb;cases hb
  ·unfold rowLen at hb;rw [e] at hb;cases hb
 | row fr t xs e v=>exact rowD (fun _ h=>vis_arn hL h) fr t xs.den
 | arn t xs e=>rfl
theorem lregs_ev {s:ASt} {x:Operand} (hx:x ∈ o.op.operands.toList) {hp:List (Nat×AB)} {k:Nat}:(⟨Dr.lregs ops s o,hp,k⟩:ASt).ev x=s.ev x:=by
 cases x with
 | tmp t =>
  show look .any (Dr.lregs ops s o) t=look .any s.regs t;refine lregs_get ?_;unfold Oper.looksAt;rw [List.mem_append]
  left
  rw [List.mem_filterMap];exact ⟨.tmp t,hx,rfl⟩
 | const v=>rfl
 | global g=>rfl
 | func f=>rfl
theorem opWr_box {t:TypeId} {x y:Operand} {z:Option Value} {s b:Nat} {id off:Nat} {cs vs:List AV} {e:TypeId} {g:Option (Nat×Bool)} {ty:TypeId} {ps:String} {af:Array Edge} {st:ASt} (hx:st.ev x=.box id off) (hb:look .dead st.heap id=.box cs e) (hy:(st.ev y).cells=vs) (h1:allOne vs=true) (hI:tyI P t=some (z,s,b)) (hs:vs.length=s) (hle:off+s≤cs.length) :
  Dr.OpWr P n ⟨none,.store t x y,ty,ps,af,g⟩ st id (.box (setR cs off vs) e) .und:=⟨rfl,fun K a w G r=>by
 subst hy;have r:RelG ⟨K.w0,w,G⟩ n st a w G:=⟨r.nx,r.hr,Ext.refl _ _,r.size,r.defers,r.regs⟩;have e1:=r.ev x;rw [hx] at e1;have hcv:=(r.ev y).cellsV h1;obtain ⟨gg,us,e2,hρ,_,_,_⟩:=r.boxAt hb e1
 have hid:id<G.nx:=by
  have hk:=r.hr.blk id;rw [hb] at hk;exact hk.1
 obtain ⟨w',hrun,r2,hk2⟩:=RelG.storeBox (P:=P) (e:=e) hid hρ (st.ev y).cells (a.eval y).cells.toList 0 off cs w r hb (by have:=hcv.size;simp;omega) (by simpa using hcv.size) (fun v hv=>by
  obtain ⟨i,hi,hv⟩:=List.getElem_of_mem hv
  exact hcv.one i v (by rw [←hv];simp)) (fun j x' v hx' hv=>hcv.rel j x' v hx' (by simpa using hv))
 refine ⟨undef,w',G,.inr ⟨?_,rfl⟩,r2.hr,r2.ext,rfl,fun j hne=>⟨rfl,rfl,fun hj g hg=>hk2 g fun e=>?_⟩,.dat .und⟩
 ·simp [execOp,Instr.storeAt,e2,Instr.sureAddr,run_storeVar' hI (show (a.eval y).cells.size=s by rw [hcv.size,hs]),hrun]
 ·subst e
  exact r.hr.dist j id g hj hid hne hg (by rw [hρ];rfl)⟩
theorem opWr_elt {t:TypeId} {x y:Operand} {z:Option Value} {s b:Nat} {id q i o sz:Nat} {rows:List (List AV)} {e:TypeId} {row vs:List AV} {g:Option (Nat×Bool)} {ty:TypeId} {ps:String} {af:Array Edge} {st:ASt} (hx:st.ev x=.elt id q i o) (hb:look .dead st.heap id=.row sz rows e) (hm:q=rows.length) (hr:∀ row',rows[i]?=some row'→row'=row) (hy:(st.ev y).cells=vs) (h1:allOne vs=true) (hI:tyI P t=some (z,s,b)) (hs:vs.length=s) (hle:o+s≤sz) :
  Dr.OpWr P n ⟨none,.store t x y,ty,ps,af,g⟩ st id (.row sz (rows.set i (setR row o vs)) e) .und:=⟨rfl,fun K a w G r=>by
 subst hy;have r:RelG ⟨K.w0,w,G⟩ n st a w G:=⟨r.nx,r.hr,Ext.refl _ _,r.size,r.defers,r.regs⟩;have e1:=r.ev x;rw [hx] at e1
 have hi:i<rows.length:=by
  cases e1 with
  | dat h=>cases h
  | elt _ _ _ _ _ _ hin=>omega
 have hr:=List.getElem?_eq_getElem hi ▸ (show rows[i]?=some row by rw [←hr _ (List.getElem?_eq_getElem hi)];exact List.getElem?_eq_getElem hi);have hr:rows[i]?=some row:=by rw [List.getElem?_eq_getElem hi];exact hr
 have hcv:=(r.ev y).cellsV h1;obtain ⟨gg,c,flat,q1,q2,q3,q4,q5,q6,q7,q8⟩:=r.rowAt hb hm (by omega);generalize he:a.eval x=u at e1
 cases e1 with
 | dat h=>cases h
 | elt _ _ _ _ _ hid hin hs' hn hv' h =>
  obtain ⟨gg',c',e2,rfl⟩:=h (by rw [q5,hm]);rw [q1] at e2;injection e2 with e2 _ _
  injection e2 with e2
  injection e2 with e2 _ _
  subst e2;rw [q3] at he
  obtain ⟨w',hrun,r2,hk2⟩:=RelG.storeElt (P:=P) (K:=⟨K.w0,w,G⟩) (n:=n) (a:=a) (G:=G) (id:=id) (sz:=sz) (i:=i) (gg:=gg) (c:=c) (e:=e) (fun L hL=>by rw [q5] at hL;subst hL;exact q1) (st.ev y).cells (a.eval y).cells.toList 0 o rows row w st r hb hr (by have:=hcv.size;simp;omega) (by simpa using hcv.size) (fun v hv=>by
   obtain ⟨i,hi,hv⟩:=List.getElem_of_mem hv
   exact hcv.one i v (by rw [←hv];simp)) (fun j x' v hx' hv=>hcv.rel j x' v hx' (by simpa using hv))
  refine ⟨undef,w',G,.inr ⟨?_,rfl⟩,r2.hr,r2.ext,rfl,fun j hne=>⟨rfl,rfl,fun hj g hg=>hk2 g fun e=>?_⟩,.dat .und⟩
  ·simp [execOp,Instr.storeAt,he,Instr.sureAddr,run_storeVar' hI (show (a.eval y).cells.size=s by rw [hcv.size,hs]),hrun]
  ·subst e
   exact r.hr.dist j id g hj hid hne hg (by rw [q1];rfl)⟩
theorem all_set {α:Type} {p:α→Bool} {l:List α} {i:Nat} {x:α} (h:l.all p=true) (hx:p x=true):(l.set i x).all p=true:=by
 refine List.all_eq_true.2 fun y hy=>?_
 rcases List.mem_or_eq_of_mem_set hy with h' | h'
 ·exact List.all_eq_true.1 h y h'
 ·rw [h'];exact hx
theorem onlyW_m {id:Nat} (h:Dr.onlyW ws i id=true):Dr.onlyW (mapP m ws) i (m id)=true:=by
 unfold Dr.onlyW mapP at *
 rw [List.all_map];refine List.all_eq_true.2 fun p hp=>?_
 have:=List.all_eq_true.1 h p hp;show (bif Nat.beq p.1 i then Nat.beq (m p.2) (m id) else true)=true
 cases hb:Nat.beq p.1 i with
 | false=>rfl
 | true =>
  rw [hb] at this;have:=Nat.eq_of_beq_eq_true this;rw [this];exact Nat.beq_refl _
theorem storeB_ok {Tb:Tab} {t:TypeId} {a v:SV D} {id:Nat} {b:SB D} (h:storeB Tb st t a v=some (id,b)):∃ Z s bb off cs e,lk Tb.inf t=some (Z,s,bb)∧allOneS st v.cells=true∧v.cells.length=s∧a=.box id off∧st.blk id=.box cs e∧off+s≤cs.length∧b=.box (setRS cs off v.cells) e:=by
 unfold storeB at h;split at h
 ·rename_i Z s bb hI
  cases hc:(allOneS st v.cells&&Nat.beq v.cells.length s) with
  | false=>rw [hc] at h;cases h
  | true =>
   rw [hc] at h;simp only [cond_true] at h;rw [Bool.and_eq_true] at hc;split at h
   ·rename_i id' off;split at h
    ·rename_i cs e hb
     cases hl:Nat.ble (off+s) cs.length with
     | false=>rw [hl] at h;cases h
     | true =>
      rw [hl] at h;simp only [cond_true,Option.some.injEq,Prod.mk.injEq] at h;obtain ⟨rfl,rfl⟩:=h;exact ⟨Z,s,bb,off,cs,e,hI,hc.1,Nat.eq_of_beq_eq_true hc.2,rfl,hb,Nat.le_of_ble_eq_true hl,rfl⟩
    ·cases h
   ·cases h
 ·cases h
abbrev AGm (P:Program) (n:Nat) (ops:Array Oper) (T:List (List Nat)) (ws:List (Nat×Nat)) (nx0 b0:Nat) (m:Nat→Nat) (Kt:ASt→Prop) (i:Nat) (cr:List (Nat×Nat)) (l:List Oper) (st:SSt D):Prop :=
 Dr.AG P n ops T (mapP m ws) nx0 Kt i (mapP m cr) l (st.enc m (nxOf nx0 b0 st))
theorem AGm.put {d:Option Nat} {x:SV D} {y:AV} (hx:Les (x.enc m st.blk) y) (k:AGm P n ops T ws nx0 b0 m Kt i cr l (st.put d x)):Dr.AG P n ops T (mapP m ws) nx0 Kt i (mapP m cr) l ((st.enc m (nxOf nx0 b0 st)).put d y):=by
 have e:nxOf nx0 b0 (st.put d x)=nxOf nx0 b0 st:=by cases d <;> rfl
 refine .le ?_ k;rw [e,put_enc];exact (LeS.refl _).put hx
theorem skipR_ok (hd:dok o.dst n=true) (hW:Dr.noW ws i=true) (hg:gst ops o (Dr.lcl ops T (mapP m ws) nx0 i (mapP m cr) (st.enc m (nxOf nx0 b0 st)) o 0)=some false) (k:AGm P n ops T ws nx0 b0 m Kt (i+1) cr l (st.put o.dst .und)):AGm P n ops T ws nx0 b0 m Kt i cr (o::l) st:=by
 refine .step (.skip (by rw [noW_m];exact hW) hg hd) (AGm.put ?_ k);rw [SV.enc];exact .refl _
theorem exC_refs {pB:Nat→Bool} {pR:Nat→Nat→Bool} (fr:Bool):∀ (t:Ty) (cs:List (SV D)) (e:E D t) (rest:List (SV D)),exC fr t cs=some (e,rest)→SV.refsL pB pR cs=SV.refsL pB pR rest
 | .int k,cs,e,rest,h=>by
  cases cs with
  | nil=>rw [exC] at h;cases h;all_goals simp
  | cons c l =>
   cases c <;> simp only [exC,reduceCtorEq] at h
   split at h
   ·simp only [Option.some.injEq,Prod.mk.injEq] at h
    rw [←h.2,SV.refsL,SV.refs,Bool.true_and] <;> simp
   ·cases h
 | .bool,cs,e,rest,h=>by
  cases cs with
  | nil=>rw [exC] at h;cases h;all_goals simp
  | cons c l =>
   cases c <;> simp only [exC,reduceCtorEq,Option.some.injEq,Prod.mk.injEq] at h
   rw [←h.2,SV.refsL,SV.refs,Bool.true_and] <;> simp
 | .str,cs,e,rest,h=>by
  cases cs with
  | nil=>rw [exC] at h;cases h;all_goals simp
  | cons c l =>
   cases c <;> simp only [exC,reduceCtorEq,Option.some.injEq,Prod.mk.injEq] at h
   rw [←h.2,SV.refsL,SV.refs,Bool.true_and] <;> simp
 | .list t,cs,e,rest,h=>by
  cases cs with
  | nil=>rw [exC] at h;cases h;all_goals simp
  | cons c l =>
   cases c <;> simp only [exC,reduceCtorEq,Option.some.injEq,Prod.mk.injEq] at h
   ·rw [←h.2,SV.refsL,SV.refs,Bool.true_and] <;> simp
   ·rename_i fr' t' e'
    cases hc:(!fr||fr') with
    | false=>rw [hc] at h;cases h
    | true =>
     rw [hc] at h;simp only [cond_true] at h;split at h
     ·simp only [Option.some.injEq,Prod.mk.injEq] at h
      rw [←h.2,SV.refsL,SV.refs,Bool.true_and] <;> simp
     ·cases h
 | .aix,cs,e,rest,h=>by
  cases cs with
  | nil=>rw [exC] at h;cases h;all_goals simp
  | cons c l =>
   cases c <;> simp only [exC,reduceCtorEq,Option.some.injEq,Prod.mk.injEq] at h
   all_goals (rw [←h.2,SV.refsL,SV.refs,Bool.true_and] <;> simp)
 | .unit,cs,e,rest,h=>by
  rw [exC] at h;simp only [Option.some.injEq,Prod.mk.injEq] at h;rw [h.2]
 | .pair a b,cs,e,rest,h=>by
  rw [exC] at h;split at h
  ·rename_i x l' h1;split at h
   ·rename_i y l'' h2;simp only [Option.some.injEq,Prod.mk.injEq] at h;rw [←h.2];exact (exC_refs fr a cs x l' h1).trans (exC_refs fr b l' y l'' h2)
   ·cases h
  ·cases h
 | .agg t,cs,e,rest,h=>by
  rw [exC] at h;split at h
  ·rename_i x l' h1;simp only [Option.some.injEq,Prod.mk.injEq] at h;rw [←h.2];exact exC_refs fr t cs x l' h1
  ·cases h
 | .ptr t,cs,e,rest,h=>by
  rw [exC] at h;cases h
  all_goals simp
theorem exA_refs {pB:Nat→Bool} {pR:Nat→Nat→Bool} {fr:Bool} {t:Ty} {cs:List (SV D)} {e:E D t} (h:exA fr t cs=some e):SV.refsL pB pR cs=true:=by
 unfold exA at h;split at h
 ·rename_i x h1;rw [exC_refs fr t cs x [] h1,SV.refsL]
 ·cases h
theorem storeE_ok {Tb:Tab} {t:TypeId} {a v:SV D} {id:Nat} {b:SB D} (h:storeE Tb st t a v=some (id,b)):∃ (Z:Option Value) (s bb ver ver' off:Nat) (kk:IntKind) (ix:E D (.int kk)) (fr fr':Bool) (rt:Ty) (xs:E D (.list rt)) (e:TypeId) (x:E D rt),lk Tb.inf t=some (Z,s,bb)∧allOneS st v.cells=true∧v.cells.length=s∧a=.elt id ver ix off∧st.blk id=.row fr rt xs e ver'∧Nat.beq ver ver'=true∧off+s≤rt.size∧(!fr'||fr)=true∧exA fr' rt (setRS (cellsE fr rt (.at xs ix)) off v.cells)=some x∧b=.row fr' rt (.set xs ix x) e ver':=by
 unfold storeE at h;split at h
 ·rename_i Z s bb hI
  cases hc:(allOneS st v.cells&&Nat.beq v.cells.length s) with
  | false=>rw [hc] at h;cases h
  | true =>
   rw [hc] at h;simp only [cond_true] at h;rw [Bool.and_eq_true] at hc;split at h
   ·rename_i id' ver kk ix off;split at h
    ·rename_i fr rt xs e ver' hb
     cases hl:(Nat.beq ver ver'&&Nat.ble (off+s) rt.size) with
     | false=>rw [hl] at h;cases h
     | true =>
      rw [hl] at h;simp only [cond_true] at h;rw [Bool.and_eq_true] at hl;split at h
      ·rename_i x hx;simp only [Option.some.injEq,Prod.mk.injEq] at h;obtain ⟨rfl,rfl⟩:=h;exact ⟨Z,s,bb,ver,ver',off,kk,ix,fr,fr,rt,xs,e,x,hI,hc.1,Nat.eq_of_beq_eq_true hc.2,rfl,hb,hl.1,Nat.le_of_ble_eq_true hl.2,by cases fr <;> rfl,hx,rfl⟩
      ·split at h
       ·rename_i x hx;simp only [Option.some.injEq,Prod.mk.injEq] at h;obtain ⟨rfl,rfl⟩:=h;exact ⟨Z,s,bb,ver,ver',off,kk,ix,fr,false,rt,xs,e,x,hI,hc.1,Nat.eq_of_beq_eq_true hc.2,rfl,hb,hl.1,Nat.le_of_ble_eq_true hl.2,rfl,hx,rfl⟩
       ·cases h
    ·cases h
   ·cases h
 ·cases h
def SB.isRow {V:Ty→Type} (b:SB V):Bool:=match b with
 | .row ..=>true
 | _=>false
theorem SrcA.mono {hp hp':List (Nat×AB)} {sz:Nat} {x:AV} {new:List (List AV)} (h:SrcA hp sz x new) (hh:∀ id n,x=.osl id n∨(∃ lo len,x=.vsl id n lo len)→look .dead hp' id=look .dead hp id):SrcA hp' sz x new:=by
 cases h with
 | ro fr _ h=>exact .ro fr _ h
 | osl id n _ e h hn=>exact .osl id n _ e ((hh id n (.inl rfl)).trans h) hn
 | vsl id n lo len rows0 _ e h hn hr=>exact .vsl id n lo len rows0 _ e ((hh id n (.inr ⟨lo,len,rfl⟩)).trans h) hn hr
 | nils=>exact .nils
def arnIds (x:SV D):List Nat:=match x with
 | .aosl e=>[(e.den:Int×Int).1.toNat]
 | _=>[]
theorem enc_ids {m:Nat→Nat} {H:Nat→SB D} {x:SV D} {j q:Nat} (hn:notA x=true) (h:x.enc m H=.osl j q∨∃ lo len,x.enc m H=.vsl j q lo len):(∃ j' ∈ idsA x,j=m j')∨j ∈ arnIds x:=by
 cases x with
 | box id off=>cases hb:isBox H id <;> simp [SV.enc,hb] at h
 | elt id ver i off=>cases hr:rowLen H id ver <;> simp [SV.enc,hr] at h
 | osl id ver =>
  cases hr:rowLen H id ver with
  | none=>simp [SV.enc,hr] at h
  | some n =>
   simp [SV.enc,hr] at h;exact .inl ⟨id,List.mem_singleton.2 rfl,h.1.symm⟩
 | vsl id ver lo hi =>
  cases hr:rowLen H id ver with
  | none=>simp [SV.enc,hr] at h
  | some n =>
   simp [SV.enc,hr] at h;exact .inl ⟨id,List.mem_singleton.2 rfl,h.1.symm⟩
 | aosl e =>
  right
  rw [SV.enc] at h;unfold aixAV at h
  cases hq:(decide (0≤(e.den:Int×Int).1)&&decide ((e.den:Int×Int).1<(bigA:Int))) with
  | false=>rw [hq] at h;simp at h
  | true =>
   rw [hq] at h;simp at h;exact List.mem_singleton.2 h.1.symm
 | aelt _ _=>cases hn
 | _=>simp [SV.enc] at h
theorem opWr_app {e:TypeId} {z:Value} {sz b id q:Nat} {rows new:List (List AV)} {t:TypeId} {x y:Operand} {d:Option Nat} {g:Option (Nat×Bool)} {ty:TypeId} {ps:String} {af:Array Edge} {s:ASt} (hx:s.ev x=.osl id q) (hb:look .dead s.heap id=.row sz rows e) (hm:q=rows.length) (hs:SrcA s.heap sz (s.ev y) new)
  (hT:P.underlying t=some (.slice e)) (hI:tyI P e=some (some z,sz,b)) (hz:z.cells.size=sz) (h63:(rows.length+new.length)*bmul b≤140737488355328) (hd:dok d n=true) :
  Dr.OpWr P n ⟨d,.call ⟨.builtin .append,⟨[x,y]⟩,⟨[t,t]⟩⟩,ty,ps,af,g⟩ s id (.row sz (rows++new) e) (.osl id (rows.length+new.length)):=⟨hd,fun K a w G r=>by
 obtain ⟨v,w',G',h1,h2,h3,h4,h5,h6⟩:=op_append_g (d:=d) (ty:=ty) (ps:=ps) (af:=af) (g:=g) hx hb rfl hm rfl hs hT hI hz h63 r
 exact ⟨v,w',G',.inl h1,h2,h3,h4,h5,h6⟩⟩
theorem appR_ok (hC:C.ok P) (hL:Lay m nx0 b0 st0) (hws:∀ p ∈ ws,Good b0 st0 p.2) (hc:∀ p ∈ cr,b0≤p.2) (hI:RI F m nx0 b0 st0 st) {d:Option Nat} {t:TypeId} {y z:Operand} {ty:TypeId} {ps:String} {af:Array Edge} {gg:Option (Nat×Bool)} (hd:dok d n=true)
  (hg:(⟨d,.call ⟨.builtin .append,⟨[y,z]⟩,⟨[t,t]⟩⟩,ty,ps,af,gg⟩:Oper).guard=none∨gst ops (⟨d,.call ⟨.builtin .append,⟨[y,z]⟩,⟨[t,t]⟩⟩,ty,ps,af,gg⟩:Oper) (Dr.lcl ops T (mapP m ws) nx0 i (mapP m cr) (st.enc m (nxOf nx0 b0 st)) (⟨d,.call ⟨.builtin .append,⟨[y,z]⟩,⟨[t,t]⟩⟩,ty,ps,af,gg⟩:Oper) 0)=some true)
  {K:List (Nat×Nat)→SSt D→G D (KD ρ) ρ} (h:(appR C T ws b0 i cr st d t (st.ev y) (st.ev z) K).den fu=some r)
  (k:∀ cr' st',RI F m nx0 b0 st0 st'→(∀ p ∈ cr',b0≤p.2)→(K cr' st').den fu=some r→AGm P n ops T ws nx0 b0 m Kt (i+1) cr' l st'):AGm P n ops T ws nx0 b0 m Kt i cr (⟨d,.call ⟨.builtin .append,⟨[y,z]⟩,⟨[t,t]⟩⟩,ty,ps,af,gg⟩::l) st:=by
 unfold appR at h;have ez:=enc_ev st m (nxOf nx0 b0 st) z;split at h
 ·rename_i id b x gd happ
  cases hb:(visS T ws b0 i cr id&&(ws.any fun p=>Nat.beq p.1 i&&Nat.beq p.2 id)&&Dr.onlyW ws i id&&(idsA (st.ev z)).all (fun j=>visS T ws b0 i cr j)&&notA (st.ev z)) with
  | false=>rw [hb] at h;cases h
  | true =>
   rw [hb] at h;simp only [cond_true] at h;obtain ⟨hgd,h2⟩:=grdG_den h;clear h;simp only [Bool.and_eq_true] at hb;obtain ⟨⟨⟨⟨b1,b2⟩,b3⟩,b4⟩,b5⟩:=hb;have ey:=enc_ev st m (nxOf nx0 b0 st) y;generalize st.ev y=v0 at happ ey;unfold appS at happ;split at happ
   ·rename_i e hu;split at happ
    ·rename_i Z sz bb hI'
     cases hc0:(Nat.beq Z.cells.size sz&&Nat.blt 0 sz) with
     | false=>rw [hc0] at happ;cases happ
     | true =>
      rw [hc0] at happ;simp only [cond_true] at happ;rw [Bool.and_eq_true] at hc0;have hz:=Nat.eq_of_beq_eq_true hc0.1;split at happ
      ·rename_i id' ver;split at happ
       ·rename_i fr rt xs e' v hblk
        cases hc2:(Nat.beq ver v&&(Nat.beq e' e&&(Nat.beq sz rt.size&&rt.flatA))) with
        | false=>rw [hc2] at happ;cases happ
        | true =>
         rw [hc2] at happ;simp only [cond_true] at happ;simp only [Bool.and_eq_true] at hc2;obtain ⟨hv,he,hsz,hfl⟩:=hc2;have he:=Nat.eq_of_beq_eq_true he;have hsz:=Nat.eq_of_beq_eq_true hsz;subst he;subst hsz;split at happ
         ·rename_i fr' ys hy
          cases hr:st.refs (fun _=>true) (fun i w=>!(Nat.beq i id'&&Nat.beq w (v+1))) with
          | false=>rw [hr] at happ;cases happ
          | true =>
           rw [hr] at happ;simp only [cond_true,Option.some.injEq,Prod.mk.injEq,MR.upd.injEq] at happ;obtain ⟨⟨rfl,rfl,rfl⟩,rfl⟩:=happ;have hlive:st.blk id'≠.dead:=by rw [hblk];simp
           have hbb:=enc_blk hI.mok hlive;have hbb':=hbb;rw [hblk,SB.enc] at hbb';rw [SV.enc,rowLen_eq hblk hv] at ey;obtain ⟨hG,hgd⟩:=andE_b hgd;have hsrc:=srcC_ok (y:=z) (nx:=nxOf nx0 b0 st) hfl hI.mok hG hy
           have harn:∀ j ∈ arnIds (st.ev z),j<bigA∧(look .dead (st.enc m (nxOf nx0 b0 st)).heap j).nmd (vis T nx0 i (mapP m cr))=true:=by
            intro j hj;have hy':=hy;have hG':=hG
            cases hzv:st.ev z <;> rw [hzv] at hj hy' hG' <;> simp only [arnIds,List.not_mem_nil,List.mem_singleton] at hj
            unfold srcC at hy';unfold srcG at hG';simp only at hy' hG';split at hy'
            ·rename_i t' xs' ha;obtain ⟨e0,hb0⟩:=arnOf_blk ha;simp only [ha] at hG';subst hj;rcases arnN_den hG' with ⟨_,hG'⟩ | ⟨_,hn⟩
             ·obtain ⟨a1,a2,_,_,a5⟩:=arn_at hI.mok hb0 hG';rw [hI.mok.ar' (by rw [hb0];rfl)] at a5;exact ⟨a5,by rw [a2];exact rowD (fun _ h=>vis_arn hL h) false _ _⟩
             ·have h0:=Int.toNat_of_nonpos (show _≤(0:Int) from Int.le_of_lt (Int.not_le.1 hn));rw [h0];have hm0:=hI.mok.ar' (by rw [hb0];rfl);have hlt0:0<m 0:=by rw [hm0];decide
              exact ⟨by decide,by rw [arn_look hI.mok hb0 hlt0];exact rowD (fun _ h=>vis_arn hL h) false _ _⟩
            ·cases hy'
           have hgg:=leE_den hgd;have hgg:((List.length xs.den:Int)+(List.length ys.den:Int))*((bmul bb:Nat):Int)≤140737488355328:=hgg;have h63:(List.length xs.den+List.length ys.den)*bmul bb≤140737488355328:=nat_of2 hgg
           have hnew:rowLen (st.hset id' (.row (fr&&fr') rt (.app xs ys) e' (v+1))).blk id' (v+1)=some (List.length xs.den+List.length ys.den):=by
            unfold rowLen;rw [hset_blk,if_pos rfl];simp only [Nat.beq_refl,cond_true];show some (List.length (List.append _ _))=_;rw [List.append_eq,List.length_append]
           have hle:MemLe m st.blk m (st.hset id' (.row (fr&&fr') rt (.app xs ys) e' (v+1))).blk (fun _=>true) (fun i w=>!(Nat.beq i id'&&Nat.beq w (v+1))):=by
            refine ⟨fun k _=>.inr ⟨?_,rfl⟩,fun k w hw=>?_⟩
            ·unfold isBox;rw [hset_blk];by_cases e1:id'=k
             ·subst e1;rw [if_pos rfl,hblk]
             ·rw [if_neg e1]
            ·by_cases e1:id'=k
             ·subst e1;have hw:(!(Nat.beq id' id'&&Nat.beq w (v+1)))=true:=hw;rw [Nat.beq_refl,Bool.true_and] at hw;refine .inl ?_;unfold rowLen;rw [hset_blk,if_pos rfl]
              cases hq:Nat.beq w (v+1) with
              | true=>rw [hq] at hw;cases hw
              | false=>simp only [hq];rfl
             ·refine .inr ⟨?_,rfl⟩;unfold rowLen;rw [hset_blk,if_neg e1]
           have hset:=hset_les (b:=.row (fr&&fr') rt (.app xs ys) e' (v+1)) (b':=.row rt.size ((xs.den:List rt.den).map (rt.cells fr)++(ys.den:List rt.den).map (rt.cells fr')) e') hI.mok (.refl _) (by rw [hblk];exact SB.norm_row ..) (SB.norm_row ..) hle hr (by
            rw [SB.enc];refine .rows ?_;show LesRs (((xs.den:List rt.den)++(ys.den:List rt.den)).map (rt.cells (fr&&fr'))) _;rw [List.map_append]
            exact (rows_le (by cases fr <;> cases fr' <;> rfl) rt _).append (rows_le (by cases fr <;> cases fr' <;> rfl) rt _)) hI.fr
           have hRI:RI F m nx0 b0 st0 (st.hset id' (.row (fr&&fr') rt (.app xs ys) e' (v+1))):=⟨hset.1,hI.ge,hset.2.2,hI.fix.trans ⟨rfl,rfl,rfl⟩,fun k hk=>hI.good k (by
            rw [hset_blk] at hk;by_cases e1:id'=k
            ·subst e1;exact hlive
            ·rw [if_neg e1] at hk;exact hk),arn_hset hI rfl⟩
           have hvis:∀ j,visS T ws b0 i cr j=true→st.blk j≠.dead→Dr.visW T (mapP m ws) nx0 i (mapP m cr) (m j)=true:=by
            intro j hj hjl;unfold Dr.visW;rw [liveS hL hc hI hj hjl,okW_m hL hws (hI.good j hjl)];unfold visS at hj;rw [Bool.and_eq_true] at hj;rw [hj.2];rfl
           have hrowD:∀ (g:Bool) (us:List rt.den),(us.map (rt.cells g)).all (AV.nmd.go (vis T nx0 i (mapP m cr)))=true:=fun g us=>rowD (fun _ h=>vis_arn hL h) g rt us
           have hnmd:∀ j,(st.blk j).isRow=true→((st.blk j).enc m st.blk).nmd (vis T nx0 i (mapP m cr))=true:=by
            intro j hj
            cases hbj:st.blk j with
            | dead=>rw [hbj] at hj;cases hj
            | box cs e=>rw [hbj] at hj;cases hj
            | row fr2 t2 xs2 e2 v2 =>
             exact rowD (fun _ h=>vis_arn hL h) fr2 t2 xs2.den
            | arn t2 xs2 e2=>rfl
           have hzrow:∀ j ∈ idsA (st.ev z),(st.blk j).isRow=true:=by
            intro j hj;have hy':=hy;unfold srcC at hy'
            cases hzv:st.ev z <;> rw [hzv] at hj hy' <;> simp only [idsA,List.not_mem_nil,List.mem_singleton] at hj
            ·subst hj;simp only [srcS] at hy';split at hy'
             ·rename_i hbj;rw [hbj];rfl
             ·cases hy'
            ·subst hj;split at hy'
             ·rename_i a1 a2 a3 a4 hh;injection hh with q1 q2 q3 q4
              subst q1;split at hy'
              ·rename_i hbj;rw [hbj];rfl
              ·cases hy'
             ·rename_i hno;cases hno
             ·rename_i hno _;exact absurd rfl (hno _ _ _ _)
           have hzlive:∀ j ∈ idsA (st.ev z),st.blk j≠.dead:=by
            intro j hj e1;have:=hzrow j hj;rw [e1] at this;cases this
           refine .step (.write (id:=m id') (b:=.row rt.size ((xs.den:List rt.den).map (rt.cells fr)++(ys.den:List rt.den).map (rt.cells fr')) e') (x:=.osl (m id') (List.length xs.den+List.length ys.den)) (m id'::((idsA (st.ev z)).map m++arnIds (st.ev z))) (fun j hj=>?_) hg ?_ ?_ (onlyW_m b3) (fun hp kk _ hhp=>?_) ?_ ?_) (.le ?_ (k cr _ (hRI.put _ _) hc h2))
           ·rcases List.mem_cons.1 hj with rfl | hj
            ·exact ⟨hvis _ b1 hlive,by rw [hbb];exact hnmd id' (by rw [hblk];rfl)⟩
            ·rcases List.mem_append.1 hj with hj | hj
             rotate_left
             ·exact ⟨visW_arn hL hws (harn j hj).1,(harn j hj).2⟩
             obtain ⟨j',hj',rfl⟩:=List.mem_map.1 hj;have hl':=hzlive j' hj';exact ⟨hvis _ (List.all_eq_true.1 b4 j' hj') hl',by rw [enc_blk hI.mok hl'];exact hnmd j' (hzrow j' hj')⟩
           ·exact hvis _ b1 hlive
           ·obtain ⟨p,hp,hpe⟩:=List.any_eq_true.1 b2;rw [Bool.and_eq_true] at hpe;have e1:=Nat.eq_of_beq_eq_true hpe.1;have e2:=Nat.eq_of_beq_eq_true hpe.2;exact List.mem_map.2 ⟨p,hp,by rw [e1,e2]⟩
           ·have hzz:=lregs_ev (o:=⟨d,.call ⟨.builtin .append,⟨[y,z]⟩,⟨[t,t]⟩⟩,ty,ps,af,gg⟩) (ops:=ops) (s:=st.enc m (nxOf nx0 b0 st)) (x:=z) (hp:=hp) (k:=kk) (by simp [Op.operands,Call.operands]);have hyy:=lregs_ev (o:=⟨d,.call ⟨.builtin .append,⟨[y,z]⟩,⟨[t,t]⟩⟩,ty,ps,af,gg⟩) (ops:=ops) (s:=st.enc m (nxOf nx0 b0 st)) (x:=y) (hp:=hp) (k:=kk) (by simp [Op.operands,Call.operands])
            have hsrc':SrcA hp rt.size ((⟨Dr.lregs ops (st.enc m (nxOf nx0 b0 st)) ⟨d,.call ⟨.builtin .append,⟨[y,z]⟩,⟨[t,t]⟩⟩,ty,ps,af,gg⟩,hp,kk⟩:ASt).ev z) ((ys.den:List rt.den).map (rt.cells fr')):=by
             rw [hzz];refine hsrc.mono fun j q hj=>?_
             rw [ez] at hj;rcases enc_ids b5 hj with ⟨j',h1,rfl⟩ | h1
             ·exact hhp _ (List.mem_cons_of_mem _ (List.mem_append.2 (.inl (List.mem_map_of_mem h1))))
             ·exact hhp _ (List.mem_cons_of_mem _ (List.mem_append.2 (.inr h1)))
            have:=opWr_app (P:=P) (n:=n) (d:=d) (ty:=ty) (ps:=ps) (af:=af) (g:=gg) (hyy.trans ey) ((hhp (m id') (List.mem_cons_self ..)).trans hbb') (rows_len _).symm hsrc' (allP_at hC.T.und hu) (allP_at hC.T.inf hI') hz (by rw [rows_len,rows_len];exact h63) hd;rw [rows_len,rows_len] at this;exact this
           ·show (((xs.den:List rt.den).map (rt.cells fr))++((ys.den:List rt.den).map (rt.cells fr'))).all _=true;rw [List.all_append,hrowD,hrowD];rfl
           ·exact liveS hL hc hI b1 hlive
           ·have hnx:nxOf nx0 b0 ((st.hset id' (.row (fr&&fr') rt (.app xs ys) e' (v+1))).put d (.osl id' (v+1)))=nxOf nx0 b0 st:=by cases d <;> rfl
            show LeS (((st.hset id' _).put d (.osl id' (v+1))).enc m _) _;rw [hnx,put_enc];refine hset.2.1.put ?_;rw [SV.enc,hnew];exact .refl _
         ·cases happ
       ·cases happ
      ·split at happ
       ·rename_i rt hty
        cases hc3:(Nat.beq sz rt.size&&rt.flatA) with
        | false=>rw [hc3] at happ;cases happ
        | true =>
         rw [hc3] at happ;simp only [cond_true] at happ
         split at happ <;> cases happ
       ·cases happ
      ·cases happ
    ·cases happ
   ·cases happ
 ·cases h
theorem writeR_ok (hC:C.ok P) (hL:Lay m nx0 b0 st0) (hws:∀ p ∈ ws,Good b0 st0 p.2) (hc:∀ p ∈ cr,b0≤p.2) (hI:RI F m nx0 b0 st0 st) (hd:dok o.dst n=true)
  (hg:o.guard=none∨gst ops o (Dr.lcl ops T (mapP m ws) nx0 i (mapP m cr) (st.enc m (nxOf nx0 b0 st)) o 0)=some true)
  {K:List (Nat×Nat)→SSt D→G D (KD ρ) ρ} (h:(writeR C T ws b0 i cr st o K).den fu=some r)
  (k:∀ cr' st',RI F m nx0 b0 st0 st'→(∀ p ∈ cr',b0≤p.2)→(K cr' st').den fu=some r→AGm P n ops T ws nx0 b0 m Kt (i+1) cr' l st'):AGm P n ops T ws nx0 b0 m Kt i cr (o::l) st:=by
 obtain ⟨d,op,ty,ps,af,gg⟩:=o;unfold writeR at h;simp only at h;split at h
 ·rename_i t y z;split at h
  ·rename_i id b hs
   cases hb:(visS T ws b0 i cr id&&(ws.any fun p=>Nat.beq p.1 i&&Nat.beq p.2 id)&&Dr.onlyW ws i id&&b.refs (visS T ws b0 i cr) (fun k _=>visS T ws b0 i cr k)&&(st.blk id).refs (visS T ws b0 i cr) (fun k _=>visS T ws b0 i cr k)) with
   | false=>rw [hb] at h;cases h
   | true =>
    rw [hb] at h;simp only [cond_true] at h;simp only [Bool.and_eq_true] at hb;obtain ⟨⟨⟨⟨b1,b2⟩,b3⟩,b4⟩,b5⟩:=hb;obtain ⟨Z,s,bb,off,cs,e,hI',h1,hls,ha,hblk,hle,rfl⟩:=storeB_ok hs;have hlive:st.blk id≠.dead:=by rw [hblk];simp
    have hi:isBox st.blk id=true:=by unfold isBox;rw [hblk]
    have ey:(st.enc m (nxOf nx0 b0 st)).ev y=.box (m id) off:=by rw [enc_ev,ha,SV.enc,hi];rfl
    have ez:((st.enc m (nxOf nx0 b0 st)).ev z).cells=SV.encL m st.blk (st.ev z).cells:=by rw [enc_ev,enc_cells]
    have hbb:=enc_blk hI.mok hlive;have hbb':=hbb;rw [hblk,SB.enc] at hbb'
    have hset:=hset_les (b:=.box (setRS cs off (st.ev z).cells) e) (b':=.box (setR (SV.encL m st.blk cs) off (SV.encL m st.blk (st.ev z).cells)) e) (pB:=fun _=>true) (pR:=fun _ _=>true) hI.mok (.refl _) (by rw [hblk];exact SB.norm_box ..) (SB.norm_box ..) (memLe_box hblk) (refs_all st) (by
     rw [SB.enc,setRS_enc];have hH:∀ l:List (SV D),LesL (SV.encL m (st.hset id (.box (setRS cs off (st.ev z).cells) e)).blk l) (SV.encL m st.blk l):=fun l=>encL_les (memLe_box (pB:=fun _=>true) (pR:=fun _ _=>true) hblk) l (svL_refs_all l)
     exact .box e (setR_les (hH cs) (hH _) off)) hI.fr
    have hRI:RI F m nx0 b0 st0 (st.hset id (.box (setRS cs off (st.ev z).cells) e)):=⟨hset.1,hI.ge,hset.2.2,hI.fix.trans ⟨rfl,rfl,rfl⟩,fun k hk=>hI.good k (by
     rw [hset_blk] at hk;by_cases e':id=k
     ·subst e';exact hlive
     ·rw [if_neg e'] at hk;exact hk),arn_hset hI rfl⟩
    refine .step (.write (id:=m id) (b:=.box (setR (SV.encL m st.blk cs) off (SV.encL m st.blk (st.ev z).cells)) e) (x:=.und) [m id] (fun j hj=>?_) hg ?_ ?_ (onlyW_m b3) (fun hp kk _ hhp=>?_) ?_ rfl) (.le ?_ (k cr _ hRI hc h))
    ·rw [List.mem_singleton] at hj;subst hj;refine ⟨?_,?_⟩
     ·unfold Dr.visW;rw [liveS hL hc hI b1 hlive,okW_m hL hws (hI.good id hlive)];unfold visS at b1;rw [Bool.and_eq_true] at b1;rw [b1.2];rfl
     ·rw [hbb];exact nmdB hL hc hI b5
    ·unfold Dr.visW;rw [liveS hL hc hI b1 hlive,okW_m hL hws (hI.good id hlive)];unfold visS at b1;rw [Bool.and_eq_true] at b1;rw [b1.2];rfl
    ·obtain ⟨p,hp,hpe⟩:=List.any_eq_true.1 b2;rw [Bool.and_eq_true] at hpe;have e1:=Nat.eq_of_beq_eq_true hpe.1;have e2:=Nat.eq_of_beq_eq_true hpe.2;exact List.mem_map.2 ⟨p,hp,by rw [e1,e2]⟩
    ·have hz:=lregs_ev (o:=⟨none,.store t y z,ty,ps,af,gg⟩) (ops:=ops) (s:=st.enc m (nxOf nx0 b0 st)) (x:=z) (hp:=hp) (k:=kk) (by simp [Op.operands]);have hy:=lregs_ev (o:=⟨none,.store t y z,ty,ps,af,gg⟩) (ops:=ops) (s:=st.enc m (nxOf nx0 b0 st)) (x:=y) (hp:=hp) (k:=kk) (by simp [Op.operands]);refine opWr_box (hy.trans ey) ((hhp (m id) (by simp)).trans hbb') (by rw [hz,ez]) (allOneS_enc h1) (allP_at hC.T.inf hI') (by rw [encL_length];exact hls) (by rw [encL_length];exact hle)
    ·have:=nmdB (b:=.box (setRS cs off (st.ev z).cells) e) hL hc hI b4;rw [SB.enc,setRS_enc] at this;exact this
    ·exact hset.2.1
  ·split at h
   ·rename_i id b hs
    cases hb:(visS T ws b0 i cr id&&(ws.any fun p=>Nat.beq p.1 i&&Nat.beq p.2 id)&&Dr.onlyW ws i id&&(st.blk id).refs (visS T ws b0 i cr) (fun k _=>visS T ws b0 i cr k)) with
    | false=>rw [hb] at h;cases h
    | true =>
     rw [hb] at h;simp only [cond_true] at h;simp only [Bool.and_eq_true] at hb;obtain ⟨⟨⟨b1,b2⟩,b3⟩,b5⟩:=hb;obtain ⟨Z,s,bb,ver,ver',off,kk,ix,fr,fr',rt,xs,e,x,hI',h1,hls,ha,hblk,hver,hle,hfr,hx,rfl⟩:=storeE_ok hs;have hlive:st.blk id≠.dead:=by rw [hblk];simp
     have ey:(st.enc m (nxOf nx0 b0 st)).ev y=.elt (m id) (List.length xs.den) (Int.toNat ix.den) off:=by rw [enc_ev,ha,SV.enc,rowLen_eq hblk hver]
     have ez:((st.enc m (nxOf nx0 b0 st)).ev z).cells=SV.encL m st.blk (st.ev z).cells:=by rw [enc_ev,enc_cells]
     have hbb:=enc_blk hI.mok hlive;have hbb':=hbb;rw [hblk,SB.enc] at hbb';have hcell:=exA_ok (m:=m) (H:=st.blk) hx;have hcn:=encL_nmd (m:=m) (H:=st.blk) (pB:=fun _=>false) (pR:=fun _ _=>false) (q:=vis T nx0 i (mapP m cr)) (fun id h=>by cases h) (fun id v n h=>by cases h) _ (exA_refs hx) (.inr fun _ h=>vis_arn hL h);rw [setRS_enc,cellsE_enc] at hcell;rw [setRS_enc,cellsE_enc] at hcn
     have hset:=hset_les (b:=.row fr' rt (.set xs ix x) e ver') (b':=.row rt.size (((xs.den:List rt.den).map (rt.cells fr)).set (Int.toNat ix.den) (setR (rt.cells fr (E.at xs ix).den) off (SV.encL m st.blk (st.ev z).cells))) e) (pB:=fun _=>true) (pR:=fun _ _=>true) hI.mok (.refl _) (by rw [hblk];exact SB.norm_row ..) (SB.norm_row ..) (memLe_set hblk (by
      show List.length (List.set _ _ _)=_
      rw [List.length_set])) (refs_all st) (.rows (rows_set hfr hcell)) hI.fr
     have hRI:RI F m nx0 b0 st0 (st.hset id (.row fr' rt (.set xs ix x) e ver')):=⟨hset.1,hI.ge,hset.2.2,hI.fix.trans ⟨rfl,rfl,rfl⟩,fun k hk=>hI.good k (by
      rw [hset_blk] at hk;by_cases e':id=k
      ·subst e';exact hlive
      ·rw [if_neg e'] at hk;exact hk),arn_hset hI rfl⟩
     refine .step (.write (id:=m id) (b:=.row rt.size (((xs.den:List rt.den).map (rt.cells fr)).set (Int.toNat ix.den) (setR (rt.cells fr (E.at xs ix).den) off (SV.encL m st.blk (st.ev z).cells))) e) (x:=.und) [m id] (fun j hj=>?_) hg ?_ ?_ (onlyW_m b3) (fun hp kk _ hhp=>?_) ?_ rfl) (.le ?_ (k cr _ hRI hc h))
     ·rw [List.mem_singleton] at hj;subst hj;refine ⟨?_,?_⟩
      ·unfold Dr.visW;rw [liveS hL hc hI b1 hlive,okW_m hL hws (hI.good id hlive)];unfold visS at b1;rw [Bool.and_eq_true] at b1;rw [b1.2];rfl
      ·rw [hbb];exact nmdB hL hc hI b5
     ·unfold Dr.visW;rw [liveS hL hc hI b1 hlive,okW_m hL hws (hI.good id hlive)];unfold visS at b1;rw [Bool.and_eq_true] at b1;rw [b1.2];rfl
     ·obtain ⟨p,hp,hpe⟩:=List.any_eq_true.1 b2;rw [Bool.and_eq_true] at hpe;have e1:=Nat.eq_of_beq_eq_true hpe.1;have e2:=Nat.eq_of_beq_eq_true hpe.2;exact List.mem_map.2 ⟨p,hp,by rw [e1,e2]⟩
     ·have hz:=lregs_ev (o:=⟨none,.store t y z,ty,ps,af,gg⟩) (ops:=ops) (s:=st.enc m (nxOf nx0 b0 st)) (x:=z) (hp:=hp) (k:=kk) (by simp [Op.operands]);have hy:=lregs_ev (o:=⟨none,.store t y z,ty,ps,af,gg⟩) (ops:=ops) (s:=st.enc m (nxOf nx0 b0 st)) (x:=y) (hp:=hp) (k:=kk) (by simp [Op.operands]);refine opWr_elt (hy.trans ey) ((hhp (m id) (by simp)).trans hbb') (rows_len _).symm (fun row' hr=>at_row hr) (by rw [hz,ez]) (allOneS_enc h1) (allP_at hC.T.inf hI') (by rw [encL_length];exact hls) hle
     ·have hb4:=nmdB hL hc hI b5;rw [hblk,SB.enc] at hb4;exact all_set hb4 hcn
     ·exact hset.2.1
   ·cases h
 ·rename_i y z t t'
  cases ht:Nat.beq t' t with
  | false=>rw [ht] at h;cases h
  | true =>
   rw [ht] at h;have ht:=Nat.eq_of_beq_eq_true ht;subst ht;exact appR_ok hC hL hws hc hI hd hg h k
 ·cases h
theorem exRows_refs {pB:Nat→Bool} {pR:Nat→Nat→Bool} {fr:Bool} {t:Ty}:∀ {rows:List (List (SV D))} {xs:E D (.list t)},exRows fr t rows=some xs→∀ row ∈ rows,SV.refsL pB pR row=true
 | [],xs,h,row,hr=>by cases hr
 | r::l,xs,h,row,hr=>by
  rw [exRows] at h;split at h
  ·rename_i x xs' h1 h2;rcases List.mem_cons.1 hr with rfl | hr
   ·exact exA_refs h1
   ·exact exRows_refs h2 row hr
  ·cases h
structure NewOk (P:Program) (n:Nat) (o:Oper) (lst:SSt D) (m:Nat→Nat) (b:SB D) (row:Bool) (b':AB):Prop where
 op:∀ k,MOk m k lst→OpN P n o (lst.enc m k) b'
 les:LesB (b.enc m lst.blk) b'
 box:row=false→∃ cs e cs',b=.box cs e∧b'=.box cs' e
 nmd:∀ (q:Nat→Bool) (pB:Nat→Bool) (pR:Nat→Nat→Bool),(∀ k,k<bigA→q k=true)→(∀ id,pB id=true→isBox lst.blk id=true→q (m id)=true)→(∀ id v n,pR id v=true→rowLen lst.blk id v=some n→q (m id)=true)→b.refs pB pR=true→b'.nmd q=true
 rw:row=true→∃ fr rt xs e rows,b=.row fr rt xs e 0∧b'=.row rt.size rows e∧rows.length=List.length xs.den
theorem new_ok {Tb:Tab} (hT:Tb.ok P) {lst:SSt D} {b:SB D} {row:Bool} {g:E D .bool} (hn:isNew o.op=true) (h:mem0 Tb lst o.dst o.op=some (.new b row,g)) (hg:g.den=true) (hd:dok o.dst n=true):∃ b',NewOk P n o lst m b row b':=by
 obtain ⟨d,op,ty,ps,af,gg⟩:=o;have hd:dok d n=true:=hd;simp only at h hn;unfold mem0 at h;split at h
 ·rename_i e;unfold allocS at h;split at h
  ·rename_i Z s bb h1
   cases hc:allOne (Z.cells.toList.map avOf) with
   | false=>rw [hc] at h;cases h
   | true =>
    rw [hc] at h;simp only [cond_true,Option.some.injEq,Prod.mk.injEq,MR.new.injEq] at h;obtain ⟨⟨rfl,rfl⟩,rfl⟩:=h
    exact ⟨_,fun k _=>opN_alloc (allP_at hT.inf h1) hc hd,.box e (by rw [zeroS_enc];exact .refl _),fun _=>⟨_,_,_,rfl,rfl⟩,fun q pB pR hq hB hR hb=>(by
     rw [SB.refs] at hb;have:=encL_nmd (m:=m) (H:=lst.blk) hB hR _ hb (.inr hq);rw [zeroS_enc] at this
     exact this),fun h=>by cases h⟩
  ·cases h
 ·rename_i e y;unfold boxS at h
  cases hc:allOneS lst (lst.ev y).cells with
  | false=>rw [hc] at h;cases h
  | true =>
   rw [hc] at h;simp only [cond_true,Option.some.injEq,Prod.mk.injEq,MR.new.injEq] at h;obtain ⟨⟨rfl,rfl⟩,rfl⟩:=h
   refine ⟨.box (SV.encL m lst.blk (lst.ev y).cells) e,fun k _=>?_,.refl _,fun _=>⟨_,_,_,rfl,rfl⟩,fun q pB pR hq hB hR hb=>(by
     rw [SB.refs] at hb
     exact encL_nmd hB hR _ hb (.inr hq)),fun h=>by cases h⟩
   have e1:((lst.enc m k).ev y).cells=SV.encL m lst.blk (lst.ev y).cells:=by rw [enc_ev,enc_cells]
   rw [←e1];exact opN_box (by rw [e1];exact allOneS_enc hc) hd
 ·split at h
  ·rename_i t a v;unfold isNew at hn;cases hn
  ·cases h
 ·rename_i t y z;unfold makeS at h;generalize hy:lst.ev y=vy at h;generalize hz:lst.ev z=vz at h;split at h
  ·rename_i e k L k' Cc hu;split at h
   ·rename_i Z sz bb rt hI hty
    cases hc:(allOne (Z.cells.toList.map avOf)&&Nat.beq (Z.cells.toList.map avOf).length sz&&Nat.blt 0 sz&&Nat.blt 0 bb) with
    | false=>rw [hc] at h;cases h
    | true =>
     rw [hc] at h;simp only [cond_true] at h;simp only [Bool.and_eq_true] at hc;obtain ⟨⟨⟨c1,c2⟩,c3⟩,c4⟩:=hc;split at h
     ·rename_i x0 hx0;simp only [Option.some.injEq,Prod.mk.injEq,MR.new.injEq] at h;obtain ⟨⟨rfl,rfl⟩,rfl⟩:=h;rw [andE_den,andE_den] at hg;obtain ⟨g1,g2⟩:=andB hg;obtain ⟨g2,g3⟩:=andB g2;have g2:=leE_den g2;have hb0:0<bb:=by simpa using c4
      have g2:(0:Int)≤(L.den:Int):=g2;have hzl:(Z.cells.toList.map avOf).length=sz:=Nat.eq_of_beq_eq_true c2;have hcell:=exA_ok (m:=m) (H:=lst.blk) hx0;rw [zeroS_enc] at hcell;have hsz:rt.size=sz:=by rw [←rt.cells_length true x0.den,hcell.len,hzl]
      refine ⟨.row sz (List.replicate (L.den:Int).toNat (Z.cells.toList.map avOf)) e,fun kk hm=>?_,?_,(fun h=>by cases h),(fun q pB pR hq hB hR _=>by
       refine List.all_eq_true.2 fun row hr=>?_
       rw [(List.mem_replicate.1 hr).2,←zeroS_enc (m:=m) (H:=lst.blk)]
       exact encL_nmd hB hR _ (exA_refs hx0) (.inr hq)),fun _=>⟨_,_,_,_,_,rfl,by rw [hsz],by
       rw [List.length_replicate];show _=(List.replicate _ _).length
       rw [List.length_replicate]⟩⟩
      ·have ey:(lst.enc m kk).ev y=.int k L.den:=by rw [enc_ev,hy,SV.enc]
       have ez:(lst.enc m kk).ev z=.int k' Cc.den:=by rw [enc_ev,hz,SV.enc]
       obtain ⟨hLC,g3⟩:(L.den:Int)≤(Cc.den:Int)∧(bb:Int)*(Cc.den:Int)≤281474976710656:=by
        cases hso:sameOp y z with
        | true =>
         have hCL:(Cc.den:Int)=(L.den:Int):=sameOp_eq hso ey ez;rw [hso] at g3;have g3:=leE_den g3;rw [mulL_den] at g3;rw [hCL];exact ⟨Int.le_refl _,g3⟩
        | false =>
         rw [hso] at g1 g3;have g3:=leE_den g3;rw [mulL_den] at g3;exact ⟨leE_den g1,g3⟩
       exact opN_makeC (allP_at hT.und hu) (allP_at hT.inf hI) hzl (by simpa using c3) c1 ey ez g2 hLC g3 (le_of_mul hb0 (Int.le_trans g2 hLC) g3) hd
      ·subst hsz;refine .rows ⟨?_,fun i row row' h1 h2=>?_⟩
       ·show (List.map _ (List.replicate _ _)).length=_;rw [List.length_map,List.length_replicate,List.length_replicate]
       ·have h1:((List.replicate (L.den:Int).toNat x0.den).map (rt.cells true))[i]?=some row:=h1;rw [List.getElem?_map,List.getElem?_replicate] at h1;rw [List.getElem?_replicate] at h2;split at h1
        ·rename_i hi;rw [if_pos hi] at h2;simp only [Option.map_some,Option.some.injEq] at h1 h2;subst h1;subst h2
         exact hcell
        ·cases h1
     ·cases h
   ·cases h
  ·cases h
 ·rename_i t L parts;unfold litS at h;split at h
  ·rename_i e hu;split at h
   ·rename_i Z sz bb rt hI hty
    cases hc:(allOne (Z.cells.toList.map avOf)&&Nat.beq (Z.cells.toList.map avOf).length sz&&Nat.blt 0 sz&&Nat.ble (L*sz) 16777216&&Nat.beq rt.size sz) with
    | false=>rw [hc] at h;cases h
    | true =>
     rw [hc] at h;simp only [cond_true] at h;simp only [Bool.and_eq_true] at hc;obtain ⟨⟨⟨⟨c1,c2⟩,c3⟩,c4⟩,c5⟩:=hc;split at h
     ·rename_i out hf'
      cases ho:Nat.beq out.length (L*sz) with
      | false=>rw [ho] at h;cases h
      | true =>
       rw [ho] at h;simp only [cond_true] at h;have hf':=fillS_enc (m:=m) hf';rw [zerosS_enc,zeroS_enc] at hf';have hsz:=Nat.eq_of_beq_eq_true c5
       have fin:∀ fr xs,exRows fr rt (chunkS sz L out)=some xs→b=.row fr rt xs e 0→row=true→∃ b',NewOk P n ⟨d,.buildSlice t L parts,ty,ps,af,gg⟩ lst m b row b':=by
        intro fr xs hx eb er;subst eb;subst er
        have hch:=chunkS_at (m:=m) (H:=lst.blk) hx
        refine ⟨.row sz (chunk sz L (SV.encL m lst.blk out)) e,fun kk hm=>?_,?_,(fun h=>by cases h),(fun q pB pR hq hB hR _=>by
         refine List.all_eq_true.2 fun row hr=>?_
         rw [chunkS_enc] at hr;obtain ⟨r0,h1,rfl⟩:=List.mem_map.1 hr
         exact encL_nmd hB hR _ (exRows_refs hx r0 h1) (.inr hq)),fun _=>⟨_,_,_,_,_,rfl,by rw [hsz],?_⟩⟩
        ·have hf2:=hf';rw [←evPartsS_enc (nx:=kk)] at hf2;exact opN_lit (allP_at hT.und hu) (allP_at hT.inf hI) c1 (Nat.eq_of_beq_eq_true c2) (by simpa using c3) c4 hf2 (by rw [encL_length];exact Nat.eq_of_beq_eq_true ho) hd
        ·subst hsz;exact .rows hch
        ·have:=hch.len;rw [List.length_map] at this;exact this.symm
       unfold litRow at h;split at h
       ·rename_i xs hx;simp only [Option.some.injEq,Prod.mk.injEq,MR.new.injEq] at h;exact fin _ _ hx h.1.1.symm h.1.2.symm
       ·split at h
        ·rename_i xs hx;simp only [Option.some.injEq,Prod.mk.injEq,MR.new.injEq] at h;exact fin _ _ hx h.1.1.symm h.1.2.symm
        ·cases h
     ·cases h
   ·cases h
  ·cases h
 ·rename_i y z t t'
  cases ht:Nat.beq t' t with
  | false=>rw [ht] at h;cases h
  | true =>
   rw [ht] at h;have ht:=Nat.eq_of_beq_eq_true ht;subst ht;simp only [cond_true] at h;unfold appS at h;generalize hy:lst.ev y=vy at h;split at h
   ·rename_i e hu;split at h
    ·rename_i Z sz bb hI
     cases hc:(Nat.beq Z.cells.size sz&&Nat.blt 0 sz) with
     | false=>rw [hc] at h;cases h
     | true =>
      rw [hc] at h;simp only [cond_true] at h;rw [Bool.and_eq_true] at hc;have hz:=Nat.eq_of_beq_eq_true hc.1;have h0:0<sz:=Nat.le_of_ble_eq_true hc.2;split at h
      ·split at h
       ·rename_i fr ty' xs e' v hb
        cases hc2:(Nat.beq _ v&&(Nat.beq e' e&&(Nat.beq sz ty'.size&&ty'.flatA))) with
        | false=>rw [hc2] at h;cases h
        | true =>
         rw [hc2] at h;simp only [cond_true] at h;split at h
         ·rename_i fr' ys hy2
          cases hr:lst.refs (fun _=>true) (fun i w=>!(Nat.beq i _&&Nat.beq w (v+1))) with
          | false=>rw [hr] at h;cases h
          | true=>rw [hr] at h;cases h
         ·cases h
       ·cases h
      ·split at h
       ·rename_i rt hty
        cases hc2:(Nat.beq sz rt.size&&rt.flatA) with
        | false=>rw [hc2] at h;cases h
        | true =>
         rw [hc2] at h;simp only [cond_true] at h;rw [Bool.and_eq_true] at hc2;have hsz:=Nat.eq_of_beq_eq_true hc2.1;subst hsz;split at h
         ·rename_i fr' ys hys;simp only [Option.some.injEq,Prod.mk.injEq,MR.new.injEq] at h;obtain ⟨⟨rfl,rfl⟩,rfl⟩:=h;obtain ⟨hG,hg⟩:=andE_b hg;have hg:=leE_den hg;have hg:(List.length ys.den:Int)*((bmul bb:Nat):Int)≤140737488355328:=hg;have h63:List.length ys.den*bmul bb≤140737488355328:=nat_of1 hg
          refine ⟨.row rt.size ((ys.den:List rt.den).map (rt.cells fr')) e,fun kk hm=>?_,.refl _,(fun h=>by cases h),(fun q pB pR hq hB hR _=>by
           exact rowD hq fr' rt ys.den),fun _=>⟨_,_,_,_,_,rfl,rfl,rows_len _⟩⟩
          have ey:(lst.enc m kk).ev y=.nils:=by rw [enc_ev,hy,SV.enc]
          exact opN_append_nil ey rfl (srcC_ok hc2.2 hm hG hys) (allP_at hT.und hu) (allP_at hT.inf hI) h0 hz (by rw [rows_len];exact h63) hd
         ·cases h
       ·cases h
      ·cases h
    ·cases h
   ·cases h
 ·cases h
theorem hnew_fix {nx:Nat} {b:SB D} {b':AB} {s:ASt} (hm:MOk m nx st) (hl:LeS (st.enc m nx) s) (hf:FrOk m st.blk st.fr F) (hmx:m st.nx=nx) (hbd:b.norm) (hr:st.refs (nB st) (nR st)=true) (hb:LesB (b.enc m (st.hnew b).blk) b') :
  MOk m (nx+1) (st.hnew b)∧LeS ((st.hnew b).enc m (nx+1)) (s.hnew b')∧FrOk m (st.hnew b).blk (st.hnew b).fr F:=by
 have hnx:nx=s.nx:=hl.nx
 have hc:MemLe m st.blk m (st.hnew b).blk (nB st) (nR st):=by
  have hne:∀ id,(!Nat.beq id st.nx)=true→id≠st.nx:=by
   intro id h e;subst e;have h:(!Nat.beq st.nx st.nx)=true:=h;rw [Nat.beq_refl] at h;cases h
  refine ⟨fun id h=>.inr ⟨?_,rfl⟩,fun id v h=>.inr ⟨?_,rfl⟩⟩
  ·unfold isBox;rw [hnew_blk,if_neg (Ne.symm (hne id h))]
  ·unfold rowLen;rw [hnew_blk,if_neg (Ne.symm (hne id h))]
 unfold SSt.refs at hr;simp only [Bool.and_eq_true] at hr;obtain ⟨r1,r2,r3,r4,r5⟩:=hr
 have hlv:∀ k,(st.hnew b).blk k≠.dead→k≠st.nx→st.blk k≠.dead:=by
  intro k hk e;rw [hnew_blk,if_neg (Ne.symm e)] at hk;exact hk
 have hdead:st.blk st.nx=.dead:=Classical.byContradiction fun e=>Nat.lt_irrefl _ (hm.live e)
 obtain ⟨hbd,hbA⟩:=hbd
 have hA:((st.hnew b).blk 0).isA=(st.blk 0).isA∧∀ B,((st.hnew b).blk 0).rows B=(st.blk 0).rows B:=by
  rw [hnew_blk];by_cases e:st.nx=0
  ·rw [if_pos e,hbA,show st.blk 0=.dead by rw [←e];exact hdead];exact ⟨rfl,fun B=>by rw [isA_rows hbA];rfl⟩
  ·rw [if_neg e];exact ⟨rfl,fun _=>rfl⟩
 refine ⟨⟨fun k hk=>?_,fun k k' hk hk' e=>?_,fun p hp=>?_,fun h=>hm.ar' (hA.1 ▸ h),?_⟩,⟨fun d=>?_,fun k=>?_,?_⟩,hf.les' hc r5⟩
 ·by_cases e:k=st.nx
  ·rw [e,hmx];omega
  ·have:=hm.lt k (hlv k hk e);omega
 ·by_cases e1:k=st.nx
  ·by_cases e2:k'=st.nx
   ·omega
   ·rw [e1,hmx] at e;have:=hm.lt k' (hlv k' hk' e2);omega
  ·by_cases e2:k'=st.nx
   ·rw [e2,hmx] at e;have:=hm.lt k (hlv k hk e1);omega
   ·exact hm.inj k k' (hlv k hk e1) (hlv k' hk' e2) e
 ·show p.1<st.nx+1∧p.2≠.dead;rcases List.mem_cons.1 hp with rfl | hp
  ·exact ⟨Nat.lt_succ_self _,hbd⟩
  ·have:=hm.keys p hp;exact ⟨by omega,this.2⟩
 ·have:=hm.ge.1;refine ⟨by omega,fun k hk=>?_⟩;by_cases e:k=st.nx
  ·rw [e,hmx];exact this
  ·exact hm.ge.2 k (hlv k hk e)
 ·show Les (look .any (encR m (st.hnew b).blk (st.regs++st.kp)) d) _;exact (encR_les hc _ (by rw [refsR_append,r1,r2];rfl) d).trans (hl.regs d)
 ·show LesB (look .dead (((m st.nx,b.enc m (st.hnew b).blk)::encH m (st.hnew b).blk (st.heap++st.hk))++((st.hnew b).blk 0).rows (m 0)) k) (look .dead ((s.nx,b')::s.heap) k);rw [hA.2,List.cons_append,look_cons,look_cons,hmx.trans hnx];split
  ·exact hb
  ·have h1:LesB (look .dead (encH m st.blk (st.heap++st.hk)++(st.blk 0).rows (m 0)) k) (look .dead s.heap k):=hl.heap k;rw [look_append] at h1 ⊢;exact (encH_lesD hc _ _ (by rw [refsH_append,r3,r4];rfl) (fun _ _=>rfl) k).trans h1
 ·show nx+1=s.nx+1;omega
theorem newW_m (hL:Lay m nx0 b0 st0) (hws:∀ p ∈ ws,Good b0 st0 p.2) (hge:b0≤st.nx) (h:Dr.newW T ws i st.nx=true):Dr.newW T (mapP m ws) i (nxOf nx0 b0 st)=true:=by
 have e:nxOf nx0 b0 st=m st.nx:=(hL.new _ hge).symm;rw [e];unfold Dr.newW mapP at *
 rw [List.all_map];refine List.all_eq_true.2 fun p hp=>?_
 have:=List.all_eq_true.1 h p hp;show (bif Nat.beq (m p.2) (m st.nx) then _ else true)=true;rw [beq_m hL (hws p hp) (.inl hge)];exact this
theorem newR_ok (hC:C.ok P) (hL:Lay m nx0 b0 st0) (hws:∀ p ∈ ws,Good b0 st0 p.2) (hc:∀ p ∈ cr,b0≤p.2) (hI:RI F m nx0 b0 st0 st) (hd:dok o.dst n=true) (hnw:isNew o.op=true)
  (hg:o.guard=none∨gst ops o (Dr.lcl ops T (mapP m ws) nx0 i (mapP m cr) (st.enc m (nxOf nx0 b0 st)) o 0)=some true)
  {K:List (Nat×Nat)→SSt D→G D (KD ρ) ρ} (h:(newR C T ws b0 i cr (lclS ops T ws b0 i cr st o) st o K).den fu=some r)
  (k:∀ cr' st',RI F m nx0 b0 st0 st'→(∀ p ∈ cr',b0≤p.2)→(K cr' st').den fu=some r→AGm P n ops T ws nx0 b0 m Kt (i+1) cr' l st'):AGm P n ops T ws nx0 b0 m Kt i cr (o::l) st:=by
 unfold newR at h;split at h
 ·rename_i b row g hmem
  cases hb:(Dr.noW ws i&&Dr.newW T ws i st.nx&&b.refs (fun k=>visS T ws b0 i cr k&&!Nat.beq k st.nx) (fun k _=>visS T ws b0 i cr k&&!Nat.beq k st.nx)&&st.refs (fun id=>!Nat.beq id st.nx) (fun id _=>!Nat.beq id st.nx)) with
  | false=>rw [hb] at h;cases h
  | true =>
   rw [hb] at h;simp only [cond_true] at h;simp only [Bool.and_eq_true] at hb;obtain ⟨⟨⟨b1,b2⟩,b3⟩,b4⟩:=hb;obtain ⟨hgd,h⟩:=grdG_den h;obtain ⟨b',hN⟩:=new_ok (m:=m) hC.T hnw hmem hgd hd
   have hop:∀ k,nx0≤k→OpN P n o (Dr.lcl ops T (mapP m ws) nx0 i (mapP m cr) (st.enc m (nxOf nx0 b0 st)) o k) b':=fun k hkA=>⟨hd,fun K a w G r=>by
    have hk:=lt_of_rel hL hws hc hI.good hI.arn hI.mok hkA r;have hm:=lclS_mok (ops:=ops) (T:=T) (ws:=ws) (b0:=b0) (i:=i) (cr:=cr) (o:=o) hI.mok (Nat.le_trans hL.ge.1 hkA) hk
    exact (hN.op k hm).out K a w G (r.les (lclS_les hL hws hc hI.good hI.mok (Nat.le_trans hL.ge.1 hkA) hk))⟩
   have hmx:m st.nx=nxOf nx0 b0 st:=hL.new _ hI.ge
   have hmem2:MemLe m (lclS ops T ws b0 i cr st o).blk m (st.hnew b).blk (fun k=>visS T ws b0 i cr k&&!Nat.beq k st.nx) (fun k _=>visS T ws b0 i cr k&&!Nat.beq k st.nx):=by
    have e:∀ k,(visS T ws b0 i cr k&&!Nat.beq k st.nx)=true→(st.hnew b).blk k=(lclS ops T ws b0 i cr st o).blk k:=by
     intro k hk;rw [Bool.and_eq_true] at hk
     have hne:st.nx≠k:=fun e=>by
      subst e;have:=hk.2;rw [Nat.beq_refl] at this;cases this
     rw [hnew_blk,if_neg hne,lclS_blk,hk.1];rfl
    exact ⟨fun id h=>.inr ⟨by unfold isBox;rw [e id h],rfl⟩,fun id v h=>.inr ⟨by unfold rowLen;rw [e id h],rfl⟩⟩
   have hbd:b.norm:=by
    cases row with
    | true=>obtain ⟨_,_,_,_,_,rfl,_⟩:=hN.rw rfl;exact SB.norm_row ..
    | false=>obtain ⟨_,_,_,rfl,_⟩:=hN.box rfl;exact SB.norm_box ..
   have hset:=hnew_fix (b:=b) (b':=b') hI.mok (.refl _) hI.fr hmx hbd b4 ((encB_les hmem2 b b3).trans hN.les)
   have hnx':nxOf nx0 b0 (st.hnew b)=nxOf nx0 b0 st+1:=by
    have:=hI.ge;show nx0+(st.nx+1-b0)=nx0+(st.nx-b0)+1;omega
   have hRI:RI F m nx0 b0 st0 (st.hnew b):=⟨by rw [hnx'];exact hset.1,by show b0≤st.nx+1;have:=hI.ge;omega,hset.2.2,hI.fix.trans ⟨rfl,rfl,rfl⟩,fun k hk=>by
    rw [hnew_blk] at hk;by_cases e':st.nx=k
    ·exact .inl (by have:=hI.ge;omega)
    ·rw [if_neg e'] at hk;exact hI.good k hk,fun k hk=>by
    rw [hnew_blk] at hk;by_cases e':st.nx=k
    ·rw [if_pos e',hbd.nA] at hk;cases hk
    ·rw [if_neg e'] at hk;exact hI.arn k hk⟩
   have hnm:b'.nmd (vis T nx0 i (mapP m cr))=true:=by
    have key:∀ id,(visS T ws b0 i cr id&&!Nat.beq id st.nx)=true→(lclS ops T ws b0 i cr st o).blk id≠.dead→vis T nx0 i (mapP m cr) (m id)=true:=by
     intro id hv hbl;rw [Bool.and_eq_true] at hv;rw [lclS_blk,hv.1] at hbl;exact liveS hL hc hI hv.1 hbl
    refine hN.nmd _ _ _ (fun _ h=>vis_arn hL h) (fun id hp hbl=>key id hp fun e=>?_) (fun id v n hp hbl=>key id hp fun e=>?_) b3
    ·unfold isBox at hbl;rw [e] at hbl;cases hbl
    ·unfold rowLen at hbl;rw [e] at hbl;cases hbl
   have hcr:∀ p ∈ (i,st.nx)::cr,b0≤p.2:=fun p hp=>by
    rcases List.mem_cons.1 hp with rfl | hp
    ·exact hI.ge
    ·exact hc p hp
   have hst:Dr.AG P n ops T (mapP m ws) nx0 Kt (i+1) (mapP m ((i,st.nx)::cr)) l (((st.enc m (nxOf nx0 b0 st)).hnew b').put o.dst (refB b' (st.enc m (nxOf nx0 b0 st)).nx)):=by
    refine .le ?_ (k _ _ (by rw [MR.app];exact hRI.put _ _) hcr h)
    have e:nxOf nx0 b0 (MR.app st o.dst (.new b row))=nxOf nx0 b0 st+1:=by
     rw [MR.app,←hnx']
     cases o.dst <;> rfl
    rw [e,MR.app,put_enc];refine hset.2.1.put ?_
    cases row with
    | true =>
     obtain ⟨fr,rt,xs,e1,rows,h1,h2,h3⟩:=hN.rw rfl;subst h1;subst h2
     have hi:rowLen (st.hnew (.row fr rt xs e1 0)).blk st.nx 0=some (List.length xs.den):=by unfold rowLen;rw [hnew_blk,if_pos rfl];rfl
     show Les (SV.enc m _ (.osl st.nx 0)) (.osl (nxOf nx0 b0 st) rows.length);rw [SV.enc,hi,hmx,h3];exact .refl _
    | false =>
     obtain ⟨cs,e1,cs',h1,h2⟩:=hN.box rfl;subst h1;subst h2
     have hi:isBox (st.hnew (.box cs e1)).blk st.nx=true:=by unfold isBox;rw [hnew_blk,if_pos rfl]
     show Les (SV.enc m _ (.box st.nx 0)) (.box (nxOf nx0 b0 st) 0);rw [SV.enc,hi,hmx];exact .refl _
   have e2:mapP m ((i,st.nx)::cr)=(i,(st.enc m (nxOf nx0 b0 st)).nx)::mapP m cr:=by
    show (i,m st.nx)::mapP m cr=_;rw [hmx];rfl
   rw [e2] at hst;exact .step (.new (by rw [noW_m];exact b1) (newW_m hL hws hI.ge b2) hg hop hnm) hst
 ·cases h
theorem EntR.up {ce:CtrE} {vs:List (SV D)} {mp:List (Nat×Nat)} {e:E D (itmsTy ce.si.items)} {kk:Nat} {lst:SSt D} (hnA:(lst.blk 0).isA=false) (h:EntR ce lst m kk vs mp e) (hm:MOk m kk st) (hml:MOk m kk lst) (hb:∀ k,lst.blk k≠.dead→lst.blk k=st.blk k):EntR ce st m kk vs mp e:=by
 have hmem:MemLe m st.blk m lst.blk (fun _=>true) (fun _ _=>true):=by
  refine ⟨fun id _=>?_,fun id v _=>?_⟩
  ·by_cases e:lst.blk id=.dead
   ·left;unfold isBox;rw [e]
   ·right;unfold isBox;rw [hb id e];exact ⟨rfl,rfl⟩
  ·by_cases e:lst.blk id=.dead
   ·left;unfold rowLen;rw [e]
   ·right;unfold rowLen;rw [hb id e];exact ⟨rfl,rfl⟩
 refine ⟨h.mok,h.args.trans (encL_les hmem vs (svL_refs_all vs)),fun id=>(h.heap id).trans ?_,fun b hbi=>?_,h.dead,fun b=>⟨fun hk=>?_,fun hk=>?_⟩,fun b hbi hk=>?_⟩
 ·rcases heap_cases hml id with h' | ⟨b,hbl,rfl⟩ | ⟨h',_,_⟩
  ·rw [h'];exact .dead _
  rotate_left
  ·rw [hnA] at h';cases h'
  ·rw [enc_blk hml hbl,enc_blk hm (by rw [←hb b hbl];exact hbl),hb b hbl];exact encB_les hmem _ (sb_refs_all _)
 ·obtain ⟨h1,h2⟩:=h.live b hbi;exact ⟨h1,by rw [←hb _ h2];exact h2⟩
 ·obtain ⟨cs,ty,h1⟩:=(h.kind b).1 hk;exact ⟨cs,ty,by rw [←hb _ (by rw [h1];simp)];exact h1⟩
 ·obtain ⟨fr,t,xs,ty,v,h1⟩:=(h.kind b).2 hk;exact ⟨fr,t,xs,ty,v,by rw [←hb _ (by rw [h1];simp)];exact h1⟩
 ·have h2:=(h.live b hbi).2;have e1:=hb _ h2;have:=h.len b hbi hk;unfold curVer rowLen at this ⊢;rw [←e1];exact this
theorem effOf_some {C:DC} {lst:SSt D} {op:Op} {ce:CtrE} {vs:List (SV D)} (h:effOf C lst op=some (ce,vs)):∃ cal args ats Fn caps,op=.call ⟨.value cal,args,ats⟩∧lst.ev cal=.fn Fn caps∧(∃ z,lk C.cas Fn=some z)∧lk C.effs Fn=some ce∧vs=evS lst args.toList++caps:=by
 unfold effOf at h;split at h
 ·rename_i cal args ats;split at h
  ·rename_i Fn caps hcal;split at h
   ·rename_i z hz;split at h
    ·cases h
    ·split at h
     ·rename_i ce' hce;simp only [Option.some.injEq,Prod.mk.injEq] at h;obtain ⟨h1,h2⟩:=h;subst h1;subst h2
      exact ⟨cal,args,ats,Fn,caps,rfl,hcal,⟨z,hz⟩,hce,rfl⟩
     ·cases h
   ·cases h
  ·cases h
 ·cases h
theorem look_isA {l:List (Nat×SB D)} (h:∀ p ∈ l,p.2.isA=false) {d:SB D} {j:Nat} (hj:(look d l j).isA=true):d.isA=true:=by
 induction l with
 | nil=>exact hj
 | cons p l ih =>
  obtain ⟨i,b⟩:=p;rw [look_cons] at hj;by_cases e:i=j
  ·rw [if_pos e,h (i,b) (by simp)] at hj;cases hj
  ·rw [if_neg e] at hj;exact ih (fun p hp=>h p (List.mem_cons_of_mem _ hp)) hj
theorem outE_isA {ce:CtrE} {mp:List (Nat×Nat)} {y:E D (itmsTy ce.so.items)} (hs:SigP ce.si ce.so ce.nb) {j:Nat} (h:((outE ce.si ce.so ce.nb mp st y).blk j).isA=true):(st.blk j).isA=true:=by
 have h:(look (look .dead st.hk j) (renHE ce.si ce.so ce.nb mp st (injH ce.so.items y)++st.heap) j).isA=true:=h;rw [look_append] at h;refine look_isA (fun p hp=>?_) h;obtain ⟨p',hp',rfl⟩:=List.mem_map.1 hp;have:=noA_isA (injH_noA _ _ hs.nao p' hp')
 revert this
 show p'.2.isA=false→(p'.2.ren _ _ _ _).isA=false
 cases p'.2 <;> intro h <;> first | rfl | cases h
theorem effD_ok (hC:C.ok P) (hL:Lay m nx0 b0 st0) (hws:∀ p ∈ ws,Good b0 st0 p.2) (hc:∀ p ∈ cr,b0≤p.2) (hI:RI F m nx0 b0 st0 st) (hd:dok o.dst n=true)
  (hg:o.guard=none∨gst ops o (Dr.lcl ops T (mapP m ws) nx0 i (mapP m cr) (st.enc m (nxOf nx0 b0 st)) o 0)=some true) {ce:CtrE} {vs:List (SV D)} (hef:effOf C (lclS ops T ws b0 i cr st o) o.op=some (ce,vs))
  {K:List (Nat×Nat)→SSt D→G D (KD ρ) ρ} (h:(effD T ws b0 i cr (lclS ops T ws b0 i cr st o) st o ce vs K).den fu=some r)
  (k:∀ cr' st',RI F m nx0 b0 st0 st'→(∀ p ∈ cr',b0≤p.2)→(K cr' st').den fu=some r→AGm P n ops T ws nx0 b0 m Kt (i+1) cr' l st'):AGm P n ops T ws nx0 b0 m Kt i cr (o::l) st:=by
 obtain ⟨cal,args,ats,Fn,caps,hop,hcal,⟨z,hz⟩,hce,hvs⟩:=effOf_some hef;have hF:=allP_at hC.cas hz;have hceok:=allP_at hC.effs hce;unfold effD at h;generalize hmp:mapE ce.si (lclS ops T ws b0 i cr st o) vs=mp at h
 cases hb:((detOk ce.si ce.so ce.nb&&!(st.blk 0).isA)&&(((itemB ce.si.items).all fun b=>visS T ws b0 i cr (mpI mp b)&&(ws.any fun p=>Nat.beq p.1 i&&Nat.beq p.2 (mpI mp b))) &&
  ((ws.all fun p=>!Nat.beq p.1 i||((itemB ce.si.items).any fun b=>Nat.beq p.2 (mpI mp b)))&&(((List.range ce.so.ex).all fun j=>Dr.newW T ws i (st.nx+j))&&refE ce.si ce.so ce.nb mp st)))) with
 | false=>rw [hb] at h;cases h
 | true =>
  rw [hb] at h;simp only [cond_true] at h;simp only [Bool.and_eq_true] at hb;obtain ⟨⟨hdet,hnA⟩,b1,b2,b3,b4⟩:=hb;have hnA:(st.blk 0).isA=false:=by simpa using hnA
  split at h
  ·rename_i e he;rw [G.den] at h;unfold bindO at h;split at h
   ·rename_i y hy;unfold arrE at he;rw [hmp] at he
    cases hca:((sigOk ce.si ce.so ce.nb&&!((lclS ops T ws b0 i cr st o).blk 0).isA)&&(Nat.beq ce.na vs.length&&(refE ce.si ce.so ce.nb mp (lclS ops T ws b0 i cr st o)&&((itemB ce.si.items).all fun b=>Nat.blt (mpI mp b) (lclS ops T ws b0 i cr st o).nx)))) with
    | false=>rw [hca] at he;cases he
    | true =>
     rw [hca] at he;simp only [cond_true] at he;simp only [Bool.and_eq_true] at hca;obtain ⟨⟨c1,c0⟩,c2,_,c4⟩:=hca;have hs:=sigOk_at c1;have hna:=Nat.eq_of_beq_eq_true c2;have hlt:∀ b ∈ itemB ce.si.items,mpI mp b<st.nx:=fun b hb=>Nat.le_of_ble_eq_true (List.all_eq_true.1 c4 b hb)
     rw [←hmp] at he
     have hlst:∀ j,(lclS ops T ws b0 i cr st o).blk j≠.dead→(lclS ops T ws b0 i cr st o).blk j=st.blk j:=by
      intro j hj;rw [lclS_blk] at hj ⊢
      cases hv:visS T ws b0 i cr j with
      | true=>rfl
      | false=>rw [hv] at hj;exact absurd rfl hj
     have hkb:∀ j,(lclS ops T ws b0 i cr st o).blk j≠.dead→m j<nxOf nx0 b0 st:=fun j hj=>hI.mok.lt j (by rw [←hlst j hj];exact hj)
     have hmk:∀ q,nxOf nx0 b0 st≤q→MOk m q (lclS ops T ws b0 i cr st o):=fun q hq=>lclS_mok hI.mok (Nat.le_trans hI.mok.ge.1 hq) fun j hj=>by have:=hkb j hj;omega
     have hEq:∀ q,nxOf nx0 b0 st≤q→EntR ce (lclS ops T ws b0 i cr st o) m q vs mp e:=fun q hq=>by
      have:=entR hs (hmk q hq) hna he;rw [hmp] at this;exact this
     have hE0:=hEq _ (Nat.le_refl _);have hE:EntR ce st m (nxOf nx0 b0 st) vs mp e:=hE0.up (by simpa using c0) hI.mok (hmk _ (Nat.le_refl _)) hlst;have hm0:∀ b ∈ itemB ce.si.items,mM m mp b<nxOf nx0 b0 st:=fun b hb=>hE.mok.lt b (hE.live b hb).1
     have hlen:=(hceok.2 fu e.den y hy).1;have hτ:=tau_mok hI.mok.ge.1 (y:=y) (kk:=nxOf nx0 b0 st) hs hE.mok (fun b hb=>⟨(hE.live b hb).1,hm0 b hb⟩);have hτf:=tau_fr (kk:=nxOf nx0 b0 st) (m0:=mM m mp) (nx':=nxOf nx0 b0 st) hs hdet hlen
     let L:List Nat:=(itemB ce.si.items).map (mM m mp)
     have hLp:∀ id,hasN L id=pE ce.si (mM m mp) id:=fun id=>by
      rw [Bool.eq_iff_iff,pE_iff];constructor
      ·intro h';obtain ⟨b,h1,h2⟩:=List.mem_map.1 (hasN_mem h');exact ⟨b,h1,h2⟩
      ·rintro ⟨b,h1,h2⟩
       exact hasN_of (List.mem_map.2 ⟨b,h1,h2⟩)
     have hq:∀ id,(orQ (hasN L) (nxOf nx0 b0 st) (nxOf nx0 b0 st+ce.so.ex) id)=(pE ce.si (mM m mp) id||newQ (nxOf nx0 b0 st) (nxOf nx0 b0 st+ce.so.ex) id):=fun id=>by
      unfold orQ;rw [hLp]
     have hexk:∀ b ∈ itemB ce.so.items,orQ (hasN L) (nxOf nx0 b0 st) (nxOf nx0 b0 st+ce.so.ex) (tauE ce.nb (mM m mp) (nxOf nx0 b0 st) b)=true:=by
      intro b hb;rw [orQ_iff];have:=hs.lt b hb;unfold tauE;split
      ·rename_i c
       left
       rw [hLp,pE_iff];exact ⟨b,(hs.old b hb c).1,rfl⟩
      ·right;omega
     have hXn:∀ b,((exi ce.si ce.so ce.nb (.var y:E D (itmsTy ce.so.items))).blk b).noA=true:=fun b=>by rw [exiB hs];exact look_noA (injH_noA _ _ hs.nao) b
     have hBX:∀ id,isBox (exi ce.si ce.so ce.nb (.var y:E D (itmsTy ce.so.items))).blk id=true→orQ (hasN L) (nxOf nx0 b0 st) (nxOf nx0 b0 st+ce.so.ex) (tauE ce.nb (mM m mp) (nxOf nx0 b0 st) id)=true:=fun id h=>hexk id (exiK (y:=y) hs (fun h'=>by unfold isBox at h;rw [h'] at h;cases h))
     have hRX:∀ id v q,rowLen (exi ce.si ce.so ce.nb (.var y:E D (itmsTy ce.so.items))).blk id v=some q→orQ (hasN L) (nxOf nx0 b0 st) (nxOf nx0 b0 st+ce.so.ex) (tauE ce.nb (mM m mp) (nxOf nx0 b0 st) id)=true:=fun id v q h=>hexk id (exiK (y:=y) hs (fun h'=>by unfold rowLen at h;rw [h'] at h;cases h))
     have hlook:∀ j,look .dead (Dr.onL (L++Dr.news (nxOf nx0 b0 st) (nxOf nx0 b0 st+ce.so.ex)) (look .dead ((exi ce.si ce.so ce.nb (.var y:E D (itmsTy ce.so.items))).enc (tauE ce.nb (mM m mp) (nxOf nx0 b0 st)) (nxOf nx0 b0 st+ce.so.ex)).heap) (st.enc m (nxOf nx0 b0 st)).heap) j =
       bif orQ (pE ce.si (mM m mp)) (nxOf nx0 b0 st) (nxOf nx0 b0 st+ce.so.ex) j then look .dead ((exi ce.si ce.so ce.nb (.var y:E D (itmsTy ce.so.items))).enc (tauE ce.nb (mM m mp) (nxOf nx0 b0 st)) (nxOf nx0 b0 st+ce.so.ex)).heap j else look .dead (st.enc m (nxOf nx0 b0 st)).heap j:=by
      intro j;by_cases hj:j ∈ L++Dr.news (nxOf nx0 b0 st) (nxOf nx0 b0 st+ce.so.ex)
      ·rw [Dr.onL_in hj]
       have:orQ (pE ce.si (mM m mp)) (nxOf nx0 b0 st) (nxOf nx0 b0 st+ce.so.ex) j=true:=by
        rw [orQ_iff];rcases List.mem_append.1 hj with h' | h'
        ·left;rw [←hLp];exact hasN_of h'
        ·exact .inr (Dr.news_mem.1 h')
       rw [this];rfl
      ·rw [Dr.onL_out hj]
       have:orQ (pE ce.si (mM m mp)) (nxOf nx0 b0 st) (nxOf nx0 b0 st+ce.so.ex) j=false:=by
        rw [Bool.eq_false_iff];intro h';refine hj (List.mem_append.2 ?_);rcases orQ_iff.1 h' with h' | h'
        ·left;rw [←hLp] at h';exact hasN_mem h'
        ·exact .inr (Dr.news_mem.2 h')
       rw [this];rfl
     have hκn:∀ b,¬ b<ce.nb→kapE ce.nb mp st.nx b=st.nx+(b-ce.nb):=fun b h=>by
      unfold kapE;rw [show Nat.blt b ce.nb=false by rw [←Bool.not_eq_true];simpa using h];rfl
     have hκo:∀ b,b<ce.nb→kapE ce.nb mp st.nx b=mpI mp b:=fun b h=>by
      unfold kapE;rw [show Nat.blt b ce.nb=true by simpa using h];rfl
     have hnew:∀ j,m (st.nx+j)=nxOf nx0 b0 st+j:=fun j=>by
      have:=hI.ge;rw [hL.new _ (by omega)];unfold nxOf;omega
     have hR:=effCore hnA (Fs:=F) (m2:=m) hs hI.mok hI.fr hE hlt b4 (fun id=>pE_iff) hτ hτf (Nat.le_add_right _ _) (fun j hj=>by
       rcases heap_cases hτ j with h' | ⟨b,hb,rfl⟩ | ⟨h1,_,_⟩
       ·exact absurd h' hj
       rotate_left
       ·rw [noA_isA (hXn 0)] at h1;cases h1
       ·have:=hexk b (exiK hs hb);rw [hq] at this
        exact this) hlook (fun b hb=>by
       unfold tauE;split
       ·rename_i c;rw [hκo b c]
       ·rename_i c;rw [hκn b c,hnew]) (fun _ _=>rfl)
     have hnx':nxOf nx0 b0 (outE ce.si ce.so ce.nb mp st (.var y:E D (itmsTy ce.so.items)))=nxOf nx0 b0 st+ce.so.ex:=by
      have:=hI.ge;show nx0+(st.nx+ce.so.ex-b0)=nx0+(st.nx-b0)+ce.so.ex;omega
     have hRI:RI F m nx0 b0 st0 (outE ce.si ce.so ce.nb mp st (.var y:E D (itmsTy ce.so.items))):=by
      refine ⟨by rw [hnx'];exact hR.mok,by show b0≤st.nx+ce.so.ex;have:=hI.ge;omega,hR.fr,hI.fix.trans ⟨rfl,rfl,rfl⟩,fun j hj=>?_,fun j hj=>hI.arn j (outE_isA hs hj)⟩;by_cases hge:b0≤j
      ·exact .inl hge
      ·refine hI.good j fun hdead=>?_
       have hj2:=hR.mok.live hj;by_cases hk:∃ b ∈ itemB ce.so.items,kapE ce.nb mp st.nx b=j
       ·obtain ⟨b,hb,rfl⟩:=hk;have:=hI.ge;by_cases c:b<ce.nb
        ·rw [hκo b c] at hdead;exact (hE.live b (hs.old b hb c).1).2 hdead
        ·rw [hκn b c] at hge;omega
       ·refine hj ?_;show look (look .dead st.hk j) (renHE ce.si ce.so ce.nb mp st (injH ce.so.items (.var y))++st.heap) j=.dead;rw [look_append,look_none (l:=renHE ce.si ce.so ce.nb mp st (injH ce.so.items (.var y))) (fun hm=>?_)]
        ·exact hdead
        ·obtain ⟨p,hp,h2⟩:=List.mem_map.1 hm;obtain ⟨p',hp',rfl⟩:=List.mem_map.1 hp;refine hk ⟨p'.1,?_,h2⟩;rw [←keyB ce.so.items (.var y:E D (itmsTy ce.so.items))];exact List.mem_map.2 ⟨p',hp',rfl⟩
     have hcr:∀ p ∈ (List.range ce.so.ex).map (fun j=>(i,st.nx+j))++cr,b0≤p.2:=fun p hp=>by
      rcases List.mem_append.1 hp with hp | hp
      ·obtain ⟨j,_,rfl⟩:=List.mem_map.1 hp;have:=hI.ge;show b0≤st.nx+j;omega
      ·exact hc p hp
     have ecr:mapP m ((List.range ce.so.ex).map (fun j=>(i,st.nx+j))++cr)=(Dr.news (nxOf nx0 b0 st) (nxOf nx0 b0 st+ce.so.ex)).map (fun id=>(i,id))++mapP m cr:=by
      unfold mapP Dr.news;rw [List.map_append,Nat.add_sub_cancel_left];congr 1;rw [List.map_map,List.range'_eq_map_range,List.map_map];refine List.map_congr_left fun j _=>?_
      show (i,m (st.nx+j))=(i,nxOf nx0 b0 st+j);rw [hnew]
     have hnext:=k _ _ (hRI.put o.dst _) hcr h
     have hst:Dr.AG P n ops T (mapP m ws) nx0 Kt (i+1) ((Dr.news (nxOf nx0 b0 st) (nxOf nx0 b0 st+ce.so.ex)).map (fun id=>(i,id))++mapP m cr) l
       ((⟨(st.enc m (nxOf nx0 b0 st)).regs,Dr.onL (L++Dr.news (nxOf nx0 b0 st) (nxOf nx0 b0 st+ce.so.ex)) (look .dead ((exi ce.si ce.so ce.nb (.var y:E D (itmsTy ce.so.items))).enc (tauE ce.nb (mM m mp) (nxOf nx0 b0 st)) (nxOf nx0 b0 st+ce.so.ex)).heap) (st.enc m (nxOf nx0 b0 st)).heap,nxOf nx0 b0 st+ce.so.ex⟩:ASt).put o.dst
        ((look SV.any (statR ce.so.stat++injR ce.so.items (.var y:E D (itmsTy ce.so.items))) 0).enc (tauE ce.nb (mM m mp) (nxOf nx0 b0 st)) (exi ce.si ce.so ce.nb (.var y:E D (itmsTy ce.so.items))).blk)):=by
      rw [←ecr];refine .le ?_ hnext
      have e2:nxOf nx0 b0 ((outE ce.si ce.so ce.nb mp st (.var y:E D (itmsTy ce.so.items))).put o.dst (resE ce.si ce.so ce.nb mp st (.var y)))=nxOf nx0 b0 st+ce.so.ex:=by
       rw [←hnx']
       cases o.dst <;> rfl
      rw [e2,put_enc];exact hR.les.put hR.res
     have hvis:∀ b ∈ itemB ce.si.items,Dr.visW T (mapP m ws) nx0 i (mapP m cr) (mM m mp b)=true:=fun b hb=>by
      have h1:=List.all_eq_true.1 b1 b hb;rw [Bool.and_eq_true] at h1;have hgk:Good b0 st0 (mpI mp b):=hI.good _ (hE.live b hb).2;unfold Dr.visW;show (vis T nx0 i (mapP m cr) (m (mpI mp b))&&Dr.okW T (mapP m ws) i (m (mpI mp b)))=true;rw [vis_m hL hc hgk,okW_m hL hws hgk];exact h1.1
     refine .step (.eff L (nxOf nx0 b0 st+ce.so.ex) _ hg (fun q hqq=>⟨hd,fun K' a w G' r'=>?_⟩) hd (Nat.le_add_right _ _) (fun id g1 g2=>?_) (fun id hid=>?_) (fun id=>⟨fun hid=>?_,fun hid=>?_⟩) (fun id=>?_) ?_) hst
     ·have hkq:nxOf nx0 b0 st≤q:=Nat.le_trans (Nat.le_add_right _ _) hqq;have r2:=r'.les (lclS_les hL hws hc hI.good hI.mok (Nat.le_trans hI.mok.ge.1 hkq) (fun j hj=>by have:=hkb j hj;omega));have hc':((lclS ops T ws b0 i cr st o).enc m q).ev cal=.fn Fn (SV.encL m (lclS ops T ws b0 i cr st o).blk caps):=by rw [enc_ev,hcal,SV.enc]
      have e1:=r2.ev cal;rw [hc'] at e1;obtain ⟨us,e2,hul,hur⟩:=e1.fn'
      have hargs:ArgsV w G' (SV.encL m (lclS ops T ws b0 i cr st o).blk vs) (args.map a.eval++us):=by
       rw [hvs,←evS_append (nx:=q)];refine ⟨by simp [hul],fun i x v hx hv=>?_⟩;by_cases hi:i<args.size
       ·rw [List.getElem?_append_left (by simpa using hi)] at hx;rw [Array.getElem?_append_left (by simpa using hi)] at hv;refine list_ev r2 args.toList i x v hx ?_;rw [List.getElem?_map,Array.getElem?_toList];rw [Array.getElem?_map] at hv;exact hv
       ·rw [List.getElem?_append_right (by simp;omega)] at hx;rw [Array.getElem?_append_right (by simp;omega)] at hv;exact hur _ x v hx (by simpa using hv)
      refine ⟨Fn,args.map a.eval++us,by simp [execOp,hop,resolve,e2,Deferred.ofValue,invoke,run_callFunc' hF],?_⟩;have hcall:=callS_ok hI.mok.ge.1 (kk:=nxOf nx0 b0 st) hceok hdet hs (hEq q hkq) hm0 hqq hy r2.hr r2.nx hargs;refine hcall.mono ?_
      rintro en w' ⟨v,G2,g1,g2,g3,g4⟩
      refine ⟨v,G2,g1,?_,by rw [g3];exact r2.nx.symm,g4⟩;have hfun:orQ (hasN L) (nxOf nx0 b0 st) (nxOf nx0 b0 st+ce.so.ex)=fun id=>pE ce.si (mM m mp) id||newQ (nxOf nx0 b0 st) (nxOf nx0 b0 st+ce.so.ex) id:=funext hq
      show OutS (orQ (hasN L) (nxOf nx0 b0 st) (nxOf nx0 b0 st+ce.so.ex)) (nxOf nx0 b0 st) (nxOf nx0 b0 st+ce.so.ex) _ _ _ _ _ _;rw [hfun];exact g2
     ·have g1:nxOf nx0 b0 st≤id:=g1;have g2:id<nxOf nx0 b0 st+ce.so.ex:=g2;obtain ⟨j,rfl⟩:∃ j,id=nxOf nx0 b0 st+j:=⟨id-nxOf nx0 b0 st,by omega⟩;have hj:=List.all_eq_true.1 b3 j (List.mem_range.2 (by omega));rw [←hnew];unfold Dr.newW mapP at *
      rw [List.all_map];refine List.all_eq_true.2 fun p hp=>?_
      have:=List.all_eq_true.1 hj p hp;show (bif Nat.beq (m p.2) (m (st.nx+j)) then _ else true)=true;rw [beq_m hL (hws p hp) (.inl (by have:=hI.ge;omega))];exact this
     ·obtain ⟨b,hb,rfl⟩:=List.mem_map.1 hid;exact ⟨hm0 b hb,hvis b hb⟩
     ·obtain ⟨p,hp,e1⟩:=List.mem_map.1 hid;have h2:=List.all_eq_true.1 b2 p hp;simp only [Prod.mk.injEq] at e1;rw [e1.1,Nat.beq_refl] at h2;simp only [Bool.not_true,Bool.false_or] at h2;obtain ⟨b,hb,h3⟩:=List.any_eq_true.1 h2;refine List.mem_map.2 ⟨b,hb,?_⟩;rw [←e1.2,Nat.eq_of_beq_eq_true h3]
     ·obtain ⟨b,hb,rfl⟩:=List.mem_map.1 hid;have h1:=List.all_eq_true.1 b1 b hb;rw [Bool.and_eq_true] at h1;obtain ⟨p,hp,h2⟩:=List.any_eq_true.1 h1.2;rw [Bool.and_eq_true] at h2;refine List.mem_map.2 ⟨p,hp,?_⟩;rw [Nat.eq_of_beq_eq_true h2.1,Nat.eq_of_beq_eq_true h2.2]
     ·rcases heap_cases hτ id with h' | ⟨b,hb,rfl⟩ | ⟨h1,_,_⟩
      ·exact .inl h'
      rotate_left
      ·rw [noA_isA (hXn 0)] at h1;cases h1
      ·refine .inr ⟨hexk b (exiK hs hb),?_⟩;rw [enc_blk hτ hb];exact sb_nmd hBX hRX _ (hXn _)
     ·exact enc_nmd (pB:=fun _=>true) (pR:=fun _ _=>true) (fun id _ h=>hBX id h) (fun id v q _ h=>hRX id v q h) _ (sv_refs_all _) (.inl (lookV_noA (fun p hp=>(List.mem_append.1 hp).elim (statR_noA hs.nso p) (injR_noA _ _ hs.nao p)) 0))
   ·cases h
  ·cases h
theorem op_mv {o:Oper} {y:Operand} {s:ASt} {v:AV} (hm:isMv o.op=some y) (hx:s.ev y=v) (hd:dok o.dst n=true):OpR P n o s v:=by
 obtain ⟨d,op,ty,ps,af,gg⟩:=o;have hm:isMv op=some y:=hm;have hd:dok d n=true:=hd;unfold isMv at hm;split at hm
 ·injection hm with hm
  subst hm;exact op_move hx hd
 ·injection hm with hm
  subst hm;exact op_assign hx hd
 ·cases hm
theorem moveR_ok (hL:Lay m nx0 b0 st0) (hc:∀ p ∈ cr,b0≤p.2) (hI:RI F m nx0 b0 st0 st) (hd:dok o.dst n=true)
  (hg:o.guard=none∨gst ops o (Dr.lcl ops T (mapP m ws) nx0 i (mapP m cr) (st.enc m (nxOf nx0 b0 st)) o 0)=some true) {y:Operand} (hm:isMv o.op=some y)
  {K:List (Nat×Nat)→SSt D→G D (KD ρ) ρ} (h:(moveR T ws b0 i cr st o y K).den fu=some r)
  (k:∀ cr' st',RI F m nx0 b0 st0 st'→(∀ p ∈ cr',b0≤p.2)→(K cr' st').den fu=some r→AGm P n ops T ws nx0 b0 m Kt (i+1) cr' l st'):AGm P n ops T ws nx0 b0 m Kt i cr (o::l) st:=by
 unfold moveR at h
 cases hb:(Dr.noW ws i&&(st.ev y).refs (visV T b0 i cr) (fun k _=>visV T b0 i cr k)) with
 | false=>rw [hb] at h;cases h
 | true =>
  rw [hb] at h;rw [Bool.and_eq_true] at hb;simp only [cond_true] at h
  have hy:y ∈ o.op.operands.toList:=by
   unfold isMv at hm;split at hm
   ·rename_i e;injection hm with hm;subst hm;rw [e];simp [Op.operands]
   ·rename_i e;injection hm with hm;subst hm;rw [e];simp [Op.operands]
   ·cases hm
  have hop:∀ k,nx0≤k→OpR P n o (Dr.lcl ops T (mapP m ws) nx0 i (mapP m cr) (st.enc m (nxOf nx0 b0 st)) o k) ((st.ev y).enc m st.blk):=fun k _=>op_mv hm ((lregs_ev hy).trans (enc_ev _ _ _ _)) hd
  have key:∀ id,visV T b0 i cr id=true→st.blk id≠.dead→vis T nx0 i (mapP m cr) (m id)=true:=fun id hv hbl=>by rw [vis_m hL hc (hI.good id hbl)];exact hv
  have hnm:((st.ev y).enc m st.blk).nmd (vis T nx0 i (mapP m cr))=true:=by
   refine enc_nmd (fun id hp hb=>key id hp fun e=>?_) (fun id v n hp hb=>key id hp fun e=>?_) _ hb.2 (.inr fun _ h=>vis_arn hL h)
   ·unfold isBox at hb;rw [e] at hb;cases hb
   ·unfold rowLen at hb;rw [e] at hb;cases hb
  cases hl:lets o.op with
  | true =>
   rw [hl] at h;simp only [cond_true] at h;obtain ⟨z,hz,h⟩:=letV_den h;exact .step (.read (by rw [noW_m];exact hb.1) hg hop hnm) (AGm.put (by rw [hz];exact .refl _) (k cr _ (hI.put _ _) hc h))
  | false =>
   rw [hl] at h;exact .step (.read (by rw [noW_m];exact hb.1) hg hop hnm) (AGm.put (.refl _) (k cr _ (hI.put _ _) hc h))
theorem stepR_ok' (hC:C.ok P) (hL:Lay m nx0 b0 st0) (hws:∀ p ∈ ws,Good b0 st0 p.2) (hc:∀ p ∈ cr,b0≤p.2) (hI:RI F m nx0 b0 st0 st) (hd:dok o.dst n=true)
  (hg:o.guard=none∨gst ops o (Dr.lcl ops T (mapP m ws) nx0 i (mapP m cr) (st.enc m (nxOf nx0 b0 st)) o 0)=some true)
  {K:List (Nat×Nat)→SSt D→G D (KD ρ) ρ} (h:(stepR' C T ws b0 i cr (lclS ops T ws b0 i cr st o) st o K).den fu=some r)
  (k:∀ cr' st',RI F m nx0 b0 st0 st'→(∀ p ∈ cr',b0≤p.2)→(K cr' st').den fu=some r→AGm P n ops T ws nx0 b0 m Kt (i+1) cr' l st'):AGm P n ops T ws nx0 b0 m Kt i cr (o::l) st:=by
 unfold stepR' at h;split at h
 ·rename_i y hy;exact moveR_ok hL hc hI hd hg hy h k
 split at h
 ·rename_i x g hx
  cases hb:(Dr.noW ws i&&x.refs (visS T ws b0 i cr) (fun k _=>visS T ws b0 i cr k)) with
  | false=>rw [hb] at h;cases h
  | true =>
   rw [hb] at h;rw [Bool.and_eq_true] at hb;simp only [cond_true] at h;obtain ⟨hgd,h⟩:=grdG_den h
   have hop:∀ k,nx0≤k→OpR P n o (Dr.lcl ops T (mapP m ws) nx0 i (mapP m cr) (st.enc m (nxOf nx0 b0 st)) o k) (x.enc m (lclS ops T ws b0 i cr st o).blk):=fun k hkA=>⟨hd,fun K a w G r=>by
    have hk:=lt_of_rel hL hws hc hI.good hI.arn hI.mok hkA r;have hm:=lclS_mok (ops:=ops) (T:=T) (ws:=ws) (b0:=b0) (i:=i) (cr:=cr) (o:=o) hI.mok (Nat.le_trans hL.ge.1 hkA) hk
    exact (OpR.le (lclS_les hL hws hc hI.good hI.mok (Nat.le_trans hL.ge.1 hkA) hk) (rd_ok (n:=n) hC.T hm hx hgd hd)).out K a w G r⟩
   have hnm:=nmdS (ops:=ops) (o:=o) hL hc hI hb.2;have hles:Les (x.enc m st.blk) (x.enc m (lclS ops T ws b0 i cr st o).blk):=enc_les lclS_memS x hb.2
   cases hl:lets o.op with
   | true =>
    rw [hl] at h;simp only [cond_true] at h;obtain ⟨y,hy,h⟩:=letV_den h;exact .step (.read (by rw [noW_m];exact hb.1) hg hop hnm) (AGm.put (by rw [hy];exact hles) (k cr _ (hI.put _ _) hc h))
   | false =>
    rw [hl] at h;exact .step (.read (by rw [noW_m];exact hb.1) hg hop hnm) (AGm.put hles (k cr _ (hI.put _ _) hc h))
 ·cases hnw:(isNew o.op&&Dr.noW ws i) with
  | true =>
   rw [hnw] at h;rw [Bool.and_eq_true] at hnw;exact newR_ok hC hL hws hc hI hd hnw.1 hg h k
  | false =>
  rw [hnw] at h;simp only [cond_false] at h;split at h
  ·rename_i ce vs hef;exact effD_ok hC hL hws hc hI hd hg hef h k
  rename_i hnone;clear hnone
  cases hb:Dr.noW ws i with
  | false =>
   rw [hb] at h;exact writeR_ok hC hL hws hc hI hd hg h k
  | true =>
   rw [hb] at h;simp only [cond_true] at h;obtain ⟨d,op,ty,ps,af,gg⟩:=o;have hd:dok d n=true:=hd;simp only at h;unfold callR at h;split at h
   ·rename_i cal args ats _ _;split at h
    ·rename_i Fn caps hcal;split at h
     ·rename_i hF;have hcal':=allP_at hC.cas hF;split at h
      ·rename_i c hctr;split at h
       ·rename_i e hargs;rw [G.den] at h;unfold bindO at h;split at h
        ·rename_i y hy;have hAF:=allP_at hC.ctrs hctr fu e.den y hy
         have hop:∀ k,nx0≤k→OpF P n ⟨d,.call ⟨.value cal,args,ats⟩,ty,ps,af,gg⟩ (Dr.lcl ops T (mapP m ws) nx0 i (mapP m cr) (st.enc m (nxOf nx0 b0 st)) ⟨d,.call ⟨.value cal,args,ats⟩,ty,ps,af,gg⟩ k) (oneOf (c.r.avs true y)):=fun k hkA=>⟨hd,fun K a w G r=>by
          have hk:=lt_of_rel hL hws hc hI.good hI.arn hI.mok hkA r;have hm:=lclS_mok (ops:=ops) (T:=T) (ws:=ws) (b0:=b0) (i:=i) (cr:=cr) (o:=⟨d,.call ⟨.value cal,args,ats⟩,ty,ps,af,gg⟩) hI.mok (Nat.le_trans hL.ge.1 hkA) hk;have hc':((lclS ops T ws b0 i cr st ⟨d,.call ⟨.value cal,args,ats⟩,ty,ps,af,gg⟩).enc m k).ev cal=.fn Fn (SV.encL m (lclS ops T ws b0 i cr st ⟨d,.call ⟨.value cal,args,ats⟩,ty,ps,af,gg⟩).blk caps):=by rw [enc_ev,hcal,SV.enc]
          exact (OpF.le (lclS_les hL hws hc hI.good hI.mok (Nat.le_trans hL.ge.1 hkA) hk) (OpF.of hc' (evS_append _ args.toList caps) hcal' hd hAF (exArgs_ok hm _ _ _ hargs))).out K a w G r⟩
         refine .step (.call (by rw [noW_m];exact hb) hg hop ?_) (AGm.put ?_ (k cr _ (hI.put _ _) hc h))
         ·have e1:(oneOfS (svsE true c.r (.var y:E D c.r))).enc m (fun _=>SB.dead)=oneOf (c.r.avs true y):=by rw [oneOfS_enc,svsE_enc];rfl
          rw [←e1];exact enc_nmd (pB:=fun _=>false) (pR:=fun _ _=>false) (fun id h=>by cases h) (fun id v n h=>by cases h) _ (one_nmd (datas_nmd c.r _)) (.inr fun _ h=>vis_arn hL h)
         ·rw [oneOfS_enc,svsE_enc];exact .refl _
        ·cases h
       ·cases h
      ·cases h
     ·cases h
    ·cases h
   ·cases h
theorem sR_ok (hC:C.ok P) (hL:Lay m nx0 b0 st0) (hws:∀ p ∈ ws,Good b0 st0 p.2) {K:SSt D→G D (KD ρ) ρ} (hK:∀ st',RI F m nx0 b0 st0 st'→(K st').den fu=some r→Kt (st'.enc m (nxOf nx0 b0 st'))):∀ (l:List Oper) (i:Nat) (cr:List (Nat×Nat)) (st:SSt D),(sR C n ops T ws b0 K i cr l st).den fu=some r→RI F m nx0 b0 st0 st→(∀ p ∈ cr,b0≤p.2) →
  AGm P n ops T ws nx0 b0 m Kt i cr l st
 | [],i,cr,st,h,hI,hc=>.nil (hK st hI h)
 | o::l,i,cr,st,h,hI,hc=>by
  rw [sR] at h
  cases hd:dok o.dst n with
  | false=>rw [hd] at h;cases h
  | true =>
   rw [hd] at h;simp only [cond_true] at h
   have ihr:∀ cr' st',RI F m nx0 b0 st0 st'→(∀ p ∈ cr',b0≤p.2)→(sR C n ops T ws b0 K (i+1) cr' l st').den fu=some r→AGm P n ops T ws nx0 b0 m Kt (i+1) cr' l st' :=
    fun cr' st' h1 h2 h3=>sR_ok hC hL hws hK l (i+1) cr' st' h3 h1 h2
   have sk:∀ st1,RI F m nx0 b0 st0 st1→gst ops o (Dr.lcl ops T (mapP m ws) nx0 i (mapP m cr) (st1.enc m (nxOf nx0 b0 st1)) o 0)=some false→(bif Dr.noW ws i then sR C n ops T ws b0 K (i+1) cr l (st1.put o.dst .und) else .fail).den fu=some r→AGm P n ops T ws nx0 b0 m Kt i cr (o::l) st1:=by
    intro st1 hI hg h
    cases hb:Dr.noW ws i with
    | false=>rw [hb] at h;cases h
    | true =>
     rw [hb] at h;exact skipR_ok hd hb hg (ihr cr _ (hI.put _ _) hc h)
   split at h
   ·rename_i hw;exact stepR_ok' hC hL hws hc hI hd (gst_yesS hw) h ihr
   ·rename_i hw;exact sk st hI (gst_noS hw) h
   ·rename_i c d want hw;obtain ⟨hg,hx⟩:=wantS_ask hw;rw [G.den] at h
    have know:∀ b,c.den=b→AGm P n ops T ws nx0 b0 m Kt i cr (o::l) (st.put (some d) (.bool (.bL b)))→AGm P n ops T ws nx0 b0 m Kt i cr (o::l) st:=by
     intro b hb k;refine .le ?_ k;have e:nxOf nx0 b0 (st.put (some d) (.bool (.bL b)))=nxOf nx0 b0 st:=rfl;rw [e,put_enc];refine ⟨fun k=>?_,fun k=>.refl _,rfl⟩;show Les (look .any ((d,SV.enc m st.blk (.bool (.bL b)))::(st.enc m (nxOf nx0 b0 st)).regs) k) _;rw [look_cons];split
     ·rename_i e;subst e;rw [enc_get,hx,SV.enc,SV.enc];exact .of (congrArg AV.bool hb.symm)
     ·exact .refl _
    cases hcd:(c.den:Bool) with
    | true =>
     rw [hcd] at h;simp only [cond_true] at h;refine know true hcd ?_
     cases want with
     | true=>exact stepR_ok' hC hL hws hc (hI.put _ _) hd (.inr (gst_put hg)) h ihr
     | false=>exact sk _ (hI.put _ _) (gst_put hg) h
    | false =>
     rw [hcd] at h;simp only [cond_false] at h;refine know false hcd ?_
     cases want with
     | true=>exact sk _ (hI.put _ _) (gst_put hg) h
     | false=>exact stepR_ok' hC hL hws hc (hI.put _ _) hd (.inr (gst_put hg)) h ihr
   ·cases h
theorem dr_pre {st:SSt D} {s:ASt} (hs:StL F st s):∃ m nx0,RLe s (st.enc m nx0)∧Lay m nx0 st.nx st∧RI F m nx0 st.nx st st∧nxOf nx0 st.nx st=nx0:=by
 obtain ⟨m0,nx0,hm,hr,hf⟩:=hs
 let m:Nat→Nat:=fun k=>if k<st.nx then m0 k else nx0+(k-st.nx)
 have hlv:∀ k,st.blk k≠.dead→k<st.nx:=fun k hk=>hm.live hk
 have hmk:∀ k,k<st.nx→m k=m0 k:=fun k hk=>if_pos hk
 have hmn:∀ k,st.nx≤k→m k=nx0+(k-st.nx):=fun k hk=>if_neg (by omega)
 have hmem:MemLe m0 st.blk m st.blk (fun _=>true) (fun _ _=>true):=by
  refine ⟨fun id _=>?_,fun id v _=>?_⟩
  ·by_cases e:st.blk id=.dead
   ·left;unfold isBox;rw [e]
   ·exact .inr ⟨rfl,hmk id (hlv id e)⟩
  ·by_cases e:st.blk id=.dead
   ·left;unfold rowLen;rw [e]
   ·exact .inr ⟨rfl,hmk id (hlv id e)⟩
 have hall:=refs_all st;unfold SSt.refs at hall;simp only [Bool.and_eq_true] at hall;obtain ⟨r1,r2,r3,r4,r5⟩:=hall;have hmok:MOk m nx0 st:=⟨fun k hk=>by rw [hmk k (hlv k hk)];exact hm.lt k hk,fun k k' hk hk' e=>by rw [hmk k (hlv k hk),hmk k' (hlv k' hk')] at e;exact hm.inj k k' hk hk' e,hm.keys,fun h=>by rw [hmk 0 (hlv 0 fun e=>by rw [e] at h;cases h)];exact hm.ar' h,hm.ge.1,fun k hk=>by rw [hmk k (hlv k hk)];exact hm.ge.2 k hk⟩
 have hles:LeS (st.enc m nx0) (st.enc m0 nx0):=by
  refine ⟨fun d=>?_,fun k=>?_,rfl⟩
  ·exact encR_les hmem (st.regs++st.kp) (by rw [refsR_append,r1,r2];rfl) d
  ·have hrw:(st.blk 0).rows (m 0)=(st.blk 0).rows (m0 0):=by
    cases hA:(st.blk 0).isA with
    | true=>rw [hmk 0 (hlv 0 fun e=>by rw [e] at hA;cases hA)]
    | false=>rw [isA_rows hA,isA_rows hA]
   show LesB (look .dead (encH m st.blk (st.heap++st.hk)++(st.blk 0).rows (m 0)) k) (look .dead (encH m0 st.blk (st.heap++st.hk)++(st.blk 0).rows (m0 0)) k);rw [hrw,look_append,look_append];exact encH_lesD hmem _ _ (by rw [refsH_append,r3,r4];rfl) (fun p hp=>hmk p.1 (hm.keys p hp).1) k
 have hL:Lay m nx0 st.nx st:=⟨hmn,fun k hk hb=>by rw [hmk k hk];exact hm.lt k hb,fun k k' h1 h2 e=>hmok.inj k k' h1 h2 e,hlv,hmok.ge⟩;have hnx:nxOf nx0 st.nx st=nx0:=by unfold nxOf;omega
 have hI:RI F m nx0 st.nx st st:=⟨by rw [hnx];exact hmok,Nat.le_refl _,hf.les' hmem r5,.refl st,fun k hk=>.inr hk,fun _ h=>h⟩;exact ⟨m,nx0,hr.trans hles.rle,hL,hI,hnx⟩
theorem ws_good {st:SSt D} {ws:List (Nat×Nat)} (hb:(ws.all fun p=>isLive (st.blk p.2)||Nat.ble st.nx p.2)=true):∀ p ∈ ws,Good st.nx st p.2:=by
 intro p hp;have:=List.all_eq_true.1 hb p hp;rw [Bool.or_eq_true] at this;rcases this with h | h
 ·right
  intro e;rw [e] at h;cases h
 ·exact .inl (Nat.le_of_ble_eq_true h)
theorem anyS_fix (l:List Oper):∀ (J:List Nat) (st:SSt D),Fix st (anyS l J st)∧(anyS l J st).blk=st.blk
 | [],st=>⟨.refl st,rfl⟩
 | j::J,st=>by
  rw [anyS];split
  ·rename_i o _;obtain ⟨h1,h2⟩:=anyS_fix l J (st.put o.dst .any);exact ⟨(put_fix st o.dst .any).trans h1,h2.trans (put_blk st o.dst .any)⟩
  ·exact anyS_fix l J st
theorem any_les (s:ASt) (d:Option Nat):LeS (s.put d .any) s:=by
 cases d with
 | none=>exact .refl s
 | some d =>
  refine ⟨fun k=>?_,fun k=>.refl _,rfl⟩;show Les (look .any ((d,AV.any)::s.regs) k) _;rw [look_cons];split
  ·exact .any _
  ·exact .refl _
theorem anyS_les (l:List Oper) (m:Nat→Nat) (nx:Nat):∀ (J:List Nat) (st:SSt D),LeS ((anyS l J st).enc m nx) (st.enc m nx)
 | [],st=>.refl _
 | j::J,st=>by
  rw [anyS];split
  ·refine (anyS_les l m nx J _).trans ?_;rw [put_enc,SV.enc];exact any_les _ _
  ·exact anyS_les l m nx J st
theorem anyS_mok {m:Nat→Nat} {nx:Nat} (l:List Oper):∀ (J:List Nat) (st:SSt D),MOk m nx st→MOk m nx (anyS l J st)
 | [],st,h=>h
 | j::J,st,h=>by
  rw [anyS];split
  ·exact anyS_mok l J _ (put_mok h _ _)
  ·exact anyS_mok l J st h
theorem anyS_keep (l:List Oper) (t:Nat):∀ (J:List Nat) (st:SSt D),st.get t=.any→(anyS l J st).get t=.any
 | [],st,h=>h
 | j::J,st,h=>by
  rw [anyS];split
  ·rename_i o _;refine anyS_keep l t J _ ?_
   cases hd:o.dst with
   | none=>exact h
   | some d =>
    show look (look .any st.kp t) ((d,SV.any)::st.regs) t=.any;rw [look_cons];split
    ·rfl
    ·exact h
  ·exact anyS_keep l t J st h
theorem anyS_get (l:List Oper) (t:Nat):∀ (J:List Nat) (st:SSt D),(∃ j o,j ∈ J∧l[j]?=some o∧o.dst=some t)→(anyS l J st).get t=.any
 | [],st,⟨j,o,h,_⟩=>by cases h
 | i::J,st,⟨j,o,h,ho,ht⟩=>by
  rw [anyS];rcases List.mem_cons.1 h with rfl | h
  ·rw [ho];refine anyS_keep l t J _ ?_;rw [ht];show look (look .any st.kp t) ((t,SV.any)::st.regs) t=.any;rw [look_self]
  ·split
   ·exact anyS_get l t J _ ⟨j,o,h,ho,ht⟩
   ·exact anyS_get l t J _ ⟨j,o,h,ho,ht⟩
theorem anyS_stl (l:List Oper) (J:List Nat) {st:SSt D} {s:ASt} (hs:StL F st s):StL F (anyS l J st) s:=by
 obtain ⟨m,nx,hm,hr,hf⟩:=hs;obtain ⟨h1,h2⟩:=anyS_fix l J st;exact ⟨m,nx,anyS_mok l J st hm,hr.trans (anyS_les l m nx J st).rle,by rw [h2,h1.fr];exact hf⟩
theorem syP_ok (hC:C.ok P) {m:Nat→Nat} {nx:Nat} {l:List Oper} {k:G D (KD ρ) ρ}:∀ (J:List Nat) (st:SSt D),MOk m nx st→(syP C n l J st k).den fu=some r→Dr.SyRun P n l (fun _=>True) J (st.enc m nx)∧k.den fu=some r
 | [],st,_,h=>⟨trivial,h⟩
 | j::J,st,hm,h=>by
  rw [syP] at h;split at h
  ·rename_i o ho
   cases hd:dok o.dst n with
   | false=>rw [hd] at h;cases h
   | true =>
    rw [hd] at h;simp only [cond_true] at h;split at h
    ·rename_i x g hrd;obtain ⟨hg,h⟩:=grdG_den h;obtain ⟨g1,g2⟩:=syP_ok hC J (st.put o.dst x) (put_mok hm _ _) h;rw [put_enc] at g1;exact ⟨⟨o,_,ho,rd_ok hC.T hm hrd hg hd,g1⟩,g2⟩
    ·cases h
  ·cases h
theorem syG_ok (hC:C.ok P) {m:Nat→Nat} {nx:Nat} {st0:SSt D} {l:List Oper} {KA:ASt→Prop} {K:SSt D→G D (KD ρ) ρ} (hK:∀ st',MOk m nx st'→FrOk m st'.blk st'.fr F→Fix st0 st'→(K st').den fu=some r→KA (st'.enc m nx)):∀ (J:List Nat) (st:SSt D),(syG C n l J st K).den fu=some r→MOk m nx st→FrOk m st.blk st.fr F→Fix st0 st→Dr.SyRun P n l KA J (st.enc m nx)
 | [],st,h,hm,hf,hx=>hK st hm hf hx h
 | j::J,st,h,hm,hf,hx=>by
  rw [syG] at h;split at h
  ·rename_i o ho
   cases hd:dok o.dst n with
   | false=>rw [hd] at h;cases h
   | true =>
    rw [hd] at h;simp only [cond_true] at h;split at h
    ·rename_i x g hrd;obtain ⟨hg,h⟩:=grdG_den h;obtain ⟨y,hy,h⟩:=letV_den h;have hp:=put_fix st o.dst y;have:=syG_ok hC hK J (st.put o.dst y) h (put_mok hm _ _) (by rw [put_blk,hp.fr];exact hf) (hx.trans hp);rw [put_enc,hy] at this;exact ⟨o,_,ho,rd_ok hC.T hm hrd hg hd,this⟩
    ·cases h
  ·cases h
theorem drS_ok (hC:C.ok P) {self:SelfG D (KD ρ) ρ} (hS:SelfOkG P fu self) {an:An} {l:List Oper} {m' k':Nat} {J:List Nat} {st0 st:SSt D} {ws:List (Nat×Nat)} {K:SSt D→G D (KD ρ) ρ} {s:ASt} {id:Nat} (hany:∀ j o t,j ∈ J→l[j]?=some o→o.dst=some t→st.get t=.any) (hfx:Fix st0 st) (h:(drS C self an n l m' k' J st ws K).den fu=some r) (hs:StL F st s):AW P n (.region id l.toArray true) (PostL F st0 fun st'=>(K st').den fu=some r) s:=by
 unfold drS at h;split at h
 rotate_left
 ·cases h
 rename_i A hA
 cases hb:((Dr.planR l (ancs l [])&&(ws.all fun p=>isLive (st.blk p.2)||Nat.ble st.nx p.2)&&Dr.tailSy l (ancs l []) m' k' J)&&((ws.all fun p=>Nat.blt p.1 m')&&Dr.isCall A.op)) with
 | false=>rw [hb] at h;cases h
 | true =>
  rw [hb] at h;simp only [Bool.and_eq_true] at hb;obtain ⟨⟨⟨b1,b2⟩,b3⟩,b4,b5⟩:=hb;simp only [cond_true] at h;obtain ⟨m,nx0,hr,hL,hI,hnx⟩:=dr_pre hs;obtain ⟨hO,h⟩:=syP_ok hC J st hI.mok h;have hsR:=sR_ok (ops:=⟨l⟩) (T:=ancs l []) (ws:=ws) (Kt:=fun s=>AL P n l.toArray (PostL F st0 fun st2=>(syG C n l J (anyS l J st2) fun st3=>sL C self n ⟨l⟩ an k' (l.drop k') st3 K).den fu=some r) [A] s) hC hL (ws_good b2) (fun st' hI' h'=>sL_ok hC hS an _ _ st' _ h' ⟨m,_,hI'.mok,.refl _,hI'.fr⟩ (hfx.trans hI'.fix)) (l.take m') 0 [] st h hI (fun p hp=>by cases hp);unfold AGm at hsR;rw [hnx] at hsR hO;refine AW.rle hr (Dr.AW.drawS (mapP m ws) m' k' J hC.mixed rfl b1 b3 (fun p hp=>?_) hA b5 hO (fun j o t hj ho ht=>?_) (fun e s' hq=>?_) hsR)
  ·obtain ⟨p',hp',rfl⟩:=List.mem_map.1 hp;have:=List.all_eq_true.1 b4 p' hp';simpa using this
  ·rw [enc_get,hany j o t hj ho ht,SV.enc]
  ·obtain ⟨he,st2,hs2,hx2,hd2⟩:=hq;obtain ⟨m2,nx2,hm2,hr2,hf2⟩:=hs2;obtain ⟨g1,g2⟩:=anyS_fix l J st2;refine ⟨he,(anyS l J st2).enc m2 nx2,hr2.trans (anyS_les l m2 nx2 J st2).rle,fun j o t hj ho ht=>?_,?_⟩
   ·rw [enc_get,anyS_get l t J st2 ⟨j,o,hj,ho,ht⟩,SV.enc]
   ·exact syG_ok (st0:=st0) hC (fun st' k1 k2 k3 k4=>sL_ok hC hS an _ _ st' _ k4 ⟨m2,nx2,k1,.refl _,k2⟩ k3) J _ hd2 (anyS_mok l J _ hm2) (by rw [g2,g1.fr];exact hf2) (hx2.trans g1)
theorem drR_ok (hC:C.ok P) {self:SelfG D (KD ρ) ρ} (hS:SelfOkG P fu self):DrawOk (ρ:=ρ) P fu n (drR C self):=by
 intro an l st K r F s id h hs;unfold drR at h;split at h
 ·rename_i m' k' J _;exact drS_ok hC hS (fun j o t hj ho ht=>anyS_get l t J st ⟨j,o,hj,ho,ht⟩) (anyS_fix l J st).1 h (anyS_stl l J hs)
 generalize wsD C 0 (l.take (tailN (ancs l []) l.length)) st=ws at h;unfold drW at h
 cases hb:(Dr.planR l (ancs l [])&&(ws.all fun p=>isLive (st.blk p.2)||Nat.ble st.nx p.2)&&Dr.tailR l (ancs l []) (tailN (ancs l []) l.length)) with
 | false=>rw [hb] at h;cases h
 | true =>
  rw [hb] at h;rw [Bool.and_eq_true,Bool.and_eq_true] at hb;simp only [cond_true] at h;obtain ⟨m,nx0,hr,hL,hI,hnx⟩:=dr_pre hs;have:=sR_ok (ops:=⟨l⟩) (T:=ancs l []) (ws:=ws) (Kt:=fun s=>AL P n l.toArray (PostL F st fun st'=>(K st').den fu=some r) (l.drop (tailN (ancs l []) l.length)) s) hC hL (ws_good hb.1.2) (fun st' hI' h'=>sL_ok hC hS an _ _ st' _ h' ⟨m,_,hI'.mok,.refl _,hI'.fr⟩ hI'.fix) (l.take (tailN (ancs l []) l.length)) 0 [] st h hI (fun p hp=>by cases hp);unfold AGm at this;rw [hnx] at this;exact AW.rle hr (Dr.AW.drawR (mapP m ws) (tailN (ancs l []) l.length) hC.mixed rfl hb.1.1 hb.2 this)
end
end Go.Proofs.Ytedmffbhklgloaa
/- Decompiling: a function that works on its caller's blocks: its residual program is a contract. No program in sight. -/
namespace Go.Proofs.Ytedmffbhklgloaa
open Go Go.RowKit

section
variable {V W:Ty→Type}
end
end Go.Proofs.Ytedmffbhklgloaa
/- Facts on the types and functions that the symbolic walks ask for (printed by a program). -/
set_option maxRecDepth 1000000
namespace Go.Proofs.Ytedmffbhklgloaa
open Go
def fd (n : String) (t o : Nat) (e : Bool) (p : String) (b : Nat) : Field := { name := n, type := t, offset := o, embedded := e, tag := "", pkgPath := p, byteOffset := b }
def tab:Tab:={
 und:=[(0,.tuple #[]),
  (1,.func #[] #[] false),
  (2,.int .i64),
  (3,.int .i64),
  (4,.bool),
  (5,.int .u8),
  (6,.int .u8),
  (7, .struct #[fd "x" 2 0 false "runtime" 0, fd "y" 3 1 false "runtime" 8, fd "signed" 4 2 false "runtime" 16, fd "code" 6 3 false "runtime" 17]),
  (8, .struct #[fd "x" 2 0 false "runtime" 0, fd "y" 3 1 false "runtime" 8, fd "signed" 4 2 false "runtime" 16, fd "code" 6 3 false "runtime" 17]),
  (9,.string),
  (10,.string),
  (11,.string),
  (12,.int .u64),
  (13, .struct #[fd "msg" 9 0 false "runtime" 0, fd "addr" 12 1 false "runtime" 16]),
  (14, .struct #[fd "msg" 9 0 false "runtime" 0, fd "addr" 12 1 false "runtime" 16]),
  (15,.pointer 58),
  (16,.pointer 61),
  (17,.pointer 71),
  (18, .struct #[fd "typ" 17 0 false "internal/runtime/maps" 0]),
  (19, .struct #[fd "typ" 17 0 false "internal/runtime/maps" 0]),
  (20,.interface #[]),
  (21,.int .i32),
  (22,.slice 5),
  (23,.slice 3),
  (24,.func #[] #[4] false),
  (25,.func #[3,3] #[3] false),
  (26,.int .i64),
  (27,.tuple #[22,3,26]),
  (28,.func #[22,3,23] #[22,3,26] false),
  (29,.func #[3,3,3] #[4] false),
  (30,.func #[4,26,26] #[4] false),
  (31,.tuple #[22,4]),
  (32,.func #[22,3,23,3] #[22,4] false),
  (33,.func #[22,22] #[4] false),
  (34,.func #[22,3,23] #[4] false),
  (35,.tuple #[22,26]),
  (36,.func #[22,3] #[22,26] false),
  (37,.tuple #[5,26]),
  (38,.func #[5] #[5,26] false),
  (39,.func #[5,5] #[5] false),
  (40,.func #[22,3] #[26] false),
  (41,.slice 4),
  (42,.slice 5),
  (43,.func #[42,3] #[42] false),
  (44,.func #[5,3] #[5] false),
  (45,.tuple #[42,4]),
  (46,.func #[22,3] #[42,4] false),
  (47,.func #[22,42,42] #[] false),
  (48,.func #[42,42,3] #[42] false),
  (49,.func #[22,3,23] #[22,4] false),
  (50,.int .u64),
  (51,.func #[5] #[5] false),
  (52,.func #[22,3] #[22] false),
  (53,.slice 22),
  (54,.func #[3] #[5] false),
  (55,.func #[53,22,3] #[22,4] false),
  (56,.func #[] #[9] false),
  (57, .struct #[fd "_interface" 17 0 false "runtime" 0, fd "concrete" 17 1 false "runtime" 8, fd "asserted" 17 2 false "runtime" 16, fd "missingMethod" 9 3 false "runtime" 24]),
  (58, .struct #[fd "_interface" 17 0 false "runtime" 0, fd "concrete" 17 1 false "runtime" 8, fd "asserted" 17 2 false "runtime" 16, fd "missingMethod" 9 3 false "runtime" 24]),
  (59,.array 0 16),
  (60, .struct #[fd "_" 59 0 false "runtime" 0]),
  (61, .struct #[fd "_" 59 0 false "runtime" 0]),
  (62,.func #[] #[3] false),
  (63,.int .u32),
  (64,.int .u8),
  (65,.int .u8),
  (66,.func #[72,72] #[4] false),
  (67,.pointer 5),
  (68,.int .i32),
  (69,.int .i32),
  (70, .struct #[fd "Size_" 12 0 false "" 0, fd "PtrBytes" 12 1 false "" 8, fd "Hash" 63 2 false "" 16, fd "TFlag" 64 3 false "" 20, fd "Align_" 5 4 false "" 21, fd "FieldAlign_" 5 5 false "" 22, fd "Kind_" 65 6 false "" 23, fd "Equal" 66 7 false "" 24, fd "GCData" 67 8 false "" 32, fd "Str" 68 9 false "" 40, fd "PtrToThis" 69 10 false "" 44]),
  (71, .struct #[fd "Size_" 12 0 false "" 0, fd "PtrBytes" 12 1 false "" 8, fd "Hash" 63 2 false "" 16, fd "TFlag" 64 3 false "" 20, fd "Align_" 5 4 false "" 21, fd "FieldAlign_" 5 5 false "" 22, fd "Kind_" 65 6 false "" 23, fd "Equal" 66 7 false "" 24, fd "GCData" 67 8 false "" 32, fd "Str" 68 9 false "" 40, fd "PtrToThis" 69 10 false "" 44]),
  (72,.unsafePointer)],
 inf:=[(1,(some (.nilFunc),1,8)),
  (2,(some (.int .i64 0),1,8)),
  (3,(some (.int .i64 0),1,8)),
  (4,(some (.bool false),1,1)),
  (5,(some (.int .u8 0),1,1)),
  (6,(some (.int .u8 0),1,1)),
  (7,(some (.agg #[.int .i64 0,.int .i64 0,.bool false,.int .u8 0]),4,24)),
  (8,(some (.agg #[.int .i64 0,.int .i64 0,.bool false,.int .u8 0]),4,24)),
  (9,(some (.string ByteArray.empty),1,16)),
  (10,(some (.string ByteArray.empty),1,16)),
  (11,(some (.string ByteArray.empty),1,16)),
  (12,(some (.int .u64 0),1,8)),
  (13,(some (.agg #[.string ByteArray.empty,.int .u64 0]),2,24)),
  (14,(some (.agg #[.string ByteArray.empty,.int .u64 0]),2,24)),
  (15,(some (.pointer none),1,8)),
  (16,(some (.pointer none),1,8)),
  (17,(some (.pointer none),1,8)),
  (18,(some (.agg #[.pointer none]),1,8)),
  (19,(some (.agg #[.pointer none]),1,8)),
  (20,(some (.nilIface),1,16)),
  (21,(some (.int .i32 0),1,4)),
  (22,(some (.slice none 0 0),1,24)),
  (23,(some (.slice none 0 0),1,24)),
  (24,(some (.nilFunc),1,8)),
  (25,(some (.nilFunc),1,8)),
  (26,(some (.int .i64 0),1,8)),
  (28,(some (.nilFunc),1,8)),
  (29,(some (.nilFunc),1,8)),
  (30,(some (.nilFunc),1,8)),
  (32,(some (.nilFunc),1,8)),
  (33,(some (.nilFunc),1,8)),
  (34,(some (.nilFunc),1,8)),
  (36,(some (.nilFunc),1,8)),
  (38,(some (.nilFunc),1,8)),
  (39,(some (.nilFunc),1,8)),
  (40,(some (.nilFunc),1,8)),
  (41,(some (.slice none 0 0),1,24)),
  (42,(some (.slice none 0 0),1,24)),
  (43,(some (.nilFunc),1,8)),
  (44,(some (.nilFunc),1,8)),
  (46,(some (.nilFunc),1,8)),
  (47,(some (.nilFunc),1,8)),
  (48,(some (.nilFunc),1,8)),
  (49,(some (.nilFunc),1,8)),
  (50,(some (.int .u64 0),1,8)),
  (51,(some (.nilFunc),1,8)),
  (52,(some (.nilFunc),1,8)),
  (53,(some (.slice none 0 0),1,24)),
  (54,(some (.nilFunc),1,8)),
  (55,(some (.nilFunc),1,8)),
  (56,(some (.nilFunc),1,8)),
  (57,(some (.agg #[.pointer none,.pointer none,.pointer none,.string ByteArray.empty]),4,40)),
  (58,(some (.agg #[.pointer none,.pointer none,.pointer none,.string ByteArray.empty]),4,40)),
  (59,(some (.agg #[]),0,0)),
  (60,(some (.agg #[]),0,0)),
  (61,(some (.agg #[]),0,0)),
  (62,(some (.nilFunc),1,8)),
  (63,(some (.int .u32 0),1,4)),
  (64,(some (.int .u8 0),1,1)),
  (65,(some (.int .u8 0),1,1)),
  (66,(some (.nilFunc),1,8)),
  (67,(some (.pointer none),1,8)),
  (68,(some (.int .i32 0),1,4)),
  (69,(some (.int .i32 0),1,4)),
  (70,(some (.agg #[.int .u64 0,.int .u64 0,.int .u32 0,.int .u8 0,.int .u8 0,.int .u8 0,.int .u8 0,.nilFunc,.pointer none,.int .i32 0,.int .i32 0]),11,48)),
  (71,(some (.agg #[.int .u64 0,.int .u64 0,.int .u32 0,.int .u8 0,.int .u8 0,.int .u8 0,.int .u8 0,.nilFunc,.pointer none,.int .i32 0,.int .i32 0]),11,48)),
  (72,(some (.pointer none),1,8))],
 fld:=[(7,[(0,(1,false)),(1,(1,false)),(2,(1,false)),(3,(1,false))]),
  (8,[(0,(1,false)),(1,(1,false)),(2,(1,false)),(3,(1,false))]),
  (13,[(0,(1,false)),(1,(1,false))]),
  (14,[(0,(1,false)),(1,(1,false))]),
  (18,[(0,(1,false))]),
  (19,[(0,(1,false))]),
  (57,[(0,(1,false)),(1,(1,false)),(2,(1,false)),(3,(1,false))]),
  (58,[(0,(1,false)),(1,(1,false)),(2,(1,false)),(3,(1,false))]),
  (60,[(0,(0,true))]),
  (61,[(0,(0,true))]),
  (70,[(0,(1,false)),(1,(1,false)),(2,(1,false)),(3,(1,false)),(4,(1,false)),(5,(1,false)),(6,(1,false)),(7,(1,false)),(8,(1,false)),(9,(1,false)),(10,(1,false))]),
  (71,[(0,(1,false)),(1,(1,false)),(2,(1,false)),(3,(1,false)),(4,(1,false)),(5,(1,false)),(6,(1,false)),(7,(1,false)),(8,(1,false)),(9,(1,false)),(10,(1,false))])],
 eqs:=[] }
theorem alP1 {α:Type} {R:Nat→α→Prop} {k:Nat} {x:α} {l:List (Nat×α)} (h:R k x) (h2:allP R l):allP R ((k,x)::l):=⟨h,h2⟩
theorem tab_und:allP (fun k D=>Try.prog.underlying k=some D) tab.und:=by
 unfold tab
 repeat (refine alP1 (by kernel_rfl) ?_)
 exact trivial
theorem tab_inf:allP (fun k x=>tyI Try.prog k=some x) tab.inf:=by
 unfold tab
 repeat (refine alP1 (by kernel_rfl) ?_)
 exact trivial
theorem tab_fld:allP (fun k x=>fieldsP Try.prog k=some x) tab.fld:=by
 unfold tab
 repeat (refine alP1 (by kernel_rfl) ?_)
 exact trivial
theorem tab_eqs:allP (fun k L=>eqInts Try.prog k=true∧eqLen Try.prog k=L) tab.eqs:=by
 unfold tab
 repeat (refine alP1 ⟨by kernel_rfl,by kernel_rfl⟩ ?_)
 exact trivial
theorem tab_ok:tab.ok Try.prog:=⟨tab_und,tab_inf,tab_fld,tab_eqs⟩
def cas:List (Nat×Nat):=[(2,0),(3,0),(4,0),(5,0),(6,0),(7,0),(8,0),(9,0),(10,0),(11,0),(12,0),(13,0),(14,0),(15,0),(16,0),(17,0),(18,0),(19,0),(20,0),(21,0),(22,0),(23,0),(24,0),(25,0),(26,0),(27,0)]
theorem cas_ok:allP (fun k _=>callable Try.prog k=true) cas:=by
 unfold cas
 repeat (refine alP1 (by kernel_rfl) ?_)
 exact trivial
end Go.Proofs.Ytedmffbhklgloaa
/- What a run of the abstract machine asks of the program (printed by a program). -/
set_option maxRecDepth 1000000
namespace Go.Proofs.Ytedmffbhklgloaa
open Go
noncomputable def ctx:Ctx:=⟨tab,[(2,Try.f2),(3,Try.f3),(4,Try.f4),(5,Try.f5),(6,Try.f6),(7,Try.f7),(8,Try.f8),(9,Try.f9),(10,Try.f10),(11,Try.f11),(12,Try.f12),(13,Try.f13),(14,Try.f14),(15,Try.f15),(16,Try.f16),(17,Try.f17),(18,Try.f18),(19,Try.f19),(20,Try.f20),(21,Try.f21),(22,Try.f22),(23,Try.f23),(24,Try.f24),(25,Try.f25),(26,Try.f26),(27,Try.f27)],cas⟩
set_option maxRecDepth 100000 in
theorem fns_ok:allP (fun k f=>Try.prog.funcs[k]?=some f) ctx.fns:=⟨Try.func2,⟨Try.func3,⟨Try.func4,⟨Try.func5,⟨Try.func6,⟨Try.func7,⟨Try.func8,⟨Try.func9,⟨Try.func10,⟨Try.func11,⟨Try.func12,⟨Try.func13,⟨Try.func14,⟨Try.func15,⟨Try.func16,⟨Try.func17,⟨Try.func18,⟨Try.func19,⟨Try.func20,⟨Try.func21,⟨Try.func22,⟨Try.func23,⟨Try.func24,⟨Try.func25,⟨Try.func26,⟨Try.func27,trivial⟩⟩⟩⟩⟩⟩⟩⟩⟩⟩⟩⟩⟩⟩⟩⟩⟩⟩⟩⟩⟩⟩⟩⟩⟩⟩
theorem ctx_ok:ctx.ok Try.prog:=⟨tab_ok,fns_ok,cas_ok,by kernel_rfl⟩
end Go.Proofs.Ytedmffbhklgloaa
/- Decompiling: the program's functions as the machine over terms takes them. -/
namespace Go.Proofs.Ytedmffbhklgloaa
open Go Go.RowKit
noncomputable def dcE (l:List (Nat×Ctr)) (le:List (Nat×CtrE)):DC:=⟨tab,ctx.fns,ctx.cas,l,le⟩
noncomputable def dc (l:List (Nat×Ctr)):DC:=dcE l []
theorem dcE_ok {l:List (Nat×Ctr)} {le:List (Nat×CtrE)} (h:allP (CtrOk Try.prog) l) (he:allP (CtrEOk Try.prog) le):(dcE l le).ok Try.prog:=⟨ctx_ok.T,ctx_ok.fns,ctx_ok.cas,ctx_ok.mixed,h,he⟩
theorem ctr_okE {l:List (Nat×Ctr)} {le:List (Nat×CtrE)} (hl:allP (CtrOk Try.prog) l) (hle:allP (CtrEOk Try.prog) le) {f:Nat} {an:An} {Fn:Nat} {σ ρ:Ty} {g:Nat→σ.den→Option ρ.den} (h:∀ fu x,(topG (ρ:=ρ) (dcE l le) (drR (dcE l le)) f an Fn σ (.var x)).den fu=g fu x):CtrOk Try.prog Fn ⟨σ,ρ,g,Fn⟩ :=
 fun fu x _ hy=>topG_ok (dcE_ok hl hle) (fun _ _ hS=>drR_ok (dcE_ok hl hle) hS) ((h fu x).trans hy)
theorem ctr_ok {l:List (Nat×Ctr)} (hl:allP (CtrOk Try.prog) l) {f:Nat} {an:An} {Fn:Nat} {σ ρ:Ty} {g:Nat→σ.den→Option ρ.den} (h:∀ fu x,(topG (ρ:=ρ) (dc l) (drR (dc l)) f an Fn σ (.var x)).den fu=g fu x):CtrOk Try.prog Fn ⟨σ,ρ,g,Fn⟩:=ctr_okE hl (le:=[]) trivial h
end Go.Proofs.Ytedmffbhklgloaa
