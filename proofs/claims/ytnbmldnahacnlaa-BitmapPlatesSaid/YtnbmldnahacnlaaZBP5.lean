/- Decompiling: regions that draw their order, over terms. No program in sight. -/
import Derived.Test.YtnbmldnahacnlaaZBP4
import Derived.Test.YtnbmldnahacnlaaProg
import Derived.Below
import Derived.WalkKit
import Derived.WalkSpells
import Derived.RangeFuncNested
import Derived.RangeFuncBound
import Derived.RangeFuncCalls
import Derived.RangeFuncLeaves
import Derived.RangeFuncBox
import Derived.Shelf.Abstract
import Derived.Shelf.RegionOpen
import Derived.OwnWalkIn
import Derived.TacticsInMore
import Derived.LoopNIn
import Derived.LoopIn
import Derived.Maps.AppendAt
/- Decompiling: regions that draw their order,over terms. No program in sight. -/
namespace Go.Proofs.Ytnbmldnahacnlaa
open Go Go.RowKit

section
variable {V W:Ty→Type} {ρ:Ty}
def visV (T:List (List Nat)) (b0 i:Nat) (cr:List (Nat×Nat)) (k:Nat):Bool:=Nat.blt k b0||cr.any fun c=>Nat.beq c.2 k&&hasN (T.getD i []) c.1
def visS (T:List (List Nat)) (ws:List (Nat×Nat)) (b0 i:Nat) (cr:List (Nat×Nat)) (k:Nat):Bool:=visV T b0 i cr k&&Dr.okW T ws i k
def lclS (ops:Array Oper) (T:List (List Nat)) (ws:List (Nat×Nat)) (b0 i:Nat) (cr:List (Nat×Nat)) (st:SSt V) (o:Oper):SSt V :=
 ⟨(o.looksAt ops).map fun t=>(t,st.get t),[],(st.heap++st.hk).filter fun p=>visS T ws b0 i cr p.1,[],[],st.nx⟩
def callR (C:DC) (lst:SSt V) (K:SV V→G V W ρ):Op→G V W ρ
 | .call ⟨.value cal,args,_⟩=>match lst.ev cal with
  | .fn F caps=>match lk C.cas F with
   | some _=>match lk C.ctrs F with
    | some c=>match exArgs lst c.a (evS lst args.toList++caps) with
     | some e=>.call c.f c.nm e fun y=>K (oneOfS (svsE true c.r (.var y)))
     | none=>.fail
    | none=>.fail
   | none=>.fail
  | _=>.fail
 | _=>.fail
def isNew:Op→Bool
 | .alloc _=>true
 | .box _ _=>true
 | .makeSlice ..=>true
 | .buildSlice ..=>true
 | .call ⟨.builtin .append,_,_⟩=>true
 | _=>false
def newR (C:DC) (T:List (List Nat)) (ws:List (Nat×Nat)) (b0 i:Nat) (cr:List (Nat×Nat)) (lst st:SSt V) (o:Oper) (K:List (Nat×Nat)→SSt V→G V W ρ):G V W ρ:=match mem0 C.T lst o.dst o.op with
 | some (.new b row,g)=>bif Dr.noW ws i&&Dr.newW T ws i st.nx&&b.refs (fun k=>visS T ws b0 i cr k&&!Nat.beq k st.nx) (fun k _=>visS T ws b0 i cr k&&!Nat.beq k st.nx)&&st.refs (fun id=>!Nat.beq id st.nx) (fun id _=>!Nat.beq id st.nx) then grdG g (K ((i,st.nx)::cr) (MR.app st o.dst (.new b row))) else .fail
 | _=>.fail
def storeB (T:Tab) (st:SSt V) (t:TypeId) (a v:SV V):Option (Nat×SB V):=match lk T.inf t with
 | some (_,s,_)=>bif allOneS st v.cells&&Nat.beq v.cells.length s then (match a with
  | .box id o=>match st.blk id with
   | .box cs e=>bif Nat.ble (o+s) cs.length then some (id,.box (setRS cs o v.cells) e) else none
   | _=>none
  | _=>none) else none
 | none=>none
def storeE (T:Tab) (st:SSt V) (t:TypeId) (a v:SV V):Option (Nat×SB V):=match lk T.inf t with
 | some (_,s,_)=>bif allOneS st v.cells&&Nat.beq v.cells.length s then (match a with
  | .elt id ver i o=>match st.blk id with
   | .row fr ty xs e ver'=>bif Nat.beq ver ver'&&Nat.ble (o+s) ty.size then (match exA fr ty (setRS (cellsE fr ty (.at xs i)) o v.cells) with
    | some x=>some (id,.row fr ty (.set xs i x) e ver')
    | none=>match exA false ty (setRS (cellsE fr ty (.at xs i)) o v.cells) with
     | some x=>some (id,.row false ty (.set xs i x) e ver')
     | none=>none) else none
   | _=>none
  | _=>none) else none
 | none=>none
def idsA (x:SV V):List Nat:=match x with
 | .osl id _=>[id]
 | .vsl id _ _ _=>[id]
 | _=>[]
def notA (x:SV V):Bool:=match x with
 | .aelt ..=>false
 | _=>true
def appR (C:DC) (T:List (List Nat)) (ws:List (Nat×Nat)) (b0 i:Nat) (cr:List (Nat×Nat)) (st:SSt V) (d:Option Nat) (t:TypeId) (y z:SV V) (K:List (Nat×Nat)→SSt V→G V W ρ):G V W ρ:=match appS C.T (fun t=>t) st t y z with
 | some (.upd id b (some x),g)=>bif visS T ws b0 i cr id&&(ws.any fun p=>Nat.beq p.1 i&&Nat.beq p.2 id)&&Dr.onlyW ws i id&&(idsA z).all (fun j=>visS T ws b0 i cr j)&&notA z then grdG g (K cr ((st.hset id b).put d x)) else .fail
 | _=>.fail
def writeR (C:DC) (T:List (List Nat)) (ws:List (Nat×Nat)) (b0 i:Nat) (cr:List (Nat×Nat)) (st:SSt V) (o:Oper) (K:List (Nat×Nat)→SSt V→G V W ρ):G V W ρ:=match o.dst,o.op with
 | none,.store t a v=>match storeB C.T st t (st.ev a) (st.ev v) with
  | some (id,b)=>bif visS T ws b0 i cr id&&(ws.any fun p=>Nat.beq p.1 i&&Nat.beq p.2 id)&&Dr.onlyW ws i id&&b.refs (visS T ws b0 i cr) (fun k _=>visS T ws b0 i cr k)&&(st.blk id).refs (visS T ws b0 i cr) (fun k _=>visS T ws b0 i cr k) then K cr (st.hset id b) else .fail
  | none=>match storeE C.T st t (st.ev a) (st.ev v) with
   | some (id,b)=>bif visS T ws b0 i cr id&&(ws.any fun p=>Nat.beq p.1 i&&Nat.beq p.2 id)&&Dr.onlyW ws i id&&(st.blk id).refs (visS T ws b0 i cr) (fun k _=>visS T ws b0 i cr k) then K cr (st.hset id b) else .fail
   | none=>.fail
 | d,.call ⟨.builtin .append,⟨[y,z]⟩,⟨[t,t']⟩⟩=>bif Nat.beq t' t then appR C T ws b0 i cr st d t (st.ev y) (st.ev z) K else .fail
 | _,_=>.fail
def effOf (C:DC) (lst:SSt V):Op→Option (CtrE×List (SV V))
 | .call ⟨.value cal,args,_⟩=>match lst.ev cal with
  | .fn F caps=>match lk C.cas F with
   | some _=>match lk C.ctrs F with
    | some _=>none
    | none=>match lk C.effs F with
     | some ce=>some (ce,evS lst args.toList++caps)
     | none=>none
   | none=>none
  | _=>none
 | _=>none
def effD (T:List (List Nat)) (ws:List (Nat×Nat)) (b0 i:Nat) (cr:List (Nat×Nat)) (lst st:SSt V) (o:Oper) (ce:CtrE) (vs:List (SV V)) (K:List (Nat×Nat)→SSt V→G V W ρ):G V W ρ :=
 bif (detOk ce.si ce.so ce.nb&&!(st.blk 0).isA)&&(((itemB ce.si.items).all fun b=>visS T ws b0 i cr (mpI (mapE ce.si lst vs) b)&&(ws.any fun p=>Nat.beq p.1 i&&Nat.beq p.2 (mpI (mapE ce.si lst vs) b))) &&
  ((ws.all fun p=>!Nat.beq p.1 i||((itemB ce.si.items).any fun b=>Nat.beq p.2 (mpI (mapE ce.si lst vs) b)))&&(((List.range ce.so.ex).all fun j=>Dr.newW T ws i (st.nx+j))&&refE ce.si ce.so ce.nb (mapE ce.si lst vs) st))) then (match arrE ce.si ce.so ce.nb ce.na lst vs with
  | some e=>.call ce.f ce.nm e fun y=>K ((List.range ce.so.ex).map (fun j=>(i,st.nx+j))++cr) ((outE ce.si ce.so ce.nb (mapE ce.si lst vs) st (.var y)).put o.dst (resE ce.si ce.so ce.nb (mapE ce.si lst vs) st (.var y)))
  | none=>.fail) else .fail
def isMv:Op→Option Operand
 | .move y=>some y
 | .assign y=>some y
 | _=>none
def moveR (T:List (List Nat)) (ws:List (Nat×Nat)) (b0 i:Nat) (cr:List (Nat×Nat)) (st:SSt V) (o:Oper) (y:Operand) (K:List (Nat×Nat)→SSt V→G V W ρ):G V W ρ :=
 bif Dr.noW ws i&&(st.ev y).refs (visV T b0 i cr) (fun k _=>visV T b0 i cr k) then (bif lets o.op then letV (st.ev y) fun x=>K cr (st.put o.dst x) else K cr (st.put o.dst (st.ev y))) else .fail
def stepR' (C:DC) (T:List (List Nat)) (ws:List (Nat×Nat)) (b0 i:Nat) (cr:List (Nat×Nat)) (lst st:SSt V) (o:Oper) (K:List (Nat×Nat)→SSt V→G V W ρ):G V W ρ:=match isMv o.op with
 | some y=>moveR T ws b0 i cr st o y K
 | none=>match rd C.T lst o.op with
 | some (x,g)=>bif Dr.noW ws i&&x.refs (visS T ws b0 i cr) (fun k _=>visS T ws b0 i cr k) then
   grdG g (bif lets o.op then letV x fun x=>K cr (st.put o.dst x) else K cr (st.put o.dst x)) else .fail
 | none=>bif isNew o.op&&Dr.noW ws i then newR C T ws b0 i cr lst st o K else match effOf C lst o.op with
  | some (ce,vs)=>effD T ws b0 i cr lst st o ce vs K
  | none=>bif Dr.noW ws i then callR C lst (fun x=>K cr (st.put o.dst x)) o.op else writeR C T ws b0 i cr st o K
def sR (C:DC) (n:Nat) (ops:Array Oper) (T:List (List Nat)) (ws:List (Nat×Nat)) (b0:Nat) (K:SSt V→G V W ρ):Nat→List (Nat×Nat)→List Oper→SSt V→G V W ρ
 | _,_,[],st=>K st
 | i,cr,o::l,st=>bif dok o.dst n then (match wantS ops o st with
  | .yes=>stepR' C T ws b0 i cr (lclS ops T ws b0 i cr st o) st o fun cr' st'=>sR C n ops T ws b0 K (i+1) cr' l st'
  | .no=>bif Dr.noW ws i then sR C n ops T ws b0 K (i+1) cr l (st.put o.dst .und) else .fail
  | .ask c d want=>.ite c
    (bif want then stepR' C T ws b0 i cr (lclS ops T ws b0 i cr (st.put (some d) (.bool (.bL true))) o) (st.put (some d) (.bool (.bL true))) o fun cr' st'=>sR C n ops T ws b0 K (i+1) cr' l st'
     else bif Dr.noW ws i then sR C n ops T ws b0 K (i+1) cr l ((st.put (some d) (.bool (.bL true))).put o.dst .und) else .fail)
    (bif want then bif Dr.noW ws i then sR C n ops T ws b0 K (i+1) cr l ((st.put (some d) (.bool (.bL false))).put o.dst .und) else .fail
     else stepR' C T ws b0 i cr (lclS ops T ws b0 i cr (st.put (some d) (.bool (.bL false))) o) (st.put (some d) (.bool (.bL false))) o fun cr' st'=>sR C n ops T ws b0 K (i+1) cr' l st')
  | .bad=>.fail) else .fail
def tailN (T:List (List Nat)):Nat→Nat
 | 0=>0
 | i+1=>bif (List.range i).all fun j=>hasN (T.getD i []) j then tailN T i else i+1
def wsD (C:DC):Nat→List Oper→SSt V→List (Nat×Nat)
 | _,[],_=>[]
 | i,o::l,st=>match rd C.T st o.op with
  | some (x,_)=>wsD C (i+1) l (st.put o.dst x)
  | none=>match o.op with
   | .store _ a _=>match st.ev a with
    | .box id _=>(i,id)::wsD C (i+1) l st
    | .elt id _ _ _=>(i,id)::wsD C (i+1) l st
    | _=>wsD C (i+1) l st
   | _=>match effOf C st o.op with
    | some (ce,vs)=>((itemB ce.si.items).map fun b=>(i,mpI (mapE ce.si st vs) b))++wsD C (i+1) l ((⟨st.regs,st.kp,st.heap,st.hk,st.fr,st.nx+ce.so.ex⟩:SSt V).put o.dst .any)
    | none=>match mem0 C.T st o.dst o.op with
     | some (.new b row,_)=>wsD C (i+1) l (MR.app st o.dst (.new b row))
     | some (.upd id b (some r),_)=>(i,id)::wsD C (i+1) l ((st.hset id b).put o.dst r)
     | _=>wsD C (i+1) l (st.put o.dst .any)
def drW (C:DC) (self:SelfG V W ρ) (an:An) (n:Nat) (l:List Oper) (st:SSt V) (ws:List (Nat×Nat)) (K:SSt V→G V W ρ):G V W ρ :=
 bif Dr.planR l (ancs l [])&&(ws.all fun p=>isLive (st.blk p.2)||Nat.ble st.nx p.2)&&Dr.tailR l (ancs l []) (tailN (ancs l []) l.length) then
  sR C n ⟨l⟩ (ancs l []) ws st.nx (fun st'=>sL C self n ⟨l⟩ an (tailN (ancs l []) l.length) (l.drop (tailN (ancs l []) l.length)) st' K) 0 [] (l.take (tailN (ancs l []) l.length)) st else .fail
def anyS (l:List Oper):List Nat→SSt V→SSt V
 | [],st=>st
 | j::J,st=>match l[j]? with
  | some o=>anyS l J (st.put o.dst .any)
  | none=>anyS l J st
def syG (C:DC) (n:Nat) (l:List Oper):List Nat→SSt V→(SSt V→G V W ρ)→G V W ρ
 | [],st,K=>K st
 | j::J,st,K=>match l[j]? with
  | some o=>bif dok o.dst n then (match rd C.T st o.op with
   | some (x,g)=>grdG g (letV x fun x=>syG C n l J (st.put o.dst x) K)
   | none=>.fail) else .fail
  | none=>.fail
def syP (C:DC) (n:Nat) (l:List Oper):List Nat→SSt V→G V W ρ→G V W ρ
 | [],_,k=>k
 | j::J,st,k=>match l[j]? with
  | some o=>bif dok o.dst n then (match rd C.T st o.op with
   | some (x,g)=>grdG g (syP C n l J (st.put o.dst x) k)
   | none=>.fail) else .fail
  | none=>.fail
def drS (C:DC) (self:SelfG V W ρ) (an:An) (n:Nat) (l:List Oper) (m k:Nat) (J:List Nat) (st:SSt V) (ws:List (Nat×Nat)) (K:SSt V→G V W ρ):G V W ρ:=match l[m]? with
 | some A=>bif (Dr.planR l (ancs l [])&&(ws.all fun p=>isLive (st.blk p.2)||Nat.ble st.nx p.2)&&Dr.tailSy l (ancs l []) m k J)&&((ws.all fun p=>Nat.blt p.1 m)&&Dr.isCall A.op) then
   syP C n l J st (sR C n ⟨l⟩ (ancs l []) ws st.nx (fun st'=>sL C self n ⟨l⟩ an m [A] st' fun st2=>syG C n l J (anyS l J st2) fun st3=>sL C self n ⟨l⟩ an k (l.drop k) st3 K) 0 [] (l.take m) st) else .fail
 | none=>.fail
def An.sy:An→Option (Nat×Nat×List Nat)
 | .dr ((888888,m)::(k,_)::J) _=>some (m,k,J.map (·.1))
 | _=>none
def drR (C:DC):DrawG V W ρ:=fun self an n l st K=>match an.sy with
 | some (m,k,J)=>drS C self an n l m k J (anyS l J st) (wsD C 0 (l.take m) (anyS l J st)) K
 | none=>drW C self an n l st (wsD C 0 (l.take (tailN (ancs l []) l.length)) st) K
end
section
variable {m:Nat→Nat} {H:Nat→SB D} {q:Nat→Bool} {pB:Nat→Bool} {pR:Nat→Nat→Bool}
theorem cells_nmd {fr:Bool}:∀ (t:Ty) (e:E D t),SV.refsL pB pR (cellsE fr t e)=true:=by
 intro t
 induction t with
 | pair a b iha ihb =>
  intro e;rw [cellsE]
  have key:∀ (l r:List (SV D)),SV.refsL pB pR l=true→SV.refsL pB pR r=true→SV.refsL pB pR (l++r)=true:=by
   intro l r hl hr
   induction l with
   | nil=>exact hr
   | cons c l ih =>
    rw [SV.refsL,Bool.and_eq_true] at hl;rw [List.cons_append,SV.refsL,hl.1,ih hl.2];rfl
  exact key _ _ (iha _) (ihb _)
 | agg t ih=>intro e;rw [cellsE];exact ih _
 | unit=>intro e;rw [cellsE,SV.refsL]
 | int k=>intro e;rw [cellsE,SV.refsL,SV.refsL];rw [SV.refs] <;> simp
 | bool=>intro e;rw [cellsE,SV.refsL,SV.refsL];rw [SV.refs] <;> simp
 | str=>intro e;rw [cellsE,SV.refsL,SV.refsL];rw [SV.refs] <;> simp
 | list t _=>intro e;rw [cellsE,SV.refsL,SV.refsL];rw [SV.refs] <;> simp
 | ptr t _=>intro e;rw [cellsE,SV.refsL,SV.refsL];rw [SV.refs] <;> simp
 | aix=>intro e;rw [cellsE,SV.refsL,SV.refsL];rw [SV.refs] <;> simp
theorem data_nmd {t:Ty} {fr:Bool}:∀ (e:E D t),SV.refs pB pR (svE fr t e)=true:=by
 intro e
 cases t with
 | agg t=>rw [svE,SV.refs];exact cells_nmd _ _
 | _=>rw [svE,SV.refs] <;> simp
theorem datas_nmd {fr:Bool}:∀ (t:Ty) (e:E D t),SV.refsL pB pR (svsE fr t e)=true
 | .pair a b,e=>by rw [svsE,SV.refsL,data_nmd,datas_nmd b];rfl
 | .int _,_=>by rw [svsE,SV.refsL];all_goals simp
 | .bool,_=>by rw [svsE,SV.refsL];all_goals simp
 | .str,_=>by rw [svsE,SV.refsL];all_goals simp
 | .list _,_=>by rw [svsE,SV.refsL];all_goals simp
 | .unit,_=>by rw [svsE,SV.refsL];all_goals simp
 | .agg _,_=>by rw [svsE,SV.refsL];all_goals simp
 | .ptr _,_=>by rw [svsE,SV.refsL];all_goals simp
 | .aix,_=>by rw [svsE,SV.refsL];all_goals simp
theorem one_nmd {l:List (SV D)} (h:SV.refsL pB pR l=true):(oneOfS l).refs pB pR=true:=by
 unfold oneOfS;split
 ·rw [SV.refsL,Bool.and_eq_true] at h;exact h.1
 ·rw [SV.refs];exact h
end
structure Lay (m:Nat→Nat) (nx0 b0:Nat) (st0:SSt D):Prop where
 new:∀ k,b0≤k→m k=nx0+(k-b0)
 old:∀ k,k<b0→st0.blk k≠.dead→m k<nx0
 inj:∀ k k',st0.blk k≠.dead→st0.blk k'≠.dead→m k=m k'→k=k'
 lt:∀ k,st0.blk k≠.dead→k<b0
 ge:bigA≤nx0∧∀ k,st0.blk k≠.dead→bigA≤m k
def Good (b0:Nat) (st0:SSt D) (k:Nat):Prop:=b0≤k∨st0.blk k≠.dead
section
variable {m:Nat→Nat} {nx0 b0:Nat} {st0:SSt D}
theorem Lay.geG (h:Lay m nx0 b0 st0) {k:Nat} (hk:Good b0 st0 k):bigA≤m k:=by
 rcases hk with hk | hk
 ·rw [h.new k hk];have:=h.ge.1;omega
 ·exact h.ge.2 k hk
theorem Lay.injG (h:Lay m nx0 b0 st0) {k k':Nat} (hk:Good b0 st0 k) (hk':Good b0 st0 k') (e:m k=m k'):k=k':=by
 rcases hk with hk | hk
 ·rcases hk' with hk' | hk'
  ·rw [h.new k hk,h.new k' hk'] at e;omega
  ·have:=h.old k' (h.lt k' hk') hk';rw [h.new k hk] at e;omega
 ·rcases hk' with hk' | hk'
  ·have:=h.old k (h.lt k hk) hk;rw [h.new k' hk'] at e;omega
  ·exact h.inj k k' hk hk' e
def mapP (m:Nat→Nat) (l:List (Nat×Nat)):List (Nat×Nat):=l.map fun p=>(p.1,m p.2)
theorem beq_m (h:Lay m nx0 b0 st0) {k k':Nat} (hk:Good b0 st0 k) (hk':Good b0 st0 k'):Nat.beq (m k) (m k')=Nat.beq k k':=by
 cases hb:Nat.beq k k' with
 | true =>
  have:=Nat.eq_of_beq_eq_true hb;subst this;exact Nat.beq_refl _
 | false =>
  rw [←Bool.not_eq_true];intro e;have:=h.injG hk hk' (Nat.eq_of_beq_eq_true e);subst this;rw [Nat.beq_refl] at hb;cases hb
variable {T:List (List Nat)} {ws cr:List (Nat×Nat)} {i:Nat}
theorem okW_m (h:Lay m nx0 b0 st0) (hw:∀ p ∈ ws,Good b0 st0 p.2) {k:Nat} (hk:Good b0 st0 k):Dr.okW T (mapP m ws) i (m k)=Dr.okW T ws i k:=by
 unfold Dr.okW mapP
 induction ws with
 | nil=>rfl
 | cons p l ih =>
  rw [List.map_cons,List.all_cons,List.all_cons,ih (fun p hp=>hw p (List.mem_cons_of_mem _ hp)),beq_m h (hw p (by simp)) hk]
theorem vis_m (h:Lay m nx0 b0 st0) (hc:∀ p ∈ cr,b0≤p.2) {k:Nat} (hk:Good b0 st0 k):vis T nx0 i (mapP m cr) (m k)=visV T b0 i cr k:=by
 unfold vis visV mapP
 have e1:Nat.blt (m k) nx0=Nat.blt k b0:=by
  rw [Bool.eq_iff_iff];simp only [Nat.blt_eq];rcases hk with hk | hk
  ·rw [h.new k hk];omega
  ·have:=h.old k (h.lt k hk) hk;have:=h.lt k hk;omega
 rw [e1];congr 1
 induction cr with
 | nil=>rfl
 | cons p l ih =>
  rw [List.map_cons,List.any_cons,List.any_cons,ih (fun p hp=>hc p (List.mem_cons_of_mem _ hp)),beq_m h (.inl (hc p (by simp))) hk]
theorem noW_m (ws:List (Nat×Nat)):Dr.noW (mapP m ws) i=Dr.noW ws i:=by
 unfold Dr.noW mapP;rw [List.all_map];rfl
end
theorem vis_arn {m:Nat→Nat} {nx0 b0:Nat} {st0:SSt D} {T:List (List Nat)} {i:Nat} {cr:List (Nat×Nat)} (hL:Lay m nx0 b0 st0) {q:Nat} (hq:q<bigA):vis T nx0 i cr q=true:=by
 unfold vis;rw [show Nat.blt q nx0=true by rw [Nat.blt_eq];exact Nat.lt_of_lt_of_le hq hL.ge.1];rfl
theorem visW_arn {m:Nat→Nat} {nx0 b0:Nat} {st0:SSt D} {T:List (List Nat)} {i:Nat} {ws cr:List (Nat×Nat)} (hL:Lay m nx0 b0 st0) (hw:∀ p ∈ ws,Good b0 st0 p.2) {q:Nat} (hq:q<bigA):Dr.visW T (mapP m ws) nx0 i (mapP m cr) q=true:=by
 unfold Dr.visW;rw [vis_arn hL hq,Bool.true_and];unfold Dr.okW;refine List.all_eq_true.2 fun p hp=>?_
 obtain ⟨p',hp',rfl⟩:=List.mem_map.1 hp;have h1:=hL.geG (hw p' hp')
 have:Nat.beq (m p'.2) q=false:=by
  rw [←Bool.not_eq_true];intro e
  have:=Nat.eq_of_beq_eq_true e;omega
 simp [this]
section
variable {P:Program} {n:Nat} {m:Nat→Nat} {nx nx0 b0:Nat} {st0 st:SSt D} {T:List (List Nat)} {ws cr:List (Nat×Nat)} {i:Nat} {ops:Array Oper} {o:Oper}
theorem lclS_get (d:Nat):(lclS ops T ws b0 i cr st o).get d=look .any ((o.looksAt ops).map fun t=>(t,st.get t)) d:=rfl
theorem lclS_blk (k:Nat):(lclS ops T ws b0 i cr st o).blk k=bif visS T ws b0 i cr k then st.blk k else .dead:=by
 show look (look .dead [] k) ((st.heap++st.hk).filter fun p=>visS T ws b0 i cr p.1) k=_;have:(look .dead ([]:List (Nat×SB D)) k)=.dead:=rfl;rw [this,look_filt (f:=fun k=>visS T ws b0 i cr k),blk_look]
theorem lclS_mem:MemLe m st.blk m (lclS ops T ws b0 i cr st o).blk (fun _=>true) (fun _ _=>true):=by
 refine ⟨fun id _=>?_,fun id v _=>?_⟩
 ·cases hv:visS T ws b0 i cr id with
  | true=>right;unfold isBox;rw [lclS_blk,hv];exact ⟨rfl,rfl⟩
  | false=>left;unfold isBox;rw [lclS_blk,hv];rfl
 ·cases hv:visS T ws b0 i cr id with
  | true=>right;unfold rowLen;rw [lclS_blk,hv];exact ⟨rfl,rfl⟩
  | false=>left;unfold rowLen;rw [lclS_blk,hv];rfl
theorem lclS_mok (hm:MOk m nx st) {k:Nat} (hkA:bigA≤k) (hk:∀ j,(lclS ops T ws b0 i cr st o).blk j≠.dead→m j<k):MOk m k (lclS ops T ws b0 i cr st o):=by
 have live:∀ j,(lclS ops T ws b0 i cr st o).blk j≠.dead→st.blk j≠.dead:=by
  intro j hj;rw [lclS_blk] at hj
  cases hv:visS T ws b0 i cr j with
  | true=>rw [hv] at hj;exact hj
  | false=>rw [hv] at hj;exact absurd rfl hj
 refine ⟨hk,fun j j' h1 h2 e=>hm.inj j j' (live j h1) (live j' h2) e,fun p hp=>?_,fun h=>?_,hkA,fun j hj=>hm.ge.2 j (live j hj)⟩
 rotate_left
 ·rw [lclS_blk] at h
  cases hv:visS T ws b0 i cr 0 with
  | true=>rw [hv] at h;exact hm.ar' h
  | false=>rw [hv] at h;cases h
 have hp:p ∈ ((st.heap++st.hk).filter fun p=>visS T ws b0 i cr p.1)++[]:=hp;rw [List.append_nil] at hp;exact hm.keys p (List.mem_filter.1 hp).1
theorem lclS_les (hL:Lay m nx0 b0 st0) (hw:∀ p ∈ ws,Good b0 st0 p.2) (hc:∀ p ∈ cr,b0≤p.2) (hg:∀ k,st.blk k≠.dead→Good b0 st0 k) (hm:MOk m nx st) {k:Nat} (hkA:bigA≤k) (hk:∀ j,(lclS ops T ws b0 i cr st o).blk j≠.dead→m j<k) :
  LeS ((lclS ops T ws b0 i cr st o).enc m k) (Dr.lcl ops T (mapP m ws) nx0 i (mapP m cr) (st.enc m nx) o k):=by
 refine ⟨fun d=>?_,fun q=>?_,rfl⟩
 ·rw [enc_get,lclS_get];show Les _ (look .any ((o.looksAt ops).map fun t=>(t,look .any (st.enc m nx).regs t)) d);by_cases hd:d ∈ o.looksAt ops
  ·have key:∀ (l:List Nat),d ∈ l→look SV.any (l.map fun t=>(t,st.get t)) d=st.get d∧look AV.any (l.map fun t=>(t,look .any (st.enc m nx).regs t)) d=look .any (st.enc m nx).regs d:=by
    intro l
    induction l with
    | nil=>intro h;cases h
    | cons a l ih =>
     intro h;rw [List.map_cons,List.map_cons,look_cons,look_cons];by_cases e:a=d
     ·subst e;rw [if_pos rfl,if_pos rfl];exact ⟨rfl,rfl⟩
     ·rw [if_neg e,if_neg e];exact ih ((List.mem_cons.1 h).resolve_left fun e'=>e e'.symm)
   obtain ⟨e1,e2⟩:=key _ hd;rw [e1,e2,enc_get];exact enc_les lclS_mem _ (sv_refs_all _)
  ·rw [look_pick_in hd,SV.enc];exact .any _
 ·rcases heap_cases (lclS_mok hm hkA hk) q with h | ⟨j,h,e⟩ | ⟨h1,h2,h3⟩
  ·rw [h];exact .dead _
  rotate_left
  ·have hv:visS T ws b0 i cr 0=true:=by
    cases hv:visS T ws b0 i cr 0 with
    | true=>rfl
    | false=>rw [lclS_blk,hv] at h1;cases h1
   have e1:(lclS ops T ws b0 i cr st o).blk 0=st.blk 0:=by rw [lclS_blk,hv];rfl
   rw [e1] at h1 h3;rw [hm.ar' h1] at h2;rw [h3];show LesB _ (look .dead ((st.enc m nx).heap.filter fun p=>Dr.visW T (mapP m ws) nx0 i (mapP m cr) p.1) q);rw [look_filt (f:=fun id=>Dr.visW T (mapP m ws) nx0 i (mapP m cr) id),visW_arn hL hw h2,enc_look hm,h1,show Nat.blt q (m 0)=true by rw [hm.ar' h1,Nat.blt_eq];exact h2];exact .refl _
  ·subst e;rw [enc_blk (lclS_mok hm hkA hk) h]
   have hv:visS T ws b0 i cr j=true:=by
    cases hv:visS T ws b0 i cr j with
    | true=>rfl
    | false=>rw [lclS_blk,hv] at h;exact absurd rfl h
   have hlj:st.blk j≠.dead:=by rw [lclS_blk,hv] at h;exact h
   have hgj:=hg j hlj;show LesB _ (look .dead ((st.enc m nx).heap.filter fun p=>Dr.visW T (mapP m ws) nx0 i (mapP m cr) p.1) (m j))
   have hvv:Dr.visW T (mapP m ws) nx0 i (mapP m cr) (m j)=true:=by
    unfold Dr.visW;rw [vis_m hL hc hgj,okW_m hL hw hgj];exact hv
   rw [look_filt (f:=fun id=>Dr.visW T (mapP m ws) nx0 i (mapP m cr) id),hvv,enc_blk hm hlj];have e1:(lclS ops T ws b0 i cr st o).blk j=st.blk j:=by rw [lclS_blk,hv];rfl
   rw [e1];exact encB_les lclS_mem _ (sb_refs_all _)
theorem lt_of_rel {K:Kn} {a:Act} {w:World} {G:Gh} (hL:Lay m nx0 b0 st0) (hw:∀ p ∈ ws,Good b0 st0 p.2) (hc:∀ p ∈ cr,b0≤p.2) (hg:∀ k,st.blk k≠.dead→Good b0 st0 k) (hA:∀ j,(st.blk j).isA=true→(st0.blk j).isA=true) (hm:MOk m nx st) {k:Nat} (hkA:nx0≤k) (r:RelG K n (Dr.lcl ops T (mapP m ws) nx0 i (mapP m cr) (st.enc m nx) o k) a w G):∀ j,(lclS ops T ws b0 i cr st o).blk j≠.dead→m j<k:=by
 intro j h
 have hv:visS T ws b0 i cr j=true:=by
  cases hv:visS T ws b0 i cr j with
  | true=>rfl
  | false=>rw [lclS_blk,hv] at h;exact absurd rfl h
 have hlj:st.blk j≠.dead:=by rw [lclS_blk,hv] at h;exact h
 have hgj:=hg j hlj;have hb:=r.hr.blk (m j)
 have e1:look .dead (Dr.lcl ops T (mapP m ws) nx0 i (mapP m cr) (st.enc m nx) o k).heap (m j)=(st.blk j).enc m st.blk:=by
  show look .dead ((st.enc m nx).heap.filter fun p=>Dr.visW T (mapP m ws) nx0 i (mapP m cr) p.1) (m j)=_
  have hvv:Dr.visW T (mapP m ws) nx0 i (mapP m cr) (m j)=true:=by
   unfold Dr.visW;rw [vis_m hL hc hgj,okW_m hL hw hgj];exact hv
  rw [look_filt (f:=fun id=>Dr.visW T (mapP m ws) nx0 i (mapP m cr) id),hvv,enc_blk hm hlj];rfl
 rw [e1] at hb;have hn:G.nx=k:=r.nx;rw [←hn];have hA:=hA j;generalize st.blk j=b at hb hlj hA
 cases b with
 | dead=>exact absurd rfl hlj
 | box cs e=>rw [SB.enc] at hb;exact hb.1
 | row fr t xs e v=>rw [SB.enc] at hb;exact hb.1
 | arn t xs e =>
  rw [hn];have h1:st0.blk j≠.dead:=fun e=>by have:=hA rfl;rw [e] at this;cases this
  exact Nat.lt_of_lt_of_le (hL.old j (hL.lt j h1) h1) hkA
end
end Go.Proofs.Ytnbmldnahacnlaa
/- Decompiling: regions that draw their order: the machine over terms says what they do. No program in sight. -/
namespace Go.Proofs.Ytnbmldnahacnlaa
open Go Go.RowKit

theorem OpF.le {P:Program} {n:Nat} {s s':ASt} {o:Oper} {x:AV} (h:LeS s s') (k:OpF P n o s x):OpF P n o s' x:=⟨k.dst,fun K a w G r=>k.out K a w G (r.les h)⟩
theorem gdst_looks {ops:Array Oper} {o:Oper} {d:Nat} {want:Bool} (h:gdst ops o=some (d,want)):d ∈ o.looksAt ops:=by
 unfold gdst at h;unfold Oper.looksAt;split at h
 ·rename_i j want' hg;rw [Option.map_eq_some_iff] at h;obtain ⟨d',h1,h2⟩:=h;injection h2 with h2 _
  subst h2;rw [hg];simp [h1]
 ·cases h
theorem lregs_get {ops:Array Oper} {o:Oper} {s:ASt} {d:Nat} (hd:d ∈ o.looksAt ops):look .any (Dr.lregs ops s o) d=look .any s.regs d:=by
 unfold Dr.lregs
 revert hd
 generalize o.looksAt ops=l
 induction l with
 | nil=>intro h;cases h
 | cons a l ih =>
  intro h;rw [List.map_cons,look_cons];by_cases e:a=d
  ·subst e;rw [if_pos rfl]
  ·rw [if_neg e];exact ih ((List.mem_cons.1 h).resolve_left fun e'=>e e'.symm)
def nxOf (nx0 b0:Nat) (st:SSt D):Nat:=nx0+(st.nx-b0)
structure RI (F:List (Nat→AV)) (m:Nat→Nat) (nx0 b0:Nat) (st0 st:SSt D):Prop where
 mok:MOk m (nxOf nx0 b0 st) st
 ge:b0≤st.nx
 fr:FrOk m st.blk st.fr F
 fix:Fix st0 st
 good:∀ k,st.blk k≠.dead→Good b0 st0 k
 arn:∀ k,(st.blk k).isA=true→(st0.blk k).isA=true
section
variable {P:Program} {n:Nat} {F:List (Nat→AV)} {ρ:Ty} {fu:Nat} {C:DC} {r:ρ.den}
variable {m:Nat→Nat} {nx0 b0:Nat} {st0 st:SSt D} {T:List (List Nat)} {ws cr:List (Nat×Nat)} {i:Nat} {ops:Array Oper} {o:Oper} {l:List Oper} {Kt:ASt→Prop}
theorem RI.put (h:RI F m nx0 b0 st0 st) (d:Option Nat) (x:SV D):RI F m nx0 b0 st0 (st.put d x):=by
 have e:nxOf nx0 b0 (st.put d x)=nxOf nx0 b0 st:=by cases d <;> rfl
 refine ⟨by rw [e];exact put_mok h.mok d x,by cases d <;> exact h.ge,by rw [put_blk];cases d <;> exact h.fr,h.fix.trans (put_fix st d x),by rw [put_blk];exact h.good,by rw [put_blk];exact h.arn⟩
theorem arn_hset (h:RI F m nx0 b0 st0 st) {id:Nat} {b:SB D} (hb:b.isA=false) (k:Nat) (hk:((st.hset id b).blk k).isA=true):(st0.blk k).isA=true:=by
 rw [hset_blk] at hk;by_cases e:id=k
 ·rw [if_pos e,hb] at hk;cases hk
 ·rw [if_neg e] at hk;exact h.arn k hk
theorem gst_yesS (h:wantS ops o st=.yes) {nx:Nat} {W cr:List (Nat×Nat)}:o.guard=none∨gst ops o (Dr.lcl ops T W nx0 i cr (st.enc m nx) o 0)=some true:=by
 unfold wantS at h;split at h
 ·rename_i hg;exact .inl hg
 ·split at h
  ·cases h
  ·rename_i d want hg
   right
   have e:=wantV_yes (m:=m) (st:=st) h;rw [←enc_get st m nx,←lregs_get (gdst_looks hg)] at e;unfold gst;rw [hg]
   show (match look AV.any (Dr.lregs ops (st.enc m nx) o) d,want with
    | .bool true,true=>some true
    | .bool false,false=>some true
    | .bool true,false=>some false
    | .bool false,true=>some false
    | .und,_=>some false
    | _,_=>none)=_
   rw [e]
   cases want <;> rfl
theorem gst_noS (h:wantS ops o st=.no) {nx:Nat} {W cr:List (Nat×Nat)}:gst ops o (Dr.lcl ops T W nx0 i cr (st.enc m nx) o 0)=some false:=by
 obtain ⟨d,want,hg,hb⟩:=wantS_no (m:=m) (nx:=nx) h;rw [←lregs_get (gdst_looks hg)] at hb;unfold gst;rw [hg]
 show (match look AV.any (Dr.lregs ops (st.enc m nx) o) d,want with
  | .bool true,true=>some true
  | .bool false,false=>some true
  | .bool true,false=>some false
  | .bool false,true=>some false
  | .und,_=>some false
  | _,_=>none)=_
 rcases hb with hb | hb <;> rw [hb] <;> cases want <;> rfl
theorem gst_put {d:Nat} {want b:Bool} (hg:gdst ops o=some (d,want)) {nx:Nat} {W cr:List (Nat×Nat)}:gst ops o (Dr.lcl ops T W nx0 i cr ((st.put (some d) (.bool (.bL b))).enc m nx) o 0)=some (b==want):=by
 have e:look AV.any (Dr.lregs ops ((st.put (some d) (.bool (.bL b))).enc m nx) o) d=.bool b:=by
  rw [lregs_get (gdst_looks hg),put_enc];show look .any ((d,SV.enc m st.blk (.bool (.bL b)))::(st.enc m nx).regs) d=_;rw [look_self,SV.enc];rfl
 unfold gst;rw [hg]
 show (match look AV.any (Dr.lregs ops ((st.put (some d) (.bool (.bL b))).enc m nx) o) d,want with
  | .bool true,true=>some true
  | .bool false,false=>some true
  | .bool true,false=>some false
  | .bool false,true=>some false
  | .und,_=>some false
  | _,_=>none)=_
 rw [e]
 cases b <;> cases want <;> rfl
theorem lclS_memS:MemLe m (lclS ops T ws b0 i cr st o).blk m st.blk (visS T ws b0 i cr) (fun k _=>visS T ws b0 i cr k):=by
 have e:∀ k,visS T ws b0 i cr k=true→(lclS ops T ws b0 i cr st o).blk k=st.blk k:=fun k hk=>by rw [lclS_blk,hk];rfl
 exact ⟨fun id h=>.inr ⟨by unfold isBox;rw [e id h],rfl⟩,fun id v h=>.inr ⟨by unfold rowLen;rw [e id h],rfl⟩⟩
theorem nmdS (hL:Lay m nx0 b0 st0) (hc:∀ p ∈ cr,b0≤p.2) (hI:RI F m nx0 b0 st0 st) {x:SV D} (h:x.refs (visS T ws b0 i cr) (fun k _=>visS T ws b0 i cr k)=true):(x.enc m (lclS ops T ws b0 i cr st o).blk).nmd (vis T nx0 i (mapP m cr))=true:=by
 have key:∀ id,visS T ws b0 i cr id=true→(lclS ops T ws b0 i cr st o).blk id≠.dead→vis T nx0 i (mapP m cr) (m id)=true:=by
  intro id hv hb;rw [lclS_blk,hv] at hb;rw [vis_m hL hc (hI.good id hb)];unfold visS at hv;rw [Bool.and_eq_true] at hv;exact hv.1
 refine enc_nmd (fun id hp hb=>key id hp fun e=>?_) (fun id v n hp hb=>key id hp fun e=>?_) x h (.inr fun _ h=>vis_arn hL h)
 ·unfold isBox at hb;rw [e] at hb;cases hb
 ·unfold rowLen at hb;rw [e] at hb;cases hb
theorem liveS (hL:Lay m nx0 b0 st0) (hc:∀ p ∈ cr,b0≤p.2) (hI:RI F m nx0 b0 st0 st) {id:Nat} (hv:visS T ws b0 i cr id=true) (hb:st.blk id≠.dead):vis T nx0 i (mapP m cr) (m id)=true:=by
 rw [vis_m hL hc (hI.good id hb)];unfold visS at hv;rw [Bool.and_eq_true] at hv;exact hv.1
theorem rowD {q:Nat→Bool} (hq:∀ k,k<bigA→q k=true) (g:Bool) (t:Ty) (us:List t.den):(us.map (t.cells g)).all (AV.nmd.go q)=true:=by
 refine List.all_eq_true.2 fun row hr=>?_
 obtain ⟨x,_,rfl⟩:=List.mem_map.1 hr;have e1:SV.encL (fun k=>k) (fun _=>.dead) (cellsE g t (.var x:E D t))=t.cells g x:=cellsE_enc g t (.var x);rw [←e1];exact encL_nmd (pB:=fun _=>false) (pR:=fun _ _=>false) (fun id h=>by cases h) (fun id v n h=>by cases h) _ (cells_nmd _ _) (.inr hq)
theorem nmdB (hL:Lay m nx0 b0 st0) (hc:∀ p ∈ cr,b0≤p.2) (hI:RI F m nx0 b0 st0 st) {b:SB D} (h:b.refs (visS T ws b0 i cr) (fun k _=>visS T ws b0 i cr k)=true):(b.enc m st.blk).nmd (vis T nx0 i (mapP m cr))=true:=by
 cases b with
 | dead=>rfl
 | box cs e =>
  rw [SB.refs] at h;refine encL_nmd (fun id hp hb=>liveS hL hc hI hp fun e=>?_) (fun id v n hp hb=>liveS hL hc hI hp fun e=>?_) cs h (.inr fun _ h=>vis_arn hL h)
  ·unfold isBox at hb;rw [e] at hb;cases hb
  ·unfold rowLen at hb;rw [e] at hb;cases hb
 | row fr t xs e v=>exact rowD (fun _ h=>vis_arn hL h) fr t xs.den
 | arn t xs e=>rfl
theorem lregs_ev {s:ASt} {x:Operand} (hx:x ∈ o.op.operands.toList) {hp:List (Nat×AB)} {k:Nat}:(⟨Dr.lregs ops s o,hp,k⟩:ASt).ev x=s.ev x:=by
 cases x with
 | tmp t =>
  show look .any (Dr.lregs ops s o) t=look .any s.regs t;refine lregs_get ?_;unfold Oper.looksAt;rw [List.mem_append]
  left
  rw [List.mem_filterMap];exact ⟨.tmp t,hx,rfl⟩
 | const v=>rfl
 | global g=>rfl
 | func f=>rfl
theorem opWr_box {t:TypeId} {x y:Operand} {z:Option Value} {s b:Nat} {id off:Nat} {cs vs:List AV} {e:TypeId} {g:Option (Nat×Bool)} {ty:TypeId} {ps:String} {af:Array Edge} {st:ASt} (hx:st.ev x=.box id off) (hb:look .dead st.heap id=.box cs e) (hy:(st.ev y).cells=vs) (h1:allOne vs=true) (hI:tyI P t=some (z,s,b)) (hs:vs.length=s) (hle:off+s≤cs.length) :
  Dr.OpWr P n ⟨none,.store t x y,ty,ps,af,g⟩ st id (.box (setR cs off vs) e) .und:=⟨rfl,fun K a w G r=>by
 subst hy;have r:RelG ⟨K.w0,w,G⟩ n st a w G:=⟨r.nx,r.hr,Ext.refl _ _,r.size,r.defers,r.regs⟩;have e1:=r.ev x;rw [hx] at e1;have hcv:=(r.ev y).cellsV h1;obtain ⟨gg,us,e2,hρ,_,_,_⟩:=r.boxAt hb e1
 have hid:id<G.nx:=by
  have hk:=r.hr.blk id;rw [hb] at hk;exact hk.1
 obtain ⟨w',hrun,r2,hk2⟩:=RelG.storeBox (P:=P) (e:=e) hid hρ (st.ev y).cells (a.eval y).cells.toList 0 off cs w r hb (by have:=hcv.size;simp;omega) (by simpa using hcv.size) (fun v hv=>by
  obtain ⟨i,hi,hv⟩:=List.getElem_of_mem hv
  exact hcv.one i v (by rw [←hv];simp)) (fun j x' v hx' hv=>hcv.rel j x' v hx' (by simpa using hv))
 refine ⟨undef,w',G,.inr ⟨?_,rfl⟩,r2.hr,r2.ext,rfl,fun j hne=>⟨rfl,rfl,fun hj g hg=>hk2 g fun e=>?_⟩,.dat .und⟩
 ·simp [execOp,Instr.storeAt,e2,Instr.sureAddr,run_storeVar' hI (show (a.eval y).cells.size=s by rw [hcv.size,hs]),hrun]
 ·subst e
  exact r.hr.dist j id g hj hid hne hg (by rw [hρ];rfl)⟩
theorem opWr_elt {t:TypeId} {x y:Operand} {z:Option Value} {s b:Nat} {id q i o sz:Nat} {rows:List (List AV)} {e:TypeId} {row vs:List AV} {g:Option (Nat×Bool)} {ty:TypeId} {ps:String} {af:Array Edge} {st:ASt} (hx:st.ev x=.elt id q i o) (hb:look .dead st.heap id=.row sz rows e) (hm:q=rows.length) (hr:∀ row',rows[i]?=some row'→row'=row) (hy:(st.ev y).cells=vs) (h1:allOne vs=true) (hI:tyI P t=some (z,s,b)) (hs:vs.length=s) (hle:o+s≤sz) :
  Dr.OpWr P n ⟨none,.store t x y,ty,ps,af,g⟩ st id (.row sz (rows.set i (setR row o vs)) e) .und:=⟨rfl,fun K a w G r=>by
 subst hy;have r:RelG ⟨K.w0,w,G⟩ n st a w G:=⟨r.nx,r.hr,Ext.refl _ _,r.size,r.defers,r.regs⟩;have e1:=r.ev x;rw [hx] at e1
 have hi:i<rows.length:=by
  cases e1 with
  | dat h=>cases h
  | elt _ _ _ _ _ _ hin=>omega
 have hr:=List.getElem?_eq_getElem hi ▸ (show rows[i]?=some row by rw [←hr _ (List.getElem?_eq_getElem hi)];exact List.getElem?_eq_getElem hi);have hr:rows[i]?=some row:=by rw [List.getElem?_eq_getElem hi];exact hr
 have hcv:=(r.ev y).cellsV h1;obtain ⟨gg,c,flat,q1,q2,q3,q4,q5,q6,q7,q8⟩:=r.rowAt hb hm (by omega);generalize he:a.eval x=u at e1
 cases e1 with
 | dat h=>cases h
 | elt _ _ _ _ _ hid hin hs' hn hv' h =>
  obtain ⟨gg',c',e2,rfl⟩:=h (by rw [q5,hm]);rw [q1] at e2;injection e2 with e2 _ _
  injection e2 with e2
  injection e2 with e2 _ _
  subst e2;rw [q3] at he
  obtain ⟨w',hrun,r2,hk2⟩:=RelG.storeElt (P:=P) (K:=⟨K.w0,w,G⟩) (n:=n) (a:=a) (G:=G) (id:=id) (sz:=sz) (i:=i) (gg:=gg) (c:=c) (e:=e) (fun L hL=>by rw [q5] at hL;subst hL;exact q1) (st.ev y).cells (a.eval y).cells.toList 0 o rows row w st r hb hr (by have:=hcv.size;simp;omega) (by simpa using hcv.size) (fun v hv=>by
   obtain ⟨i,hi,hv⟩:=List.getElem_of_mem hv
   exact hcv.one i v (by rw [←hv];simp)) (fun j x' v hx' hv=>hcv.rel j x' v hx' (by simpa using hv))
  refine ⟨undef,w',G,.inr ⟨?_,rfl⟩,r2.hr,r2.ext,rfl,fun j hne=>⟨rfl,rfl,fun hj g hg=>hk2 g fun e=>?_⟩,.dat .und⟩
  ·simp [execOp,Instr.storeAt,he,Instr.sureAddr,run_storeVar' hI (show (a.eval y).cells.size=s by rw [hcv.size,hs]),hrun]
  ·subst e
   exact r.hr.dist j id g hj hid hne hg (by rw [q1];rfl)⟩
theorem all_set {α:Type} {p:α→Bool} {l:List α} {i:Nat} {x:α} (h:l.all p=true) (hx:p x=true):(l.set i x).all p=true:=by
 refine List.all_eq_true.2 fun y hy=>?_
 rcases List.mem_or_eq_of_mem_set hy with h' | h'
 ·exact List.all_eq_true.1 h y h'
 ·rw [h'];exact hx
theorem onlyW_m {id:Nat} (h:Dr.onlyW ws i id=true):Dr.onlyW (mapP m ws) i (m id)=true:=by
 unfold Dr.onlyW mapP at *
 rw [List.all_map];refine List.all_eq_true.2 fun p hp=>?_
 have:=List.all_eq_true.1 h p hp;show (bif Nat.beq p.1 i then Nat.beq (m p.2) (m id) else true)=true
 cases hb:Nat.beq p.1 i with
 | false=>rfl
 | true =>
  rw [hb] at this;have:=Nat.eq_of_beq_eq_true this;rw [this];exact Nat.beq_refl _
theorem storeB_ok {Tb:Tab} {t:TypeId} {a v:SV D} {id:Nat} {b:SB D} (h:storeB Tb st t a v=some (id,b)):∃ Z s bb off cs e,lk Tb.inf t=some (Z,s,bb)∧allOneS st v.cells=true∧v.cells.length=s∧a=.box id off∧st.blk id=.box cs e∧off+s≤cs.length∧b=.box (setRS cs off v.cells) e:=by
 unfold storeB at h;split at h
 ·rename_i Z s bb hI
  cases hc:(allOneS st v.cells&&Nat.beq v.cells.length s) with
  | false=>rw [hc] at h;cases h
  | true =>
   rw [hc] at h;simp only [cond_true] at h;rw [Bool.and_eq_true] at hc;split at h
   ·rename_i id' off;split at h
    ·rename_i cs e hb
     cases hl:Nat.ble (off+s) cs.length with
     | false=>rw [hl] at h;cases h
     | true =>
      rw [hl] at h;simp only [cond_true,Option.some.injEq,Prod.mk.injEq] at h;obtain ⟨rfl,rfl⟩:=h;exact ⟨Z,s,bb,off,cs,e,hI,hc.1,Nat.eq_of_beq_eq_true hc.2,rfl,hb,Nat.le_of_ble_eq_true hl,rfl⟩
    ·cases h
   ·cases h
 ·cases h
abbrev AGm (P:Program) (n:Nat) (ops:Array Oper) (T:List (List Nat)) (ws:List (Nat×Nat)) (nx0 b0:Nat) (m:Nat→Nat) (Kt:ASt→Prop) (i:Nat) (cr:List (Nat×Nat)) (l:List Oper) (st:SSt D):Prop :=
 Dr.AG P n ops T (mapP m ws) nx0 Kt i (mapP m cr) l (st.enc m (nxOf nx0 b0 st))
theorem AGm.put {d:Option Nat} {x:SV D} {y:AV} (hx:Les (x.enc m st.blk) y) (k:AGm P n ops T ws nx0 b0 m Kt i cr l (st.put d x)):Dr.AG P n ops T (mapP m ws) nx0 Kt i (mapP m cr) l ((st.enc m (nxOf nx0 b0 st)).put d y):=by
 have e:nxOf nx0 b0 (st.put d x)=nxOf nx0 b0 st:=by cases d <;> rfl
 refine .le ?_ k;rw [e,put_enc];exact (LeS.refl _).put hx
theorem skipR_ok (hd:dok o.dst n=true) (hW:Dr.noW ws i=true) (hg:gst ops o (Dr.lcl ops T (mapP m ws) nx0 i (mapP m cr) (st.enc m (nxOf nx0 b0 st)) o 0)=some false) (k:AGm P n ops T ws nx0 b0 m Kt (i+1) cr l (st.put o.dst .und)):AGm P n ops T ws nx0 b0 m Kt i cr (o::l) st:=by
 refine .step (.skip (by rw [noW_m];exact hW) hg hd) (AGm.put ?_ k);rw [SV.enc];exact .refl _
theorem exC_refs {pB:Nat→Bool} {pR:Nat→Nat→Bool} (fr:Bool):∀ (t:Ty) (cs:List (SV D)) (e:E D t) (rest:List (SV D)),exC fr t cs=some (e,rest)→SV.refsL pB pR cs=SV.refsL pB pR rest
 | .int k,cs,e,rest,h=>by
  cases cs with
  | nil=>rw [exC] at h;cases h;all_goals simp
  | cons c l =>
   cases c <;> simp only [exC,reduceCtorEq] at h
   split at h
   ·simp only [Option.some.injEq,Prod.mk.injEq] at h
    rw [←h.2,SV.refsL,SV.refs,Bool.true_and] <;> simp
   ·cases h
 | .bool,cs,e,rest,h=>by
  cases cs with
  | nil=>rw [exC] at h;cases h;all_goals simp
  | cons c l =>
   cases c <;> simp only [exC,reduceCtorEq,Option.some.injEq,Prod.mk.injEq] at h
   rw [←h.2,SV.refsL,SV.refs,Bool.true_and] <;> simp
 | .str,cs,e,rest,h=>by
  cases cs with
  | nil=>rw [exC] at h;cases h;all_goals simp
  | cons c l =>
   cases c <;> simp only [exC,reduceCtorEq,Option.some.injEq,Prod.mk.injEq] at h
   rw [←h.2,SV.refsL,SV.refs,Bool.true_and] <;> simp
 | .list t,cs,e,rest,h=>by
  cases cs with
  | nil=>rw [exC] at h;cases h;all_goals simp
  | cons c l =>
   cases c <;> simp only [exC,reduceCtorEq,Option.some.injEq,Prod.mk.injEq] at h
   ·rw [←h.2,SV.refsL,SV.refs,Bool.true_and] <;> simp
   ·rename_i fr' t' e'
    cases hc:(!fr||fr') with
    | false=>rw [hc] at h;cases h
    | true =>
     rw [hc] at h;simp only [cond_true] at h;split at h
     ·simp only [Option.some.injEq,Prod.mk.injEq] at h
      rw [←h.2,SV.refsL,SV.refs,Bool.true_and] <;> simp
     ·cases h
 | .aix,cs,e,rest,h=>by
  cases cs with
  | nil=>rw [exC] at h;cases h;all_goals simp
  | cons c l =>
   cases c <;> simp only [exC,reduceCtorEq,Option.some.injEq,Prod.mk.injEq] at h
   all_goals (rw [←h.2,SV.refsL,SV.refs,Bool.true_and] <;> simp)
 | .unit,cs,e,rest,h=>by
  rw [exC] at h;simp only [Option.some.injEq,Prod.mk.injEq] at h;rw [h.2]
 | .pair a b,cs,e,rest,h=>by
  rw [exC] at h;split at h
  ·rename_i x l' h1;split at h
   ·rename_i y l'' h2;simp only [Option.some.injEq,Prod.mk.injEq] at h;rw [←h.2];exact (exC_refs fr a cs x l' h1).trans (exC_refs fr b l' y l'' h2)
   ·cases h
  ·cases h
 | .agg t,cs,e,rest,h=>by
  rw [exC] at h;split at h
  ·rename_i x l' h1;simp only [Option.some.injEq,Prod.mk.injEq] at h;rw [←h.2];exact exC_refs fr t cs x l' h1
  ·cases h
 | .ptr t,cs,e,rest,h=>by
  rw [exC] at h;cases h
  all_goals simp
theorem exA_refs {pB:Nat→Bool} {pR:Nat→Nat→Bool} {fr:Bool} {t:Ty} {cs:List (SV D)} {e:E D t} (h:exA fr t cs=some e):SV.refsL pB pR cs=true:=by
 unfold exA at h;split at h
 ·rename_i x h1;rw [exC_refs fr t cs x [] h1,SV.refsL]
 ·cases h
theorem storeE_ok {Tb:Tab} {t:TypeId} {a v:SV D} {id:Nat} {b:SB D} (h:storeE Tb st t a v=some (id,b)):∃ (Z:Option Value) (s bb ver ver' off:Nat) (kk:IntKind) (ix:E D (.int kk)) (fr fr':Bool) (rt:Ty) (xs:E D (.list rt)) (e:TypeId) (x:E D rt),lk Tb.inf t=some (Z,s,bb)∧allOneS st v.cells=true∧v.cells.length=s∧a=.elt id ver ix off∧st.blk id=.row fr rt xs e ver'∧Nat.beq ver ver'=true∧off+s≤rt.size∧(!fr'||fr)=true∧exA fr' rt (setRS (cellsE fr rt (.at xs ix)) off v.cells)=some x∧b=.row fr' rt (.set xs ix x) e ver':=by
 unfold storeE at h;split at h
 ·rename_i Z s bb hI
  cases hc:(allOneS st v.cells&&Nat.beq v.cells.length s) with
  | false=>rw [hc] at h;cases h
  | true =>
   rw [hc] at h;simp only [cond_true] at h;rw [Bool.and_eq_true] at hc;split at h
   ·rename_i id' ver kk ix off;split at h
    ·rename_i fr rt xs e ver' hb
     cases hl:(Nat.beq ver ver'&&Nat.ble (off+s) rt.size) with
     | false=>rw [hl] at h;cases h
     | true =>
      rw [hl] at h;simp only [cond_true] at h;rw [Bool.and_eq_true] at hl;split at h
      ·rename_i x hx;simp only [Option.some.injEq,Prod.mk.injEq] at h;obtain ⟨rfl,rfl⟩:=h;exact ⟨Z,s,bb,ver,ver',off,kk,ix,fr,fr,rt,xs,e,x,hI,hc.1,Nat.eq_of_beq_eq_true hc.2,rfl,hb,hl.1,Nat.le_of_ble_eq_true hl.2,by cases fr <;> rfl,hx,rfl⟩
      ·split at h
       ·rename_i x hx;simp only [Option.some.injEq,Prod.mk.injEq] at h;obtain ⟨rfl,rfl⟩:=h;exact ⟨Z,s,bb,ver,ver',off,kk,ix,fr,false,rt,xs,e,x,hI,hc.1,Nat.eq_of_beq_eq_true hc.2,rfl,hb,hl.1,Nat.le_of_ble_eq_true hl.2,rfl,hx,rfl⟩
       ·cases h
    ·cases h
   ·cases h
 ·cases h
def SB.isRow {V:Ty→Type} (b:SB V):Bool:=match b with
 | .row ..=>true
 | _=>false
theorem SrcA.mono {hp hp':List (Nat×AB)} {sz:Nat} {x:AV} {new:List (List AV)} (h:SrcA hp sz x new) (hh:∀ id n,x=.osl id n∨(∃ lo len,x=.vsl id n lo len)→look .dead hp' id=look .dead hp id):SrcA hp' sz x new:=by
 cases h with
 | ro fr _ h=>exact .ro fr _ h
 | osl id n _ e h hn=>exact .osl id n _ e ((hh id n (.inl rfl)).trans h) hn
 | vsl id n lo len rows0 _ e h hn hr=>exact .vsl id n lo len rows0 _ e ((hh id n (.inr ⟨lo,len,rfl⟩)).trans h) hn hr
 | nils=>exact .nils
def arnIds (x:SV D):List Nat:=match x with
 | .aosl e=>[(e.den:Int×Int).1.toNat]
 | _=>[]
theorem enc_ids {m:Nat→Nat} {H:Nat→SB D} {x:SV D} {j q:Nat} (hn:notA x=true) (h:x.enc m H=.osl j q∨∃ lo len,x.enc m H=.vsl j q lo len):(∃ j' ∈ idsA x,j=m j')∨j ∈ arnIds x:=by
 cases x with
 | box id off=>cases hb:isBox H id <;> simp [SV.enc,hb] at h
 | elt id ver i off=>cases hr:rowLen H id ver <;> simp [SV.enc,hr] at h
 | osl id ver =>
  cases hr:rowLen H id ver with
  | none=>simp [SV.enc,hr] at h
  | some n =>
   simp [SV.enc,hr] at h;exact .inl ⟨id,List.mem_singleton.2 rfl,h.1.symm⟩
 | vsl id ver lo hi =>
  cases hr:rowLen H id ver with
  | none=>simp [SV.enc,hr] at h
  | some n =>
   simp [SV.enc,hr] at h;exact .inl ⟨id,List.mem_singleton.2 rfl,h.1.symm⟩
 | aosl e =>
  right
  rw [SV.enc] at h;unfold aixAV at h
  cases hq:(decide (0≤(e.den:Int×Int).1)&&decide ((e.den:Int×Int).1<(bigA:Int))) with
  | false=>rw [hq] at h;simp at h
  | true =>
   rw [hq] at h;simp at h;exact List.mem_singleton.2 h.1.symm
 | aelt _ _=>cases hn
 | _=>simp [SV.enc] at h
theorem opWr_app {e:TypeId} {z:Value} {sz b id q:Nat} {rows new:List (List AV)} {t:TypeId} {x y:Operand} {d:Option Nat} {g:Option (Nat×Bool)} {ty:TypeId} {ps:String} {af:Array Edge} {s:ASt} (hx:s.ev x=.osl id q) (hb:look .dead s.heap id=.row sz rows e) (hm:q=rows.length) (hs:SrcA s.heap sz (s.ev y) new)
  (hT:P.underlying t=some (.slice e)) (hI:tyI P e=some (some z,sz,b)) (hz:z.cells.size=sz) (h63:(rows.length+new.length)*bmul b≤140737488355328) (hd:dok d n=true) :
  Dr.OpWr P n ⟨d,.call ⟨.builtin .append,⟨[x,y]⟩,⟨[t,t]⟩⟩,ty,ps,af,g⟩ s id (.row sz (rows++new) e) (.osl id (rows.length+new.length)):=⟨hd,fun K a w G r=>by
 obtain ⟨v,w',G',h1,h2,h3,h4,h5,h6⟩:=op_append_g (d:=d) (ty:=ty) (ps:=ps) (af:=af) (g:=g) hx hb rfl hm rfl hs hT hI hz h63 r
 exact ⟨v,w',G',.inl h1,h2,h3,h4,h5,h6⟩⟩
theorem appR_ok (hC:C.ok P) (hL:Lay m nx0 b0 st0) (hws:∀ p ∈ ws,Good b0 st0 p.2) (hc:∀ p ∈ cr,b0≤p.2) (hI:RI F m nx0 b0 st0 st) {d:Option Nat} {t:TypeId} {y z:Operand} {ty:TypeId} {ps:String} {af:Array Edge} {gg:Option (Nat×Bool)} (hd:dok d n=true)
  (hg:(⟨d,.call ⟨.builtin .append,⟨[y,z]⟩,⟨[t,t]⟩⟩,ty,ps,af,gg⟩:Oper).guard=none∨gst ops (⟨d,.call ⟨.builtin .append,⟨[y,z]⟩,⟨[t,t]⟩⟩,ty,ps,af,gg⟩:Oper) (Dr.lcl ops T (mapP m ws) nx0 i (mapP m cr) (st.enc m (nxOf nx0 b0 st)) (⟨d,.call ⟨.builtin .append,⟨[y,z]⟩,⟨[t,t]⟩⟩,ty,ps,af,gg⟩:Oper) 0)=some true)
  {K:List (Nat×Nat)→SSt D→G D (KD ρ) ρ} (h:(appR C T ws b0 i cr st d t (st.ev y) (st.ev z) K).den fu=some r)
  (k:∀ cr' st',RI F m nx0 b0 st0 st'→(∀ p ∈ cr',b0≤p.2)→(K cr' st').den fu=some r→AGm P n ops T ws nx0 b0 m Kt (i+1) cr' l st'):AGm P n ops T ws nx0 b0 m Kt i cr (⟨d,.call ⟨.builtin .append,⟨[y,z]⟩,⟨[t,t]⟩⟩,ty,ps,af,gg⟩::l) st:=by
 unfold appR at h;have ez:=enc_ev st m (nxOf nx0 b0 st) z;split at h
 ·rename_i id b x gd happ
  cases hb:(visS T ws b0 i cr id&&(ws.any fun p=>Nat.beq p.1 i&&Nat.beq p.2 id)&&Dr.onlyW ws i id&&(idsA (st.ev z)).all (fun j=>visS T ws b0 i cr j)&&notA (st.ev z)) with
  | false=>rw [hb] at h;cases h
  | true =>
   rw [hb] at h;simp only [cond_true] at h;obtain ⟨hgd,h2⟩:=grdG_den h;clear h;simp only [Bool.and_eq_true] at hb;obtain ⟨⟨⟨⟨b1,b2⟩,b3⟩,b4⟩,b5⟩:=hb;have ey:=enc_ev st m (nxOf nx0 b0 st) y;generalize st.ev y=v0 at happ ey;unfold appS at happ;split at happ
   ·rename_i e hu;split at happ
    ·rename_i Z sz bb hI'
     cases hc0:(Nat.beq Z.cells.size sz&&Nat.blt 0 sz) with
     | false=>rw [hc0] at happ;cases happ
     | true =>
      rw [hc0] at happ;simp only [cond_true] at happ;rw [Bool.and_eq_true] at hc0;have hz:=Nat.eq_of_beq_eq_true hc0.1;split at happ
      ·rename_i id' ver;split at happ
       ·rename_i fr rt xs e' v hblk
        cases hc2:(Nat.beq ver v&&(Nat.beq e' e&&(Nat.beq sz rt.size&&rt.flatA))) with
        | false=>rw [hc2] at happ;cases happ
        | true =>
         rw [hc2] at happ;simp only [cond_true] at happ;simp only [Bool.and_eq_true] at hc2;obtain ⟨hv,he,hsz,hfl⟩:=hc2;have he:=Nat.eq_of_beq_eq_true he;have hsz:=Nat.eq_of_beq_eq_true hsz;subst he;subst hsz;split at happ
         ·rename_i fr' ys hy
          cases hr:st.refs (fun _=>true) (fun i w=>!(Nat.beq i id'&&Nat.beq w (v+1))) with
          | false=>rw [hr] at happ;cases happ
          | true =>
           rw [hr] at happ;simp only [cond_true,Option.some.injEq,Prod.mk.injEq,MR.upd.injEq] at happ;obtain ⟨⟨rfl,rfl,rfl⟩,rfl⟩:=happ;have hlive:st.blk id'≠.dead:=by rw [hblk];simp
           have hbb:=enc_blk hI.mok hlive;have hbb':=hbb;rw [hblk,SB.enc] at hbb';rw [SV.enc,rowLen_eq hblk hv] at ey;obtain ⟨hG,hgd⟩:=andE_b hgd;have hsrc:=srcC_ok (y:=z) (nx:=nxOf nx0 b0 st) hfl hI.mok hG hy
           have harn:∀ j ∈ arnIds (st.ev z),j<bigA∧(look .dead (st.enc m (nxOf nx0 b0 st)).heap j).nmd (vis T nx0 i (mapP m cr))=true:=by
            intro j hj;have hy':=hy;have hG':=hG
            cases hzv:st.ev z <;> rw [hzv] at hj hy' hG' <;> simp only [arnIds,List.not_mem_nil,List.mem_singleton] at hj
            unfold srcC at hy';unfold srcG at hG';simp only at hy' hG';split at hy'
            ·rename_i t' xs' ha;obtain ⟨e0,hb0⟩:=arnOf_blk ha;simp only [ha] at hG';obtain ⟨a1,a2,_,_,a5⟩:=arn_at hI.mok hb0 hG';rw [hI.mok.ar' (by rw [hb0];rfl)] at a5;subst hj;exact ⟨a5,by rw [a2];exact rowD (fun _ h=>vis_arn hL h) false _ _⟩
            ·cases hy'
           have hgg:=leE_den hgd;have hgg:((List.length xs.den:Int)+(List.length ys.den:Int))*((bmul bb:Nat):Int)≤140737488355328:=hgg;have h63:(List.length xs.den+List.length ys.den)*bmul bb≤140737488355328:=nat_of2 hgg
           have hnew:rowLen (st.hset id' (.row (fr&&fr') rt (.app xs ys) e' (v+1))).blk id' (v+1)=some (List.length xs.den+List.length ys.den):=by
            unfold rowLen;rw [hset_blk,if_pos rfl];simp only [Nat.beq_refl,cond_true];show some (List.length (List.append _ _))=_;rw [List.append_eq,List.length_append]
           have hle:MemLe m st.blk m (st.hset id' (.row (fr&&fr') rt (.app xs ys) e' (v+1))).blk (fun _=>true) (fun i w=>!(Nat.beq i id'&&Nat.beq w (v+1))):=by
            refine ⟨fun k _=>.inr ⟨?_,rfl⟩,fun k w hw=>?_⟩
            ·unfold isBox;rw [hset_blk];by_cases e1:id'=k
             ·subst e1;rw [if_pos rfl,hblk]
             ·rw [if_neg e1]
            ·by_cases e1:id'=k
             ·subst e1;have hw:(!(Nat.beq id' id'&&Nat.beq w (v+1)))=true:=hw;rw [Nat.beq_refl,Bool.true_and] at hw;refine .inl ?_;unfold rowLen;rw [hset_blk,if_pos rfl]
              cases hq:Nat.beq w (v+1) with
              | true=>rw [hq] at hw;cases hw
              | false=>simp only [hq];rfl
             ·refine .inr ⟨?_,rfl⟩;unfold rowLen;rw [hset_blk,if_neg e1]
           have hset:=hset_les (b:=.row (fr&&fr') rt (.app xs ys) e' (v+1)) (b':=.row rt.size ((xs.den:List rt.den).map (rt.cells fr)++(ys.den:List rt.den).map (rt.cells fr')) e') hI.mok (.refl _) (by rw [hblk];exact SB.norm_row ..) (SB.norm_row ..) hle hr (by
            rw [SB.enc];refine .rows ?_;show LesRs (((xs.den:List rt.den)++(ys.den:List rt.den)).map (rt.cells (fr&&fr'))) _;rw [List.map_append]
            exact (rows_le (by cases fr <;> cases fr' <;> rfl) rt _).append (rows_le (by cases fr <;> cases fr' <;> rfl) rt _)) hI.fr
           have hRI:RI F m nx0 b0 st0 (st.hset id' (.row (fr&&fr') rt (.app xs ys) e' (v+1))):=⟨hset.1,hI.ge,hset.2.2,hI.fix.trans ⟨rfl,rfl,rfl⟩,fun k hk=>hI.good k (by
            rw [hset_blk] at hk;by_cases e1:id'=k
            ·subst e1;exact hlive
            ·rw [if_neg e1] at hk;exact hk),arn_hset hI rfl⟩
           have hvis:∀ j,visS T ws b0 i cr j=true→st.blk j≠.dead→Dr.visW T (mapP m ws) nx0 i (mapP m cr) (m j)=true:=by
            intro j hj hjl;unfold Dr.visW;rw [liveS hL hc hI hj hjl,okW_m hL hws (hI.good j hjl)];unfold visS at hj;rw [Bool.and_eq_true] at hj;rw [hj.2];rfl
           have hrowD:∀ (g:Bool) (us:List rt.den),(us.map (rt.cells g)).all (AV.nmd.go (vis T nx0 i (mapP m cr)))=true:=fun g us=>rowD (fun _ h=>vis_arn hL h) g rt us
           have hnmd:∀ j,(st.blk j).isRow=true→((st.blk j).enc m st.blk).nmd (vis T nx0 i (mapP m cr))=true:=by
            intro j hj
            cases hbj:st.blk j with
            | dead=>rw [hbj] at hj;cases hj
            | box cs e=>rw [hbj] at hj;cases hj
            | row fr2 t2 xs2 e2 v2 =>
             exact rowD (fun _ h=>vis_arn hL h) fr2 t2 xs2.den
            | arn t2 xs2 e2=>rfl
           have hzrow:∀ j ∈ idsA (st.ev z),(st.blk j).isRow=true:=by
            intro j hj;have hy':=hy;unfold srcC at hy'
            cases hzv:st.ev z <;> rw [hzv] at hj hy' <;> simp only [idsA,List.not_mem_nil,List.mem_singleton] at hj
            ·subst hj;simp only [srcS] at hy';split at hy'
             ·rename_i hbj;rw [hbj];rfl
             ·cases hy'
            ·subst hj;split at hy'
             ·rename_i a1 a2 a3 a4 hh;injection hh with q1 q2 q3 q4
              subst q1;split at hy'
              ·rename_i hbj;rw [hbj];rfl
              ·cases hy'
             ·rename_i hno;cases hno
             ·rename_i hno _;exact absurd rfl (hno _ _ _ _)
           have hzlive:∀ j ∈ idsA (st.ev z),st.blk j≠.dead:=by
            intro j hj e1;have:=hzrow j hj;rw [e1] at this;cases this
           refine .step (.write (id:=m id') (b:=.row rt.size ((xs.den:List rt.den).map (rt.cells fr)++(ys.den:List rt.den).map (rt.cells fr')) e') (x:=.osl (m id') (List.length xs.den+List.length ys.den)) (m id'::((idsA (st.ev z)).map m++arnIds (st.ev z))) (fun j hj=>?_) hg ?_ ?_ (onlyW_m b3) (fun hp kk _ hhp=>?_) ?_ ?_) (.le ?_ (k cr _ (hRI.put _ _) hc h2))
           ·rcases List.mem_cons.1 hj with rfl | hj
            ·exact ⟨hvis _ b1 hlive,by rw [hbb];exact hnmd id' (by rw [hblk];rfl)⟩
            ·rcases List.mem_append.1 hj with hj | hj
             rotate_left
             ·exact ⟨visW_arn hL hws (harn j hj).1,(harn j hj).2⟩
             obtain ⟨j',hj',rfl⟩:=List.mem_map.1 hj;have hl':=hzlive j' hj';exact ⟨hvis _ (List.all_eq_true.1 b4 j' hj') hl',by rw [enc_blk hI.mok hl'];exact hnmd j' (hzrow j' hj')⟩
           ·exact hvis _ b1 hlive
           ·obtain ⟨p,hp,hpe⟩:=List.any_eq_true.1 b2;rw [Bool.and_eq_true] at hpe;have e1:=Nat.eq_of_beq_eq_true hpe.1;have e2:=Nat.eq_of_beq_eq_true hpe.2;exact List.mem_map.2 ⟨p,hp,by rw [e1,e2]⟩
           ·have hzz:=lregs_ev (o:=⟨d,.call ⟨.builtin .append,⟨[y,z]⟩,⟨[t,t]⟩⟩,ty,ps,af,gg⟩) (ops:=ops) (s:=st.enc m (nxOf nx0 b0 st)) (x:=z) (hp:=hp) (k:=kk) (by simp [Op.operands,Call.operands]);have hyy:=lregs_ev (o:=⟨d,.call ⟨.builtin .append,⟨[y,z]⟩,⟨[t,t]⟩⟩,ty,ps,af,gg⟩) (ops:=ops) (s:=st.enc m (nxOf nx0 b0 st)) (x:=y) (hp:=hp) (k:=kk) (by simp [Op.operands,Call.operands])
            have hsrc':SrcA hp rt.size ((⟨Dr.lregs ops (st.enc m (nxOf nx0 b0 st)) ⟨d,.call ⟨.builtin .append,⟨[y,z]⟩,⟨[t,t]⟩⟩,ty,ps,af,gg⟩,hp,kk⟩:ASt).ev z) ((ys.den:List rt.den).map (rt.cells fr')):=by
             rw [hzz];refine hsrc.mono fun j q hj=>?_
             rw [ez] at hj;rcases enc_ids b5 hj with ⟨j',h1,rfl⟩ | h1
             ·exact hhp _ (List.mem_cons_of_mem _ (List.mem_append.2 (.inl (List.mem_map_of_mem h1))))
             ·exact hhp _ (List.mem_cons_of_mem _ (List.mem_append.2 (.inr h1)))
            have:=opWr_app (P:=P) (n:=n) (d:=d) (ty:=ty) (ps:=ps) (af:=af) (g:=gg) (hyy.trans ey) ((hhp (m id') (List.mem_cons_self ..)).trans hbb') (rows_len _).symm hsrc' (allP_at hC.T.und hu) (allP_at hC.T.inf hI') hz (by rw [rows_len,rows_len];exact h63) hd;rw [rows_len,rows_len] at this;exact this
           ·show (((xs.den:List rt.den).map (rt.cells fr))++((ys.den:List rt.den).map (rt.cells fr'))).all _=true;rw [List.all_append,hrowD,hrowD];rfl
           ·exact liveS hL hc hI b1 hlive
           ·have hnx:nxOf nx0 b0 ((st.hset id' (.row (fr&&fr') rt (.app xs ys) e' (v+1))).put d (.osl id' (v+1)))=nxOf nx0 b0 st:=by cases d <;> rfl
            show LeS (((st.hset id' _).put d (.osl id' (v+1))).enc m _) _;rw [hnx,put_enc];refine hset.2.1.put ?_;rw [SV.enc,hnew];exact .refl _
         ·cases happ
       ·cases happ
      ·split at happ
       ·rename_i rt hty
        cases hc3:(Nat.beq sz rt.size&&rt.flatA) with
        | false=>rw [hc3] at happ;cases happ
        | true =>
         rw [hc3] at happ;simp only [cond_true] at happ
         split at happ <;> cases happ
       ·cases happ
      ·cases happ
    ·cases happ
   ·cases happ
 ·cases h
theorem writeR_ok (hC:C.ok P) (hL:Lay m nx0 b0 st0) (hws:∀ p ∈ ws,Good b0 st0 p.2) (hc:∀ p ∈ cr,b0≤p.2) (hI:RI F m nx0 b0 st0 st) (hd:dok o.dst n=true)
  (hg:o.guard=none∨gst ops o (Dr.lcl ops T (mapP m ws) nx0 i (mapP m cr) (st.enc m (nxOf nx0 b0 st)) o 0)=some true)
  {K:List (Nat×Nat)→SSt D→G D (KD ρ) ρ} (h:(writeR C T ws b0 i cr st o K).den fu=some r)
  (k:∀ cr' st',RI F m nx0 b0 st0 st'→(∀ p ∈ cr',b0≤p.2)→(K cr' st').den fu=some r→AGm P n ops T ws nx0 b0 m Kt (i+1) cr' l st'):AGm P n ops T ws nx0 b0 m Kt i cr (o::l) st:=by
 obtain ⟨d,op,ty,ps,af,gg⟩:=o;unfold writeR at h;simp only at h;split at h
 ·rename_i t y z;split at h
  ·rename_i id b hs
   cases hb:(visS T ws b0 i cr id&&(ws.any fun p=>Nat.beq p.1 i&&Nat.beq p.2 id)&&Dr.onlyW ws i id&&b.refs (visS T ws b0 i cr) (fun k _=>visS T ws b0 i cr k)&&(st.blk id).refs (visS T ws b0 i cr) (fun k _=>visS T ws b0 i cr k)) with
   | false=>rw [hb] at h;cases h
   | true =>
    rw [hb] at h;simp only [cond_true] at h;simp only [Bool.and_eq_true] at hb;obtain ⟨⟨⟨⟨b1,b2⟩,b3⟩,b4⟩,b5⟩:=hb;obtain ⟨Z,s,bb,off,cs,e,hI',h1,hls,ha,hblk,hle,rfl⟩:=storeB_ok hs;have hlive:st.blk id≠.dead:=by rw [hblk];simp
    have hi:isBox st.blk id=true:=by unfold isBox;rw [hblk]
    have ey:(st.enc m (nxOf nx0 b0 st)).ev y=.box (m id) off:=by rw [enc_ev,ha,SV.enc,hi];rfl
    have ez:((st.enc m (nxOf nx0 b0 st)).ev z).cells=SV.encL m st.blk (st.ev z).cells:=by rw [enc_ev,enc_cells]
    have hbb:=enc_blk hI.mok hlive;have hbb':=hbb;rw [hblk,SB.enc] at hbb'
    have hset:=hset_les (b:=.box (setRS cs off (st.ev z).cells) e) (b':=.box (setR (SV.encL m st.blk cs) off (SV.encL m st.blk (st.ev z).cells)) e) (pB:=fun _=>true) (pR:=fun _ _=>true) hI.mok (.refl _) (by rw [hblk];exact SB.norm_box ..) (SB.norm_box ..) (memLe_box hblk) (refs_all st) (by
     rw [SB.enc,setRS_enc];have hH:∀ l:List (SV D),LesL (SV.encL m (st.hset id (.box (setRS cs off (st.ev z).cells) e)).blk l) (SV.encL m st.blk l):=fun l=>encL_les (memLe_box (pB:=fun _=>true) (pR:=fun _ _=>true) hblk) l (svL_refs_all l)
     exact .box e (setR_les (hH cs) (hH _) off)) hI.fr
    have hRI:RI F m nx0 b0 st0 (st.hset id (.box (setRS cs off (st.ev z).cells) e)):=⟨hset.1,hI.ge,hset.2.2,hI.fix.trans ⟨rfl,rfl,rfl⟩,fun k hk=>hI.good k (by
     rw [hset_blk] at hk;by_cases e':id=k
     ·subst e';exact hlive
     ·rw [if_neg e'] at hk;exact hk),arn_hset hI rfl⟩
    refine .step (.write (id:=m id) (b:=.box (setR (SV.encL m st.blk cs) off (SV.encL m st.blk (st.ev z).cells)) e) (x:=.und) [m id] (fun j hj=>?_) hg ?_ ?_ (onlyW_m b3) (fun hp kk _ hhp=>?_) ?_ rfl) (.le ?_ (k cr _ hRI hc h))
    ·rw [List.mem_singleton] at hj;subst hj;refine ⟨?_,?_⟩
     ·unfold Dr.visW;rw [liveS hL hc hI b1 hlive,okW_m hL hws (hI.good id hlive)];unfold visS at b1;rw [Bool.and_eq_true] at b1;rw [b1.2];rfl
     ·rw [hbb];exact nmdB hL hc hI b5
    ·unfold Dr.visW;rw [liveS hL hc hI b1 hlive,okW_m hL hws (hI.good id hlive)];unfold visS at b1;rw [Bool.and_eq_true] at b1;rw [b1.2];rfl
    ·obtain ⟨p,hp,hpe⟩:=List.any_eq_true.1 b2;rw [Bool.and_eq_true] at hpe;have e1:=Nat.eq_of_beq_eq_true hpe.1;have e2:=Nat.eq_of_beq_eq_true hpe.2;exact List.mem_map.2 ⟨p,hp,by rw [e1,e2]⟩
    ·have hz:=lregs_ev (o:=⟨none,.store t y z,ty,ps,af,gg⟩) (ops:=ops) (s:=st.enc m (nxOf nx0 b0 st)) (x:=z) (hp:=hp) (k:=kk) (by simp [Op.operands]);have hy:=lregs_ev (o:=⟨none,.store t y z,ty,ps,af,gg⟩) (ops:=ops) (s:=st.enc m (nxOf nx0 b0 st)) (x:=y) (hp:=hp) (k:=kk) (by simp [Op.operands]);refine opWr_box (hy.trans ey) ((hhp (m id) (by simp)).trans hbb') (by rw [hz,ez]) (allOneS_enc h1) (allP_at hC.T.inf hI') (by rw [encL_length];exact hls) (by rw [encL_length];exact hle)
    ·have:=nmdB (b:=.box (setRS cs off (st.ev z).cells) e) hL hc hI b4;rw [SB.enc,setRS_enc] at this;exact this
    ·exact hset.2.1
  ·split at h
   ·rename_i id b hs
    cases hb:(visS T ws b0 i cr id&&(ws.any fun p=>Nat.beq p.1 i&&Nat.beq p.2 id)&&Dr.onlyW ws i id&&(st.blk id).refs (visS T ws b0 i cr) (fun k _=>visS T ws b0 i cr k)) with
    | false=>rw [hb] at h;cases h
    | true =>
     rw [hb] at h;simp only [cond_true] at h;simp only [Bool.and_eq_true] at hb;obtain ⟨⟨⟨b1,b2⟩,b3⟩,b5⟩:=hb;obtain ⟨Z,s,bb,ver,ver',off,kk,ix,fr,fr',rt,xs,e,x,hI',h1,hls,ha,hblk,hver,hle,hfr,hx,rfl⟩:=storeE_ok hs;have hlive:st.blk id≠.dead:=by rw [hblk];simp
     have ey:(st.enc m (nxOf nx0 b0 st)).ev y=.elt (m id) (List.length xs.den) (Int.toNat ix.den) off:=by rw [enc_ev,ha,SV.enc,rowLen_eq hblk hver]
     have ez:((st.enc m (nxOf nx0 b0 st)).ev z).cells=SV.encL m st.blk (st.ev z).cells:=by rw [enc_ev,enc_cells]
     have hbb:=enc_blk hI.mok hlive;have hbb':=hbb;rw [hblk,SB.enc] at hbb';have hcell:=exA_ok (m:=m) (H:=st.blk) hx;have hcn:=encL_nmd (m:=m) (H:=st.blk) (pB:=fun _=>false) (pR:=fun _ _=>false) (q:=vis T nx0 i (mapP m cr)) (fun id h=>by cases h) (fun id v n h=>by cases h) _ (exA_refs hx) (.inr fun _ h=>vis_arn hL h);rw [setRS_enc,cellsE_enc] at hcell;rw [setRS_enc,cellsE_enc] at hcn
     have hset:=hset_les (b:=.row fr' rt (.set xs ix x) e ver') (b':=.row rt.size (((xs.den:List rt.den).map (rt.cells fr)).set (Int.toNat ix.den) (setR (rt.cells fr (E.at xs ix).den) off (SV.encL m st.blk (st.ev z).cells))) e) (pB:=fun _=>true) (pR:=fun _ _=>true) hI.mok (.refl _) (by rw [hblk];exact SB.norm_row ..) (SB.norm_row ..) (memLe_set hblk (by
      show List.length (List.set _ _ _)=_
      rw [List.length_set])) (refs_all st) (.rows (rows_set hfr hcell)) hI.fr
     have hRI:RI F m nx0 b0 st0 (st.hset id (.row fr' rt (.set xs ix x) e ver')):=⟨hset.1,hI.ge,hset.2.2,hI.fix.trans ⟨rfl,rfl,rfl⟩,fun k hk=>hI.good k (by
      rw [hset_blk] at hk;by_cases e':id=k
      ·subst e';exact hlive
      ·rw [if_neg e'] at hk;exact hk),arn_hset hI rfl⟩
     refine .step (.write (id:=m id) (b:=.row rt.size (((xs.den:List rt.den).map (rt.cells fr)).set (Int.toNat ix.den) (setR (rt.cells fr (E.at xs ix).den) off (SV.encL m st.blk (st.ev z).cells))) e) (x:=.und) [m id] (fun j hj=>?_) hg ?_ ?_ (onlyW_m b3) (fun hp kk _ hhp=>?_) ?_ rfl) (.le ?_ (k cr _ hRI hc h))
     ·rw [List.mem_singleton] at hj;subst hj;refine ⟨?_,?_⟩
      ·unfold Dr.visW;rw [liveS hL hc hI b1 hlive,okW_m hL hws (hI.good id hlive)];unfold visS at b1;rw [Bool.and_eq_true] at b1;rw [b1.2];rfl
      ·rw [hbb];exact nmdB hL hc hI b5
     ·unfold Dr.visW;rw [liveS hL hc hI b1 hlive,okW_m hL hws (hI.good id hlive)];unfold visS at b1;rw [Bool.and_eq_true] at b1;rw [b1.2];rfl
     ·obtain ⟨p,hp,hpe⟩:=List.any_eq_true.1 b2;rw [Bool.and_eq_true] at hpe;have e1:=Nat.eq_of_beq_eq_true hpe.1;have e2:=Nat.eq_of_beq_eq_true hpe.2;exact List.mem_map.2 ⟨p,hp,by rw [e1,e2]⟩
     ·have hz:=lregs_ev (o:=⟨none,.store t y z,ty,ps,af,gg⟩) (ops:=ops) (s:=st.enc m (nxOf nx0 b0 st)) (x:=z) (hp:=hp) (k:=kk) (by simp [Op.operands]);have hy:=lregs_ev (o:=⟨none,.store t y z,ty,ps,af,gg⟩) (ops:=ops) (s:=st.enc m (nxOf nx0 b0 st)) (x:=y) (hp:=hp) (k:=kk) (by simp [Op.operands]);refine opWr_elt (hy.trans ey) ((hhp (m id) (by simp)).trans hbb') (rows_len _).symm (fun row' hr=>at_row hr) (by rw [hz,ez]) (allOneS_enc h1) (allP_at hC.T.inf hI') (by rw [encL_length];exact hls) hle
     ·have hb4:=nmdB hL hc hI b5;rw [hblk,SB.enc] at hb4;exact all_set hb4 hcn
     ·exact hset.2.1
   ·cases h
 ·rename_i y z t t'
  cases ht:Nat.beq t' t with
  | false=>rw [ht] at h;cases h
  | true =>
   rw [ht] at h;have ht:=Nat.eq_of_beq_eq_true ht;subst ht;exact appR_ok hC hL hws hc hI hd hg h k
 ·cases h
theorem exRows_refs {pB:Nat→Bool} {pR:Nat→Nat→Bool} {fr:Bool} {t:Ty}:∀ {rows:List (List (SV D))} {xs:E D (.list t)},exRows fr t rows=some xs→∀ row ∈ rows,SV.refsL pB pR row=true
 | [],xs,h,row,hr=>by cases hr
 | r::l,xs,h,row,hr=>by
  rw [exRows] at h;split at h
  ·rename_i x xs' h1 h2;rcases List.mem_cons.1 hr with rfl | hr
   ·exact exA_refs h1
   ·exact exRows_refs h2 row hr
  ·cases h
structure NewOk (P:Program) (n:Nat) (o:Oper) (lst:SSt D) (m:Nat→Nat) (b:SB D) (row:Bool) (b':AB):Prop where
 op:∀ k,MOk m k lst→OpN P n o (lst.enc m k) b'
 les:LesB (b.enc m lst.blk) b'
 box:row=false→∃ cs e cs',b=.box cs e∧b'=.box cs' e
 nmd:∀ (q:Nat→Bool) (pB:Nat→Bool) (pR:Nat→Nat→Bool),(∀ k,k<bigA→q k=true)→(∀ id,pB id=true→isBox lst.blk id=true→q (m id)=true)→(∀ id v n,pR id v=true→rowLen lst.blk id v=some n→q (m id)=true)→b.refs pB pR=true→b'.nmd q=true
 rw:row=true→∃ fr rt xs e rows,b=.row fr rt xs e 0∧b'=.row rt.size rows e∧rows.length=List.length xs.den
theorem new_ok {Tb:Tab} (hT:Tb.ok P) {lst:SSt D} {b:SB D} {row:Bool} {g:E D .bool} (hn:isNew o.op=true) (h:mem0 Tb lst o.dst o.op=some (.new b row,g)) (hg:g.den=true) (hd:dok o.dst n=true):∃ b',NewOk P n o lst m b row b':=by
 obtain ⟨d,op,ty,ps,af,gg⟩:=o;have hd:dok d n=true:=hd;simp only at h hn;unfold mem0 at h;split at h
 ·rename_i e;unfold allocS at h;split at h
  ·rename_i Z s bb h1
   cases hc:allOne (Z.cells.toList.map avOf) with
   | false=>rw [hc] at h;cases h
   | true =>
    rw [hc] at h;simp only [cond_true,Option.some.injEq,Prod.mk.injEq,MR.new.injEq] at h;obtain ⟨⟨rfl,rfl⟩,rfl⟩:=h
    exact ⟨_,fun k _=>opN_alloc (allP_at hT.inf h1) hc hd,.box e (by rw [zeroS_enc];exact .refl _),fun _=>⟨_,_,_,rfl,rfl⟩,fun q pB pR hq hB hR hb=>(by
     rw [SB.refs] at hb;have:=encL_nmd (m:=m) (H:=lst.blk) hB hR _ hb (.inr hq);rw [zeroS_enc] at this
     exact this),fun h=>by cases h⟩
  ·cases h
 ·rename_i e y;unfold boxS at h
  cases hc:allOneS lst (lst.ev y).cells with
  | false=>rw [hc] at h;cases h
  | true =>
   rw [hc] at h;simp only [cond_true,Option.some.injEq,Prod.mk.injEq,MR.new.injEq] at h;obtain ⟨⟨rfl,rfl⟩,rfl⟩:=h
   refine ⟨.box (SV.encL m lst.blk (lst.ev y).cells) e,fun k _=>?_,.refl _,fun _=>⟨_,_,_,rfl,rfl⟩,fun q pB pR hq hB hR hb=>(by
     rw [SB.refs] at hb
     exact encL_nmd hB hR _ hb (.inr hq)),fun h=>by cases h⟩
   have e1:((lst.enc m k).ev y).cells=SV.encL m lst.blk (lst.ev y).cells:=by rw [enc_ev,enc_cells]
   rw [←e1];exact opN_box (by rw [e1];exact allOneS_enc hc) hd
 ·split at h
  ·rename_i t a v;unfold isNew at hn;cases hn
  ·cases h
 ·rename_i t y z;unfold makeS at h;generalize hy:lst.ev y=vy at h;generalize hz:lst.ev z=vz at h;split at h
  ·rename_i e k L k' Cc hu;split at h
   ·rename_i Z sz bb rt hI hty
    cases hc:(allOne (Z.cells.toList.map avOf)&&Nat.beq (Z.cells.toList.map avOf).length sz&&Nat.blt 0 sz&&Nat.blt 0 bb) with
    | false=>rw [hc] at h;cases h
    | true =>
     rw [hc] at h;simp only [cond_true] at h;simp only [Bool.and_eq_true] at hc;obtain ⟨⟨⟨c1,c2⟩,c3⟩,c4⟩:=hc;split at h
     ·rename_i x0 hx0;simp only [Option.some.injEq,Prod.mk.injEq,MR.new.injEq] at h;obtain ⟨⟨rfl,rfl⟩,rfl⟩:=h;rw [andE_den,andE_den] at hg;obtain ⟨g1,g2⟩:=andB hg;obtain ⟨g2,g3⟩:=andB g2;have g2:=leE_den g2;have hb0:0<bb:=by simpa using c4
      have g2:(0:Int)≤(L.den:Int):=g2;have hzl:(Z.cells.toList.map avOf).length=sz:=Nat.eq_of_beq_eq_true c2;have hcell:=exA_ok (m:=m) (H:=lst.blk) hx0;rw [zeroS_enc] at hcell;have hsz:rt.size=sz:=by rw [←rt.cells_length true x0.den,hcell.len,hzl]
      refine ⟨.row sz (List.replicate (L.den:Int).toNat (Z.cells.toList.map avOf)) e,fun kk hm=>?_,?_,(fun h=>by cases h),(fun q pB pR hq hB hR _=>by
       refine List.all_eq_true.2 fun row hr=>?_
       rw [(List.mem_replicate.1 hr).2,←zeroS_enc (m:=m) (H:=lst.blk)]
       exact encL_nmd hB hR _ (exA_refs hx0) (.inr hq)),fun _=>⟨_,_,_,_,_,rfl,by rw [hsz],by
       rw [List.length_replicate];show _=(List.replicate _ _).length
       rw [List.length_replicate]⟩⟩
      ·have ey:(lst.enc m kk).ev y=.int k L.den:=by rw [enc_ev,hy,SV.enc]
       have ez:(lst.enc m kk).ev z=.int k' Cc.den:=by rw [enc_ev,hz,SV.enc]
       obtain ⟨hLC,g3⟩:(L.den:Int)≤(Cc.den:Int)∧(bb:Int)*(Cc.den:Int)≤281474976710656:=by
        cases hso:sameOp y z with
        | true =>
         have hCL:(Cc.den:Int)=(L.den:Int):=sameOp_eq hso ey ez;rw [hso] at g3;have g3:=leE_den g3;rw [mulL_den] at g3;rw [hCL];exact ⟨Int.le_refl _,g3⟩
        | false =>
         rw [hso] at g1 g3;have g3:=leE_den g3;rw [mulL_den] at g3;exact ⟨leE_den g1,g3⟩
       exact opN_makeC (allP_at hT.und hu) (allP_at hT.inf hI) hzl (by simpa using c3) c1 ey ez g2 hLC g3 (le_of_mul hb0 (Int.le_trans g2 hLC) g3) hd
      ·subst hsz;refine .rows ⟨?_,fun i row row' h1 h2=>?_⟩
       ·show (List.map _ (List.replicate _ _)).length=_;rw [List.length_map,List.length_replicate,List.length_replicate]
       ·have h1:((List.replicate (L.den:Int).toNat x0.den).map (rt.cells true))[i]?=some row:=h1;rw [List.getElem?_map,List.getElem?_replicate] at h1;rw [List.getElem?_replicate] at h2;split at h1
        ·rename_i hi;rw [if_pos hi] at h2;simp only [Option.map_some,Option.some.injEq] at h1 h2;subst h1;subst h2
         exact hcell
        ·cases h1
     ·cases h
   ·cases h
  ·cases h
 ·rename_i t L parts;unfold litS at h;split at h
  ·rename_i e hu;split at h
   ·rename_i Z sz bb rt hI hty
    cases hc:(allOne (Z.cells.toList.map avOf)&&Nat.beq (Z.cells.toList.map avOf).length sz&&Nat.blt 0 sz&&Nat.ble (L*sz) 16777216&&Nat.beq rt.size sz) with
    | false=>rw [hc] at h;cases h
    | true =>
     rw [hc] at h;simp only [cond_true] at h;simp only [Bool.and_eq_true] at hc;obtain ⟨⟨⟨⟨c1,c2⟩,c3⟩,c4⟩,c5⟩:=hc;split at h
     ·rename_i out hf'
      cases ho:Nat.beq out.length (L*sz) with
      | false=>rw [ho] at h;cases h
      | true =>
       rw [ho] at h;simp only [cond_true] at h;have hf':=fillS_enc (m:=m) hf';rw [zerosS_enc,zeroS_enc] at hf';have hsz:=Nat.eq_of_beq_eq_true c5
       have fin:∀ fr xs,exRows fr rt (chunkS sz L out)=some xs→b=.row fr rt xs e 0→row=true→∃ b',NewOk P n ⟨d,.buildSlice t L parts,ty,ps,af,gg⟩ lst m b row b':=by
        intro fr xs hx eb er;subst eb;subst er
        have hch:=chunkS_at (m:=m) (H:=lst.blk) hx
        refine ⟨.row sz (chunk sz L (SV.encL m lst.blk out)) e,fun kk hm=>?_,?_,(fun h=>by cases h),(fun q pB pR hq hB hR _=>by
         refine List.all_eq_true.2 fun row hr=>?_
         rw [chunkS_enc] at hr;obtain ⟨r0,h1,rfl⟩:=List.mem_map.1 hr
         exact encL_nmd hB hR _ (exRows_refs hx r0 h1) (.inr hq)),fun _=>⟨_,_,_,_,_,rfl,by rw [hsz],?_⟩⟩
        ·have hf2:=hf';rw [←evPartsS_enc (nx:=kk)] at hf2;exact opN_lit (allP_at hT.und hu) (allP_at hT.inf hI) c1 (Nat.eq_of_beq_eq_true c2) (by simpa using c3) c4 hf2 (by rw [encL_length];exact Nat.eq_of_beq_eq_true ho) hd
        ·subst hsz;exact .rows hch
        ·have:=hch.len;rw [List.length_map] at this;exact this.symm
       unfold litRow at h;split at h
       ·rename_i xs hx;simp only [Option.some.injEq,Prod.mk.injEq,MR.new.injEq] at h;exact fin _ _ hx h.1.1.symm h.1.2.symm
       ·split at h
        ·rename_i xs hx;simp only [Option.some.injEq,Prod.mk.injEq,MR.new.injEq] at h;exact fin _ _ hx h.1.1.symm h.1.2.symm
        ·cases h
     ·cases h
   ·cases h
  ·cases h
 ·rename_i y z t t'
  cases ht:Nat.beq t' t with
  | false=>rw [ht] at h;cases h
  | true =>
   rw [ht] at h;have ht:=Nat.eq_of_beq_eq_true ht;subst ht;simp only [cond_true] at h;unfold appS at h;generalize hy:lst.ev y=vy at h;split at h
   ·rename_i e hu;split at h
    ·rename_i Z sz bb hI
     cases hc:(Nat.beq Z.cells.size sz&&Nat.blt 0 sz) with
     | false=>rw [hc] at h;cases h
     | true =>
      rw [hc] at h;simp only [cond_true] at h;rw [Bool.and_eq_true] at hc;have hz:=Nat.eq_of_beq_eq_true hc.1;have h0:0<sz:=Nat.le_of_ble_eq_true hc.2;split at h
      ·split at h
       ·rename_i fr ty' xs e' v hb
        cases hc2:(Nat.beq _ v&&(Nat.beq e' e&&(Nat.beq sz ty'.size&&ty'.flatA))) with
        | false=>rw [hc2] at h;cases h
        | true =>
         rw [hc2] at h;simp only [cond_true] at h;split at h
         ·rename_i fr' ys hy2
          cases hr:lst.refs (fun _=>true) (fun i w=>!(Nat.beq i _&&Nat.beq w (v+1))) with
          | false=>rw [hr] at h;cases h
          | true=>rw [hr] at h;cases h
         ·cases h
       ·cases h
      ·split at h
       ·rename_i rt hty
        cases hc2:(Nat.beq sz rt.size&&rt.flatA) with
        | false=>rw [hc2] at h;cases h
        | true =>
         rw [hc2] at h;simp only [cond_true] at h;rw [Bool.and_eq_true] at hc2;have hsz:=Nat.eq_of_beq_eq_true hc2.1;subst hsz;split at h
         ·rename_i fr' ys hys;simp only [Option.some.injEq,Prod.mk.injEq,MR.new.injEq] at h;obtain ⟨⟨rfl,rfl⟩,rfl⟩:=h;obtain ⟨hG,hg⟩:=andE_b hg;have hg:=leE_den hg;have hg:(List.length ys.den:Int)*((bmul bb:Nat):Int)≤140737488355328:=hg;have h63:List.length ys.den*bmul bb≤140737488355328:=nat_of1 hg
          refine ⟨.row rt.size ((ys.den:List rt.den).map (rt.cells fr')) e,fun kk hm=>?_,.refl _,(fun h=>by cases h),(fun q pB pR hq hB hR _=>by
           exact rowD hq fr' rt ys.den),fun _=>⟨_,_,_,_,_,rfl,rfl,rows_len _⟩⟩
          have ey:(lst.enc m kk).ev y=.nils:=by rw [enc_ev,hy,SV.enc]
          exact opN_append_nil ey rfl (srcC_ok hc2.2 hm hG hys) (allP_at hT.und hu) (allP_at hT.inf hI) h0 hz (by rw [rows_len];exact h63) hd
         ·cases h
       ·cases h
      ·cases h
    ·cases h
   ·cases h
 ·cases h
theorem hnew_fix {nx:Nat} {b:SB D} {b':AB} {s:ASt} (hm:MOk m nx st) (hl:LeS (st.enc m nx) s) (hf:FrOk m st.blk st.fr F) (hmx:m st.nx=nx) (hbd:b.norm) (hr:st.refs (nB st) (nR st)=true) (hb:LesB (b.enc m (st.hnew b).blk) b') :
  MOk m (nx+1) (st.hnew b)∧LeS ((st.hnew b).enc m (nx+1)) (s.hnew b')∧FrOk m (st.hnew b).blk (st.hnew b).fr F:=by
 have hnx:nx=s.nx:=hl.nx
 have hc:MemLe m st.blk m (st.hnew b).blk (nB st) (nR st):=by
  have hne:∀ id,(!Nat.beq id st.nx)=true→id≠st.nx:=by
   intro id h e;subst e;have h:(!Nat.beq st.nx st.nx)=true:=h;rw [Nat.beq_refl] at h;cases h
  refine ⟨fun id h=>.inr ⟨?_,rfl⟩,fun id v h=>.inr ⟨?_,rfl⟩⟩
  ·unfold isBox;rw [hnew_blk,if_neg (Ne.symm (hne id h))]
  ·unfold rowLen;rw [hnew_blk,if_neg (Ne.symm (hne id h))]
 unfold SSt.refs at hr;simp only [Bool.and_eq_true] at hr;obtain ⟨r1,r2,r3,r4,r5⟩:=hr
 have hlv:∀ k,(st.hnew b).blk k≠.dead→k≠st.nx→st.blk k≠.dead:=by
  intro k hk e;rw [hnew_blk,if_neg (Ne.symm e)] at hk;exact hk
 have hdead:st.blk st.nx=.dead:=Classical.byContradiction fun e=>Nat.lt_irrefl _ (hm.live e)
 obtain ⟨hbd,hbA⟩:=hbd
 have hA:((st.hnew b).blk 0).isA=(st.blk 0).isA∧∀ B,((st.hnew b).blk 0).rows B=(st.blk 0).rows B:=by
  rw [hnew_blk];by_cases e:st.nx=0
  ·rw [if_pos e,hbA,show st.blk 0=.dead by rw [←e];exact hdead];exact ⟨rfl,fun B=>by rw [isA_rows hbA];rfl⟩
  ·rw [if_neg e];exact ⟨rfl,fun _=>rfl⟩
 refine ⟨⟨fun k hk=>?_,fun k k' hk hk' e=>?_,fun p hp=>?_,fun h=>hm.ar' (hA.1 ▸ h),?_⟩,⟨fun d=>?_,fun k=>?_,?_⟩,hf.les' hc r5⟩
 ·by_cases e:k=st.nx
  ·rw [e,hmx];omega
  ·have:=hm.lt k (hlv k hk e);omega
 ·by_cases e1:k=st.nx
  ·by_cases e2:k'=st.nx
   ·omega
   ·rw [e1,hmx] at e;have:=hm.lt k' (hlv k' hk' e2);omega
  ·by_cases e2:k'=st.nx
   ·rw [e2,hmx] at e;have:=hm.lt k (hlv k hk e1);omega
   ·exact hm.inj k k' (hlv k hk e1) (hlv k' hk' e2) e
 ·show p.1<st.nx+1∧p.2≠.dead;rcases List.mem_cons.1 hp with rfl | hp
  ·exact ⟨Nat.lt_succ_self _,hbd⟩
  ·have:=hm.keys p hp;exact ⟨by omega,this.2⟩
 ·have:=hm.ge.1;refine ⟨by omega,fun k hk=>?_⟩;by_cases e:k=st.nx
  ·rw [e,hmx];exact this
  ·exact hm.ge.2 k (hlv k hk e)
 ·show Les (look .any (encR m (st.hnew b).blk (st.regs++st.kp)) d) _;exact (encR_les hc _ (by rw [refsR_append,r1,r2];rfl) d).trans (hl.regs d)
 ·show LesB (look .dead (((m st.nx,b.enc m (st.hnew b).blk)::encH m (st.hnew b).blk (st.heap++st.hk))++((st.hnew b).blk 0).rows (m 0)) k) (look .dead ((s.nx,b')::s.heap) k);rw [hA.2,List.cons_append,look_cons,look_cons,hmx.trans hnx];split
  ·exact hb
  ·have h1:LesB (look .dead (encH m st.blk (st.heap++st.hk)++(st.blk 0).rows (m 0)) k) (look .dead s.heap k):=hl.heap k;rw [look_append] at h1 ⊢;exact (encH_lesD hc _ _ (by rw [refsH_append,r3,r4];rfl) (fun _ _=>rfl) k).trans h1
 ·show nx+1=s.nx+1;omega
theorem newW_m (hL:Lay m nx0 b0 st0) (hws:∀ p ∈ ws,Good b0 st0 p.2) (hge:b0≤st.nx) (h:Dr.newW T ws i st.nx=true):Dr.newW T (mapP m ws) i (nxOf nx0 b0 st)=true:=by
 have e:nxOf nx0 b0 st=m st.nx:=(hL.new _ hge).symm;rw [e];unfold Dr.newW mapP at *
 rw [List.all_map];refine List.all_eq_true.2 fun p hp=>?_
 have:=List.all_eq_true.1 h p hp;show (bif Nat.beq (m p.2) (m st.nx) then _ else true)=true;rw [beq_m hL (hws p hp) (.inl hge)];exact this
theorem newR_ok (hC:C.ok P) (hL:Lay m nx0 b0 st0) (hws:∀ p ∈ ws,Good b0 st0 p.2) (hc:∀ p ∈ cr,b0≤p.2) (hI:RI F m nx0 b0 st0 st) (hd:dok o.dst n=true) (hnw:isNew o.op=true)
  (hg:o.guard=none∨gst ops o (Dr.lcl ops T (mapP m ws) nx0 i (mapP m cr) (st.enc m (nxOf nx0 b0 st)) o 0)=some true)
  {K:List (Nat×Nat)→SSt D→G D (KD ρ) ρ} (h:(newR C T ws b0 i cr (lclS ops T ws b0 i cr st o) st o K).den fu=some r)
  (k:∀ cr' st',RI F m nx0 b0 st0 st'→(∀ p ∈ cr',b0≤p.2)→(K cr' st').den fu=some r→AGm P n ops T ws nx0 b0 m Kt (i+1) cr' l st'):AGm P n ops T ws nx0 b0 m Kt i cr (o::l) st:=by
 unfold newR at h;split at h
 ·rename_i b row g hmem
  cases hb:(Dr.noW ws i&&Dr.newW T ws i st.nx&&b.refs (fun k=>visS T ws b0 i cr k&&!Nat.beq k st.nx) (fun k _=>visS T ws b0 i cr k&&!Nat.beq k st.nx)&&st.refs (fun id=>!Nat.beq id st.nx) (fun id _=>!Nat.beq id st.nx)) with
  | false=>rw [hb] at h;cases h
  | true =>
   rw [hb] at h;simp only [cond_true] at h;simp only [Bool.and_eq_true] at hb;obtain ⟨⟨⟨b1,b2⟩,b3⟩,b4⟩:=hb;obtain ⟨hgd,h⟩:=grdG_den h;obtain ⟨b',hN⟩:=new_ok (m:=m) hC.T hnw hmem hgd hd
   have hop:∀ k,nx0≤k→OpN P n o (Dr.lcl ops T (mapP m ws) nx0 i (mapP m cr) (st.enc m (nxOf nx0 b0 st)) o k) b':=fun k hkA=>⟨hd,fun K a w G r=>by
    have hk:=lt_of_rel hL hws hc hI.good hI.arn hI.mok hkA r;have hm:=lclS_mok (ops:=ops) (T:=T) (ws:=ws) (b0:=b0) (i:=i) (cr:=cr) (o:=o) hI.mok (Nat.le_trans hL.ge.1 hkA) hk
    exact (hN.op k hm).out K a w G (r.les (lclS_les hL hws hc hI.good hI.mok (Nat.le_trans hL.ge.1 hkA) hk))⟩
   have hmx:m st.nx=nxOf nx0 b0 st:=hL.new _ hI.ge
   have hmem2:MemLe m (lclS ops T ws b0 i cr st o).blk m (st.hnew b).blk (fun k=>visS T ws b0 i cr k&&!Nat.beq k st.nx) (fun k _=>visS T ws b0 i cr k&&!Nat.beq k st.nx):=by
    have e:∀ k,(visS T ws b0 i cr k&&!Nat.beq k st.nx)=true→(st.hnew b).blk k=(lclS ops T ws b0 i cr st o).blk k:=by
     intro k hk;rw [Bool.and_eq_true] at hk
     have hne:st.nx≠k:=fun e=>by
      subst e;have:=hk.2;rw [Nat.beq_refl] at this;cases this
     rw [hnew_blk,if_neg hne,lclS_blk,hk.1];rfl
    exact ⟨fun id h=>.inr ⟨by unfold isBox;rw [e id h],rfl⟩,fun id v h=>.inr ⟨by unfold rowLen;rw [e id h],rfl⟩⟩
   have hbd:b.norm:=by
    cases row with
    | true=>obtain ⟨_,_,_,_,_,rfl,_⟩:=hN.rw rfl;exact SB.norm_row ..
    | false=>obtain ⟨_,_,_,rfl,_⟩:=hN.box rfl;exact SB.norm_box ..
   have hset:=hnew_fix (b:=b) (b':=b') hI.mok (.refl _) hI.fr hmx hbd b4 ((encB_les hmem2 b b3).trans hN.les)
   have hnx':nxOf nx0 b0 (st.hnew b)=nxOf nx0 b0 st+1:=by
    have:=hI.ge;show nx0+(st.nx+1-b0)=nx0+(st.nx-b0)+1;omega
   have hRI:RI F m nx0 b0 st0 (st.hnew b):=⟨by rw [hnx'];exact hset.1,by show b0≤st.nx+1;have:=hI.ge;omega,hset.2.2,hI.fix.trans ⟨rfl,rfl,rfl⟩,fun k hk=>by
    rw [hnew_blk] at hk;by_cases e':st.nx=k
    ·exact .inl (by have:=hI.ge;omega)
    ·rw [if_neg e'] at hk;exact hI.good k hk,fun k hk=>by
    rw [hnew_blk] at hk;by_cases e':st.nx=k
    ·rw [if_pos e',hbd.nA] at hk;cases hk
    ·rw [if_neg e'] at hk;exact hI.arn k hk⟩
   have hnm:b'.nmd (vis T nx0 i (mapP m cr))=true:=by
    have key:∀ id,(visS T ws b0 i cr id&&!Nat.beq id st.nx)=true→(lclS ops T ws b0 i cr st o).blk id≠.dead→vis T nx0 i (mapP m cr) (m id)=true:=by
     intro id hv hbl;rw [Bool.and_eq_true] at hv;rw [lclS_blk,hv.1] at hbl;exact liveS hL hc hI hv.1 hbl
    refine hN.nmd _ _ _ (fun _ h=>vis_arn hL h) (fun id hp hbl=>key id hp fun e=>?_) (fun id v n hp hbl=>key id hp fun e=>?_) b3
    ·unfold isBox at hbl;rw [e] at hbl;cases hbl
    ·unfold rowLen at hbl;rw [e] at hbl;cases hbl
   have hcr:∀ p ∈ (i,st.nx)::cr,b0≤p.2:=fun p hp=>by
    rcases List.mem_cons.1 hp with rfl | hp
    ·exact hI.ge
    ·exact hc p hp
   have hst:Dr.AG P n ops T (mapP m ws) nx0 Kt (i+1) (mapP m ((i,st.nx)::cr)) l (((st.enc m (nxOf nx0 b0 st)).hnew b').put o.dst (refB b' (st.enc m (nxOf nx0 b0 st)).nx)):=by
    refine .le ?_ (k _ _ (by rw [MR.app];exact hRI.put _ _) hcr h)
    have e:nxOf nx0 b0 (MR.app st o.dst (.new b row))=nxOf nx0 b0 st+1:=by
     rw [MR.app,←hnx']
     cases o.dst <;> rfl
    rw [e,MR.app,put_enc];refine hset.2.1.put ?_
    cases row with
    | true =>
     obtain ⟨fr,rt,xs,e1,rows,h1,h2,h3⟩:=hN.rw rfl;subst h1;subst h2
     have hi:rowLen (st.hnew (.row fr rt xs e1 0)).blk st.nx 0=some (List.length xs.den):=by unfold rowLen;rw [hnew_blk,if_pos rfl];rfl
     show Les (SV.enc m _ (.osl st.nx 0)) (.osl (nxOf nx0 b0 st) rows.length);rw [SV.enc,hi,hmx,h3];exact .refl _
    | false =>
     obtain ⟨cs,e1,cs',h1,h2⟩:=hN.box rfl;subst h1;subst h2
     have hi:isBox (st.hnew (.box cs e1)).blk st.nx=true:=by unfold isBox;rw [hnew_blk,if_pos rfl]
     show Les (SV.enc m _ (.box st.nx 0)) (.box (nxOf nx0 b0 st) 0);rw [SV.enc,hi,hmx];exact .refl _
   have e2:mapP m ((i,st.nx)::cr)=(i,(st.enc m (nxOf nx0 b0 st)).nx)::mapP m cr:=by
    show (i,m st.nx)::mapP m cr=_;rw [hmx];rfl
   rw [e2] at hst;exact .step (.new (by rw [noW_m];exact b1) (newW_m hL hws hI.ge b2) hg hop hnm) hst
 ·cases h
theorem EntR.up {ce:CtrE} {vs:List (SV D)} {mp:List (Nat×Nat)} {e:E D (itmsTy ce.si.items)} {kk:Nat} {lst:SSt D} (hnA:(lst.blk 0).isA=false) (h:EntR ce lst m kk vs mp e) (hm:MOk m kk st) (hml:MOk m kk lst) (hb:∀ k,lst.blk k≠.dead→lst.blk k=st.blk k):EntR ce st m kk vs mp e:=by
 have hmem:MemLe m st.blk m lst.blk (fun _=>true) (fun _ _=>true):=by
  refine ⟨fun id _=>?_,fun id v _=>?_⟩
  ·by_cases e:lst.blk id=.dead
   ·left;unfold isBox;rw [e]
   ·right;unfold isBox;rw [hb id e];exact ⟨rfl,rfl⟩
  ·by_cases e:lst.blk id=.dead
   ·left;unfold rowLen;rw [e]
   ·right;unfold rowLen;rw [hb id e];exact ⟨rfl,rfl⟩
 refine ⟨h.mok,h.args.trans (encL_les hmem vs (svL_refs_all vs)),fun id=>(h.heap id).trans ?_,fun b hbi=>?_,h.dead,fun b=>⟨fun hk=>?_,fun hk=>?_⟩,fun b hbi hk=>?_⟩
 ·rcases heap_cases hml id with h' | ⟨b,hbl,rfl⟩ | ⟨h',_,_⟩
  ·rw [h'];exact .dead _
  rotate_left
  ·rw [hnA] at h';cases h'
  ·rw [enc_blk hml hbl,enc_blk hm (by rw [←hb b hbl];exact hbl),hb b hbl];exact encB_les hmem _ (sb_refs_all _)
 ·obtain ⟨h1,h2⟩:=h.live b hbi;exact ⟨h1,by rw [←hb _ h2];exact h2⟩
 ·obtain ⟨cs,ty,h1⟩:=(h.kind b).1 hk;exact ⟨cs,ty,by rw [←hb _ (by rw [h1];simp)];exact h1⟩
 ·obtain ⟨fr,t,xs,ty,v,h1⟩:=(h.kind b).2 hk;exact ⟨fr,t,xs,ty,v,by rw [←hb _ (by rw [h1];simp)];exact h1⟩
 ·have h2:=(h.live b hbi).2;have e1:=hb _ h2;have:=h.len b hbi hk;unfold curVer rowLen at this ⊢;rw [←e1];exact this
theorem effOf_some {C:DC} {lst:SSt D} {op:Op} {ce:CtrE} {vs:List (SV D)} (h:effOf C lst op=some (ce,vs)):∃ cal args ats Fn caps,op=.call ⟨.value cal,args,ats⟩∧lst.ev cal=.fn Fn caps∧(∃ z,lk C.cas Fn=some z)∧lk C.effs Fn=some ce∧vs=evS lst args.toList++caps:=by
 unfold effOf at h;split at h
 ·rename_i cal args ats;split at h
  ·rename_i Fn caps hcal;split at h
   ·rename_i z hz;split at h
    ·cases h
    ·split at h
     ·rename_i ce' hce;simp only [Option.some.injEq,Prod.mk.injEq] at h;obtain ⟨h1,h2⟩:=h;subst h1;subst h2
      exact ⟨cal,args,ats,Fn,caps,rfl,hcal,⟨z,hz⟩,hce,rfl⟩
     ·cases h
   ·cases h
  ·cases h
 ·cases h
theorem look_isA {l:List (Nat×SB D)} (h:∀ p ∈ l,p.2.isA=false) {d:SB D} {j:Nat} (hj:(look d l j).isA=true):d.isA=true:=by
 induction l with
 | nil=>exact hj
 | cons p l ih =>
  obtain ⟨i,b⟩:=p;rw [look_cons] at hj;by_cases e:i=j
  ·rw [if_pos e,h (i,b) (by simp)] at hj;cases hj
  ·rw [if_neg e] at hj;exact ih (fun p hp=>h p (List.mem_cons_of_mem _ hp)) hj
theorem outE_isA {ce:CtrE} {mp:List (Nat×Nat)} {y:E D (itmsTy ce.so.items)} (hs:SigP ce.si ce.so ce.nb) {j:Nat} (h:((outE ce.si ce.so ce.nb mp st y).blk j).isA=true):(st.blk j).isA=true:=by
 have h:(look (look .dead st.hk j) (renHE ce.si ce.so ce.nb mp st (injH ce.so.items y)++st.heap) j).isA=true:=h;rw [look_append] at h;refine look_isA (fun p hp=>?_) h;obtain ⟨p',hp',rfl⟩:=List.mem_map.1 hp;have:=noA_isA (injH_noA _ _ hs.nao p' hp')
 revert this
 show p'.2.isA=false→(p'.2.ren _ _ _ _).isA=false
 cases p'.2 <;> intro h <;> first | rfl | cases h
theorem effD_ok (hC:C.ok P) (hL:Lay m nx0 b0 st0) (hws:∀ p ∈ ws,Good b0 st0 p.2) (hc:∀ p ∈ cr,b0≤p.2) (hI:RI F m nx0 b0 st0 st) (hd:dok o.dst n=true)
  (hg:o.guard=none∨gst ops o (Dr.lcl ops T (mapP m ws) nx0 i (mapP m cr) (st.enc m (nxOf nx0 b0 st)) o 0)=some true) {ce:CtrE} {vs:List (SV D)} (hef:effOf C (lclS ops T ws b0 i cr st o) o.op=some (ce,vs))
  {K:List (Nat×Nat)→SSt D→G D (KD ρ) ρ} (h:(effD T ws b0 i cr (lclS ops T ws b0 i cr st o) st o ce vs K).den fu=some r)
  (k:∀ cr' st',RI F m nx0 b0 st0 st'→(∀ p ∈ cr',b0≤p.2)→(K cr' st').den fu=some r→AGm P n ops T ws nx0 b0 m Kt (i+1) cr' l st'):AGm P n ops T ws nx0 b0 m Kt i cr (o::l) st:=by
 obtain ⟨cal,args,ats,Fn,caps,hop,hcal,⟨z,hz⟩,hce,hvs⟩:=effOf_some hef;have hF:=allP_at hC.cas hz;have hceok:=allP_at hC.effs hce;unfold effD at h;generalize hmp:mapE ce.si (lclS ops T ws b0 i cr st o) vs=mp at h
 cases hb:((detOk ce.si ce.so ce.nb&&!(st.blk 0).isA)&&(((itemB ce.si.items).all fun b=>visS T ws b0 i cr (mpI mp b)&&(ws.any fun p=>Nat.beq p.1 i&&Nat.beq p.2 (mpI mp b))) &&
  ((ws.all fun p=>!Nat.beq p.1 i||((itemB ce.si.items).any fun b=>Nat.beq p.2 (mpI mp b)))&&(((List.range ce.so.ex).all fun j=>Dr.newW T ws i (st.nx+j))&&refE ce.si ce.so ce.nb mp st)))) with
 | false=>rw [hb] at h;cases h
 | true =>
  rw [hb] at h;simp only [cond_true] at h;simp only [Bool.and_eq_true] at hb;obtain ⟨⟨hdet,hnA⟩,b1,b2,b3,b4⟩:=hb;have hnA:(st.blk 0).isA=false:=by simpa using hnA
  split at h
  ·rename_i e he;rw [G.den] at h;unfold bindO at h;split at h
   ·rename_i y hy;unfold arrE at he;rw [hmp] at he
    cases hca:((sigOk ce.si ce.so ce.nb&&!((lclS ops T ws b0 i cr st o).blk 0).isA)&&(Nat.beq ce.na vs.length&&(refE ce.si ce.so ce.nb mp (lclS ops T ws b0 i cr st o)&&((itemB ce.si.items).all fun b=>Nat.blt (mpI mp b) (lclS ops T ws b0 i cr st o).nx)))) with
    | false=>rw [hca] at he;cases he
    | true =>
     rw [hca] at he;simp only [cond_true] at he;simp only [Bool.and_eq_true] at hca;obtain ⟨⟨c1,c0⟩,c2,_,c4⟩:=hca;have hs:=sigOk_at c1;have hna:=Nat.eq_of_beq_eq_true c2;have hlt:∀ b ∈ itemB ce.si.items,mpI mp b<st.nx:=fun b hb=>Nat.le_of_ble_eq_true (List.all_eq_true.1 c4 b hb)
     rw [←hmp] at he
     have hlst:∀ j,(lclS ops T ws b0 i cr st o).blk j≠.dead→(lclS ops T ws b0 i cr st o).blk j=st.blk j:=by
      intro j hj;rw [lclS_blk] at hj ⊢
      cases hv:visS T ws b0 i cr j with
      | true=>rfl
      | false=>rw [hv] at hj;exact absurd rfl hj
     have hkb:∀ j,(lclS ops T ws b0 i cr st o).blk j≠.dead→m j<nxOf nx0 b0 st:=fun j hj=>hI.mok.lt j (by rw [←hlst j hj];exact hj)
     have hmk:∀ q,nxOf nx0 b0 st≤q→MOk m q (lclS ops T ws b0 i cr st o):=fun q hq=>lclS_mok hI.mok (Nat.le_trans hI.mok.ge.1 hq) fun j hj=>by have:=hkb j hj;omega
     have hEq:∀ q,nxOf nx0 b0 st≤q→EntR ce (lclS ops T ws b0 i cr st o) m q vs mp e:=fun q hq=>by
      have:=entR hs (hmk q hq) hna he;rw [hmp] at this;exact this
     have hE0:=hEq _ (Nat.le_refl _);have hE:EntR ce st m (nxOf nx0 b0 st) vs mp e:=hE0.up (by simpa using c0) hI.mok (hmk _ (Nat.le_refl _)) hlst;have hm0:∀ b ∈ itemB ce.si.items,mM m mp b<nxOf nx0 b0 st:=fun b hb=>hE.mok.lt b (hE.live b hb).1
     have hlen:=(hceok.2 fu e.den y hy).1;have hτ:=tau_mok hI.mok.ge.1 (y:=y) (kk:=nxOf nx0 b0 st) hs hE.mok (fun b hb=>⟨(hE.live b hb).1,hm0 b hb⟩);have hτf:=tau_fr (kk:=nxOf nx0 b0 st) (m0:=mM m mp) (nx':=nxOf nx0 b0 st) hs hdet hlen
     let L:List Nat:=(itemB ce.si.items).map (mM m mp)
     have hLp:∀ id,hasN L id=pE ce.si (mM m mp) id:=fun id=>by
      rw [Bool.eq_iff_iff,pE_iff];constructor
      ·intro h';obtain ⟨b,h1,h2⟩:=List.mem_map.1 (hasN_mem h');exact ⟨b,h1,h2⟩
      ·rintro ⟨b,h1,h2⟩
       exact hasN_of (List.mem_map.2 ⟨b,h1,h2⟩)
     have hq:∀ id,(orQ (hasN L) (nxOf nx0 b0 st) (nxOf nx0 b0 st+ce.so.ex) id)=(pE ce.si (mM m mp) id||newQ (nxOf nx0 b0 st) (nxOf nx0 b0 st+ce.so.ex) id):=fun id=>by
      unfold orQ;rw [hLp]
     have hexk:∀ b ∈ itemB ce.so.items,orQ (hasN L) (nxOf nx0 b0 st) (nxOf nx0 b0 st+ce.so.ex) (tauE ce.nb (mM m mp) (nxOf nx0 b0 st) b)=true:=by
      intro b hb;rw [orQ_iff];have:=hs.lt b hb;unfold tauE;split
      ·rename_i c
       left
       rw [hLp,pE_iff];exact ⟨b,(hs.old b hb c).1,rfl⟩
      ·right;omega
     have hXn:∀ b,((exi ce.si ce.so ce.nb (.var y:E D (itmsTy ce.so.items))).blk b).noA=true:=fun b=>by rw [exiB hs];exact look_noA (injH_noA _ _ hs.nao) b
     have hBX:∀ id,isBox (exi ce.si ce.so ce.nb (.var y:E D (itmsTy ce.so.items))).blk id=true→orQ (hasN L) (nxOf nx0 b0 st) (nxOf nx0 b0 st+ce.so.ex) (tauE ce.nb (mM m mp) (nxOf nx0 b0 st) id)=true:=fun id h=>hexk id (exiK (y:=y) hs (fun h'=>by unfold isBox at h;rw [h'] at h;cases h))
     have hRX:∀ id v q,rowLen (exi ce.si ce.so ce.nb (.var y:E D (itmsTy ce.so.items))).blk id v=some q→orQ (hasN L) (nxOf nx0 b0 st) (nxOf nx0 b0 st+ce.so.ex) (tauE ce.nb (mM m mp) (nxOf nx0 b0 st) id)=true:=fun id v q h=>hexk id (exiK (y:=y) hs (fun h'=>by unfold rowLen at h;rw [h'] at h;cases h))
     have hlook:∀ j,look .dead (Dr.onL (L++Dr.news (nxOf nx0 b0 st) (nxOf nx0 b0 st+ce.so.ex)) (look .dead ((exi ce.si ce.so ce.nb (.var y:E D (itmsTy ce.so.items))).enc (tauE ce.nb (mM m mp) (nxOf nx0 b0 st)) (nxOf nx0 b0 st+ce.so.ex)).heap) (st.enc m (nxOf nx0 b0 st)).heap) j =
       bif orQ (pE ce.si (mM m mp)) (nxOf nx0 b0 st) (nxOf nx0 b0 st+ce.so.ex) j then look .dead ((exi ce.si ce.so ce.nb (.var y:E D (itmsTy ce.so.items))).enc (tauE ce.nb (mM m mp) (nxOf nx0 b0 st)) (nxOf nx0 b0 st+ce.so.ex)).heap j else look .dead (st.enc m (nxOf nx0 b0 st)).heap j:=by
      intro j;by_cases hj:j ∈ L++Dr.news (nxOf nx0 b0 st) (nxOf nx0 b0 st+ce.so.ex)
      ·rw [Dr.onL_in hj]
       have:orQ (pE ce.si (mM m mp)) (nxOf nx0 b0 st) (nxOf nx0 b0 st+ce.so.ex) j=true:=by
        rw [orQ_iff];rcases List.mem_append.1 hj with h' | h'
        ·left;rw [←hLp];exact hasN_of h'
        ·exact .inr (Dr.news_mem.1 h')
       rw [this];rfl
      ·rw [Dr.onL_out hj]
       have:orQ (pE ce.si (mM m mp)) (nxOf nx0 b0 st) (nxOf nx0 b0 st+ce.so.ex) j=false:=by
        rw [Bool.eq_false_iff];intro h';refine hj (List.mem_append.2 ?_);rcases orQ_iff.1 h' with h' | h'
        ·left;rw [←hLp] at h';exact hasN_mem h'
        ·exact .inr (Dr.news_mem.2 h')
       rw [this];rfl
     have hκn:∀ b,¬ b<ce.nb→kapE ce.nb mp st.nx b=st.nx+(b-ce.nb):=fun b h=>by
      unfold kapE;rw [show Nat.blt b ce.nb=false by rw [←Bool.not_eq_true];simpa using h];rfl
     have hκo:∀ b,b<ce.nb→kapE ce.nb mp st.nx b=mpI mp b:=fun b h=>by
      unfold kapE;rw [show Nat.blt b ce.nb=true by simpa using h];rfl
     have hnew:∀ j,m (st.nx+j)=nxOf nx0 b0 st+j:=fun j=>by
      have:=hI.ge;rw [hL.new _ (by omega)];unfold nxOf;omega
     have hR:=effCore hnA (Fs:=F) (m2:=m) hs hI.mok hI.fr hE hlt b4 (fun id=>pE_iff) hτ hτf (Nat.le_add_right _ _) (fun j hj=>by
       rcases heap_cases hτ j with h' | ⟨b,hb,rfl⟩ | ⟨h1,_,_⟩
       ·exact absurd h' hj
       rotate_left
       ·rw [noA_isA (hXn 0)] at h1;cases h1
       ·have:=hexk b (exiK hs hb);rw [hq] at this
        exact this) hlook (fun b hb=>by
       unfold tauE;split
       ·rename_i c;rw [hκo b c]
       ·rename_i c;rw [hκn b c,hnew]) (fun _ _=>rfl)
     have hnx':nxOf nx0 b0 (outE ce.si ce.so ce.nb mp st (.var y:E D (itmsTy ce.so.items)))=nxOf nx0 b0 st+ce.so.ex:=by
      have:=hI.ge;show nx0+(st.nx+ce.so.ex-b0)=nx0+(st.nx-b0)+ce.so.ex;omega
     have hRI:RI F m nx0 b0 st0 (outE ce.si ce.so ce.nb mp st (.var y:E D (itmsTy ce.so.items))):=by
      refine ⟨by rw [hnx'];exact hR.mok,by show b0≤st.nx+ce.so.ex;have:=hI.ge;omega,hR.fr,hI.fix.trans ⟨rfl,rfl,rfl⟩,fun j hj=>?_,fun j hj=>hI.arn j (outE_isA hs hj)⟩;by_cases hge:b0≤j
      ·exact .inl hge
      ·refine hI.good j fun hdead=>?_
       have hj2:=hR.mok.live hj;by_cases hk:∃ b ∈ itemB ce.so.items,kapE ce.nb mp st.nx b=j
       ·obtain ⟨b,hb,rfl⟩:=hk;have:=hI.ge;by_cases c:b<ce.nb
        ·rw [hκo b c] at hdead;exact (hE.live b (hs.old b hb c).1).2 hdead
        ·rw [hκn b c] at hge;omega
       ·refine hj ?_;show look (look .dead st.hk j) (renHE ce.si ce.so ce.nb mp st (injH ce.so.items (.var y))++st.heap) j=.dead;rw [look_append,look_none (l:=renHE ce.si ce.so ce.nb mp st (injH ce.so.items (.var y))) (fun hm=>?_)]
        ·exact hdead
        ·obtain ⟨p,hp,h2⟩:=List.mem_map.1 hm;obtain ⟨p',hp',rfl⟩:=List.mem_map.1 hp;refine hk ⟨p'.1,?_,h2⟩;rw [←keyB ce.so.items (.var y:E D (itmsTy ce.so.items))];exact List.mem_map.2 ⟨p',hp',rfl⟩
     have hcr:∀ p ∈ (List.range ce.so.ex).map (fun j=>(i,st.nx+j))++cr,b0≤p.2:=fun p hp=>by
      rcases List.mem_append.1 hp with hp | hp
      ·obtain ⟨j,_,rfl⟩:=List.mem_map.1 hp;have:=hI.ge;show b0≤st.nx+j;omega
      ·exact hc p hp
     have ecr:mapP m ((List.range ce.so.ex).map (fun j=>(i,st.nx+j))++cr)=(Dr.news (nxOf nx0 b0 st) (nxOf nx0 b0 st+ce.so.ex)).map (fun id=>(i,id))++mapP m cr:=by
      unfold mapP Dr.news;rw [List.map_append,Nat.add_sub_cancel_left];congr 1;rw [List.map_map,List.range'_eq_map_range,List.map_map];refine List.map_congr_left fun j _=>?_
      show (i,m (st.nx+j))=(i,nxOf nx0 b0 st+j);rw [hnew]
     have hnext:=k _ _ (hRI.put o.dst _) hcr h
     have hst:Dr.AG P n ops T (mapP m ws) nx0 Kt (i+1) ((Dr.news (nxOf nx0 b0 st) (nxOf nx0 b0 st+ce.so.ex)).map (fun id=>(i,id))++mapP m cr) l
       ((⟨(st.enc m (nxOf nx0 b0 st)).regs,Dr.onL (L++Dr.news (nxOf nx0 b0 st) (nxOf nx0 b0 st+ce.so.ex)) (look .dead ((exi ce.si ce.so ce.nb (.var y:E D (itmsTy ce.so.items))).enc (tauE ce.nb (mM m mp) (nxOf nx0 b0 st)) (nxOf nx0 b0 st+ce.so.ex)).heap) (st.enc m (nxOf nx0 b0 st)).heap,nxOf nx0 b0 st+ce.so.ex⟩:ASt).put o.dst
        ((look SV.any (statR ce.so.stat++injR ce.so.items (.var y:E D (itmsTy ce.so.items))) 0).enc (tauE ce.nb (mM m mp) (nxOf nx0 b0 st)) (exi ce.si ce.so ce.nb (.var y:E D (itmsTy ce.so.items))).blk)):=by
      rw [←ecr];refine .le ?_ hnext
      have e2:nxOf nx0 b0 ((outE ce.si ce.so ce.nb mp st (.var y:E D (itmsTy ce.so.items))).put o.dst (resE ce.si ce.so ce.nb mp st (.var y)))=nxOf nx0 b0 st+ce.so.ex:=by
       rw [←hnx']
       cases o.dst <;> rfl
      rw [e2,put_enc];exact hR.les.put hR.res
     have hvis:∀ b ∈ itemB ce.si.items,Dr.visW T (mapP m ws) nx0 i (mapP m cr) (mM m mp b)=true:=fun b hb=>by
      have h1:=List.all_eq_true.1 b1 b hb;rw [Bool.and_eq_true] at h1;have hgk:Good b0 st0 (mpI mp b):=hI.good _ (hE.live b hb).2;unfold Dr.visW;show (vis T nx0 i (mapP m cr) (m (mpI mp b))&&Dr.okW T (mapP m ws) i (m (mpI mp b)))=true;rw [vis_m hL hc hgk,okW_m hL hws hgk];exact h1.1
     refine .step (.eff L (nxOf nx0 b0 st+ce.so.ex) _ hg (fun q hqq=>⟨hd,fun K' a w G' r'=>?_⟩) hd (Nat.le_add_right _ _) (fun id g1 g2=>?_) (fun id hid=>?_) (fun id=>⟨fun hid=>?_,fun hid=>?_⟩) (fun id=>?_) ?_) hst
     ·have hkq:nxOf nx0 b0 st≤q:=Nat.le_trans (Nat.le_add_right _ _) hqq;have r2:=r'.les (lclS_les hL hws hc hI.good hI.mok (Nat.le_trans hI.mok.ge.1 hkq) (fun j hj=>by have:=hkb j hj;omega));have hc':((lclS ops T ws b0 i cr st o).enc m q).ev cal=.fn Fn (SV.encL m (lclS ops T ws b0 i cr st o).blk caps):=by rw [enc_ev,hcal,SV.enc]
      have e1:=r2.ev cal;rw [hc'] at e1;obtain ⟨us,e2,hul,hur⟩:=e1.fn'
      have hargs:ArgsV w G' (SV.encL m (lclS ops T ws b0 i cr st o).blk vs) (args.map a.eval++us):=by
       rw [hvs,←evS_append (nx:=q)];refine ⟨by simp [hul],fun i x v hx hv=>?_⟩;by_cases hi:i<args.size
       ·rw [List.getElem?_append_left (by simpa using hi)] at hx;rw [Array.getElem?_append_left (by simpa using hi)] at hv;refine list_ev r2 args.toList i x v hx ?_;rw [List.getElem?_map,Array.getElem?_toList];rw [Array.getElem?_map] at hv;exact hv
       ·rw [List.getElem?_append_right (by simp;omega)] at hx;rw [Array.getElem?_append_right (by simp;omega)] at hv;exact hur _ x v hx (by simpa using hv)
      refine ⟨Fn,args.map a.eval++us,by simp [execOp,hop,resolve,e2,Deferred.ofValue,invoke,run_callFunc' hF],?_⟩;have hcall:=callS_ok hI.mok.ge.1 (kk:=nxOf nx0 b0 st) hceok hdet hs (hEq q hkq) hm0 hqq hy r2.hr r2.nx hargs;refine hcall.mono ?_
      rintro en w' ⟨v,G2,g1,g2,g3,g4⟩
      refine ⟨v,G2,g1,?_,by rw [g3];exact r2.nx.symm,g4⟩;have hfun:orQ (hasN L) (nxOf nx0 b0 st) (nxOf nx0 b0 st+ce.so.ex)=fun id=>pE ce.si (mM m mp) id||newQ (nxOf nx0 b0 st) (nxOf nx0 b0 st+ce.so.ex) id:=funext hq
      show OutS (orQ (hasN L) (nxOf nx0 b0 st) (nxOf nx0 b0 st+ce.so.ex)) (nxOf nx0 b0 st) (nxOf nx0 b0 st+ce.so.ex) _ _ _ _ _ _;rw [hfun];exact g2
     ·have g1:nxOf nx0 b0 st≤id:=g1;have g2:id<nxOf nx0 b0 st+ce.so.ex:=g2;obtain ⟨j,rfl⟩:∃ j,id=nxOf nx0 b0 st+j:=⟨id-nxOf nx0 b0 st,by omega⟩;have hj:=List.all_eq_true.1 b3 j (List.mem_range.2 (by omega));rw [←hnew];unfold Dr.newW mapP at *
      rw [List.all_map];refine List.all_eq_true.2 fun p hp=>?_
      have:=List.all_eq_true.1 hj p hp;show (bif Nat.beq (m p.2) (m (st.nx+j)) then _ else true)=true;rw [beq_m hL (hws p hp) (.inl (by have:=hI.ge;omega))];exact this
     ·obtain ⟨b,hb,rfl⟩:=List.mem_map.1 hid;exact ⟨hm0 b hb,hvis b hb⟩
     ·obtain ⟨p,hp,e1⟩:=List.mem_map.1 hid;have h2:=List.all_eq_true.1 b2 p hp;simp only [Prod.mk.injEq] at e1;rw [e1.1,Nat.beq_refl] at h2;simp only [Bool.not_true,Bool.false_or] at h2;obtain ⟨b,hb,h3⟩:=List.any_eq_true.1 h2;refine List.mem_map.2 ⟨b,hb,?_⟩;rw [←e1.2,Nat.eq_of_beq_eq_true h3]
     ·obtain ⟨b,hb,rfl⟩:=List.mem_map.1 hid;have h1:=List.all_eq_true.1 b1 b hb;rw [Bool.and_eq_true] at h1;obtain ⟨p,hp,h2⟩:=List.any_eq_true.1 h1.2;rw [Bool.and_eq_true] at h2;refine List.mem_map.2 ⟨p,hp,?_⟩;rw [Nat.eq_of_beq_eq_true h2.1,Nat.eq_of_beq_eq_true h2.2]
     ·rcases heap_cases hτ id with h' | ⟨b,hb,rfl⟩ | ⟨h1,_,_⟩
      ·exact .inl h'
      rotate_left
      ·rw [noA_isA (hXn 0)] at h1;cases h1
      ·refine .inr ⟨hexk b (exiK hs hb),?_⟩;rw [enc_blk hτ hb];exact sb_nmd hBX hRX _ (hXn _)
     ·exact enc_nmd (pB:=fun _=>true) (pR:=fun _ _=>true) (fun id _ h=>hBX id h) (fun id v q _ h=>hRX id v q h) _ (sv_refs_all _) (.inl (lookV_noA (fun p hp=>(List.mem_append.1 hp).elim (statR_noA hs.nso p) (injR_noA _ _ hs.nao p)) 0))
   ·cases h
  ·cases h
theorem op_mv {o:Oper} {y:Operand} {s:ASt} {v:AV} (hm:isMv o.op=some y) (hx:s.ev y=v) (hd:dok o.dst n=true):OpR P n o s v:=by
 obtain ⟨d,op,ty,ps,af,gg⟩:=o;have hm:isMv op=some y:=hm;have hd:dok d n=true:=hd;unfold isMv at hm;split at hm
 ·injection hm with hm
  subst hm;exact op_move hx hd
 ·injection hm with hm
  subst hm;exact op_assign hx hd
 ·cases hm
theorem moveR_ok (hL:Lay m nx0 b0 st0) (hc:∀ p ∈ cr,b0≤p.2) (hI:RI F m nx0 b0 st0 st) (hd:dok o.dst n=true)
  (hg:o.guard=none∨gst ops o (Dr.lcl ops T (mapP m ws) nx0 i (mapP m cr) (st.enc m (nxOf nx0 b0 st)) o 0)=some true) {y:Operand} (hm:isMv o.op=some y)
  {K:List (Nat×Nat)→SSt D→G D (KD ρ) ρ} (h:(moveR T ws b0 i cr st o y K).den fu=some r)
  (k:∀ cr' st',RI F m nx0 b0 st0 st'→(∀ p ∈ cr',b0≤p.2)→(K cr' st').den fu=some r→AGm P n ops T ws nx0 b0 m Kt (i+1) cr' l st'):AGm P n ops T ws nx0 b0 m Kt i cr (o::l) st:=by
 unfold moveR at h
 cases hb:(Dr.noW ws i&&(st.ev y).refs (visV T b0 i cr) (fun k _=>visV T b0 i cr k)) with
 | false=>rw [hb] at h;cases h
 | true =>
  rw [hb] at h;rw [Bool.and_eq_true] at hb;simp only [cond_true] at h
  have hy:y ∈ o.op.operands.toList:=by
   unfold isMv at hm;split at hm
   ·rename_i e;injection hm with hm;subst hm;rw [e];simp [Op.operands]
   ·rename_i e;injection hm with hm;subst hm;rw [e];simp [Op.operands]
   ·cases hm
  have hop:∀ k,nx0≤k→OpR P n o (Dr.lcl ops T (mapP m ws) nx0 i (mapP m cr) (st.enc m (nxOf nx0 b0 st)) o k) ((st.ev y).enc m st.blk):=fun k _=>op_mv hm ((lregs_ev hy).trans (enc_ev _ _ _ _)) hd
  have key:∀ id,visV T b0 i cr id=true→st.blk id≠.dead→vis T nx0 i (mapP m cr) (m id)=true:=fun id hv hbl=>by rw [vis_m hL hc (hI.good id hbl)];exact hv
  have hnm:((st.ev y).enc m st.blk).nmd (vis T nx0 i (mapP m cr))=true:=by
   refine enc_nmd (fun id hp hb=>key id hp fun e=>?_) (fun id v n hp hb=>key id hp fun e=>?_) _ hb.2 (.inr fun _ h=>vis_arn hL h)
   ·unfold isBox at hb;rw [e] at hb;cases hb
   ·unfold rowLen at hb;rw [e] at hb;cases hb
  cases hl:lets o.op with
  | true =>
   rw [hl] at h;simp only [cond_true] at h;obtain ⟨z,hz,h⟩:=letV_den h;exact .step (.read (by rw [noW_m];exact hb.1) hg hop hnm) (AGm.put (by rw [hz];exact .refl _) (k cr _ (hI.put _ _) hc h))
  | false =>
   rw [hl] at h;exact .step (.read (by rw [noW_m];exact hb.1) hg hop hnm) (AGm.put (.refl _) (k cr _ (hI.put _ _) hc h))
theorem stepR_ok' (hC:C.ok P) (hL:Lay m nx0 b0 st0) (hws:∀ p ∈ ws,Good b0 st0 p.2) (hc:∀ p ∈ cr,b0≤p.2) (hI:RI F m nx0 b0 st0 st) (hd:dok o.dst n=true)
  (hg:o.guard=none∨gst ops o (Dr.lcl ops T (mapP m ws) nx0 i (mapP m cr) (st.enc m (nxOf nx0 b0 st)) o 0)=some true)
  {K:List (Nat×Nat)→SSt D→G D (KD ρ) ρ} (h:(stepR' C T ws b0 i cr (lclS ops T ws b0 i cr st o) st o K).den fu=some r)
  (k:∀ cr' st',RI F m nx0 b0 st0 st'→(∀ p ∈ cr',b0≤p.2)→(K cr' st').den fu=some r→AGm P n ops T ws nx0 b0 m Kt (i+1) cr' l st'):AGm P n ops T ws nx0 b0 m Kt i cr (o::l) st:=by
 unfold stepR' at h;split at h
 ·rename_i y hy;exact moveR_ok hL hc hI hd hg hy h k
 split at h
 ·rename_i x g hx
  cases hb:(Dr.noW ws i&&x.refs (visS T ws b0 i cr) (fun k _=>visS T ws b0 i cr k)) with
  | false=>rw [hb] at h;cases h
  | true =>
   rw [hb] at h;rw [Bool.and_eq_true] at hb;simp only [cond_true] at h;obtain ⟨hgd,h⟩:=grdG_den h
   have hop:∀ k,nx0≤k→OpR P n o (Dr.lcl ops T (mapP m ws) nx0 i (mapP m cr) (st.enc m (nxOf nx0 b0 st)) o k) (x.enc m (lclS ops T ws b0 i cr st o).blk):=fun k hkA=>⟨hd,fun K a w G r=>by
    have hk:=lt_of_rel hL hws hc hI.good hI.arn hI.mok hkA r;have hm:=lclS_mok (ops:=ops) (T:=T) (ws:=ws) (b0:=b0) (i:=i) (cr:=cr) (o:=o) hI.mok (Nat.le_trans hL.ge.1 hkA) hk
    exact (OpR.le (lclS_les hL hws hc hI.good hI.mok (Nat.le_trans hL.ge.1 hkA) hk) (rd_ok (n:=n) hC.T hm hx hgd hd)).out K a w G r⟩
   have hnm:=nmdS (ops:=ops) (o:=o) hL hc hI hb.2;have hles:Les (x.enc m st.blk) (x.enc m (lclS ops T ws b0 i cr st o).blk):=enc_les lclS_memS x hb.2
   cases hl:lets o.op with
   | true =>
    rw [hl] at h;simp only [cond_true] at h;obtain ⟨y,hy,h⟩:=letV_den h;exact .step (.read (by rw [noW_m];exact hb.1) hg hop hnm) (AGm.put (by rw [hy];exact hles) (k cr _ (hI.put _ _) hc h))
   | false =>
    rw [hl] at h;exact .step (.read (by rw [noW_m];exact hb.1) hg hop hnm) (AGm.put hles (k cr _ (hI.put _ _) hc h))
 ·cases hnw:(isNew o.op&&Dr.noW ws i) with
  | true =>
   rw [hnw] at h;rw [Bool.and_eq_true] at hnw;exact newR_ok hC hL hws hc hI hd hnw.1 hg h k
  | false =>
  rw [hnw] at h;simp only [cond_false] at h;split at h
  ·rename_i ce vs hef;exact effD_ok hC hL hws hc hI hd hg hef h k
  rename_i hnone;clear hnone
  cases hb:Dr.noW ws i with
  | false =>
   rw [hb] at h;exact writeR_ok hC hL hws hc hI hd hg h k
  | true =>
   rw [hb] at h;simp only [cond_true] at h;obtain ⟨d,op,ty,ps,af,gg⟩:=o;have hd:dok d n=true:=hd;simp only at h;unfold callR at h;split at h
   ·rename_i cal args ats _ _;split at h
    ·rename_i Fn caps hcal;split at h
     ·rename_i hF;have hcal':=allP_at hC.cas hF;split at h
      ·rename_i c hctr;split at h
       ·rename_i e hargs;rw [G.den] at h;unfold bindO at h;split at h
        ·rename_i y hy;have hAF:=allP_at hC.ctrs hctr fu e.den y hy
         have hop:∀ k,nx0≤k→OpF P n ⟨d,.call ⟨.value cal,args,ats⟩,ty,ps,af,gg⟩ (Dr.lcl ops T (mapP m ws) nx0 i (mapP m cr) (st.enc m (nxOf nx0 b0 st)) ⟨d,.call ⟨.value cal,args,ats⟩,ty,ps,af,gg⟩ k) (oneOf (c.r.avs true y)):=fun k hkA=>⟨hd,fun K a w G r=>by
          have hk:=lt_of_rel hL hws hc hI.good hI.arn hI.mok hkA r;have hm:=lclS_mok (ops:=ops) (T:=T) (ws:=ws) (b0:=b0) (i:=i) (cr:=cr) (o:=⟨d,.call ⟨.value cal,args,ats⟩,ty,ps,af,gg⟩) hI.mok (Nat.le_trans hL.ge.1 hkA) hk;have hc':((lclS ops T ws b0 i cr st ⟨d,.call ⟨.value cal,args,ats⟩,ty,ps,af,gg⟩).enc m k).ev cal=.fn Fn (SV.encL m (lclS ops T ws b0 i cr st ⟨d,.call ⟨.value cal,args,ats⟩,ty,ps,af,gg⟩).blk caps):=by rw [enc_ev,hcal,SV.enc]
          exact (OpF.le (lclS_les hL hws hc hI.good hI.mok (Nat.le_trans hL.ge.1 hkA) hk) (OpF.of hc' (evS_append _ args.toList caps) hcal' hd hAF (exArgs_ok hm _ _ _ hargs))).out K a w G r⟩
         refine .step (.call (by rw [noW_m];exact hb) hg hop ?_) (AGm.put ?_ (k cr _ (hI.put _ _) hc h))
         ·have e1:(oneOfS (svsE true c.r (.var y:E D c.r))).enc m (fun _=>SB.dead)=oneOf (c.r.avs true y):=by rw [oneOfS_enc,svsE_enc];rfl
          rw [←e1];exact enc_nmd (pB:=fun _=>false) (pR:=fun _ _=>false) (fun id h=>by cases h) (fun id v n h=>by cases h) _ (one_nmd (datas_nmd c.r _)) (.inr fun _ h=>vis_arn hL h)
         ·rw [oneOfS_enc,svsE_enc];exact .refl _
        ·cases h
       ·cases h
      ·cases h
     ·cases h
    ·cases h
   ·cases h
theorem sR_ok (hC:C.ok P) (hL:Lay m nx0 b0 st0) (hws:∀ p ∈ ws,Good b0 st0 p.2) {K:SSt D→G D (KD ρ) ρ} (hK:∀ st',RI F m nx0 b0 st0 st'→(K st').den fu=some r→Kt (st'.enc m (nxOf nx0 b0 st'))):∀ (l:List Oper) (i:Nat) (cr:List (Nat×Nat)) (st:SSt D),(sR C n ops T ws b0 K i cr l st).den fu=some r→RI F m nx0 b0 st0 st→(∀ p ∈ cr,b0≤p.2) →
  AGm P n ops T ws nx0 b0 m Kt i cr l st
 | [],i,cr,st,h,hI,hc=>.nil (hK st hI h)
 | o::l,i,cr,st,h,hI,hc=>by
  rw [sR] at h
  cases hd:dok o.dst n with
  | false=>rw [hd] at h;cases h
  | true =>
   rw [hd] at h;simp only [cond_true] at h
   have ihr:∀ cr' st',RI F m nx0 b0 st0 st'→(∀ p ∈ cr',b0≤p.2)→(sR C n ops T ws b0 K (i+1) cr' l st').den fu=some r→AGm P n ops T ws nx0 b0 m Kt (i+1) cr' l st' :=
    fun cr' st' h1 h2 h3=>sR_ok hC hL hws hK l (i+1) cr' st' h3 h1 h2
   have sk:∀ st1,RI F m nx0 b0 st0 st1→gst ops o (Dr.lcl ops T (mapP m ws) nx0 i (mapP m cr) (st1.enc m (nxOf nx0 b0 st1)) o 0)=some false→(bif Dr.noW ws i then sR C n ops T ws b0 K (i+1) cr l (st1.put o.dst .und) else .fail).den fu=some r→AGm P n ops T ws nx0 b0 m Kt i cr (o::l) st1:=by
    intro st1 hI hg h
    cases hb:Dr.noW ws i with
    | false=>rw [hb] at h;cases h
    | true =>
     rw [hb] at h;exact skipR_ok hd hb hg (ihr cr _ (hI.put _ _) hc h)
   split at h
   ·rename_i hw;exact stepR_ok' hC hL hws hc hI hd (gst_yesS hw) h ihr
   ·rename_i hw;exact sk st hI (gst_noS hw) h
   ·rename_i c d want hw;obtain ⟨hg,hx⟩:=wantS_ask hw;rw [G.den] at h
    have know:∀ b,c.den=b→AGm P n ops T ws nx0 b0 m Kt i cr (o::l) (st.put (some d) (.bool (.bL b)))→AGm P n ops T ws nx0 b0 m Kt i cr (o::l) st:=by
     intro b hb k;refine .le ?_ k;have e:nxOf nx0 b0 (st.put (some d) (.bool (.bL b)))=nxOf nx0 b0 st:=rfl;rw [e,put_enc];refine ⟨fun k=>?_,fun k=>.refl _,rfl⟩;show Les (look .any ((d,SV.enc m st.blk (.bool (.bL b)))::(st.enc m (nxOf nx0 b0 st)).regs) k) _;rw [look_cons];split
     ·rename_i e;subst e;rw [enc_get,hx,SV.enc,SV.enc];exact .of (congrArg AV.bool hb.symm)
     ·exact .refl _
    cases hcd:(c.den:Bool) with
    | true =>
     rw [hcd] at h;simp only [cond_true] at h;refine know true hcd ?_
     cases want with
     | true=>exact stepR_ok' hC hL hws hc (hI.put _ _) hd (.inr (gst_put hg)) h ihr
     | false=>exact sk _ (hI.put _ _) (gst_put hg) h
    | false =>
     rw [hcd] at h;simp only [cond_false] at h;refine know false hcd ?_
     cases want with
     | true=>exact sk _ (hI.put _ _) (gst_put hg) h
     | false=>exact stepR_ok' hC hL hws hc (hI.put _ _) hd (.inr (gst_put hg)) h ihr
   ·cases h
theorem dr_pre {st:SSt D} {s:ASt} (hs:StL F st s):∃ m nx0,RLe s (st.enc m nx0)∧Lay m nx0 st.nx st∧RI F m nx0 st.nx st st∧nxOf nx0 st.nx st=nx0:=by
 obtain ⟨m0,nx0,hm,hr,hf⟩:=hs
 let m:Nat→Nat:=fun k=>if k<st.nx then m0 k else nx0+(k-st.nx)
 have hlv:∀ k,st.blk k≠.dead→k<st.nx:=fun k hk=>hm.live hk
 have hmk:∀ k,k<st.nx→m k=m0 k:=fun k hk=>if_pos hk
 have hmn:∀ k,st.nx≤k→m k=nx0+(k-st.nx):=fun k hk=>if_neg (by omega)
 have hmem:MemLe m0 st.blk m st.blk (fun _=>true) (fun _ _=>true):=by
  refine ⟨fun id _=>?_,fun id v _=>?_⟩
  ·by_cases e:st.blk id=.dead
   ·left;unfold isBox;rw [e]
   ·exact .inr ⟨rfl,hmk id (hlv id e)⟩
  ·by_cases e:st.blk id=.dead
   ·left;unfold rowLen;rw [e]
   ·exact .inr ⟨rfl,hmk id (hlv id e)⟩
 have hall:=refs_all st;unfold SSt.refs at hall;simp only [Bool.and_eq_true] at hall;obtain ⟨r1,r2,r3,r4,r5⟩:=hall;have hmok:MOk m nx0 st:=⟨fun k hk=>by rw [hmk k (hlv k hk)];exact hm.lt k hk,fun k k' hk hk' e=>by rw [hmk k (hlv k hk),hmk k' (hlv k' hk')] at e;exact hm.inj k k' hk hk' e,hm.keys,fun h=>by rw [hmk 0 (hlv 0 fun e=>by rw [e] at h;cases h)];exact hm.ar' h,hm.ge.1,fun k hk=>by rw [hmk k (hlv k hk)];exact hm.ge.2 k hk⟩
 have hles:LeS (st.enc m nx0) (st.enc m0 nx0):=by
  refine ⟨fun d=>?_,fun k=>?_,rfl⟩
  ·exact encR_les hmem (st.regs++st.kp) (by rw [refsR_append,r1,r2];rfl) d
  ·have hrw:(st.blk 0).rows (m 0)=(st.blk 0).rows (m0 0):=by
    cases hA:(st.blk 0).isA with
    | true=>rw [hmk 0 (hlv 0 fun e=>by rw [e] at hA;cases hA)]
    | false=>rw [isA_rows hA,isA_rows hA]
   show LesB (look .dead (encH m st.blk (st.heap++st.hk)++(st.blk 0).rows (m 0)) k) (look .dead (encH m0 st.blk (st.heap++st.hk)++(st.blk 0).rows (m0 0)) k);rw [hrw,look_append,look_append];exact encH_lesD hmem _ _ (by rw [refsH_append,r3,r4];rfl) (fun p hp=>hmk p.1 (hm.keys p hp).1) k
 have hL:Lay m nx0 st.nx st:=⟨hmn,fun k hk hb=>by rw [hmk k hk];exact hm.lt k hb,fun k k' h1 h2 e=>hmok.inj k k' h1 h2 e,hlv,hmok.ge⟩;have hnx:nxOf nx0 st.nx st=nx0:=by unfold nxOf;omega
 have hI:RI F m nx0 st.nx st st:=⟨by rw [hnx];exact hmok,Nat.le_refl _,hf.les' hmem r5,.refl st,fun k hk=>.inr hk,fun _ h=>h⟩;exact ⟨m,nx0,hr.trans hles.rle,hL,hI,hnx⟩
theorem ws_good {st:SSt D} {ws:List (Nat×Nat)} (hb:(ws.all fun p=>isLive (st.blk p.2)||Nat.ble st.nx p.2)=true):∀ p ∈ ws,Good st.nx st p.2:=by
 intro p hp;have:=List.all_eq_true.1 hb p hp;rw [Bool.or_eq_true] at this;rcases this with h | h
 ·right
  intro e;rw [e] at h;cases h
 ·exact .inl (Nat.le_of_ble_eq_true h)
theorem anyS_fix (l:List Oper):∀ (J:List Nat) (st:SSt D),Fix st (anyS l J st)∧(anyS l J st).blk=st.blk
 | [],st=>⟨.refl st,rfl⟩
 | j::J,st=>by
  rw [anyS];split
  ·rename_i o _;obtain ⟨h1,h2⟩:=anyS_fix l J (st.put o.dst .any);exact ⟨(put_fix st o.dst .any).trans h1,h2.trans (put_blk st o.dst .any)⟩
  ·exact anyS_fix l J st
theorem any_les (s:ASt) (d:Option Nat):LeS (s.put d .any) s:=by
 cases d with
 | none=>exact .refl s
 | some d =>
  refine ⟨fun k=>?_,fun k=>.refl _,rfl⟩;show Les (look .any ((d,AV.any)::s.regs) k) _;rw [look_cons];split
  ·exact .any _
  ·exact .refl _
theorem anyS_les (l:List Oper) (m:Nat→Nat) (nx:Nat):∀ (J:List Nat) (st:SSt D),LeS ((anyS l J st).enc m nx) (st.enc m nx)
 | [],st=>.refl _
 | j::J,st=>by
  rw [anyS];split
  ·refine (anyS_les l m nx J _).trans ?_;rw [put_enc,SV.enc];exact any_les _ _
  ·exact anyS_les l m nx J st
theorem anyS_mok {m:Nat→Nat} {nx:Nat} (l:List Oper):∀ (J:List Nat) (st:SSt D),MOk m nx st→MOk m nx (anyS l J st)
 | [],st,h=>h
 | j::J,st,h=>by
  rw [anyS];split
  ·exact anyS_mok l J _ (put_mok h _ _)
  ·exact anyS_mok l J st h
theorem anyS_keep (l:List Oper) (t:Nat):∀ (J:List Nat) (st:SSt D),st.get t=.any→(anyS l J st).get t=.any
 | [],st,h=>h
 | j::J,st,h=>by
  rw [anyS];split
  ·rename_i o _;refine anyS_keep l t J _ ?_
   cases hd:o.dst with
   | none=>exact h
   | some d =>
    show look (look .any st.kp t) ((d,SV.any)::st.regs) t=.any;rw [look_cons];split
    ·rfl
    ·exact h
  ·exact anyS_keep l t J st h
theorem anyS_get (l:List Oper) (t:Nat):∀ (J:List Nat) (st:SSt D),(∃ j o,j ∈ J∧l[j]?=some o∧o.dst=some t)→(anyS l J st).get t=.any
 | [],st,⟨j,o,h,_⟩=>by cases h
 | i::J,st,⟨j,o,h,ho,ht⟩=>by
  rw [anyS];rcases List.mem_cons.1 h with rfl | h
  ·rw [ho];refine anyS_keep l t J _ ?_;rw [ht];show look (look .any st.kp t) ((t,SV.any)::st.regs) t=.any;rw [look_self]
  ·split
   ·exact anyS_get l t J _ ⟨j,o,h,ho,ht⟩
   ·exact anyS_get l t J _ ⟨j,o,h,ho,ht⟩
theorem anyS_stl (l:List Oper) (J:List Nat) {st:SSt D} {s:ASt} (hs:StL F st s):StL F (anyS l J st) s:=by
 obtain ⟨m,nx,hm,hr,hf⟩:=hs;obtain ⟨h1,h2⟩:=anyS_fix l J st;exact ⟨m,nx,anyS_mok l J st hm,hr.trans (anyS_les l m nx J st).rle,by rw [h2,h1.fr];exact hf⟩
theorem syP_ok (hC:C.ok P) {m:Nat→Nat} {nx:Nat} {l:List Oper} {k:G D (KD ρ) ρ}:∀ (J:List Nat) (st:SSt D),MOk m nx st→(syP C n l J st k).den fu=some r→Dr.SyRun P n l (fun _=>True) J (st.enc m nx)∧k.den fu=some r
 | [],st,_,h=>⟨trivial,h⟩
 | j::J,st,hm,h=>by
  rw [syP] at h;split at h
  ·rename_i o ho
   cases hd:dok o.dst n with
   | false=>rw [hd] at h;cases h
   | true =>
    rw [hd] at h;simp only [cond_true] at h;split at h
    ·rename_i x g hrd;obtain ⟨hg,h⟩:=grdG_den h;obtain ⟨g1,g2⟩:=syP_ok hC J (st.put o.dst x) (put_mok hm _ _) h;rw [put_enc] at g1;exact ⟨⟨o,_,ho,rd_ok hC.T hm hrd hg hd,g1⟩,g2⟩
    ·cases h
  ·cases h
theorem syG_ok (hC:C.ok P) {m:Nat→Nat} {nx:Nat} {st0:SSt D} {l:List Oper} {KA:ASt→Prop} {K:SSt D→G D (KD ρ) ρ} (hK:∀ st',MOk m nx st'→FrOk m st'.blk st'.fr F→Fix st0 st'→(K st').den fu=some r→KA (st'.enc m nx)):∀ (J:List Nat) (st:SSt D),(syG C n l J st K).den fu=some r→MOk m nx st→FrOk m st.blk st.fr F→Fix st0 st→Dr.SyRun P n l KA J (st.enc m nx)
 | [],st,h,hm,hf,hx=>hK st hm hf hx h
 | j::J,st,h,hm,hf,hx=>by
  rw [syG] at h;split at h
  ·rename_i o ho
   cases hd:dok o.dst n with
   | false=>rw [hd] at h;cases h
   | true =>
    rw [hd] at h;simp only [cond_true] at h;split at h
    ·rename_i x g hrd;obtain ⟨hg,h⟩:=grdG_den h;obtain ⟨y,hy,h⟩:=letV_den h;have hp:=put_fix st o.dst y;have:=syG_ok hC hK J (st.put o.dst y) h (put_mok hm _ _) (by rw [put_blk,hp.fr];exact hf) (hx.trans hp);rw [put_enc,hy] at this;exact ⟨o,_,ho,rd_ok hC.T hm hrd hg hd,this⟩
    ·cases h
  ·cases h
theorem drS_ok (hC:C.ok P) {self:SelfG D (KD ρ) ρ} (hS:SelfOkG P fu self) {an:An} {l:List Oper} {m' k':Nat} {J:List Nat} {st0 st:SSt D} {ws:List (Nat×Nat)} {K:SSt D→G D (KD ρ) ρ} {s:ASt} {id:Nat} (hany:∀ j o t,j ∈ J→l[j]?=some o→o.dst=some t→st.get t=.any) (hfx:Fix st0 st) (h:(drS C self an n l m' k' J st ws K).den fu=some r) (hs:StL F st s):AW P n (.region id l.toArray true) (PostL F st0 fun st'=>(K st').den fu=some r) s:=by
 unfold drS at h;split at h
 rotate_left
 ·cases h
 rename_i A hA
 cases hb:((Dr.planR l (ancs l [])&&(ws.all fun p=>isLive (st.blk p.2)||Nat.ble st.nx p.2)&&Dr.tailSy l (ancs l []) m' k' J)&&((ws.all fun p=>Nat.blt p.1 m')&&Dr.isCall A.op)) with
 | false=>rw [hb] at h;cases h
 | true =>
  rw [hb] at h;simp only [Bool.and_eq_true] at hb;obtain ⟨⟨⟨b1,b2⟩,b3⟩,b4,b5⟩:=hb;simp only [cond_true] at h;obtain ⟨m,nx0,hr,hL,hI,hnx⟩:=dr_pre hs;obtain ⟨hO,h⟩:=syP_ok hC J st hI.mok h;have hsR:=sR_ok (ops:=⟨l⟩) (T:=ancs l []) (ws:=ws) (Kt:=fun s=>AL P n l.toArray (PostL F st0 fun st2=>(syG C n l J (anyS l J st2) fun st3=>sL C self n ⟨l⟩ an k' (l.drop k') st3 K).den fu=some r) [A] s) hC hL (ws_good b2) (fun st' hI' h'=>sL_ok hC hS an _ _ st' _ h' ⟨m,_,hI'.mok,.refl _,hI'.fr⟩ (hfx.trans hI'.fix)) (l.take m') 0 [] st h hI (fun p hp=>by cases hp);unfold AGm at hsR;rw [hnx] at hsR hO;refine AW.rle hr (Dr.AW.drawS (mapP m ws) m' k' J hC.mixed rfl b1 b3 (fun p hp=>?_) hA b5 hO (fun j o t hj ho ht=>?_) (fun e s' hq=>?_) hsR)
  ·obtain ⟨p',hp',rfl⟩:=List.mem_map.1 hp;have:=List.all_eq_true.1 b4 p' hp';simpa using this
  ·rw [enc_get,hany j o t hj ho ht,SV.enc]
  ·obtain ⟨he,st2,hs2,hx2,hd2⟩:=hq;obtain ⟨m2,nx2,hm2,hr2,hf2⟩:=hs2;obtain ⟨g1,g2⟩:=anyS_fix l J st2;refine ⟨he,(anyS l J st2).enc m2 nx2,hr2.trans (anyS_les l m2 nx2 J st2).rle,fun j o t hj ho ht=>?_,?_⟩
   ·rw [enc_get,anyS_get l t J st2 ⟨j,o,hj,ho,ht⟩,SV.enc]
   ·exact syG_ok (st0:=st0) hC (fun st' k1 k2 k3 k4=>sL_ok hC hS an _ _ st' _ k4 ⟨m2,nx2,k1,.refl _,k2⟩ k3) J _ hd2 (anyS_mok l J _ hm2) (by rw [g2,g1.fr];exact hf2) (hx2.trans g1)
theorem drR_ok (hC:C.ok P) {self:SelfG D (KD ρ) ρ} (hS:SelfOkG P fu self):DrawOk (ρ:=ρ) P fu n (drR C self):=by
 intro an l st K r F s id h hs;unfold drR at h;split at h
 ·rename_i m' k' J _;exact drS_ok hC hS (fun j o t hj ho ht=>anyS_get l t J st ⟨j,o,hj,ho,ht⟩) (anyS_fix l J st).1 h (anyS_stl l J hs)
 generalize wsD C 0 (l.take (tailN (ancs l []) l.length)) st=ws at h;unfold drW at h
 cases hb:(Dr.planR l (ancs l [])&&(ws.all fun p=>isLive (st.blk p.2)||Nat.ble st.nx p.2)&&Dr.tailR l (ancs l []) (tailN (ancs l []) l.length)) with
 | false=>rw [hb] at h;cases h
 | true =>
  rw [hb] at h;rw [Bool.and_eq_true,Bool.and_eq_true] at hb;simp only [cond_true] at h;obtain ⟨m,nx0,hr,hL,hI,hnx⟩:=dr_pre hs;have:=sR_ok (ops:=⟨l⟩) (T:=ancs l []) (ws:=ws) (Kt:=fun s=>AL P n l.toArray (PostL F st fun st'=>(K st').den fu=some r) (l.drop (tailN (ancs l []) l.length)) s) hC hL (ws_good hb.1.2) (fun st' hI' h'=>sL_ok hC hS an _ _ st' _ h' ⟨m,_,hI'.mok,.refl _,hI'.fr⟩ hI'.fix) (l.take (tailN (ancs l []) l.length)) 0 [] st h hI (fun p hp=>by cases hp);unfold AGm at this;rw [hnx] at this;exact AW.rle hr (Dr.AW.drawR (mapP m ws) (tailN (ancs l []) l.length) hC.mixed rfl hb.1.1 hb.2 this)
end
end Go.Proofs.Ytnbmldnahacnlaa
/- Decompiling: a function that works on its caller's blocks: its residual program is a contract. No program in sight. -/
namespace Go.Proofs.Ytnbmldnahacnlaa
open Go Go.RowKit

section
variable {V W:Ty→Type}
end
end Go.Proofs.Ytnbmldnahacnlaa
/- Facts on the types and functions that the symbolic walks ask for (printed by a program). -/
set_option maxRecDepth 1000000
namespace Go.Proofs.Ytnbmldnahacnlaa
open Go
def fd (n : String) (t o : Nat) (e : Bool) (p : String) (b : Nat) : Field := { name := n, type := t, offset := o, embedded := e, tag := "", pkgPath := p, byteOffset := b }
def tab:Tab:={
 und:=[(0,.tuple #[]),
  (1,.func #[] #[] false),
  (2,.int .i64),
  (3,.int .i64),
  (4,.bool),
  (5,.int .u8),
  (6,.int .u8),
  (7, .struct #[fd "x" 2 0 false "runtime" 0, fd "y" 3 1 false "runtime" 8, fd "signed" 4 2 false "runtime" 16, fd "code" 6 3 false "runtime" 17]),
  (8, .struct #[fd "x" 2 0 false "runtime" 0, fd "y" 3 1 false "runtime" 8, fd "signed" 4 2 false "runtime" 16, fd "code" 6 3 false "runtime" 17]),
  (9,.string),
  (10,.string),
  (11,.string),
  (12,.int .u64),
  (13, .struct #[fd "msg" 9 0 false "runtime" 0, fd "addr" 12 1 false "runtime" 16]),
  (14, .struct #[fd "msg" 9 0 false "runtime" 0, fd "addr" 12 1 false "runtime" 16]),
  (15,.pointer 133),
  (16,.pointer 136),
  (17,.pointer 146),
  (18, .struct #[fd "typ" 17 0 false "internal/runtime/maps" 0]),
  (19, .struct #[fd "typ" 17 0 false "internal/runtime/maps" 0]),
  (20,.interface #[]),
  (21,.int .i32),
  (22,.slice 5),
  (23, .struct #[fd "W" 3 0 false "" 0, fd "H" 3 1 false "" 8, fd "Data" 22 2 false "" 16]),
  (24, .struct #[fd "W" 3 0 false "" 0, fd "H" 3 1 false "" 8, fd "Data" 22 2 false "" 16]),
  (25,.func #[] #[4] false),
  (26, .struct #[fd "X" 3 0 false "" 0, fd "Y" 3 1 false "" 8]),
  (27, .struct #[fd "X" 3 0 false "" 0, fd "Y" 3 1 false "" 8]),
  (28,.int .i64),
  (29,.tuple #[27,28]),
  (30,.func #[24,3] #[27,28] false),
  (31,.tuple #[24,28]),
  (32,.func #[3] #[24,28] false),
  (33,.func #[3,3,3] #[4] false),
  (34,.func #[24,28,28] #[4] false),
  (35,.slice 4),
  (36,.func #[24,24] #[4] false),
  (37,.func #[3,3,35] #[24] false),
  (38,.func #[24] #[28] false),
  (39,.func #[4,28,28] #[4] false),
  (40,.func #[24] #[4] false),
  (41,.func #[24,3,3] #[4] false),
  (42,.func #[24,3] #[4] false),
  (43,.slice 48),
  (44,.tuple #[43,28]),
  (45,.func #[3,3,3] #[43,28] false),
  (46,.func #[3,3] #[3] false),
  (47, .struct #[fd "X" 3 0 false "" 0, fd "W" 3 1 false "" 8, fd "Kind" 3 2 false "" 16, fd "Unit" 3 3 false "" 24, fd "Zone" 3 4 false "" 32]),
  (48, .struct #[fd "X" 3 0 false "" 0, fd "W" 3 1 false "" 8, fd "Kind" 3 2 false "" 16, fd "Unit" 3 3 false "" 24, fd "Zone" 3 4 false "" 32]),
  (49,.slice 53),
  (50,.tuple #[49,28]),
  (51,.func #[43,3,3,3] #[49,28] false),
  (52, .struct #[fd "W" 3 0 false "" 0, fd "H" 3 1 false "" 8, fd "Pix" 22 2 false "" 16]),
  (53, .struct #[fd "W" 3 0 false "" 0, fd "H" 3 1 false "" 8, fd "Pix" 22 2 false "" 16]),
  (54,.func #[3,3,3,3] #[4] false),
  (55,.slice 24),
  (56,.slice 63),
  (57,.tuple #[56,28]),
  (58,.func #[43,55] #[56,28] false),
  (59,.func #[43,3,3] #[28] false),
  (60,.array 2 3),
  (61,.array 2 48),
  (62, .struct #[fd "Unit" 3 0 false "" 0, fd "Zone" 3 1 false "" 8, fd "Solid" 3 2 false "" 16, fd "Tint" 3 3 false "" 24]),
  (63, .struct #[fd "Unit" 3 0 false "" 0, fd "Zone" 3 1 false "" 8, fd "Solid" 3 2 false "" 16, fd "Tint" 3 3 false "" 24]),
  (64,.func #[43,55] #[4] false),
  (65,.func #[24,3] #[24,28] false),
  (66,.func #[24,3] #[24] false),
  (67,.func #[24,3,3,3] #[4] false),
  (68,.tuple #[4,28]),
  (69,.func #[24,3,3] #[4,28] false),
  (70,.func #[24,3,3,4] #[24,28] false),
  (71,.tuple #[3,28]),
  (72,.func #[24] #[3,28] false),
  (73,.func #[24,3,3,4] #[4] false),
  (74,.slice 77),
  (75,.func #[3,3,74] #[24,28] false),
  (76, .struct #[fd "Y" 3 0 false "" 0, fd "X0" 3 1 false "" 8, fd "X1" 3 2 false "" 16]),
  (77, .struct #[fd "Y" 3 0 false "" 0, fd "X0" 3 1 false "" 8, fd "X1" 3 2 false "" 16]),
  (78,.func #[3,3,74] #[4] false),
  (79,.func #[24,3,3,3,3] #[24,28] false),
  (80,.func #[24,3,3] #[24,28] false),
  (81,.func #[24,3,3,3,3] #[4] false),
  (82,.func #[53,3] #[24,28] false),
  (83,.func #[53] #[28] false),
  (84,.tuple #[53,28]),
  (85,.func #[24,5] #[53,28] false),
  (86,.func #[53,3,5] #[4] false),
  (87, .struct #[fd "W" 3 0 false "" 0, fd "H" 3 1 false "" 8, fd "Pix" 22 2 false "" 16]),
  (88,.func #[87,87,3] #[3,28] false),
  (89,.func #[87] #[28] false),
  (90,.func #[87,87,3] #[4] false),
  (91,.slice 3),
  (92,.slice 27),
  (93,.tuple #[87,28]),
  (94,.func #[55,91,92] #[87,28] false),
  (95,.func #[87,28,28] #[4] false),
  (96,.func #[87,3] #[24,28] false),
  (97,.func #[55,91,92,3] #[4] false),
  (98,.slice 102),
  (99,.tuple #[91,28]),
  (100,.func #[87,3] #[91,28] false),
  (101, .struct #[fd "L" 3 0 false "" 0, fd "A" 3 1 false "" 8, fd "B" 3 2 false "" 16]),
  (102, .struct #[fd "L" 3 0 false "" 0, fd "A" 3 1 false "" 8, fd "B" 3 2 false "" 16]),
  (103,.tuple #[102,28]),
  (104,.func #[87,98] #[102,28] false),
  (105,.func #[102] #[28] false),
  (106,.func #[87,3,98] #[4] false),
  (107,.func #[22,22] #[4] false),
  (108,.func #[109,3,3] #[4] false),
  (109,.pointer 24),
  (110,.func #[3,3] #[24] false),
  (111,.func #[109,3,3] #[] false),
  (112,.func #[109,48] #[3] false),
  (113,.func #[] #[24] false),
  (114,.tuple #[74,28]),
  (115,.func #[24] #[74,28] false),
  (116,.func #[109,3] #[24] false),
  (117,.func #[3] #[3] false),
  (118,.func #[5] #[3] false),
  (119,.func #[3,3,120] #[24] false),
  (120,.func #[3,3] #[4] false),
  (121,.func #[109,3,3] #[24] false),
  (122,.func #[130] #[] false),
  (123,.func #[130] #[] false),
  (124,.func #[109,3] #[123] false),
  (125,.func #[] #[55] false),
  (126,.func #[91,91] #[4] false),
  (127,.func #[128,3,3,3] #[4] false),
  (128,.pointer 87),
  (129,.func #[55,91,92] #[28] false),
  (130,.func #[77] #[4] false),
  (131,.func #[] #[9] false),
  (132, .struct #[fd "_interface" 17 0 false "runtime" 0, fd "concrete" 17 1 false "runtime" 8, fd "asserted" 17 2 false "runtime" 16, fd "missingMethod" 9 3 false "runtime" 24]),
  (133, .struct #[fd "_interface" 17 0 false "runtime" 0, fd "concrete" 17 1 false "runtime" 8, fd "asserted" 17 2 false "runtime" 16, fd "missingMethod" 9 3 false "runtime" 24]),
  (134,.array 0 16),
  (135, .struct #[fd "_" 134 0 false "runtime" 0]),
  (136, .struct #[fd "_" 134 0 false "runtime" 0]),
  (137,.func #[] #[3] false),
  (138,.int .u32),
  (139,.int .u8),
  (140,.int .u8),
  (141,.func #[147,147] #[4] false),
  (142,.pointer 5),
  (143,.int .i32),
  (144,.int .i32),
  (145, .struct #[fd "Size_" 12 0 false "" 0, fd "PtrBytes" 12 1 false "" 8, fd "Hash" 138 2 false "" 16, fd "TFlag" 139 3 false "" 20, fd "Align_" 5 4 false "" 21, fd "FieldAlign_" 5 5 false "" 22, fd "Kind_" 140 6 false "" 23, fd "Equal" 141 7 false "" 24, fd "GCData" 142 8 false "" 32, fd "Str" 143 9 false "" 40, fd "PtrToThis" 144 10 false "" 44]),
  (146, .struct #[fd "Size_" 12 0 false "" 0, fd "PtrBytes" 12 1 false "" 8, fd "Hash" 138 2 false "" 16, fd "TFlag" 139 3 false "" 20, fd "Align_" 5 4 false "" 21, fd "FieldAlign_" 5 5 false "" 22, fd "Kind_" 140 6 false "" 23, fd "Equal" 141 7 false "" 24, fd "GCData" 142 8 false "" 32, fd "Str" 143 9 false "" 40, fd "PtrToThis" 144 10 false "" 44]),
  (147,.unsafePointer)],
 inf:=[(1,(some (.nilFunc),1,8)),
  (2,(some (.int .i64 0),1,8)),
  (3,(some (.int .i64 0),1,8)),
  (4,(some (.bool false),1,1)),
  (5,(some (.int .u8 0),1,1)),
  (6,(some (.int .u8 0),1,1)),
  (7,(some (.agg #[.int .i64 0,.int .i64 0,.bool false,.int .u8 0]),4,24)),
  (8,(some (.agg #[.int .i64 0,.int .i64 0,.bool false,.int .u8 0]),4,24)),
  (9,(some (.string ByteArray.empty),1,16)),
  (10,(some (.string ByteArray.empty),1,16)),
  (11,(some (.string ByteArray.empty),1,16)),
  (12,(some (.int .u64 0),1,8)),
  (13,(some (.agg #[.string ByteArray.empty,.int .u64 0]),2,24)),
  (14,(some (.agg #[.string ByteArray.empty,.int .u64 0]),2,24)),
  (15,(some (.pointer none),1,8)),
  (16,(some (.pointer none),1,8)),
  (17,(some (.pointer none),1,8)),
  (18,(some (.agg #[.pointer none]),1,8)),
  (19,(some (.agg #[.pointer none]),1,8)),
  (20,(some (.nilIface),1,16)),
  (21,(some (.int .i32 0),1,4)),
  (22,(some (.slice none 0 0),1,24)),
  (23,(some (.agg #[.int .i64 0,.int .i64 0,.slice none 0 0]),3,40)),
  (24,(some (.agg #[.int .i64 0,.int .i64 0,.slice none 0 0]),3,40)),
  (25,(some (.nilFunc),1,8)),
  (26,(some (.agg #[.int .i64 0,.int .i64 0]),2,16)),
  (27,(some (.agg #[.int .i64 0,.int .i64 0]),2,16)),
  (28,(some (.int .i64 0),1,8)),
  (30,(some (.nilFunc),1,8)),
  (32,(some (.nilFunc),1,8)),
  (33,(some (.nilFunc),1,8)),
  (34,(some (.nilFunc),1,8)),
  (35,(some (.slice none 0 0),1,24)),
  (36,(some (.nilFunc),1,8)),
  (37,(some (.nilFunc),1,8)),
  (38,(some (.nilFunc),1,8)),
  (39,(some (.nilFunc),1,8)),
  (40,(some (.nilFunc),1,8)),
  (41,(some (.nilFunc),1,8)),
  (42,(some (.nilFunc),1,8)),
  (43,(some (.slice none 0 0),1,24)),
  (45,(some (.nilFunc),1,8)),
  (46,(some (.nilFunc),1,8)),
  (47,(some (.agg #[.int .i64 0,.int .i64 0,.int .i64 0,.int .i64 0,.int .i64 0]),5,40)),
  (48,(some (.agg #[.int .i64 0,.int .i64 0,.int .i64 0,.int .i64 0,.int .i64 0]),5,40)),
  (49,(some (.slice none 0 0),1,24)),
  (51,(some (.nilFunc),1,8)),
  (52,(some (.agg #[.int .i64 0,.int .i64 0,.slice none 0 0]),3,40)),
  (53,(some (.agg #[.int .i64 0,.int .i64 0,.slice none 0 0]),3,40)),
  (54,(some (.nilFunc),1,8)),
  (55,(some (.slice none 0 0),1,24)),
  (56,(some (.slice none 0 0),1,24)),
  (58,(some (.nilFunc),1,8)),
  (59,(some (.nilFunc),1,8)),
  (60,(some (.agg #[.int .i64 0,.int .i64 0]),2,16)),
  (61,(some (.agg #[.int .i64 0,.int .i64 0,.int .i64 0,.int .i64 0,.int .i64 0,.int .i64 0,.int .i64 0,.int .i64 0,.int .i64 0,.int .i64 0]),10,80)),
  (62,(some (.agg #[.int .i64 0,.int .i64 0,.int .i64 0,.int .i64 0]),4,32)),
  (63,(some (.agg #[.int .i64 0,.int .i64 0,.int .i64 0,.int .i64 0]),4,32)),
  (64,(some (.nilFunc),1,8)),
  (65,(some (.nilFunc),1,8)),
  (66,(some (.nilFunc),1,8)),
  (67,(some (.nilFunc),1,8)),
  (69,(some (.nilFunc),1,8)),
  (70,(some (.nilFunc),1,8)),
  (72,(some (.nilFunc),1,8)),
  (73,(some (.nilFunc),1,8)),
  (74,(some (.slice none 0 0),1,24)),
  (75,(some (.nilFunc),1,8)),
  (76,(some (.agg #[.int .i64 0,.int .i64 0,.int .i64 0]),3,24)),
  (77,(some (.agg #[.int .i64 0,.int .i64 0,.int .i64 0]),3,24)),
  (78,(some (.nilFunc),1,8)),
  (79,(some (.nilFunc),1,8)),
  (80,(some (.nilFunc),1,8)),
  (81,(some (.nilFunc),1,8)),
  (82,(some (.nilFunc),1,8)),
  (83,(some (.nilFunc),1,8)),
  (85,(some (.nilFunc),1,8)),
  (86,(some (.nilFunc),1,8)),
  (87,(some (.agg #[.int .i64 0,.int .i64 0,.slice none 0 0]),3,40)),
  (88,(some (.nilFunc),1,8)),
  (89,(some (.nilFunc),1,8)),
  (90,(some (.nilFunc),1,8)),
  (91,(some (.slice none 0 0),1,24)),
  (92,(some (.slice none 0 0),1,24)),
  (94,(some (.nilFunc),1,8)),
  (95,(some (.nilFunc),1,8)),
  (96,(some (.nilFunc),1,8)),
  (97,(some (.nilFunc),1,8)),
  (98,(some (.slice none 0 0),1,24)),
  (100,(some (.nilFunc),1,8)),
  (101,(some (.agg #[.int .i64 0,.int .i64 0,.int .i64 0]),3,24)),
  (102,(some (.agg #[.int .i64 0,.int .i64 0,.int .i64 0]),3,24)),
  (104,(some (.nilFunc),1,8)),
  (105,(some (.nilFunc),1,8)),
  (106,(some (.nilFunc),1,8)),
  (107,(some (.nilFunc),1,8)),
  (108,(some (.nilFunc),1,8)),
  (109,(some (.pointer none),1,8)),
  (110,(some (.nilFunc),1,8)),
  (111,(some (.nilFunc),1,8)),
  (112,(some (.nilFunc),1,8)),
  (113,(some (.nilFunc),1,8)),
  (115,(some (.nilFunc),1,8)),
  (116,(some (.nilFunc),1,8)),
  (117,(some (.nilFunc),1,8)),
  (118,(some (.nilFunc),1,8)),
  (119,(some (.nilFunc),1,8)),
  (120,(some (.nilFunc),1,8)),
  (121,(some (.nilFunc),1,8)),
  (122,(some (.nilFunc),1,8)),
  (123,(some (.nilFunc),1,8)),
  (124,(some (.nilFunc),1,8)),
  (125,(some (.nilFunc),1,8)),
  (126,(some (.nilFunc),1,8)),
  (127,(some (.nilFunc),1,8)),
  (128,(some (.pointer none),1,8)),
  (129,(some (.nilFunc),1,8)),
  (130,(some (.nilFunc),1,8)),
  (131,(some (.nilFunc),1,8)),
  (132,(some (.agg #[.pointer none,.pointer none,.pointer none,.string ByteArray.empty]),4,40)),
  (133,(some (.agg #[.pointer none,.pointer none,.pointer none,.string ByteArray.empty]),4,40)),
  (134,(some (.agg #[]),0,0)),
  (135,(some (.agg #[]),0,0)),
  (136,(some (.agg #[]),0,0)),
  (137,(some (.nilFunc),1,8)),
  (138,(some (.int .u32 0),1,4)),
  (139,(some (.int .u8 0),1,1)),
  (140,(some (.int .u8 0),1,1)),
  (141,(some (.nilFunc),1,8)),
  (142,(some (.pointer none),1,8)),
  (143,(some (.int .i32 0),1,4)),
  (144,(some (.int .i32 0),1,4)),
  (145,(some (.agg #[.int .u64 0,.int .u64 0,.int .u32 0,.int .u8 0,.int .u8 0,.int .u8 0,.int .u8 0,.nilFunc,.pointer none,.int .i32 0,.int .i32 0]),11,48)),
  (146,(some (.agg #[.int .u64 0,.int .u64 0,.int .u32 0,.int .u8 0,.int .u8 0,.int .u8 0,.int .u8 0,.nilFunc,.pointer none,.int .i32 0,.int .i32 0]),11,48)),
  (147,(some (.pointer none),1,8))],
 fld:=[(7,[(0,(1,false)),(1,(1,false)),(2,(1,false)),(3,(1,false))]),
  (8,[(0,(1,false)),(1,(1,false)),(2,(1,false)),(3,(1,false))]),
  (13,[(0,(1,false)),(1,(1,false))]),
  (14,[(0,(1,false)),(1,(1,false))]),
  (18,[(0,(1,false))]),
  (19,[(0,(1,false))]),
  (23,[(0,(1,false)),(1,(1,false)),(2,(1,false))]),
  (24,[(0,(1,false)),(1,(1,false)),(2,(1,false))]),
  (26,[(0,(1,false)),(1,(1,false))]),
  (27,[(0,(1,false)),(1,(1,false))]),
  (47,[(0,(1,false)),(1,(1,false)),(2,(1,false)),(3,(1,false)),(4,(1,false))]),
  (48,[(0,(1,false)),(1,(1,false)),(2,(1,false)),(3,(1,false)),(4,(1,false))]),
  (52,[(0,(1,false)),(1,(1,false)),(2,(1,false))]),
  (53,[(0,(1,false)),(1,(1,false)),(2,(1,false))]),
  (62,[(0,(1,false)),(1,(1,false)),(2,(1,false)),(3,(1,false))]),
  (63,[(0,(1,false)),(1,(1,false)),(2,(1,false)),(3,(1,false))]),
  (76,[(0,(1,false)),(1,(1,false)),(2,(1,false))]),
  (77,[(0,(1,false)),(1,(1,false)),(2,(1,false))]),
  (87,[(0,(1,false)),(1,(1,false)),(2,(1,false))]),
  (101,[(0,(1,false)),(1,(1,false)),(2,(1,false))]),
  (102,[(0,(1,false)),(1,(1,false)),(2,(1,false))]),
  (132,[(0,(1,false)),(1,(1,false)),(2,(1,false)),(3,(1,false))]),
  (133,[(0,(1,false)),(1,(1,false)),(2,(1,false)),(3,(1,false))]),
  (135,[(0,(0,true))]),
  (136,[(0,(0,true))]),
  (145,[(0,(1,false)),(1,(1,false)),(2,(1,false)),(3,(1,false)),(4,(1,false)),(5,(1,false)),(6,(1,false)),(7,(1,false)),(8,(1,false)),(9,(1,false)),(10,(1,false))]),
  (146,[(0,(1,false)),(1,(1,false)),(2,(1,false)),(3,(1,false)),(4,(1,false)),(5,(1,false)),(6,(1,false)),(7,(1,false)),(8,(1,false)),(9,(1,false)),(10,(1,false))])],
 eqs:=[(26,2),(27,2),(47,5),(48,5),(60,2),(62,4),(63,4),(76,3),(77,3),(101,3),(102,3)] }
theorem alP1 {α:Type} {R:Nat→α→Prop} {k:Nat} {x:α} {l:List (Nat×α)} (h:R k x) (h2:allP R l):allP R ((k,x)::l):=⟨h,h2⟩
theorem tab_und:allP (fun k D=>Try.prog.underlying k=some D) tab.und:=by
 unfold tab
 repeat (refine alP1 (by kernel_rfl) ?_)
 exact trivial
theorem tab_inf:allP (fun k x=>tyI Try.prog k=some x) tab.inf:=by
 unfold tab
 repeat (refine alP1 (by kernel_rfl) ?_)
 exact trivial
theorem tab_fld:allP (fun k x=>fieldsP Try.prog k=some x) tab.fld:=by
 unfold tab
 repeat (refine alP1 (by kernel_rfl) ?_)
 exact trivial
theorem tab_eqs:allP (fun k L=>eqInts Try.prog k=true∧eqLen Try.prog k=L) tab.eqs:=by
 unfold tab
 repeat (refine alP1 ⟨by kernel_rfl,by kernel_rfl⟩ ?_)
 exact trivial
theorem tab_ok:tab.ok Try.prog:=⟨tab_und,tab_inf,tab_fld,tab_eqs⟩
def cas:List (Nat×Nat):=[(2,0),(3,0),(4,0),(5,0),(6,0),(7,0),(8,0),(9,0),(10,0),(11,0),(12,0),(13,0),(14,0),(15,0),(16,0),(17,0),(18,0),(19,0),(20,0),(21,0),(22,0),(23,0),(24,0),(25,0),(26,0),(27,0),(28,0),(29,0),(30,0),(31,0),(32,0),(33,0),(34,0),(35,0),(36,0),(37,0),(38,0),(39,0),(40,0),(41,0),(42,0),(43,0),(44,0),(45,0),(46,0),(47,0),(48,0),(49,0),(50,0),(51,0),(52,0),(53,0),(54,0),(55,0),(56,0),(57,0),(58,0),(59,0),(60,0),(61,0),(62,0),(63,0),(64,0),(65,0),(66,0),(67,0),(68,0),(69,0),(70,0),(71,0),(72,0),(73,0),(74,0),(75,0),(76,0),(77,0),(78,0),(79,0),(80,0),(81,0),(82,0),(83,0),(84,0),(85,0),(86,0),(87,0)]
theorem cas_ok:allP (fun k _=>callable Try.prog k=true) cas:=by
 unfold cas
 repeat (refine alP1 (by kernel_rfl) ?_)
 exact trivial
end Go.Proofs.Ytnbmldnahacnlaa
/- What a run of the abstract machine asks of the program (printed by a program). -/
set_option maxRecDepth 1000000
namespace Go.Proofs.Ytnbmldnahacnlaa
open Go
noncomputable def ctx:Ctx:=⟨tab,[(2,Try.f2),(3,Try.f3),(4,Try.f4),(5,Try.f5),(6,Try.f6),(7,Try.f7),(8,Try.f8),(9,Try.f9),(10,Try.f10),(11,Try.f11),(12,Try.f12),(13,Try.f13),(14,Try.f14),(15,Try.f15),(16,Try.f16),(17,Try.f17),(18,Try.f18),(19,Try.f19),(20,Try.f20),(21,Try.f21),(22,Try.f22),(23,Try.f23),(24,Try.f24),(25,Try.f25),(26,Try.f26),(27,Try.f27),(28,Try.f28),(29,Try.f29),(30,Try.f30),(31,Try.f31),(32,Try.f32),(33,Try.f33),(34,Try.f34),(35,Try.f35),(36,Try.f36),(37,Try.f37),(38,Try.f38),(39,Try.f39),(40,Try.f40),(41,Try.f41),(42,Try.f42),(43,Try.f43),(44,Try.f44),(45,Try.f45),(46,Try.f46),(47,Try.f47),(48,Try.f48),(49,Try.f49),(50,Try.f50),(51,Try.f51),(52,Try.f52),(53,Try.f53),(54,Try.f54),(55,Try.f55),(56,Try.f56),(57,Try.f57),(58,Try.f58),(59,Try.f59),(60,Try.f60),(61,Try.f61),(62,Try.f62),(63,Try.f63),(64,Try.f64),(65,Try.f65),(66,Try.f66),(67,Try.f67),(68,Try.f68),(69,Try.f69),(70,Try.f70),(71,Try.f71),(72,Try.f72),(73,Try.f73),(74,Try.f74),(75,Try.f75),(76,Try.f76),(77,Try.f77),(78,Try.f78),(79,Try.f79),(80,Try.f80),(81,Try.f81),(82,Try.f82),(83,Try.f83),(84,Try.f84),(85,Try.f85),(86,Try.f86),(87,Try.f87)],cas⟩
set_option maxRecDepth 100000 in
theorem fns_ok:allP (fun k f=>Try.prog.funcs[k]?=some f) ctx.fns:=⟨Try.func2,⟨Try.func3,⟨Try.func4,⟨Try.func5,⟨Try.func6,⟨Try.func7,⟨Try.func8,⟨Try.func9,⟨Try.func10,⟨Try.func11,⟨Try.func12,⟨Try.func13,⟨Try.func14,⟨Try.func15,⟨Try.func16,⟨Try.func17,⟨Try.func18,⟨Try.func19,⟨Try.func20,⟨Try.func21,⟨Try.func22,⟨Try.func23,⟨Try.func24,⟨Try.func25,⟨Try.func26,⟨Try.func27,⟨Try.func28,⟨Try.func29,⟨Try.func30,⟨Try.func31,⟨Try.func32,⟨Try.func33,⟨Try.func34,⟨Try.func35,⟨Try.func36,⟨Try.func37,⟨Try.func38,⟨Try.func39,⟨Try.func40,⟨Try.func41,⟨Try.func42,⟨Try.func43,⟨Try.func44,⟨Try.func45,⟨Try.func46,⟨Try.func47,⟨Try.func48,⟨Try.func49,⟨Try.func50,⟨Try.func51,⟨Try.func52,⟨Try.func53,⟨Try.func54,⟨Try.func55,⟨Try.func56,⟨Try.func57,⟨Try.func58,⟨Try.func59,⟨Try.func60,⟨Try.func61,⟨Try.func62,⟨Try.func63,⟨Try.func64,⟨Try.func65,⟨Try.func66,⟨Try.func67,⟨Try.func68,⟨Try.func69,⟨Try.func70,⟨Try.func71,⟨Try.func72,⟨Try.func73,⟨Try.func74,⟨Try.func75,⟨Try.func76,⟨Try.func77,⟨Try.func78,⟨Try.func79,⟨Try.func80,⟨Try.func81,⟨Try.func82,⟨Try.func83,⟨Try.func84,⟨Try.func85,⟨Try.func86,⟨Try.func87,trivial⟩⟩⟩⟩⟩⟩⟩⟩⟩⟩⟩⟩⟩⟩⟩⟩⟩⟩⟩⟩⟩⟩⟩⟩⟩⟩⟩⟩⟩⟩⟩⟩⟩⟩⟩⟩⟩⟩⟩⟩⟩⟩⟩⟩⟩⟩⟩⟩⟩⟩⟩⟩⟩⟩⟩⟩⟩⟩⟩⟩⟩⟩⟩⟩⟩⟩⟩⟩⟩⟩⟩⟩⟩⟩⟩⟩⟩⟩⟩⟩⟩⟩⟩⟩⟩⟩
theorem ctx_ok:ctx.ok Try.prog:=⟨tab_ok,fns_ok,cas_ok,by kernel_rfl⟩
end Go.Proofs.Ytnbmldnahacnlaa
/- Decompiling: the program's functions as the machine over terms takes them. -/
namespace Go.Proofs.Ytnbmldnahacnlaa
open Go Go.RowKit
noncomputable def dcE (l:List (Nat×Ctr)) (le:List (Nat×CtrE)):DC:=⟨tab,ctx.fns,ctx.cas,l,le⟩
noncomputable def dc (l:List (Nat×Ctr)):DC:=dcE l []
theorem dcE_ok {l:List (Nat×Ctr)} {le:List (Nat×CtrE)} (h:allP (CtrOk Try.prog) l) (he:allP (CtrEOk Try.prog) le):(dcE l le).ok Try.prog:=⟨ctx_ok.T,ctx_ok.fns,ctx_ok.cas,ctx_ok.mixed,h,he⟩
theorem ctr_okE {l:List (Nat×Ctr)} {le:List (Nat×CtrE)} (hl:allP (CtrOk Try.prog) l) (hle:allP (CtrEOk Try.prog) le) {f:Nat} {an:An} {Fn:Nat} {σ ρ:Ty} {g:Nat→σ.den→Option ρ.den} (h:∀ fu x,(topG (ρ:=ρ) (dcE l le) (drR (dcE l le)) f an Fn σ (.var x)).den fu=g fu x):CtrOk Try.prog Fn ⟨σ,ρ,g,Fn⟩ :=
 fun fu x _ hy=>topG_ok (dcE_ok hl hle) (fun _ _ hS=>drR_ok (dcE_ok hl hle) hS) ((h fu x).trans hy)
theorem ctr_ok {l:List (Nat×Ctr)} (hl:allP (CtrOk Try.prog) l) {f:Nat} {an:An} {Fn:Nat} {σ ρ:Ty} {g:Nat→σ.den→Option ρ.den} (h:∀ fu x,(topG (ρ:=ρ) (dc l) (drR (dc l)) f an Fn σ (.var x)).den fu=g fu x):CtrOk Try.prog Fn ⟨σ,ρ,g,Fn⟩:=ctr_okE hl (le:=[]) trivial h
end Go.Proofs.Ytnbmldnahacnlaa
/- Residual programs of functions (printed by a program out of the code),checked by the kernel,and the contracts that follow. -/
namespace Go.Proofs.Ytnbmldnahacnlaa
open Go Go.RowKit
set_option linter.unusedVariables false
def R_Within_r (fu:Nat) (a:(Int)×((Int)×((Int)×(Unit)))):Option ((Bool)×(Unit)) :=
 bif (decide (a.2.1≤a.1)) then
  let v0:Bool:=(decide (a.1≤a.2.2.1))
  some ((v0,()))
 else
 some ((false,()))
def R_Within_an:An:=(.n none .z (.n none .z .z))
noncomputable def R_Within_dc:List (Nat×Ctr):=[]
def R_Within_ctr:Ctr:=⟨(.pair (.int .i64) (.pair (.int .i64) (.pair (.int .i64) .unit))),(.pair .bool .unit),R_Within_r,17⟩
theorem R_Within_ok:CtrOk Try.prog 17 R_Within_ctr:=ctr_ok (l:=R_Within_dc) (f:=12) (an:=R_Within_an) trivial fun fu x=>by kernel_rfl
def R_NoBits_r (fu:Nat) (a:((Int)×((Int)×(List (Int))))×(Unit)):Option ((Bool)×(Unit)) :=
 bif (decide (a.1.1=(0:Int))) then
  bif (decide (a.1.2.1=(0:Int))) then
   let v0:Bool:=(decide ((List.length a.1.2.2:Int)=(0:Int)))
   some ((v0,()))
  else
  some ((false,()))
 else
 some ((false,()))
def R_NoBits_an:An:=(.n none .z (.n none .z .z))
noncomputable def R_NoBits_dc:List (Nat×Ctr):=[]
def R_NoBits_ctr:Ctr:=⟨(.pair (.agg (.pair (.int .i64) (.pair (.int .i64) (.list (.int .u8))))) .unit),(.pair .bool .unit),R_NoBits_r,63⟩
theorem R_NoBits_ok:CtrOk Try.prog 63 R_NoBits_ctr:=ctr_ok (l:=R_NoBits_dc) (f:=12) (an:=R_NoBits_an) trivial fun fu x=>by kernel_rfl
def law_refused_r (fu:Nat) (a:((Int)×((Int)×(List (Int))))×((Int)×((Int)×(Unit)))):Option ((Bool)×(Unit)) :=
 bindO (R_NoBits_r fu (((a.1.1,(a.1.2.1,a.1.2.2)),()))) fun v0 =>
 bif v0.1 then
  let v1:Bool:=(decide (a.2.1=a.2.2.1))
  some ((v1,()))
 else
 some ((false,()))
def law_refused_an:An:=(.n none .z (.n none .z .z))
noncomputable def law_refused_dc:List (Nat×Ctr):=[(63,R_NoBits_ctr)]
def law_refused_ctr:Ctr:=⟨(.pair (.agg (.pair (.int .i64) (.pair (.int .i64) (.list (.int .u8))))) (.pair (.int .i64) (.pair (.int .i64) .unit))),(.pair .bool .unit),law_refused_r,18⟩
theorem law_refused_ok:CtrOk Try.prog 18 law_refused_ctr:=ctr_ok (l:=law_refused_dc) (f:=12) (an:=law_refused_an) ⟨R_NoBits_ok,trivial⟩ fun fu x=>by kernel_rfl
def math_bits_OnesCount8_r (fu:Nat) (a:(Int)×(Unit)):Option ((Int)×(Unit)) :=
 bif ((decide ((0:Int)≤a.1))&&(decide (a.1<(List.length ([0,1,1,2,1,2,2,3,1,2,2,3,2,3,3,4,1,2,2,3,2,3,3,4,2,3,3,4,3,4,4,5,1,2,2,3,2,3,3,4,2,3,3,4,3,4,4,5,2,3,3,4,3,4,4,5,3,4,4,5,4,5,5,6,1,2,2,3,2,3,3,4,2,3,3,4,3,4,4,5,2,3,3,4,3,4,4,5,3,4,4,5,4,5,5,6,2,3,3,4,3,4,4,5,3,4,4,5,4,5,5,6,3,4,4,5,4,5,5,6,4,5,5,6,5,6,6,7,1,2,2,3,2,3,3,4,2,3,3,4,3,4,4,5,2,3,3,4,3,4,4,5,3,4,4,5,4,5,5,6,2,3,3,4,3,4,4,5,3,4,4,5,4,5,5,6,3,4,4,5,4,5,5,6,4,5,5,6,5,6,6,7,2,3,3,4,3,4,4,5,3,4,4,5,4,5,5,6,3,4,4,5,4,5,5,6,4,5,5,6,5,6,6,7,3,4,4,5,4,5,5,6,4,5,5,6,5,6,6,7,4,5,5,6,5,6,6,7,5,6,6,7,6,7,7,8]:List UInt8):Int)))) then
 let v0:Int:=(IntKind.i64.wrap ((List.getD ([0,1,1,2,1,2,2,3,1,2,2,3,2,3,3,4,1,2,2,3,2,3,3,4,2,3,3,4,3,4,4,5,1,2,2,3,2,3,3,4,2,3,3,4,3,4,4,5,2,3,3,4,3,4,4,5,3,4,4,5,4,5,5,6,1,2,2,3,2,3,3,4,2,3,3,4,3,4,4,5,2,3,3,4,3,4,4,5,3,4,4,5,4,5,5,6,2,3,3,4,3,4,4,5,3,4,4,5,4,5,5,6,3,4,4,5,4,5,5,6,4,5,5,6,5,6,6,7,1,2,2,3,2,3,3,4,2,3,3,4,3,4,4,5,2,3,3,4,3,4,4,5,3,4,4,5,4,5,5,6,2,3,3,4,3,4,4,5,3,4,4,5,4,5,5,6,3,4,4,5,4,5,5,6,4,5,5,6,5,6,6,7,2,3,3,4,3,4,4,5,3,4,4,5,4,5,5,6,3,4,4,5,4,5,5,6,4,5,5,6,5,6,6,7,3,4,4,5,4,5,5,6,4,5,5,6,5,6,6,7,4,5,5,6,5,6,6,7,5,6,6,7,6,7,7,8]:List UInt8) (Int.toNat a.1) 0).toNat:Int))
 some ((v0,()))
 else none
def math_bits_OnesCount8_an:An:=(.n none .z (.n none .z .z))
noncomputable def math_bits_OnesCount8_dc:List (Nat×Ctr):=[]
def math_bits_OnesCount8_ctr:Ctr:=⟨(.pair (.int .u8) .unit),(.pair (.int .i64) .unit),math_bits_OnesCount8_r,70⟩
theorem math_bits_OnesCount8_ok:CtrOk Try.prog 70 math_bits_OnesCount8_ctr:=ctr_ok (l:=math_bits_OnesCount8_dc) (f:=12) (an:=math_bits_OnesCount8_an) trivial fun fu x=>by kernel_rfl
def bitmap_stride_r (fu:Nat) (a:(Int)×(Unit)):Option ((Int)×(Unit)) :=
 let v0:Int:=(IntKind.i64.wrap (Int.tdiv (IntKind.i64.wrap (a.1+(7:Int))) (8:Int)))
 some ((v0,()))
def bitmap_stride_an:An:=(.n none .z (.n none .z .z))
noncomputable def bitmap_stride_dc:List (Nat×Ctr):=[]
def bitmap_stride_ctr:Ctr:=⟨(.pair (.int .i64) .unit),(.pair (.int .i64) .unit),bitmap_stride_r,69⟩
theorem bitmap_stride_ok:CtrOk Try.prog 69 bitmap_stride_ctr:=ctr_ok (l:=bitmap_stride_dc) (f:=12) (an:=bitmap_stride_an) trivial fun fu x=>by kernel_rfl
def bitmap_Check_j2 (fu:Nat) (v3:Unit):Option ((Int)×(Unit)) :=
 some (((0:Int),()))
def bitmap_Check_l3 (fu:Nat) (a:((Int)×((Int)×(List (Int))))×(Unit)) (v2:Int) (v4:Int) (j3:(Unit)→Option ((Int)×(Unit))) (j5:(Int)→Option ((Int)×(Unit))) (v5:Int):Option ((Int)×(Unit)) :=
 bif (decide (v5<a.1.2.1)) then
  bif ((decide ((0:Int)≤(IntKind.i64.wrap ((IntKind.i64.wrap ((IntKind.i64.wrap (v5*v2))+v2))-(1:Int)))))&&(decide ((IntKind.i64.wrap ((IntKind.i64.wrap ((IntKind.i64.wrap (v5*v2))+v2))-(1:Int)))<(List.length a.1.2.2:Int)))) then
  let v6:Int:=(List.getD a.1.2.2 (Int.toNat (IntKind.i64.wrap ((IntKind.i64.wrap ((IntKind.i64.wrap (v5*v2))+v2))-(1:Int)))) 0)
  bif (decide ((bits BinOp.and IntKind.u8 v6 v4)≠(0:Int))) then
   some (((4:Int),()))
  else
  j5 ((IntKind.i64.wrap (v5+(1:Int))))
  else none
 else
 j3 (())
def bitmap_Check_j1 (fu:Nat) (a:((Int)×((Int)×(List (Int))))×(Unit)) (v0:Bool):Option ((Int)×(Unit)) :=
 bif v0 then
  some (((3:Int),()))
 else
 bindO (bitmap_stride_r fu ((a.1.1,()))) fun v1 =>
 let v2:Int:=v1.1
 bif (decide ((List.length a.1.2.2:Int)≠(IntKind.i64.wrap (v2*a.1.2.1)))) then
  some (((4:Int),()))
 else
 joinF (bitmap_Check_j2 fu) fun j3 =>
 bif ((decide ((0:Int)≤(IntKind.i64.wrap ((IntKind.i64.wrap ((8:Int)*v2))-a.1.1))))&&(decide ((IntKind.i64.wrap ((IntKind.i64.wrap ((8:Int)*v2))-a.1.1))≤(8:Int)))) then
 let v4:Int:=(IntKind.u8.wrap ((IntKind.u8.wrap ((1:Int)*2 ^ (Int.toNat (IntKind.i64.wrap ((IntKind.i64.wrap ((8:Int)*v2))-a.1.1)))))-(1:Int)))
 bif (decide (v4≠(0:Int))) then
  loopF (bitmap_Check_l3 fu a v2 v4 j3) fu ((0:Int))
 else
 j3 (())
 else none
def bitmap_Check_r (fu:Nat) (a:((Int)×((Int)×(List (Int))))×(Unit)):Option ((Int)×(Unit)) :=
 joinF (bitmap_Check_j1 fu a) fun j0 =>
 bif (decide (a.1.1<(1:Int))) then
  j0 (true)
 else
 bif (decide ((1024:Int)<a.1.1)) then
  j0 (true)
 else
 bif (decide (a.1.2.1<(1:Int))) then
  j0 (true)
 else
 j0 ((decide ((1024:Int)<a.1.2.1)))
def bitmap_Check_an:An:=(.n none .z (.n none (.n (some ⟨[1,2],[0],[],[.reg 23 .bool],0,[]⟩) .z (.n none (.n none .z .z) .z)) (.n none .z (.n none (.n none .z (.n none (.n none .z .z) .z)) (.n (some ⟨[],[0],[],[],0,[]⟩) (.n none .z (.n none .z (.n none (.n none .z (.n none (.n (some ⟨[1,3,4,45],[],[],[.reg 46 (.int .i64)],0,[]⟩) (.n none .z (.n none .z (.n none (.n none (.n none .z (.n none .z (.n none (.n none .z .z) .z))) .z) .z))) .z) .z)) .z))) (.n none .z .z))))))
noncomputable def bitmap_Check_dc:List (Nat×Ctr):=[(69,bitmap_stride_ctr)]
def bitmap_Check_ctr:Ctr:=⟨(.pair (.agg (.pair (.int .i64) (.pair (.int .i64) (.list (.int .u8))))) .unit),(.pair (.int .i64) .unit),bitmap_Check_r,38⟩
theorem bitmap_Check_ok:CtrOk Try.prog 38 bitmap_Check_ctr:=ctr_ok (l:=bitmap_Check_dc) (f:=12) (an:=bitmap_Check_an) ⟨bitmap_stride_ok,trivial⟩ fun fu x=>by kernel_rfl
def bitmap_Count_l1 (fu:Nat) (a:((Int)×((Int)×(List (Int))))×(Unit)) (j2:((Int)×(Int))→Option ((Int)×((Int)×(Unit)))) (v2:(Int)×(Int)):Option ((Int)×((Int)×(Unit))) :=
 bif (decide (v2.2<(List.length a.1.2.2:Int))) then
  bif ((decide ((0:Int)≤v2.2))&&(decide (v2.2<(List.length a.1.2.2:Int)))) then
  let v3:Int:=(List.getD a.1.2.2 (Int.toNat v2.2) 0)
  bindO (math_bits_OnesCount8_r fu ((v3,()))) fun v4 =>
  let v5:Int:=(IntKind.i64.wrap (v2.1+v4.1))
  j2 ((v5,(IntKind.i64.wrap (v2.2+(1:Int)))))
  else none
 else
 let v3:Int:=v2.1
 some ((v3,((0:Int),())))
def bitmap_Count_r (fu:Nat) (a:((Int)×((Int)×(List (Int))))×(Unit)):Option ((Int)×((Int)×(Unit))) :=
 bindO (bitmap_Check_r fu (((a.1.1,(a.1.2.1,a.1.2.2)),()))) fun v0 =>
 let v1:Int:=v0.1
 bif (decide (v1≠(0:Int))) then
  some (((0:Int),(v1,())))
 else
 loopF (bitmap_Count_l1 fu a) fu (((0:Int),(0:Int)))
def bitmap_Count_an:An:=(.n none .z (.n none (.n none .z (.n none .z (.n none (.n none .z .z) .z))) (.n none .z (.n none (.n none .z (.n none (.n (some ⟨[14,15,2,3],[0],[],[.reg 5 (.int .i64),.reg 16 (.int .i64)],0,[]⟩) (.n none .z (.n none .z (.n none (.n none (.n none .z .z) .z) .z))) .z) .z)) (.n none .z .z)))))
noncomputable def bitmap_Count_dc:List (Nat×Ctr):=[(38,bitmap_Check_ctr),(70,math_bits_OnesCount8_ctr)]
def bitmap_Count_ctr:Ctr:=⟨(.pair (.agg (.pair (.int .i64) (.pair (.int .i64) (.list (.int .u8))))) .unit),(.pair (.int .i64) (.pair (.int .i64) .unit)),bitmap_Count_r,41⟩
theorem bitmap_Count_ok:CtrOk Try.prog 41 bitmap_Count_ctr:=ctr_ok (l:=bitmap_Count_dc) (f:=12) (an:=bitmap_Count_an) ⟨bitmap_Check_ok,⟨math_bits_OnesCount8_ok,trivial⟩⟩ fun fu x=>by kernel_rfl
def bitmap_Set_j2 (fu:Nat) (a:((Int)×((Int)×(List (Int))))×((Int)×((Int)×((Bool)×(Unit))))) (v3:List (Int)):Option (((Int)×((Int)×(List (Int))))×((Int)×(Unit))) :=
 some (((a.1.1,(a.1.2.1,v3)),((0:Int),())))
def bitmap_Set_j1 (fu:Nat) (a:((Int)×((Int)×(List (Int))))×((Int)×((Int)×((Bool)×(Unit))))) (v2:Bool):Option (((Int)×((Int)×(List (Int))))×((Int)×(Unit))) :=
 bif v2 then
  some ((((0:Int),((0:Int),([]:List (Int)))),((3:Int),())))
 else
 bif (decide (((List.length a.1.2.2:Int)*(1:Int))≤(140737488355328:Int))) then
 joinF (bitmap_Set_j2 fu a) fun j3 =>
 bif a.2.2.2.1 then
  bindO (bitmap_stride_r fu ((a.1.1,()))) fun v4 =>
  bif ((decide ((0:Int)≤(IntKind.i64.wrap ((IntKind.i64.wrap (a.2.2.1*v4.1))+(IntKind.i64.wrap (Int.tdiv a.2.1 (8:Int)))))))&&(decide ((IntKind.i64.wrap ((IntKind.i64.wrap (a.2.2.1*v4.1))+(IntKind.i64.wrap (Int.tdiv a.2.1 (8:Int)))))<(List.length a.1.2.2:Int)))) then
  bif ((decide ((0:Int)≤(Int.tmod a.2.1 (8:Int))))&&(decide ((Int.tmod a.2.1 (8:Int))≤(8:Int)))) then
  bif ((decide ((0:Int)≤(IntKind.i64.wrap ((IntKind.i64.wrap (a.2.2.1*v4.1))+(IntKind.i64.wrap (Int.tdiv a.2.1 (8:Int)))))))&&(decide ((IntKind.i64.wrap ((IntKind.i64.wrap (a.2.2.1*v4.1))+(IntKind.i64.wrap (Int.tdiv a.2.1 (8:Int)))))<(List.length a.1.2.2:Int)))) then
  j3 ((List.set a.1.2.2 (Int.toNat (IntKind.i64.wrap ((IntKind.i64.wrap (a.2.2.1*v4.1))+(IntKind.i64.wrap (Int.tdiv a.2.1 (8:Int)))))) (bits BinOp.or IntKind.u8 (List.getD a.1.2.2 (Int.toNat (IntKind.i64.wrap ((IntKind.i64.wrap (a.2.2.1*v4.1))+(IntKind.i64.wrap (Int.tdiv a.2.1 (8:Int)))))) 0) ((128:Int) / 2 ^ (Int.toNat (Int.tmod a.2.1 (8:Int)))))))
  else none
  else none
  else none
 else
 bindO (bitmap_stride_r fu ((a.1.1,()))) fun v4 =>
 bif ((decide ((0:Int)≤(IntKind.i64.wrap ((IntKind.i64.wrap (a.2.2.1*v4.1))+(IntKind.i64.wrap (Int.tdiv a.2.1 (8:Int)))))))&&(decide ((IntKind.i64.wrap ((IntKind.i64.wrap (a.2.2.1*v4.1))+(IntKind.i64.wrap (Int.tdiv a.2.1 (8:Int)))))<(List.length a.1.2.2:Int)))) then
 bif ((decide ((0:Int)≤(Int.tmod a.2.1 (8:Int))))&&(decide ((Int.tmod a.2.1 (8:Int))≤(8:Int)))) then
 bif ((decide ((0:Int)≤(IntKind.i64.wrap ((IntKind.i64.wrap (a.2.2.1*v4.1))+(IntKind.i64.wrap (Int.tdiv a.2.1 (8:Int)))))))&&(decide ((IntKind.i64.wrap ((IntKind.i64.wrap (a.2.2.1*v4.1))+(IntKind.i64.wrap (Int.tdiv a.2.1 (8:Int)))))<(List.length a.1.2.2:Int)))) then
 j3 ((List.set a.1.2.2 (Int.toNat (IntKind.i64.wrap ((IntKind.i64.wrap (a.2.2.1*v4.1))+(IntKind.i64.wrap (Int.tdiv a.2.1 (8:Int)))))) (bits BinOp.andNot IntKind.u8 (List.getD a.1.2.2 (Int.toNat (IntKind.i64.wrap ((IntKind.i64.wrap (a.2.2.1*v4.1))+(IntKind.i64.wrap (Int.tdiv a.2.1 (8:Int)))))) 0) ((128:Int) / 2 ^ (Int.toNat (Int.tmod a.2.1 (8:Int)))))))
 else none
 else none
 else none
 else none
def bitmap_Set_r (fu:Nat) (a:((Int)×((Int)×(List (Int))))×((Int)×((Int)×((Bool)×(Unit))))):Option (((Int)×((Int)×(List (Int))))×((Int)×(Unit))) :=
 bindO (bitmap_Check_r fu (((a.1.1,(a.1.2.1,a.1.2.2)),()))) fun v0 =>
 let v1:Int:=v0.1
 bif (decide (v1≠(0:Int))) then
  some ((((0:Int),((0:Int),([]:List (Int)))),(v1,())))
 else
 joinF (bitmap_Set_j1 fu a) fun j2 =>
 bif (decide (a.2.1<(0:Int))) then
  j2 (true)
 else
 bif (decide (a.1.1≤a.2.1)) then
  j2 (true)
 else
 bif (decide (a.2.2.1<(0:Int))) then
  j2 (true)
 else
 j2 ((decide (a.1.2.1≤a.2.2.1)))
def bitmap_Set_an:An:=(.n none .z (.n none (.n none .z (.n none .z (.n none (.n none .z .z) .z))) (.n none (.n (some ⟨[3,2,1,4,8,9],[0,1],[],[.reg 34 .bool],0,[]⟩) .z (.n none (.n none .z .z) .z)) (.n none .z (.n (some ⟨[4,8,9],[1,0],[],[.row 2 false (.int .u8) 5 0],0,[]⟩) (.n none .z (.n none (.ops [(2,(.n none (.dr [] []) .z))]) (.dr [] []))) (.n none .z .z))))))
noncomputable def bitmap_Set_dc:List (Nat×Ctr):=[(38,bitmap_Check_ctr),(69,bitmap_stride_ctr)]
def bitmap_Set_ctr:Ctr:=⟨(.pair (.agg (.pair (.int .i64) (.pair (.int .i64) (.list (.int .u8))))) (.pair (.int .i64) (.pair (.int .i64) (.pair .bool .unit)))),(.pair (.agg (.pair (.int .i64) (.pair (.int .i64) (.list (.int .u8))))) (.pair (.int .i64) .unit)),bitmap_Set_r,40⟩
theorem bitmap_Set_ok:CtrOk Try.prog 40 bitmap_Set_ctr:=ctr_ok (l:=bitmap_Set_dc) (f:=12) (an:=bitmap_Set_an) ⟨bitmap_Check_ok,⟨bitmap_stride_ok,trivial⟩⟩ fun fu x=>by kernel_rfl
def bitmap_Is_r (fu:Nat) (a:((Int)×((Int)×(List (Int))))×((Int)×((Int)×(Unit)))):Option ((Bool)×(Unit)) :=
 bif (decide ((0:Int)≤a.2.1)) then
  bif (decide (a.2.1<a.1.1)) then
   bif (decide ((0:Int)≤a.2.2.1)) then
    bif (decide (a.2.2.1<a.1.2.1)) then
     bindO (bitmap_stride_r fu ((a.1.1,()))) fun v0 =>
     bif ((decide ((0:Int)≤(IntKind.i64.wrap ((IntKind.i64.wrap (a.2.2.1*v0.1))+(IntKind.i64.wrap (Int.tdiv a.2.1 (8:Int)))))))&&(decide ((IntKind.i64.wrap ((IntKind.i64.wrap (a.2.2.1*v0.1))+(IntKind.i64.wrap (Int.tdiv a.2.1 (8:Int)))))<(List.length a.1.2.2:Int)))) then
     let v1:Int:=(List.getD a.1.2.2 (Int.toNat (IntKind.i64.wrap ((IntKind.i64.wrap (a.2.2.1*v0.1))+(IntKind.i64.wrap (Int.tdiv a.2.1 (8:Int)))))) 0)
     bif ((decide ((0:Int)≤(Int.tmod a.2.1 (8:Int))))&&(decide ((Int.tmod a.2.1 (8:Int))≤(8:Int)))) then
     let v2:Bool:=(decide ((bits BinOp.and IntKind.u8 v1 ((128:Int) / 2 ^ (Int.toNat (Int.tmod a.2.1 (8:Int)))))≠(0:Int)))
     some ((v2,()))
     else none
     else none
    else
    some ((false,()))
   else
   some ((false,()))
  else
  some ((false,()))
 else
 some ((false,()))
def bitmap_Is_an:An:=(.n none .z (.n none (.dr [] []) .z))
noncomputable def bitmap_Is_dc:List (Nat×Ctr):=[(69,bitmap_stride_ctr)]
def bitmap_Is_ctr:Ctr:=⟨(.pair (.ptr (.pair (.int .i64) (.pair (.int .i64) (.list (.int .u8))))) (.pair (.int .i64) (.pair (.int .i64) .unit))),(.pair .bool .unit),bitmap_Is_r,60⟩
theorem bitmap_Is_ok:CtrOk Try.prog 60 bitmap_Is_ctr:=ctr_ok (l:=bitmap_Is_dc) (f:=12) (an:=bitmap_Is_an) ⟨bitmap_stride_ok,trivial⟩ fun fu x=>by kernel_rfl
def R_SameBytes_r (fu:Nat) (a:(List (Int))×((List (Int))×(Unit))):Option ((Bool)×(Unit)) :=
 let v0:Bool:=(decide ((bytesOf a.1)=(bytesOf a.2.1)))
 some ((v0,()))
def R_SameBytes_an:An:=(.n none .z (.n none .z .z))
noncomputable def R_SameBytes_dc:List (Nat×Ctr):=[]
def R_SameBytes_ctr:Ctr:=⟨(.pair (.list (.int .u8)) (.pair (.list (.int .u8)) .unit)),(.pair .bool .unit),R_SameBytes_r,59⟩
theorem R_SameBytes_ok:CtrOk Try.prog 59 R_SameBytes_ctr:=ctr_ok (l:=R_SameBytes_dc) (f:=12) (an:=R_SameBytes_an) trivial fun fu x=>by kernel_rfl
def R_SameBits_r (fu:Nat) (a:((Int)×((Int)×(List (Int))))×(((Int)×((Int)×(List (Int))))×(Unit))):Option ((Bool)×(Unit)) :=
 bif (decide (a.1.1=a.2.1.1)) then
  bif (decide (a.1.2.1=a.2.1.2.1)) then
   bindO (R_SameBytes_r fu ((a.1.2.2,(a.2.1.2.2,())))) fun v0 =>
   let v1:Bool:=v0.1
   some ((v1,()))
  else
  some ((false,()))
 else
 some ((false,()))
def R_SameBits_an:An:=(.n none .z (.n none .z .z))
noncomputable def R_SameBits_dc:List (Nat×Ctr):=[(59,R_SameBytes_ctr)]
def R_SameBits_ctr:Ctr:=⟨(.pair (.agg (.pair (.int .i64) (.pair (.int .i64) (.list (.int .u8))))) (.pair (.agg (.pair (.int .i64) (.pair (.int .i64) (.list (.int .u8))))) .unit)),(.pair .bool .unit),R_SameBits_r,19⟩
theorem R_SameBits_ok:CtrOk Try.prog 19 R_SameBits_ctr:=ctr_ok (l:=R_SameBits_dc) (f:=12) (an:=R_SameBits_an) ⟨R_SameBytes_ok,trivial⟩ fun fu x=>by kernel_rfl
def bitmap_Grown_j4 (fu:Nat) (v4:(Int)×(List (Int))) (j4:((Int)×(List (Int)))→Option (((Int)×((Int)×(List (Int))))×(Unit))) (v5:List (Int)):Option (((Int)×((Int)×(List (Int))))×(Unit)) :=
 j4 (((IntKind.i64.wrap (v4.1+(1:Int))),v5))
def bitmap_Grown_j5 (fu:Nat) (v0:(Int)×((Int)×((Int)×(List (Int))))) (v3:Int) (v4:(Int)×(List (Int))) (v6:Int) (j5:(List (Int))→Option (((Int)×((Int)×(List (Int))))×(Unit))) (v7:Bool):Option (((Int)×((Int)×(List (Int))))×(Unit)) :=
 bif v7 then
  bindO (bitmap_stride_r fu ((v0.2.1,()))) fun v8 =>
  bif ((decide ((0:Int)≤(IntKind.i64.wrap ((IntKind.i64.wrap (v3*v8.1))+(IntKind.i64.wrap (Int.tdiv v6 (8:Int)))))))&&(decide ((IntKind.i64.wrap ((IntKind.i64.wrap (v3*v8.1))+(IntKind.i64.wrap (Int.tdiv v6 (8:Int)))))<(List.length v4.2:Int)))) then
  bif ((decide ((0:Int)≤(Int.tmod v6 (8:Int))))&&(decide ((Int.tmod v6 (8:Int))≤(8:Int)))) then
  bif ((decide ((0:Int)≤(IntKind.i64.wrap ((IntKind.i64.wrap (v3*v8.1))+(IntKind.i64.wrap (Int.tdiv v6 (8:Int)))))))&&(decide ((IntKind.i64.wrap ((IntKind.i64.wrap (v3*v8.1))+(IntKind.i64.wrap (Int.tdiv v6 (8:Int)))))<(List.length v4.2:Int)))) then
  j5 ((List.set v4.2 (Int.toNat (IntKind.i64.wrap ((IntKind.i64.wrap (v3*v8.1))+(IntKind.i64.wrap (Int.tdiv v6 (8:Int)))))) (bits BinOp.or IntKind.u8 (List.getD v4.2 (Int.toNat (IntKind.i64.wrap ((IntKind.i64.wrap (v3*v8.1))+(IntKind.i64.wrap (Int.tdiv v6 (8:Int)))))) 0) ((128:Int) / 2 ^ (Int.toNat (Int.tmod v6 (8:Int)))))))
  else none
  else none
  else none
 else
 j5 (v4.2)
def bitmap_Grown_l3 (fu:Nat) (v0:(Int)×((Int)×((Int)×(List (Int))))) (v2:(Int)×(List (Int))) (v3:Int) (j2:((Int)×(List (Int)))→Option (((Int)×((Int)×(List (Int))))×(Unit))) (j4:((Int)×(List (Int)))→Option (((Int)×((Int)×(List (Int))))×(Unit))) (v4:(Int)×(List (Int))):Option (((Int)×((Int)×(List (Int))))×(Unit)) :=
 bif (decide (v4.1<v0.2.1)) then
  joinF (bitmap_Grown_j4 fu v4 j4) fun j5 =>
  let v6:Int:=v4.1
  joinF (bitmap_Grown_j5 fu v0 v3 v4 v6 j5) fun j7 =>
  bindO (bitmap_Is_r fu (((v0.2.1,(v0.2.2.1,v0.2.2.2)),(v6,(v3,()))))) fun v8 =>
  bif v8.1 then
   j7 (true)
  else
  bindO (bitmap_Is_r fu (((v0.2.1,(v0.2.2.1,v0.2.2.2)),((IntKind.i64.wrap (v6-(1:Int))),(v3,()))))) fun v9 =>
  bif v9.1 then
   j7 (true)
  else
  bindO (bitmap_Is_r fu (((v0.2.1,(v0.2.2.1,v0.2.2.2)),((IntKind.i64.wrap (v6+(1:Int))),(v3,()))))) fun v10 =>
  bif v10.1 then
   j7 (true)
  else
  bindO (bitmap_Is_r fu (((v0.2.1,(v0.2.2.1,v0.2.2.2)),(v6,((IntKind.i64.wrap (v3-(1:Int))),()))))) fun v11 =>
  bif v11.1 then
   j7 (true)
  else
  bindO (bitmap_Is_r fu (((v0.2.1,(v0.2.2.1,v0.2.2.2)),(v6,((IntKind.i64.wrap (v3+(1:Int))),()))))) fun v12 =>
  let v13:Bool:=v12.1
  j7 (v13)
 else
 j2 (((IntKind.i64.wrap (v2.1+(1:Int))),v4.2))
def bitmap_Grown_l2 (fu:Nat) (v0:(Int)×((Int)×((Int)×(List (Int))))) (j0:((Int)×((Int)×((Int)×(List (Int)))))→Option (((Int)×((Int)×(List (Int))))×(Unit))) (j2:((Int)×(List (Int)))→Option (((Int)×((Int)×(List (Int))))×(Unit))) (v2:(Int)×(List (Int))):Option (((Int)×((Int)×(List (Int))))×(Unit)) :=
 bif (decide (v2.1<v0.2.2.1)) then
  let v3:Int:=v2.1
  loopF (bitmap_Grown_l3 fu v0 v2 v3 j2) fu (((0:Int),v2.2))
 else
 j0 (((IntKind.i64.wrap (v0.1+(1:Int))),(v0.2.1,(v0.2.2.1,v2.2))))
def bitmap_Grown_l1 (fu:Nat) (a:((Int)×((Int)×(List (Int))))×((Int)×(Unit))) (j0:((Int)×((Int)×((Int)×(List (Int)))))→Option (((Int)×((Int)×(List (Int))))×(Unit))) (v0:(Int)×((Int)×((Int)×(List (Int))))):Option (((Int)×((Int)×(List (Int))))×(Unit)) :=
 bif (decide (v0.1<a.2.1)) then
  bindO (bitmap_stride_r fu ((v0.2.1,()))) fun v1 =>
  bif ((decide ((0:Int)≤(IntKind.i64.wrap (v1.1*v0.2.2.1))))&&(decide (((1:Int)*(IntKind.i64.wrap (v1.1*v0.2.2.1)))≤(281474976710656:Int)))) then
  loopF (bitmap_Grown_l2 fu v0 j0) fu (((0:Int),(List.replicate (Int.toNat (IntKind.i64.wrap (v1.1*v0.2.2.1))) (0:Int))))
  else none
 else
 some (((v0.2.1,(v0.2.2.1,v0.2.2.2)),()))
def bitmap_Grown_r (fu:Nat) (a:((Int)×((Int)×(List (Int))))×((Int)×(Unit))):Option (((Int)×((Int)×(List (Int))))×(Unit)) :=
 bif (decide (((List.length a.1.2.2:Int)*(1:Int))≤(140737488355328:Int))) then
 loopF (bitmap_Grown_l1 fu a) fu (((0:Int),(a.1.1,(a.1.2.1,a.1.2.2))))
 else none
def bitmap_Grown_an:An:=(.n none .z (.n none .z (.n none .z (.n none (.n none .z (.n none (.n (some ⟨[4,5,16],[0],[],[.reg 17 (.int .i64),.box 1 [(.int .i64),(.int .i64),(.ro true (.int .u8))] 24],0,[]⟩) (.n none .z (.n none .z (.n none (.n none (.n none .z (.ops [(5,(.n none (.n none .z (.n none (.ops [(2,(.n none (.n none .z (.n none .z .z)) .z))]) (.n none (.n none .z (.n none (.n (some ⟨[6,7,0,2,13],[1,3,4,7],[],[.reg 14 (.int .i64),.row 6 true (.int .u8) 5 0],0,[]⟩) (.n none .z (.n none .z (.n none (.n none (.n none .z (.n none .z (.n none (.n (some ⟨[14,8,17],[],[],[.reg 18 (.int .i64),.row 6 true (.int .u8) 5 0],0,[]⟩) (.n none .z (.n none .z (.n (some ⟨[18],[],[],[.row 6 true (.int .u8) 5 0],0,[]⟩) (.n none (.n none .z (.n (some ⟨[9],[6],[],[.reg 24 .bool],0,[]⟩) (.ops [(3,(.n none (.n none .z (.n none .z .z)) .z))]) (.n none (.ops [(2,(.n none (.dr [] []) .z))]) .z))) .z) .z))) .z) .z))) .z) .z))) .z) .z)) (.n none .z .z)))) .z))])) .z) .z))) .z) .z)) (.n none .z .z)))))
noncomputable def bitmap_Grown_dc:List (Nat×Ctr):=[(60,bitmap_Is_ctr),(69,bitmap_stride_ctr)]
def bitmap_Grown_ctr:Ctr:=⟨(.pair (.ptr (.pair (.int .i64) (.pair (.int .i64) (.list (.int .u8))))) (.pair (.int .i64) .unit)),(.pair (.agg (.pair (.int .i64) (.pair (.int .i64) (.list (.int .u8))))) .unit),bitmap_Grown_r,67⟩
theorem bitmap_Grown_ok:CtrOk Try.prog 67 bitmap_Grown_ctr:=ctr_ok (l:=bitmap_Grown_dc) (f:=12) (an:=bitmap_Grown_an) ⟨bitmap_Is_ok,⟨bitmap_stride_ok,trivial⟩⟩ fun fu x=>by kernel_rfl
def bitmap_Spread_j1 (fu:Nat) (a:((Int)×((Int)×(List (Int))))×((Int)×(Unit))) (v2:Bool):Option (((Int)×((Int)×(List (Int))))×((Int)×(Unit))) :=
 bif v2 then
  some ((((0:Int),((0:Int),([]:List (Int)))),((3:Int),())))
 else
 bindO (bitmap_Grown_r fu (((a.1.1,(a.1.2.1,a.1.2.2)),(a.2.1,())))) fun v3 =>
 some (((v3.1.1,(v3.1.2.1,v3.1.2.2)),((0:Int),())))
def bitmap_Spread_r (fu:Nat) (a:((Int)×((Int)×(List (Int))))×((Int)×(Unit))):Option (((Int)×((Int)×(List (Int))))×((Int)×(Unit))) :=
 bindO (bitmap_Check_r fu (((a.1.1,(a.1.2.1,a.1.2.2)),()))) fun v0 =>
 let v1:Int:=v0.1
 bif (decide (v1≠(0:Int))) then
  some ((((0:Int),((0:Int),([]:List (Int)))),(v1,())))
 else
 joinF (bitmap_Spread_j1 fu a) fun j2 =>
 bif (decide (a.2.1<(0:Int))) then
  j2 (true)
 else
 j2 ((decide ((16:Int)<a.2.1)))
def bitmap_Spread_an:An:=(.n none .z (.n none (.n none .z (.n none .z (.n none (.n none .z .z) .z))) (.n none (.n (some ⟨[1,2,4,5],[0,1],[],[.reg 18 .bool],0,[]⟩) .z (.n none (.n none .z .z) .z)) (.n none .z .z))))
noncomputable def bitmap_Spread_dc:List (Nat×Ctr):=[(38,bitmap_Check_ctr),(67,bitmap_Grown_ctr)]
def bitmap_Spread_ctr:Ctr:=⟨(.pair (.agg (.pair (.int .i64) (.pair (.int .i64) (.list (.int .u8))))) (.pair (.int .i64) .unit)),(.pair (.agg (.pair (.int .i64) (.pair (.int .i64) (.list (.int .u8))))) (.pair (.int .i64) .unit)),bitmap_Spread_r,34⟩
theorem bitmap_Spread_ok:CtrOk Try.prog 34 bitmap_Spread_ctr:=ctr_ok (l:=bitmap_Spread_dc) (f:=12) (an:=bitmap_Spread_an) ⟨bitmap_Check_ok,⟨bitmap_Grown_ok,trivial⟩⟩ fun fu x=>by kernel_rfl
def law_dots_r (fu:Nat) (a:Unit):Option (((Int)×((Int)×(List (Int))))×(Unit)) :=
 some ((((5:Int),((2:Int),((144:Int)::((8:Int)::([]:List (Int)))))),()))
def law_dots_an:An:=(.n none .z (.n none .z .z))
noncomputable def law_dots_dc:List (Nat×Ctr):=[]
def law_dots_ctr:Ctr:=⟨.unit,(.pair (.agg (.pair (.int .i64) (.pair (.int .i64) (.list (.int .u8))))) .unit),law_dots_r,65⟩
theorem law_dots_ok:CtrOk Try.prog 65 law_dots_ctr:=ctr_ok (l:=law_dots_dc) (f:=12) (an:=law_dots_an) trivial fun fu x=>by kernel_rfl
def bitmap_Turned_j5 (fu:Nat) (v5:(Int)×(List (Int))) (j5:((Int)×(List (Int)))→Option (((Int)×((Int)×(List (Int))))×(Unit))) (v6:List (Int)):Option (((Int)×((Int)×(List (Int))))×(Unit)) :=
 j5 (((IntKind.i64.wrap (v5.1+(1:Int))),v6))
def bitmap_Turned_l4 (fu:Nat) (v1:(Int)×((Int)×((Int)×(List (Int))))) (v3:(Int)×(List (Int))) (v4:Int) (j3:((Int)×(List (Int)))→Option (((Int)×((Int)×(List (Int))))×(Unit))) (j5:((Int)×(List (Int)))→Option (((Int)×((Int)×(List (Int))))×(Unit))) (v5:(Int)×(List (Int))):Option (((Int)×((Int)×(List (Int))))×(Unit)) :=
 bif (decide (v5.1<v1.2.2.1)) then
  joinF (bitmap_Turned_j5 fu v5 j5) fun j6 =>
  let v7:Int:=v5.1
  bindO (bitmap_Is_r fu (((v1.2.1,(v1.2.2.1,v1.2.2.2)),(v4,((IntKind.i64.wrap ((IntKind.i64.wrap (v1.2.2.1-(1:Int)))-v7)),()))))) fun v8 =>
  let v9:Bool:=v8.1
  bif v9 then
   bindO (bitmap_stride_r fu ((v1.2.2.1,()))) fun v10 =>
   bif ((decide ((0:Int)≤(IntKind.i64.wrap ((IntKind.i64.wrap (v4*v10.1))+(IntKind.i64.wrap (Int.tdiv v7 (8:Int)))))))&&(decide ((IntKind.i64.wrap ((IntKind.i64.wrap (v4*v10.1))+(IntKind.i64.wrap (Int.tdiv v7 (8:Int)))))<(List.length v5.2:Int)))) then
   bif ((decide ((0:Int)≤(Int.tmod v7 (8:Int))))&&(decide ((Int.tmod v7 (8:Int))≤(8:Int)))) then
   bif ((decide ((0:Int)≤(IntKind.i64.wrap ((IntKind.i64.wrap (v4*v10.1))+(IntKind.i64.wrap (Int.tdiv v7 (8:Int)))))))&&(decide ((IntKind.i64.wrap ((IntKind.i64.wrap (v4*v10.1))+(IntKind.i64.wrap (Int.tdiv v7 (8:Int)))))<(List.length v5.2:Int)))) then
   j6 ((List.set v5.2 (Int.toNat (IntKind.i64.wrap ((IntKind.i64.wrap (v4*v10.1))+(IntKind.i64.wrap (Int.tdiv v7 (8:Int)))))) (bits BinOp.or IntKind.u8 (List.getD v5.2 (Int.toNat (IntKind.i64.wrap ((IntKind.i64.wrap (v4*v10.1))+(IntKind.i64.wrap (Int.tdiv v7 (8:Int)))))) 0) ((128:Int) / 2 ^ (Int.toNat (Int.tmod v7 (8:Int)))))))
   else none
   else none
   else none
  else
  j6 (v5.2)
 else
 j3 (((IntKind.i64.wrap (v3.1+(1:Int))),v5.2))
def bitmap_Turned_l3 (fu:Nat) (v1:(Int)×((Int)×((Int)×(List (Int))))) (j1:((Int)×((Int)×((Int)×(List (Int)))))→Option (((Int)×((Int)×(List (Int))))×(Unit))) (j3:((Int)×(List (Int)))→Option (((Int)×((Int)×(List (Int))))×(Unit))) (v3:(Int)×(List (Int))):Option (((Int)×((Int)×(List (Int))))×(Unit)) :=
 bif (decide (v3.1<v1.2.1)) then
  let v4:Int:=v3.1
  loopF (bitmap_Turned_l4 fu v1 v3 v4 j3) fu (((0:Int),v3.2))
 else
 j1 (((IntKind.i64.wrap (v1.1+(1:Int))),(v1.2.2.1,(v1.2.1,v3.2))))
def bitmap_Turned_l2 (fu:Nat) (a:((Int)×((Int)×(List (Int))))×((Int)×(Unit))) (j1:((Int)×((Int)×((Int)×(List (Int)))))→Option (((Int)×((Int)×(List (Int))))×(Unit))) (v1:(Int)×((Int)×((Int)×(List (Int))))):Option (((Int)×((Int)×(List (Int))))×(Unit)) :=
 bif (decide (v1.1<(Int.tmod a.2.1 (4:Int)))) then
  bindO (bitmap_stride_r fu ((v1.2.2.1,()))) fun v2 =>
  bif ((decide ((0:Int)≤(IntKind.i64.wrap (v2.1*v1.2.1))))&&(decide (((1:Int)*(IntKind.i64.wrap (v2.1*v1.2.1)))≤(281474976710656:Int)))) then
  loopF (bitmap_Turned_l3 fu v1 j1) fu (((0:Int),(List.replicate (Int.toNat (IntKind.i64.wrap (v2.1*v1.2.1))) (0:Int))))
  else none
 else
 some (((v1.2.1,(v1.2.2.1,v1.2.2.2)),()))
def bitmap_Turned_j1 (fu:Nat) (a:((Int)×((Int)×(List (Int))))×((Int)×(Unit))) (v0:(Int)×((Int)×(List (Int)))):Option (((Int)×((Int)×(List (Int))))×(Unit)) :=
 loopF (bitmap_Turned_l2 fu a) fu (((0:Int),(v0.1,(v0.2.1,v0.2.2))))
def bitmap_Turned_j8 (fu:Nat) (v4:(Int)×(List (Int))) (j4:((Int)×(List (Int)))→Option (((Int)×((Int)×(List (Int))))×(Unit))) (v5:List (Int)):Option (((Int)×((Int)×(List (Int))))×(Unit)) :=
 j4 (((IntKind.i64.wrap (v4.1+(1:Int))),v5))
def bitmap_Turned_l7 (fu:Nat) (a:((Int)×((Int)×(List (Int))))×((Int)×(Unit))) (v2:(Int)×(List (Int))) (v3:Int) (j2:((Int)×(List (Int)))→Option (((Int)×((Int)×(List (Int))))×(Unit))) (j4:((Int)×(List (Int)))→Option (((Int)×((Int)×(List (Int))))×(Unit))) (v4:(Int)×(List (Int))):Option (((Int)×((Int)×(List (Int))))×(Unit)) :=
 bif (decide (v4.1<a.1.1)) then
  joinF (bitmap_Turned_j8 fu v4 j4) fun j5 =>
  let v6:Int:=v4.1
  bindO (bitmap_Is_r fu ((a.1,((IntKind.i64.wrap ((IntKind.i64.wrap (a.1.1-(1:Int)))-v6)),(v3,()))))) fun v7 =>
  let v8:Bool:=v7.1
  bif v8 then
   bindO (bitmap_stride_r fu ((a.1.1,()))) fun v9 =>
   bif ((decide ((0:Int)≤(IntKind.i64.wrap ((IntKind.i64.wrap (v3*v9.1))+(IntKind.i64.wrap (Int.tdiv v6 (8:Int)))))))&&(decide ((IntKind.i64.wrap ((IntKind.i64.wrap (v3*v9.1))+(IntKind.i64.wrap (Int.tdiv v6 (8:Int)))))<(List.length v4.2:Int)))) then
   bif ((decide ((0:Int)≤(Int.tmod v6 (8:Int))))&&(decide ((Int.tmod v6 (8:Int))≤(8:Int)))) then
   bif ((decide ((0:Int)≤(IntKind.i64.wrap ((IntKind.i64.wrap (v3*v9.1))+(IntKind.i64.wrap (Int.tdiv v6 (8:Int)))))))&&(decide ((IntKind.i64.wrap ((IntKind.i64.wrap (v3*v9.1))+(IntKind.i64.wrap (Int.tdiv v6 (8:Int)))))<(List.length v4.2:Int)))) then
   j5 ((List.set v4.2 (Int.toNat (IntKind.i64.wrap ((IntKind.i64.wrap (v3*v9.1))+(IntKind.i64.wrap (Int.tdiv v6 (8:Int)))))) (bits BinOp.or IntKind.u8 (List.getD v4.2 (Int.toNat (IntKind.i64.wrap ((IntKind.i64.wrap (v3*v9.1))+(IntKind.i64.wrap (Int.tdiv v6 (8:Int)))))) 0) ((128:Int) / 2 ^ (Int.toNat (Int.tmod v6 (8:Int)))))))
   else none
   else none
   else none
  else
  j5 (v4.2)
 else
 j2 (((IntKind.i64.wrap (v2.1+(1:Int))),v4.2))
def bitmap_Turned_l6 (fu:Nat) (a:((Int)×((Int)×(List (Int))))×((Int)×(Unit))) (j0:((Int)×((Int)×(List (Int))))→Option (((Int)×((Int)×(List (Int))))×(Unit))) (j2:((Int)×(List (Int)))→Option (((Int)×((Int)×(List (Int))))×(Unit))) (v2:(Int)×(List (Int))):Option (((Int)×((Int)×(List (Int))))×(Unit)) :=
 bif (decide (v2.1<a.1.2.1)) then
  let v3:Int:=v2.1
  loopF (bitmap_Turned_l7 fu a v2 v3 j2) fu (((0:Int),v2.2))
 else
 j0 ((a.1.1,(a.1.2.1,v2.2)))
def bitmap_Turned_r (fu:Nat) (a:((Int)×((Int)×(List (Int))))×((Int)×(Unit))):Option (((Int)×((Int)×(List (Int))))×(Unit)) :=
 bif (decide (((List.length a.1.2.2:Int)*(1:Int))≤(140737488355328:Int))) then
 joinF (bitmap_Turned_j1 fu a) fun j0 =>
 bif (decide ((4:Int)≤a.2.1)) then
  bindO (bitmap_stride_r fu ((a.1.1,()))) fun v1 =>
  bif ((decide ((0:Int)≤(IntKind.i64.wrap (v1.1*a.1.2.1))))&&(decide (((1:Int)*(IntKind.i64.wrap (v1.1*a.1.2.1)))≤(281474976710656:Int)))) then
  loopF (bitmap_Turned_l6 fu a j0) fu (((0:Int),(List.replicate (Int.toNat (IntKind.i64.wrap (v1.1*a.1.2.1))) (0:Int))))
  else none
 else
 j0 ((a.1.1,(a.1.2.1,a.1.2.2)))
 else none
def bitmap_Turned_an:An:=(.n none .z (.n none .z (.n none .z (.n (some ⟨[1,4,5],[0,1],[],[.box 2 [(.int .i64),(.int .i64),(.ro true (.int .u8))] 24],0,[]⟩) (.n none .z (.n none (.dr [] [(9,(.n none (.n none .z (.n none (.ops [(2,(.n none (.n none .z (.n none .z .z)) .z))]) (.n none (.n none .z (.n none (.n (some ⟨[6,7,0,2,13],[3,2,4,7],[],[.reg 14 (.int .i64),.row 6 true (.int .u8) 5 0],0,[]⟩) (.n none .z (.n none .z (.n none (.n none (.n none .z (.n none .z (.n none (.n (some ⟨[14,8,17],[],[],[.reg 18 (.int .i64),.row 6 true (.int .u8) 5 0],0,[]⟩) (.n none .z (.n none .z (.n (some ⟨[18],[],[],[.row 6 true (.int .u8) 5 0],0,[]⟩) (.n none (.n none .z (.n none (.ops [(3,(.n none (.n none .z (.n none (.dr [] []) .z)) .z))]) (.n none (.ops [(2,(.n none (.dr [] []) .z))]) .z))) .z) .z))) .z) .z))) .z) .z))) .z) .z)) (.n none .z .z)))) .z))]) .z)) (.n none (.n none .z (.n none (.n (some ⟨[29],[],[],[.reg 30 (.int .i64),.box 2 [(.int .i64),(.int .i64),(.ro true (.int .u8))] 24],0,[]⟩) (.n none .z (.n none .z (.n none (.n none (.n none .z (.ops [(5,(.n none (.n none .z (.n none (.ops [(2,(.n none (.n none .z (.n none .z .z)) .z))]) (.n none (.n none .z (.n none (.n (some ⟨[6,7,0,2,13],[2,4,5,8],[],[.reg 14 (.int .i64),.row 7 true (.int .u8) 5 0],0,[]⟩) (.n none .z (.n none .z (.n none (.n none (.n none .z (.n none .z (.n none (.n (some ⟨[14,8,17],[],[],[.reg 18 (.int .i64),.row 7 true (.int .u8) 5 0],0,[]⟩) (.n none .z (.n none .z (.n (some ⟨[18],[],[],[.row 7 true (.int .u8) 5 0],0,[]⟩) (.n none (.n none .z (.n none (.ops [(3,(.n none (.n none .z (.n none .z .z)) .z))]) (.n none (.ops [(2,(.n none (.dr [] []) .z))]) .z))) .z) .z))) .z) .z))) .z) .z))) .z) .z)) (.n none .z .z)))) .z))])) .z) .z))) .z) .z)) (.n none .z .z))))))
noncomputable def bitmap_Turned_dc:List (Nat×Ctr):=[(60,bitmap_Is_ctr),(69,bitmap_stride_ctr)]
def bitmap_Turned_ctr:Ctr:=⟨(.pair (.ptr (.pair (.int .i64) (.pair (.int .i64) (.list (.int .u8))))) (.pair (.int .i64) .unit)),(.pair (.agg (.pair (.int .i64) (.pair (.int .i64) (.list (.int .u8))))) .unit),bitmap_Turned_r,68⟩
theorem bitmap_Turned_ok:CtrOk Try.prog 68 bitmap_Turned_ctr:=ctr_ok (l:=bitmap_Turned_dc) (f:=12) (an:=bitmap_Turned_an) ⟨bitmap_Is_ok,⟨bitmap_stride_ok,trivial⟩⟩ fun fu x=>by kernel_rfl
def bitmap_Turn_j1 (fu:Nat) (a:((Int)×((Int)×(List (Int))))×((Int)×(Unit))) (v2:Bool):Option (((Int)×((Int)×(List (Int))))×((Int)×(Unit))) :=
 bif v2 then
  some ((((0:Int),((0:Int),([]:List (Int)))),((3:Int),())))
 else
 bindO (bitmap_Turned_r fu (((a.1.1,(a.1.2.1,a.1.2.2)),(a.2.1,())))) fun v3 =>
 some (((v3.1.1,(v3.1.2.1,v3.1.2.2)),((0:Int),())))
def bitmap_Turn_r (fu:Nat) (a:((Int)×((Int)×(List (Int))))×((Int)×(Unit))):Option (((Int)×((Int)×(List (Int))))×((Int)×(Unit))) :=
 bindO (bitmap_Check_r fu (((a.1.1,(a.1.2.1,a.1.2.2)),()))) fun v0 =>
 let v1:Int:=v0.1
 bif (decide (v1≠(0:Int))) then
  some ((((0:Int),((0:Int),([]:List (Int)))),(v1,())))
 else
 joinF (bitmap_Turn_j1 fu a) fun j2 =>
 bif (decide (a.2.1<(0:Int))) then
  j2 (true)
 else
 j2 ((decide ((7:Int)<a.2.1)))
def bitmap_Turn_an:An:=(.n none .z (.n none (.n none .z (.n none .z (.n none (.n none .z .z) .z))) (.n none (.n (some ⟨[1,2,4,5],[0,1],[],[.reg 18 .bool],0,[]⟩) .z (.n none (.n none .z .z) .z)) (.n none .z .z))))
noncomputable def bitmap_Turn_dc:List (Nat×Ctr):=[(38,bitmap_Check_ctr),(68,bitmap_Turned_ctr)]
def bitmap_Turn_ctr:Ctr:=⟨(.pair (.agg (.pair (.int .i64) (.pair (.int .i64) (.list (.int .u8))))) (.pair (.int .i64) .unit)),(.pair (.agg (.pair (.int .i64) (.pair (.int .i64) (.list (.int .u8))))) (.pair (.int .i64) .unit)),bitmap_Turn_r,35⟩
theorem bitmap_Turn_ok:CtrOk Try.prog 35 bitmap_Turn_ctr:=ctr_ok (l:=bitmap_Turn_dc) (f:=12) (an:=bitmap_Turn_an) ⟨bitmap_Check_ok,⟨bitmap_Turned_ok,trivial⟩⟩ fun fu x=>by kernel_rfl
def R_Drawn_j2 (fu:Nat) (v1:(Int)×(List (Int))) (j1:((Int)×(List (Int)))→Option (((Int)×((Int)×(List (Int))))×(Unit))) (v2:List (Int)):Option (((Int)×((Int)×(List (Int))))×(Unit)) :=
 j1 (((IntKind.i64.wrap (v1.1+(1:Int))),v2))
def R_Drawn_l1 (fu:Nat) (a:(Int)×((Int)×((List (Bool))×(Unit)))) (v0:Int) (j1:((Int)×(List (Int)))→Option (((Int)×((Int)×(List (Int))))×(Unit))) (v1:(Int)×(List (Int))):Option (((Int)×((Int)×(List (Int))))×(Unit)) :=
 bif (decide (v1.1<(List.length a.2.2.1:Int))) then
  joinF (R_Drawn_j2 fu v1 j1) fun j2 =>
  bif ((decide ((0:Int)≤v1.1))&&(decide (v1.1<(List.length a.2.2.1:Int)))) then
  let v3:Bool:=(List.getD a.2.2.1 (Int.toNat v1.1) false)
  let v4:Int:=v1.1
  bif v3 then
   bif (decide (a.1≠(0:Int))) then
   bif (decide (a.1≠(0:Int))) then
   bif ((decide ((0:Int)≤(IntKind.i64.wrap ((IntKind.i64.wrap ((IntKind.i64.wrap (Int.tdiv v4 a.1))*v0))+(IntKind.i64.wrap (Int.tdiv (Int.tmod v4 a.1) (8:Int)))))))&&(decide ((IntKind.i64.wrap ((IntKind.i64.wrap ((IntKind.i64.wrap (Int.tdiv v4 a.1))*v0))+(IntKind.i64.wrap (Int.tdiv (Int.tmod v4 a.1) (8:Int)))))<(List.length v1.2:Int)))) then
   bif (decide (a.1≠(0:Int))) then
   bif ((decide ((0:Int)≤(Int.tmod (Int.tmod v4 a.1) (8:Int))))&&(decide ((Int.tmod (Int.tmod v4 a.1) (8:Int))≤(8:Int)))) then
   bif ((decide ((0:Int)≤(IntKind.i64.wrap ((IntKind.i64.wrap ((IntKind.i64.wrap (Int.tdiv v4 a.1))*v0))+(IntKind.i64.wrap (Int.tdiv (Int.tmod v4 a.1) (8:Int)))))))&&(decide ((IntKind.i64.wrap ((IntKind.i64.wrap ((IntKind.i64.wrap (Int.tdiv v4 a.1))*v0))+(IntKind.i64.wrap (Int.tdiv (Int.tmod v4 a.1) (8:Int)))))<(List.length v1.2:Int)))) then
   j2 ((List.set v1.2 (Int.toNat (IntKind.i64.wrap ((IntKind.i64.wrap ((IntKind.i64.wrap (Int.tdiv v4 a.1))*v0))+(IntKind.i64.wrap (Int.tdiv (Int.tmod v4 a.1) (8:Int)))))) (bits BinOp.or IntKind.u8 (List.getD v1.2 (Int.toNat (IntKind.i64.wrap ((IntKind.i64.wrap ((IntKind.i64.wrap (Int.tdiv v4 a.1))*v0))+(IntKind.i64.wrap (Int.tdiv (Int.tmod v4 a.1) (8:Int)))))) 0) ((128:Int) / 2 ^ (Int.toNat (Int.tmod (Int.tmod v4 a.1) (8:Int)))))))
   else none
   else none
   else none
   else none
   else none
   else none
  else
  j2 (v1.2)
  else none
 else
 some (((a.1,(a.2.1,v1.2)),()))
def R_Drawn_r (fu:Nat) (a:(Int)×((Int)×((List (Bool))×(Unit)))):Option (((Int)×((Int)×(List (Int))))×(Unit)) :=
 let v0:Int:=(IntKind.i64.wrap (Int.tdiv (IntKind.i64.wrap (a.1+(7:Int))) (8:Int)))
 bif ((decide ((0:Int)≤(IntKind.i64.wrap (v0*a.2.1))))&&(decide (((1:Int)*(IntKind.i64.wrap (v0*a.2.1)))≤(281474976710656:Int)))) then
 loopF (R_Drawn_l1 fu a v0) fu (((0:Int),(List.replicate (Int.toNat (IntKind.i64.wrap (v0*a.2.1))) (0:Int))))
 else none
def R_Drawn_an:An:=(.n none .z (.n none .z (.n none .z (.n none (.n none .z (.n none (.n (some ⟨[6,8,21,0,7,22],[0,2],[],[.reg 23 (.int .i64),.row 1 true (.int .u8) 5 0],0,[]⟩) (.n none .z (.n none .z (.n (some ⟨[23],[],[],[.row 1 true (.int .u8) 5 0],0,[]⟩) (.n none (.n none .z (.n none .z (.n none (.dr [] []) .z))) .z) .z))) .z) .z)) (.n none .z .z)))))
noncomputable def R_Drawn_dc:List (Nat×Ctr):=[]
def R_Drawn_ctr:Ctr:=⟨(.pair (.int .i64) (.pair (.int .i64) (.pair (.list .bool) .unit))),(.pair (.agg (.pair (.int .i64) (.pair (.int .i64) (.list (.int .u8))))) .unit),R_Drawn_r,20⟩
theorem R_Drawn_ok:CtrOk Try.prog 20 R_Drawn_ctr:=ctr_ok (l:=R_Drawn_dc) (f:=12) (an:=R_Drawn_an) trivial fun fu x=>by kernel_rfl
end Go.Proofs.Ytnbmldnahacnlaa
/- Plain facts for residual programs. No program in sight. -/
namespace Go.Proofs.Ytnbmldnahacnlaa
open Go Go.RowKit
theorem loopF_spec {α β:Type} {f:(α→Option β)→α→Option β} (μ:α→Nat) (I:α→Prop) (S:α→Option β) (h:∀ j x,I x→(∀ x',I x'→μ x'<μ x→j x'=S x')→f j x=S x):∀ (fu:Nat) (x:α),I x→μ x<fu→loopF f fu x=S x
 | 0,_,_,h0=>absurd h0 (Nat.not_lt_zero _)
 | fu+1,x,hI,hm=>by
  rw [loopF];exact h _ x hI fun x' h1 h2=>loopF_spec μ I S h fu x' h1 (by omega)
theorem bif_pos {α:Type} {p:Prop} [Decidable p] {a b:α} (h:p):(bif decide p then a else b)=a:=by rw [decide_eq_true h];rfl
theorem bif_neg {α:Type} {p:Prop} [Decidable p] {a b:α} (h:¬ p):(bif decide p then a else b)=b:=by rw [decide_eq_false h];rfl
theorem bif_and {α:Type} {p q:Prop} [Decidable p] [Decidable q] {a b:α} (h:p) (k:q):(bif decide p&&decide q then a else b)=a:=by rw [decide_eq_true h,decide_eq_true k];rfl
theorem joinF_eq {α β:Type} (J:α→Option β) (b:(α→Option β)→Option β):joinF J b=b J:=rfl
theorem bindO_some {α β:Type} (x:α) (k:α→Option β):bindO (some x) k=k x:=rfl
def FU:Nat:=18446744073709551616
def allFrom (p:Nat→Bool) (n i:Nat):Bool:=(List.range' i (n-i)).all p
theorem allFrom_lt {p:Nat→Bool} {n i:Nat} (h:i<n):allFrom p n i=(p i&&allFrom p n (i+1)):=by
 unfold allFrom;rw [show n-i=(n-(i+1))+1 by omega,List.range'_succ,List.all_cons]
theorem allFrom_ge {p:Nat→Bool} {n i:Nat} (h:n≤i):allFrom p n i=true:=by
 unfold allFrom;rw [show n-i=0 by omega];rfl
theorem allFrom_zero (p:Nat→Bool) (n:Nat):allFrom p n 0=(List.range n).all p:=by
 unfold allFrom;rw [Nat.sub_zero,List.range_eq_range']
end Go.Proofs.Ytnbmldnahacnlaa
/- Plain facts on whole numbers: rounding,floor division. No program in sight. -/
namespace Go.Proofs.Ytnbmldnahacnlaa

end Go.Proofs.Ytnbmldnahacnlaa
/- Bits of bytes,bitmaps as lists of bytes. No program in sight. -/
namespace Go.Proofs.Ytnbmldnahacnlaa
open Go Go.RowKit

def bitAt (v:Int) (j:Nat):Bool:=v / 2 ^ (7-j) % 2==1
theorem fin_byte {p:Int→Prop} (h:∀ v:Fin 256,p (v.val:Int)) {v:Int} (h0:0≤v) (h1:v≤255):p v:=by
 have:=h ⟨v.toNat,by omega⟩;rwa [show ((⟨v.toNat,by omega⟩:Fin 256).val:Int)=v from Int.toNat_of_nonneg h0] at this
theorem and_mask {v:Int} (h0:0≤v) (h1:v≤255) {k:Nat} (hk:k<8):bits .and .u8 v (128 / 2 ^ k)=(if bitAt v k=true then 128 / 2 ^ k else 0) :=
 fin_byte (p:=fun v=>∀ k:Fin 8,bits .and .u8 v (128 / 2 ^ k.val)=(if bitAt v k.val=true then 128 / 2 ^ k.val else 0)) (by decide +kernel) h0 h1 ⟨k,hk⟩
theorem mask_ne {k:Nat} (hk:k<8):(128:Int) / 2 ^ k≠0:=(show ∀ k:Fin 8,(128:Int) / 2 ^ k.val≠0 by decide) ⟨k,hk⟩
def lowOk (v:Int) (u:Nat):Bool:=v % 2 ^ u==0
theorem and_low {v:Int} (h0:0≤v) (h1:v≤255) {u:Nat} (hu:u<8):bits .and .u8 v (2 ^ u-1)=v % 2 ^ u :=
 fin_byte (p:=fun v=>∀ u:Fin 8,bits .and .u8 v (2 ^ u.val-1)=v % 2 ^ u.val) (by decide +kernel) h0 h1 ⟨u,hu⟩
theorem low_bits {v:Int} (h0:0≤v) (h1:v≤255) {u:Nat} (hu:u<8):lowOk v u=true↔∀ k,k<8→8-u≤k→bitAt v k=false:=by
 have h:=fin_byte (p:=fun v=>∀ u:Fin 8,lowOk v u.val=true↔∀ k:Fin 8,8-u.val≤k.val→bitAt v k.val=false) (by decide +kernel) h0 h1 ⟨u,hu⟩;exact h.trans ⟨fun g k hk hu=>g ⟨k,hk⟩ hu,fun g k hu=>g k.val k.isLt hu⟩
theorem wrap_pow {u:Nat} (hu:u<8):IntKind.wrap .u8 (IntKind.wrap .u8 (1*2 ^ u)-1)=2 ^ u-1:=(show ∀ u:Fin 8,IntKind.wrap .u8 (IntKind.wrap .u8 (1*2 ^ u.val)-1)=2 ^ u.val-1 by decide +kernel) ⟨u,hu⟩
def Bytes (ds:List Int):Prop:=∀ d ∈ ds,0≤d∧d≤255
def strideN (w:Nat):Nat:=(w+7) / 8
def tailOk (w h:Nat) (ds:List Int):Bool:=(List.range h).all fun y=>lowOk (ds.getD (y*strideN w+strideN w-1) 0) (8*strideN w-w)
def bitsE (w h:Int) (ds:List Int):Int:=if 1≤w∧w≤1024∧1≤h∧h≤1024 then (if ds.length=strideN w.toNat*h.toNat then (if tailOk w.toNat h.toNat ds=true then 0 else 4) else 4) else 3
end Go.Proofs.Ytnbmldnahacnlaa
/- Strips: what the small functions compute. -/
namespace Go.Proofs.Ytnbmldnahacnlaa
open Go Go.RowKit

theorem within_r (fu:Nat) (x lo hi:Int):R_Within_r fu (x,(lo,(hi,())))=some (decide (lo≤x)&&decide (x≤hi),()):=by
 unfold R_Within_r;by_cases h:lo≤x
 ·rw [bif_pos h,decide_eq_true h];rfl
 ·rw [bif_neg h,decide_eq_false h];rfl
def strd (w:Int):Int:=(w+7) / 8
theorem stride_r (fu:Nat) {w:Int} (h0:0≤w) (h1:w≤1000000):bitmap_stride_r fu (w,())=some (strd w,()):=by
 unfold bitmap_stride_r strd;simp only;rw [wr64 (x:=w+7) (by omega) (by omega),Int.tdiv_eq_ediv_of_nonneg (by omega),wr64 (x:=(w+7) / 8) (by omega) (by omega)]
theorem strd_N {w:Int} (h0:0≤w):strd w=(strideN w.toNat:Int):=by
 unfold strd strideN;omega
def pixB (w h:Int) (ds:List Int) (x y:Int):Bool:=decide (0≤x∧x<w∧0≤y∧y<h)&&bitAt (ds.getD (y*strd w+x / 8).toNat 0) (x % 8).toNat
theorem at_ok {w h:Int} (hw:0≤w) {x y:Int} {l:Nat} (hx0:0≤x) (hx1:x<w) (hy0:0≤y) (hy1:y<h) (hl:(l:Int)=strd w*h):0≤y*strd w∧0≤y*strd w+x / 8∧y*strd w+x / 8<l:=by
 have h1:x / 8<strd w:=by unfold strd;omega
 have h2:y*strd w≤(h-1)*strd w:=Int.mul_le_mul_of_nonneg_right (by omega) (by unfold strd;omega);have h3:(h-1)*strd w=strd w*h-strd w:=by rw [Int.sub_mul,Int.one_mul,Int.mul_comm]
 have h4:0≤y*strd w:=Int.mul_nonneg hy0 (by unfold strd;omega);omega
theorem Bytes.at {ds:List Int} (h:Bytes ds) (i:Nat):0≤ds.getD i 0∧ds.getD i 0≤255:=by
 rw [List.getD_eq_getElem?_getD]
 cases e:ds[i]? with
 | none=>simp
 | some d=>exact h d (List.mem_of_getElem? e)
theorem is_r (fu:Nat) {w h:Int} {ds:List Int} (hw0:0≤w) (hw1:w≤1024) (hh:h≤1024) (hl:(ds.length:Int)=strd w*h) (hb:Bytes ds) (x y:Int):bitmap_Is_r fu ((w,(h,ds)),(x,(y,())))=some (pixB w h ds x y,()):=by
 unfold bitmap_Is_r pixB;simp only;by_cases h1:0≤x
 ·rw [bif_pos h1];by_cases h2:x<w
  ·rw [bif_pos h2];by_cases h3:0≤y
   ·rw [bif_pos h3];by_cases h4:y<h
    ·rw [bif_pos h4,stride_r fu hw0 (by omega)];simp only [bindO_some];obtain ⟨g0,g1,g2⟩:=at_ok hw0 h1 h2 h3 h4 hl
     have hs:strd w*h≤128*1024:=by
      have a1:strd w≤128:=by unfold strd;omega
      have a2:0≤strd w:=by unfold strd;omega
      have:=Int.mul_le_mul a1 hh (by omega:0≤h) (by omega:(0:Int)≤128);omega
     rw [Int.tdiv_eq_ediv_of_nonneg h1,Int.tmod_eq_emod_of_nonneg h1,wr64 (x:=x / 8) (by omega) (by omega),wr64 (x:=y*strd w) (by omega) (by omega),wr64 (x:=y*strd w+x / 8) (by omega) (by omega)];rw [bif_and g1 g2,bif_and (by omega) (by omega),and_mask (hb.at _).1 (hb.at _).2 (by omega)];rw [decide_eq_true (show 0≤x∧x<w∧0≤y∧y<h from ⟨h1,h2,h3,h4⟩),Bool.true_and];have:=mask_ne (k:=(x % 8).toNat) (by omega)
     cases bitAt (ds.getD (y*strd w+x / 8).toNat 0) (x % 8).toNat with
     | true=>rw [if_pos rfl,decide_eq_true this]
     | false=>rw [if_neg (by simp)];rfl
    ·rw [bif_neg h4,decide_eq_false (by omega)];rfl
   ·rw [bif_neg h3,decide_eq_false (by omega)];rfl
  ·rw [bif_neg h2,decide_eq_false (by omega)];rfl
 ·rw [bif_neg h1,decide_eq_false (by omega)];rfl
end Go.Proofs.Ytnbmldnahacnlaa
/- bitmap.Runs: what a bitmap in memory is;bitmap.Is as the walks take it;bitmap.Row. -/
namespace Go.Proofs.Ytnbmldnahacnlaa
open Go Go.RowKit Go.Shelf
attribute [local go_sem] Oper.semAt_some

structure Pic (w h:Int) (ds:List Int) (Bb n0:Nat) (W:World):Prop where
 c0:W.cell? ⟨Bb,0,none⟩=some (.int .i64 w)
 c1:W.cell? ⟨Bb,1,none⟩=some (.int .i64 h)
 sl:∃ A c,W.cell? ⟨Bb,2,none⟩=some (.slice A ds.length c)∧ds.length≤c∧c≤maxLen∧(∀ i,i<ds.length→A≠none) ∧
  ∀ (i:Nat) (v:Int),ds[i]?=some v→∃ b o,A=some ⟨b,o,none⟩∧b<n0∧W.cell? ⟨b,o+i,none⟩=some (.int .u8 v)
section
variable {w h:Int} {ds:List Int} {Bb n0:Nat} {W W':World}
theorem Pic.kept {row:Option Nat} (p:Pic w h ds Bb n0 W) (hg:W.grownBy W' row) (hr:∀ r,row=some r→∃ o:Obj,W.heap[r]?=some o∧o.isCells=false):Pic w h ds Bb n0 W':=by
 obtain ⟨A,c,h1,h2,h3,h4,h5⟩:=p.sl;refine ⟨Go.cell_kept p.c0 hg hr,Go.cell_kept p.c1 hg hr,A,c,Go.cell_kept h1 hg hr,h2,h3,h4,fun i v hv=>?_⟩;obtain ⟨b,o,e1,e0,e2⟩:=h5 i v hv;exact ⟨b,o,e1,e0,Go.cell_kept e2 hg hr⟩
theorem grown_of_below (hb:Below W.heap.size W W'):W.grownBy W' none:=⟨hb.os,hb.tape,hb.output,hb.size,fun k hk _=>hb.block k hk⟩
def Kp3 (n0 Bb B1 B2:Nat) (A B:World):Prop:=Below n0 A B∧∀ b,(b=Bb∨b=B1∨b=B2)→B.heap[b]?=A.heap[b]?
theorem Pic.keep3 {B1 B2:Nat} (p:Pic w h ds Bb n0 W) (hk:Kp3 n0 Bb B1 B2 W W'):Pic w h ds Bb n0 W':=by
 obtain ⟨A,c,h1,h2,h3,h4,h5⟩:=p.sl;have e:=hk.2 Bb (.inl rfl);refine ⟨(World.cell?_of_block (a:=⟨Bb,0,none⟩) e).trans p.c0,(World.cell?_of_block (a:=⟨Bb,1,none⟩) e).trans p.c1,A,c,(World.cell?_of_block (a:=⟨Bb,2,none⟩) e).trans h1,h2,h3,h4,fun i v hv=>?_⟩;obtain ⟨b,o,e1,e0,e2⟩:=h5 i v hv;exact ⟨b,o,e1,e0,(hk.1.cell (p:=⟨b,o+i,none⟩) e0).trans e2⟩
theorem keepIs {b:Nat} {v:Value} (hk:W.cell? ⟨b,0,none⟩=some v) (hb:Below W.heap.size W W'):W'.cell? ⟨b,0,none⟩=some v:=Go.cell_kept hk (grown_of_below hb) (fun r e=>by cases e)
theorem keepIs1 {b o:Nat} {v:Value} (hk:W.cell? ⟨b,o,none⟩=some v) (hb:Below W.heap.size W W'):W'.cell? ⟨b,o,none⟩=some v:=Go.cell_kept hk (grown_of_below hb) (fun r e=>by cases e)
theorem Pic.is (p:Pic w h ds Bb n0 W) (hb:Below W.heap.size W W'):Pic w h ds Bb n0 W':=p.kept (grown_of_below hb) (fun r e=>by cases e)
theorem Pic.rel (p:Pic w h ds Bb n0 W):RelV W (Gh.none W.heap.size) (.peek (Ty.cells false (.pair (.int .i64) (.pair (.int .i64) (.list (.int .u8)))) (w,(h,ds))) 0) (.pointer (some ⟨Bb,0,none⟩)):=by
 obtain ⟨A,c,h1,h2,h3,h4,h5⟩:=p.sl
 have hro:RelD W (Gh.none W.heap.size).own (Gh.none W.heap.size).bs (.ro false 1 (ds.map (Ty.cells false (.int .u8)))) (.slice A ds.length c):=by
  have hl:(ds.map (Ty.cells false (.int .u8))).length=ds.length:=List.length_map ..;have hr:=RelD.ro (w:=W) (own:=(Gh.none W.heap.size).own) (bs:=(Gh.none W.heap.size).bs) false 1 (ds.map (Ty.cells false (.int .u8))) A c (fun i _=>.int .u8 (ds.getD i 0)) (by rw [hl];exact h2) h3 (fun i hi=>h4 i (by rw [hl] at hi;exact hi)) (fun i row j a g1 g2=>?_) (fun i row j a g1 g2=>?_)
  ·rw [hl] at hr;exact hr
  ·rw [List.getElem?_map] at g1;obtain ⟨v,hv,e⟩:=Option.map_eq_some_iff.1 g1;subst e;rw [Ty.cells] at g2
   cases j with
   | succ j=>simp at g2
   | zero =>
    obtain ⟨b,o,e1,_,e2⟩:=h5 i v hv;refine ⟨b,o,e1,fun h=>h,(fun e=>by cases e),?_⟩;rw [Nat.mul_one,Nat.add_zero,e2,List.getD_eq_getElem?_getD,hv];rfl
  ·rw [List.getElem?_map] at g1;obtain ⟨v,hv,e⟩:=Option.map_eq_some_iff.1 g1;subst e;rw [Ty.cells] at g2
   cases j with
   | succ j=>simp at g2
   | zero =>
    simp only [List.getElem?_cons_zero,Option.some.injEq] at g2;subst g2;rw [List.getD_eq_getElem?_getD,hv];exact .int .u8 v
 have ec:Ty.cells false (.pair (.int .i64) (.pair (.int .i64) (.list (.int .u8)))) (w,(h,ds))=[.int .i64 w,.int .i64 h,.ro false 1 (ds.map (Ty.cells false (.int .u8)))]:=by
  simp only [Ty.cells,Ty.size,List.cons_append,List.nil_append]
 rw [ec];refine .peek _ 0 Bb 0 (fun t=>match t with | 0=>.int .i64 w | 1=>.int .i64 h | _=>.slice A ds.length c) (by simp) (fun h=>h) (fun t a g=>?_) (fun t a g=>?_)
 ·match t,g with
  | 0,_=>exact p.c0
  | 1,_=>exact p.c1
  | 2,_=>exact h1
  | t+3,g=>simp at g
 ·match t,g with
  | 0,g=>simp at g;subst g;exact .int .i64 w
  | 1,g=>simp at g;subst g;exact .int .i64 h
  | 2,g=>simp at g;subst g;exact hro
  | t+3,g=>simp at g
theorem is_calls (p:Pic w h ds Bb n0 W) (hw0:0≤w) (hw1:w≤1024) (hh:h≤1024) (hl:(ds.length:Int)=strd w*h) (hb:Bytes ds) (x y:Int) :
  Calls Try.prog 60 #[.pointer (some ⟨Bb,0,none⟩),.int .i64 x,.int .i64 y] W fun e W'=>e=.returned (.bool (pixB w h ds x y))∧Below W.heap.size W W':=by
 have hA:=bitmap_Is_ok FU ((w,(h,ds)),(x,(y,()))) (pixB w h ds x y,()) (is_r FU hw0 hw1 hh hl hb x y);refine (hA.out W #[.pointer (some ⟨Bb,0,none⟩),.int .i64 x,.int .i64 y] ⟨rfl,fun i a v ha hv=>?_⟩).mono ?_
 ·match i,ha,hv with
  | 0,ha,hv =>
   have ha:some (AV.peek (Ty.cells false (.pair (.int .i64) (.pair (.int .i64) (.list (.int .u8)))) (w,(h,ds))) 0)=some a:=ha;have hv:some (Value.pointer (some ⟨Bb,0,none⟩))=some v:=hv;injection ha with ha
   injection hv with hv
   subst ha;subst hv
   exact p.rel
  | 1,ha,hv =>
   have ha:some (AV.int .i64 x)=some a:=ha;have hv:some (Value.int .i64 x)=some v:=hv;injection ha with ha
   injection hv with hv
   subst ha;subst hv
   exact rI _ _ _ _
  | 2,ha,hv =>
   have ha:some (AV.int .i64 y)=some a:=ha;have hv:some (Value.int .i64 y)=some v:=hv;injection ha with ha
   injection hv with hv
   subst ha;subst hv
   exact rI _ _ _ _
  | i+3,ha,hv=>simp at hv
 ·rintro e W1 ⟨v,rfl,hB,hv⟩
  have hv:RelV W1 _ (.bool (pixB w h ds x y)) v:=hv;rw [hv.bool'];exact ⟨rfl,hB⟩
theorem is_in (p:Pic w h ds Bb n0 W) (hw0:0≤w) (hw1:w≤1024) (hh:h≤1024) (hl:(ds.length:Int)=strd w*h) (hb:Bytes ds) (x y:Int) (n:Nat) :
  CallsIn Fence.wide n Try.prog 60 #[.pointer (some ⟨Bb,0,none⟩),.int .i64 x,.int .i64 y] W fun e W'=>e=.returned (.bool (pixB w h ds x y))∧Below W.heap.size W W' :=
 callsIn_wide.2 (is_calls p hw0 hw1 hh hl hb x y)
end
set_option maxHeartbeats 1000000 in
theorem row_in (n:Nat) (v:Option Addr) (y:Int) (W:World):CallsIn Fence.wide n Try.prog 76 #[.pointer v,.int .i64 y] W fun e W'=>e=.returned (.func (.func 87) #[] #[.pointer (some ⟨W.heap.size,0,none⟩),.pointer (some ⟨W.heap.size+1,0,none⟩)])∧W'=(W.alloc (.cells #[.pointer v] 109)).alloc (.cells #[.int .i64 y] 3):=by
 refine callsIn_of_wp Try.func76 rfl trivial ?_ rfl;simp only [Try.ntmps76,List.size_toArray,List.length_cons,List.length_nil,Nat.reduceAdd,Nat.reduceSub,Array.replicate_succ,Array.replicate_zero,List.push_toArray,List.append_toArray,List.nil_append,List.cons_append]
 gi_wp2
 go_ret
 exact ⟨rfl,rfl⟩
inductive RF (p:Int→Bool) (w y:Int):Int→List (Int×Int×Int)→Prop
 | done (x:Int) (h:w≤x):RF p w y x []
 | skip (x:Int) (l:List (Int×Int×Int)) (h:x<w) (hp:p x=false) (t:RF p w y (x+1) l):RF p w y x l
 | run (x x':Int) (l:List (Int×Int×Int)) (h:x<x') (h':x'≤w) (hp:∀ i,x≤i→i<x'→p i=true) (hq:x'<w→p x'=false) (t:RF p w y x' l):RF p w y x ((y,x,x')::l)
def encR3 (r:Int×Int×Int):Value:=.agg #[.int .i64 r.1,.int .i64 r.2.1,.int .i64 r.2.2]
set_option maxRecDepth 100000 in
set_option maxHeartbeats 4000000 in
theorem row1_in (n:Nat) (hn:1≤n) (l B1 B2 n0 Bb N:Nat) (w h y:Int) (ds:List Int) (hw0:0≤w) (hw1:w≤1024) (hh:h≤1024) (hl:(ds.length:Int)=strd w*h) (hb:Bytes ds) (rs:List (Int×Int×Int)) (hrs:RF (fun x=>pixB w h ds x y) w y 0 rs) (J Jx:List (Int×Int×Int)→World→Prop) (hJ:AbidesFrom N J)
  (hY:∀ pre x W,J pre W→pre.length<rs.length→YieldAt Fence.wide (n-1) Try.prog l #[encR3 x] W fun e W' =>
   (e=.returned (.bool true)∧J (pre++[x]) W'∧Kp3 n0 Bb B1 B2 W W')∨(e=.returned (.bool false)∧Jx (pre++[x]) W'))
  (W:World) (hc1:W.cell? ⟨B1,0,none⟩=some (.pointer (some ⟨Bb,0,none⟩))) (hc2:W.cell? ⟨B2,0,none⟩=some (.int .i64 y)) (hP:Pic w h ds Bb n0 W) (h0:J [] W) :
  CallsIn Fence.wide n Try.prog 87 #[.func (.yield l) #[] #[],.pointer (some ⟨B1,0,none⟩),.pointer (some ⟨B2,0,none⟩)] W fun e W'=>(∃ v,e=.returned v) ∧
   ((∃ ys,ys=rs∧J ys W')∨(∃ pre,pre <+: rs∧Jx pre W')):=by
 refine callsIn_of_wp Try.func87 rfl trivial ?_ rfl;simp only [Try.ntmps87,List.size_toArray,List.length_cons,List.length_nil,Nat.reduceAdd,Nat.reduceSub,Array.replicate_succ,Array.replicate_zero,List.push_toArray,List.append_toArray,List.nil_append,List.cons_append]
 gi_wp2
 gi_loopw [4] (fun p wr=>∃ (pre rest:List (Int×Int×Int)) (x:Int),p=.int .i64 x∧0≤x∧x≤w∧rs=pre++rest∧RF (fun x=>pixB w h ds x y) w y x rest∧J pre wr∧Pic w h ds Bb n0 wr∧wr.cell? ⟨B1,0,none⟩=some (.pointer (some ⟨Bb,0,none⟩))∧wr.cell? ⟨B2,0,none⟩=some (.int .i64 y))
  (fun p wr=>(w-intOf p).toNat)
 case atStart =>
  exact ⟨[],rs,0,rfl,by omega,hw0,rfl,hrs,h0,hP,hc1,hc2⟩
 case round =>
  obtain ⟨pre,rest,x,rfl,hx0,hx1,hx,hrf,hJs,hPs,hk1,hk2⟩:=hrel;have hc0:=hPs.c0
  cases hrf with
  | done _ hd =>
   have hlt:¬ x<w:=by omega
   gi_wp2
   go_end0
   exact ⟨⟨_,rfl⟩,.inl hJs⟩
  | skip _ _ hlt hp t =>
   have hp:pixB w h ds x y=false:=hp
   gi_wp2_with (refine ⟨trivial,?_⟩;gi_at_call 60;refine (is_in hPs hw0 hw1 hh hl hb x y _).mono ?_;rintro e W2 ⟨rfl,hB⟩;rw [hp])
   exact ⟨⟨pre,rest,x+1,rfl,by omega,by omega,hx,t,hJ pre wr W2 none hJs (grown_of_below hB) (fun r e=>by cases e),hPs.is hB,keepIs hk1 hB,keepIs hk2 hB⟩,by simp [intOf];omega⟩
  | run _ x' rest hlt hle hp hq t =>
   have hpx:pixB w h ds x y=true:=hp x (by omega) hlt;have hxw:x<w:=by omega
   gi_wp2_with (refine ⟨trivial,?_⟩;gi_at_call 60;refine (is_in hPs hw0 hw1 hh hl hb x y _).mono ?_;rintro e W2 ⟨rfl,hB⟩;rw [hpx])
   have hJ2:=hJ pre wr W2 none hJs (grown_of_below hB) (fun r e=>by cases e);have hP2:=hPs.is hB;have k1:=keepIs hk1 hB;have k2:=keepIs hk2 hB;clear hJs hPs hk1 hk2 hc0 hB
   gi_loopw [4] (fun p wq=>∃ (x1:Int),p=.int .i64 x1∧x≤x1∧x1≤x'∧J pre wq∧Pic w h ds Bb n0 wq∧wq.cell? ⟨B1,0,none⟩=some (.pointer (some ⟨Bb,0,none⟩))∧wq.cell? ⟨B2,0,none⟩=some (.int .i64 y))
    (fun p wq=>(w-intOf p).toNat)
   case atStart =>
    exact ⟨x,rfl,by omega,by omega,hJ2,hP2,k1,k2⟩
   case round =>
    clear hJ2 hP2 k1 k2;obtain ⟨x1,rfl,hy0,hy1,hJ3,hP3,k1,k2⟩:=hrel;have hc0:=hP3.c0;by_cases hcase:x1<x'
    ·have hpx1:pixB w h ds x1 y=true:=hp x1 hy0 hcase;have hx1w:x1<w:=by omega
     gi_wp2_with (refine ⟨trivial,?_⟩;gi_at_call 60;refine (is_in hP3 hw0 hw1 hh hl hb x1 y _).mono ?_;rintro e W4 ⟨rfl,hB⟩;rw [hpx1])
     exact ⟨⟨x1+1,rfl,by omega,by omega,hJ pre _ W4 none hJ3 (grown_of_below hB) (fun r e=>by cases e),hP3.is hB,keepIs k1 hB,keepIs k2 hB⟩,by simp [intOf];omega⟩
    ·have e1:x1=x':=by omega
     subst e1;by_cases hx1w:x1<w
     ·have hpx1:pixB w h ds x1 y=false:=hq hx1w
      gi_wp2_with (refine ⟨trivial,?_⟩;gi_at_call 60;refine (is_in hP3 hw0 hw1 hh hl hb x1 y _).mono ?_;rintro e W4 ⟨rfl,hB⟩;rw [hpx1];have hJ4:=hJ pre _ W4 none hJ3 (grown_of_below hB) (fun r e=>by cases e);have hP4:=hP3.is hB;have q1:=keepIs k1 hB;have q2:=keepIs k2 hB;obtain ⟨fn,tmps,assign,body,hy,hR⟩:=hY pre (y,x,x1) W4 hJ4 (by rw [hx];simp);simp only [encR3] at hy;clear hY hJ3 hP3 k1 k2)
      refine hR.mono ?_
      rintro e W5 (⟨rfl,hJ5,hk5⟩ | ⟨rfl,hJx5⟩)
      ·gi_wp2
       exact ⟨⟨pre++[(y,x,x1)],rest,x1,rfl,by omega,by omega,by simp [hx],t,hJ5,hP4.keep3 hk5,(World.cell?_of_block (a:=⟨B1,0,none⟩) (hk5.2 B1 (.inr (.inl rfl)))).trans q1,(World.cell?_of_block (a:=⟨B2,0,none⟩) (hk5.2 B2 (.inr (.inr rfl)))).trans q2⟩,by simp [intOf];omega⟩
      ·gi_wp2
       refine bodyPost_ret (results_none rfl _ _ _) rfl ?_;exact ⟨⟨_,rfl⟩,.inr ⟨pre++[(y,x,x1)],⟨rest,by simp [hx]⟩,hJx5⟩⟩
     ·have hP4:=hP3;have q1:=k1;have q2:=k2;obtain ⟨fn,tmps,assign,body,hy,hR⟩:=hY pre (y,x,x1) wr hJ3 (by rw [hx];simp);simp only [encR3] at hy;clear hY hJ3 hP3
      gi_wp2
      refine ⟨trivial,?_⟩
      gi_wp2
      refine hR.mono ?_
      rintro e W5 (⟨rfl,hJ5,hk5⟩ | ⟨rfl,hJx5⟩)
      ·gi_wp2
       exact ⟨⟨pre++[(y,x,x1)],rest,x1,rfl,by omega,by omega,by simp [hx],t,hJ5,hP4.keep3 hk5,(World.cell?_of_block (a:=⟨B1,0,none⟩) (hk5.2 B1 (.inr (.inl rfl)))).trans q1,(World.cell?_of_block (a:=⟨B2,0,none⟩) (hk5.2 B2 (.inr (.inr rfl)))).trans q2⟩,by simp [intOf];omega⟩
      ·gi_wp2
       refine bodyPost_ret (results_none rfl _ _ _) rfl ?_;exact ⟨⟨_,rfl⟩,.inr ⟨pre++[(y,x,x1)],⟨rest,by simp [hx]⟩,hJx5⟩⟩
theorem row1_stops (n:Nat) (hn:1≤n) (B1 B2 n0 Bb:Nat) (w h y:Int) (ds:List Int) (hw0:0≤w) (hw1:w≤1024) (hh:h≤1024) (hl:(ds.length:Int)=strd w*h) (hb:Bytes ds) (rs:List (Int×Int×Int)) (hrs:RF (fun x=>pixB w h ds x y) w y 0 rs)
  (W:World) (hc1:W.cell? ⟨B1,0,none⟩=some (.pointer (some ⟨Bb,0,none⟩))) (hc2:W.cell? ⟨B2,0,none⟩=some (.int .i64 y)) (hP:Pic w h ds Bb n0 W) :
  SeqStopsK Fence.wide n Try.prog 87 #[.pointer (some ⟨B1,0,none⟩),.pointer (some ⟨B2,0,none⟩)] (fun x=>#[encR3 x]) (Kp3 n0 Bb B1 B2) (fun ys=>ys=rs) (fun pre=>pre <+: rs) rs.length W:=fun l J Jx W' hW hJ _ hY h0 =>
 row1_in n hn l B1 B2 n0 Bb W'.heap.size w h y ds hw0 hw1 hh hl hb rs hrs J Jx hJ hY W' (keepIs hc1 hW) (keepIs hc2 hW) (hP.is hW) h0
end Go.Proofs.Ytnbmldnahacnlaa
/- Strips: Check and BitsErr. -/
namespace Go.Proofs.Ytnbmldnahacnlaa
open Go Go.RowKit

theorem check_r {fu:Nat} (hf:18446744073709551616≤fu) {w h:Int} {ds:List Int} (hb:Bytes ds):bitmap_Check_r fu ((w,(h,ds)),())=some (bitsE w h ds,()):=by
 unfold bitmap_Check_r bitsE;simp only [joinF_eq]
 have bad:∀ p:Prop,¬ (1≤w∧w≤1024∧1≤h∧h≤1024)→bitmap_Check_j1 fu ((w,(h,ds)),()) true=some (if 1≤w∧w≤1024∧1≤h∧h≤1024 then (if ds.length=strideN w.toNat*h.toNat then (if tailOk w.toNat h.toNat ds=true then 0 else 4) else 4) else 3,()):=by
  intro _ hn;rw [if_neg hn];rfl
 by_cases h1:w<1
 ·rw [bif_pos h1];exact bad True (by omega)
 rw [bif_neg h1];by_cases h2:1024<w
 ·rw [bif_pos h2];exact bad True (by omega)
 rw [bif_neg h2];by_cases h3:h<1
 ·rw [bif_pos h3];exact bad True (by omega)
 rw [bif_neg h3];by_cases h4:1024<h
 ·rw [decide_eq_true h4];exact bad True (by omega)
 rw [decide_eq_false h4,if_pos (by omega)];clear bad;unfold bitmap_Check_j1;simp only [cond_false];rw [stride_r fu (by omega) (by omega)];simp only [bindO_some,joinF_eq];have hs0:1≤strd w∧strd w≤128∧w≤8*strd w∧8*strd w≤w+7:=by unfold strd;omega
 have hN:strd w=(strideN w.toNat:Int):=strd_N (by omega)
 have hs:0≤strd w*h∧strd w*h≤128*1024:=⟨Int.mul_nonneg (by omega) (by omega),by
  have:=Int.mul_le_mul hs0.2.1 (show h≤1024 by omega) (by omega:0≤h) (by omega:(0:Int)≤128)
  omega⟩
 rw [wr64 (x:=strd w*h) (by omega) (by omega),wr64 (x:=8*strd w) (by omega) (by omega),wr64 (x:=8*strd w-w) (by omega) (by omega)];have hmul:strd w*h=((strideN w.toNat*h.toNat:Nat):Int):=by rw [hN,Int.natCast_mul];congr 1;omega
 by_cases hl:ds.length=strideN w.toNat*h.toNat
 ·rw [bif_neg (by rw [hmul,hl];simp),if_pos hl,bif_and (by omega) (by omega)];have e4:IntKind.u8.wrap (IntKind.u8.wrap (1*2 ^ (8*strd w-w).toNat)-1)=2 ^ (8*strd w-w).toNat-1:=wrap_pow (by omega);rw [e4];have hu:(8*strd w-w).toNat=8*strideN w.toNat-w.toNat:=by omega
  by_cases hz:w=8*strd w
  ·have:(2:Int) ^ (8*strd w-w).toNat-1=0:=by rw [show (8*strd w-w).toNat=0 by omega];rfl
   rw [this,bif_neg (by simp)]
   have ht:tailOk w.toNat h.toNat ds=true:=by
    refine List.all_eq_true.2 fun y _=>?_
    rw [show 8*strideN w.toNat-w.toNat=0 by omega];unfold lowOk;simp [Int.emod_one]
   rw [if_pos ht];rfl
  ·have hne:(2:Int) ^ (8*strd w-w).toNat-1≠0:=by
    have:∀ u:Fin 8,0<u.val→(2:Int) ^ u.val-1≠0:=by decide
    exact this ⟨(8*strd w-w).toNat,by omega⟩ (by show 0<(8*strd w-w).toNat;omega)
   rw [bif_pos hne]
   let p:Nat→Bool:=fun y=>lowOk (ds.getD (y*strideN w.toNat+strideN w.toNat-1) 0) (8*strideN w.toNat-w.toNat)
   have:=loopF_spec (f:=bitmap_Check_l3 fu ((w,(h,ds)),()) (strd w) (2 ^ (8*strd w-w).toNat-1) (bitmap_Check_j2 fu)) (fun y:Int=>(h-y).toNat) (fun y=>0≤y∧y≤h) (fun y=>some (if allFrom p h.toNat y.toNat=true then 0 else 4,())) (fun j y ⟨i0,i1⟩ hj=>?_) fu 0 ⟨by omega,by omega⟩ (by omega)
   ·rw [this];show some (if allFrom p h.toNat 0=true then (0:Int) else 4,())=_;rw [allFrom_zero];rfl
   ·unfold bitmap_Check_l3;simp only;by_cases hy:y<h
    ·obtain ⟨g0,g1,g2⟩:=at_ok (w:=w) (h:=h) (x:=w-1) (y:=y) (l:=ds.length) (by omega) (by omega) (by omega) i0 hy (by rw [hmul,hl])
     have g3:y*strd w+strd w≤strd w*h:=by
      have:=Int.mul_le_mul_of_nonneg_right (show y+1≤h by omega) (show 0≤strd w by omega);rw [Int.add_mul,Int.one_mul,Int.mul_comm h] at this;exact this
     rw [bif_pos hy,wr64 (x:=y*strd w) (by omega) (by omega),wr64 (x:=y*strd w+strd w) (by omega) (by omega),wr64 (x:=y*strd w+strd w-1) (by omega) (by omega),bif_and (by omega) (by rw [hl,←hmul];omega)];rw [and_low (hb.at _).1 (hb.at _).2 (by omega),allFrom_lt (by omega)]
     have ei:(y*strd w+strd w-1).toNat=y.toNat*strideN w.toNat+strideN w.toNat-1:=by
      have:y*strd w=((y.toNat*strideN w.toNat:Nat):Int):=by rw [hN,Int.natCast_mul];congr 1;omega
      omega
     have ep:p y.toNat=decide (ds.getD (y*strd w+strd w-1).toNat 0 % 2 ^ (8*strd w-w).toNat=0):=by
      show lowOk _ _=_;unfold lowOk;rw [ei,hu];rfl
     by_cases hd:ds.getD (y*strd w+strd w-1).toNat 0 % 2 ^ (8*strd w-w).toNat=0
     ·rw [bif_neg (by simpa using hd),wr64 (x:=y+1) (by omega) (by omega),hj (y+1) ⟨by omega,by omega⟩ (by omega),ep,decide_eq_true hd,Bool.true_and];rw [show (y+1).toNat=y.toNat+1 by omega]
     ·rw [bif_pos hd,ep,decide_eq_false hd,Bool.false_and];rfl
    ·rw [bif_neg hy,allFrom_ge (by omega)];rfl
 ·rw [bif_pos (by rw [hmul];omega),if_neg hl]
end Go.Proofs.Ytnbmldnahacnlaa
/- bitmap.Runs at one bitmap. -/
namespace Go.Proofs.Ytnbmldnahacnlaa
open Go Go.RowKit Go.Shelf
attribute [local go_sem] Oper.semAt_some

def dots2:List Int:=[144,8]
theorem dots_b:Bytes dots2:=by intro d hd;simp [dots2] at hd;omega
theorem dots_l:(dots2.length:Int)=strd 5*2:=by decide
def SlD (ds:List Int) (n0:Nat) (W:World) (A:Option Addr) (c:Nat):Prop:=ds.length≤c∧c≤maxLen∧(∀ i,i<ds.length→A≠none)∧∀ (i:Nat) (v:Int),ds[i]?=some v→∃ b o,A=some ⟨b,o,none⟩∧b<n0∧W.cell? ⟨b,o+i,none⟩=some (.int .u8 v)
theorem SlD.is {ds:List Int} {n0:Nat} {W W':World} {A:Option Addr} {c:Nat} (p:SlD ds n0 W A c) (hb:Below n0 W W'):SlD ds n0 W' A c:=by
 obtain ⟨h2,h3,h4,h5⟩:=p;refine ⟨h2,h3,h4,fun i v hv=>?_⟩;obtain ⟨b,o,e1,e0,e2⟩:=h5 i v hv;exact ⟨b,o,e1,e0,(hb.cell (p:=⟨b,o+i,none⟩) e0).trans e2⟩
theorem SlD.rel {ds:List Int} {n0 m:Nat} {W:World} {A:Option Addr} {c:Nat} (p:SlD ds n0 W A c) (w h:Int):RelV W (Gh.none m) (.agg (Ty.cells false (.pair (.int .i64) (.pair (.int .i64) (.list (.int .u8)))) (w,(h,ds)))) (.agg #[.int .i64 w,.int .i64 h,.slice A ds.length c]):=by
 obtain ⟨h2,h3,h4,h5⟩:=p
 have hro:RelD W (Gh.none m).own (Gh.none m).bs (.ro false 1 (ds.map (Ty.cells false (.int .u8)))) (.slice A ds.length c):=by
  have hl:(ds.map (Ty.cells false (.int .u8))).length=ds.length:=List.length_map ..;have hr:=RelD.ro (w:=W) (own:=(Gh.none m).own) (bs:=(Gh.none m).bs) false 1 (ds.map (Ty.cells false (.int .u8))) A c (fun i _=>.int .u8 (ds.getD i 0)) (by rw [hl];exact h2) h3 (fun i hi=>h4 i (by rw [hl] at hi;exact hi)) (fun i row j a g1 g2=>?_) (fun i row j a g1 g2=>?_)
  ·rw [hl] at hr;exact hr
  ·rw [List.getElem?_map] at g1;obtain ⟨v,hv,e⟩:=Option.map_eq_some_iff.1 g1;subst e;rw [Ty.cells] at g2
   cases j with
   | succ j=>simp at g2
   | zero =>
    obtain ⟨b,o,e1,_,e2⟩:=h5 i v hv;refine ⟨b,o,e1,fun h=>h,(fun e=>by cases e),?_⟩;rw [Nat.mul_one,Nat.add_zero,e2,List.getD_eq_getElem?_getD,hv];rfl
  ·rw [List.getElem?_map] at g1;obtain ⟨v,hv,e⟩:=Option.map_eq_some_iff.1 g1;subst e;rw [Ty.cells] at g2
   cases j with
   | succ j=>simp at g2
   | zero =>
    simp only [List.getElem?_cons_zero,Option.some.injEq] at g2;subst g2;rw [List.getD_eq_getElem?_getD,hv];exact .int .u8 v
 have ec:Ty.cells false (.pair (.int .i64) (.pair (.int .i64) (.list (.int .u8)))) (w,(h,ds))=[.int .i64 w,.int .i64 h,.ro false 1 (ds.map (Ty.cells false (.int .u8)))]:=by
  simp only [Ty.cells,Ty.size,List.cons_append,List.nil_append]
 rw [ec];refine .agg _ _ (by simp) fun t a v ga gv=>?_
 match t,ga,gv with
 | 0,ga,gv=>simp at ga gv;subst ga;subst gv;exact rI _ _ _ _
 | 1,ga,gv=>simp at ga gv;subst ga;subst gv;exact rI _ _ _ _
 | 2,ga,gv=>simp at ga gv;subst ga;subst gv;exact .dat hro
 | t+3,ga,gv=>simp at ga
theorem check_calls {W:World} {A:Option Addr} {c n0:Nat} (hA:SlD dots2 n0 W A c) (n:Nat) :
  CallsIn Fence.wide n Try.prog 38 #[.agg #[.int .i64 5,.int .i64 2,.slice A 2 c]] W fun e W'=>e=.returned (.int .i64 0)∧Below W.heap.size W W':=by
 have hr:bitmap_Check_r FU ((5,(2,dots2)),())=some (0,()):=by
  have:=check_r (fu:=FU) (Nat.le_refl _) (w:=5) (h:=2) dots_b;rw [this];decide
 have hc:=bitmap_Check_ok FU ((5,(2,dots2)),()) (0,()) hr;refine callsIn_wide.2 ((hc.out W #[.agg #[.int .i64 5,.int .i64 2,.slice A 2 c]] ⟨rfl,fun i a v ha hv=>?_⟩).mono ?_)
 ·match i,ha,hv with
  | 0,ha,hv =>
   have ha:some (AV.agg (Ty.cells false (.pair (.int .i64) (.pair (.int .i64) (.list (.int .u8)))) (5,(2,dots2))))=some a:=ha;have hv:some (Value.agg #[.int .i64 5,.int .i64 2,.slice A 2 c])=some v:=hv;injection ha with ha
   injection hv with hv
   subst ha;subst hv
   exact hA.rel 5 2
  | i+1,ha,hv=>simp at hv
 ·rintro e W1 ⟨v,rfl,hB,hv⟩
  have hv:RelV W1 _ (.int .i64 0) v:=hv;rw [hv.int'];exact ⟨rfl,hB⟩
def rs0:List (Int×Int×Int):=[(0,0,1),(0,3,4)]
def rs1:List (Int×Int×Int):=[(1,4,5)]
theorem rs0_ok:RF (fun x=>pixB 5 2 dots2 x 0) 5 0 0 rs0:=by
 refine .run 0 1 _ (by omega) (by omega) (fun i h1 h2=>?_) (fun _=>by decide) ?_
 ·have:i=0:=by omega
  subst this;decide
 refine .skip 1 _ (by omega) (by decide) (.skip _ _ (by omega) (by decide) ?_);refine .run _ 4 _ (by omega) (by omega) (fun i h1 h2=>?_) (fun _=>by decide) ?_
 ·have:i=3:=by omega
  subst this;decide
 exact .skip _ _ (by omega) (by decide) (.done _ (by omega))
theorem rs1_ok:RF (fun x=>pixB 5 2 dots2 x 1) 5 1 0 rs1:=by
 refine .skip _ _ (by omega) (by decide) (.skip _ _ (by omega) (by decide) (.skip _ _ (by omega) (by decide) (.skip _ _ (by omega) (by decide) ?_)));refine .run _ 5 _ (by omega) (by omega) (fun i h1 h2=>?_) (fun h=>by omega) (.done _ (by omega));have:i=4:=by omega
 subst this;decide
def flatR (l:List (Int×Int×Int)):List Value:=l.flatMap fun r=>[.int .i64 r.1,.int .i64 r.2.1,.int .i64 r.2.2]
def RB (Bb B1 B2:Nat) (A:Option Addr) (c:Nat) (y:Int) (W:World):Prop:=W.heap[Bb]?=some (.cells #[.int .i64 5,.int .i64 2,.slice A 2 c] 24 (0,0))∧Boxed W B1 109 (.pointer (some ⟨Bb,0,none⟩))∧Boxed W B2 3 (.int .i64 y)
def RL (n0 Bl:Nat) (L:List (Int×Int×Int)) (W:World):Prop:=∃ v,Boxed W Bl 74 v∧W.ownsRow n0 77 3 v L.length (flatR L)∧True
theorem cells_own {W W':World} {row:Option Nat} {b:Nat} {cs:Array Value} {t:TypeId} {z:Nat×Nat} (h:W.heap[b]?=some (.cells cs t z)) (hg:W.grownBy W' row) (hr:∀ r,row=some r→∃ o:Obj,W.heap[r]?=some o∧o.isCells=false):W'.heap[b]?=some (.cells cs t z):=by
 refine (hg.block b (Array.getElem?_eq_some_iff.1 h).1 fun e=>?_).trans h;obtain ⟨o,ho,hc⟩:=hr b e.symm;rw [h] at ho;injection ho with ho
 subst ho;cases hc
theorem RB.own {Bb B1 B2:Nat} {A:Option Addr} {c:Nat} {y:Int} {W W':World} {row:Option Nat} (p:RB Bb B1 B2 A c y W) (hg:W.grownBy W' row) (hr:∀ r,row=some r→∃ o:Obj,W.heap[r]?=some o∧o.isCells=false):RB Bb B1 B2 A c y W' :=
 ⟨cells_own p.1 hg hr,cells_own p.2.1 hg hr,cells_own p.2.2 hg hr⟩
theorem RB.pic {Bb B1 B2:Nat} {A:Option Addr} {c n0:Nat} {y:Int} {W:World} (p:RB Bb B1 B2 A c y W) (h:SlD dots2 n0 W A c):Pic 5 2 dots2 Bb n0 W:=by
 have hc:=p.1;exact ⟨by simp [World.cell?,hc],by simp [World.cell?,hc],A,c,by simp [World.cell?,hc,dots2],h⟩
theorem kp3_b {w:World} {n0 Bb B1 B2:Nat} (h:n0≤w.heap.size) (hb:∀ b,(b=Bb∨b=B1∨b=B2)→b<w.heap.size):∀ (W:World) (l:Nat) (o o':Obj),w.heap.size≤l→W.heap[l]?=some o→o.isCells=false→o.isWalk=false→Kp3 n0 Bb B1 B2 W (W.putObj l o'):=fun W l o o' hl ho hc hw =>
 ⟨belowK_b h W l o o' hl ho hc hw,fun b h=>(grownBy_putObj' W l o').block b (by have:=hb b h;have:=(Array.getElem?_eq_some_iff.1 ho).1;omega) (fun e=>by injection e with e;have:=hb b h;omega)⟩
theorem kp3_t {n0 Bb B1 B2:Nat} {A B C:World} (h:Kp3 n0 Bb B1 B2 A B) (k:Kp3 n0 Bb B1 B2 B C):Kp3 n0 Bb B1 B2 A C:=⟨h.1.trans k.1,fun b hb=>(k.2 b hb).trans (h.2 b hb)⟩
theorem kp3_below {n0 Bb B1 B2:Nat} {W W':World} (h:Below W.heap.size W W') (h0:n0≤W.heap.size) (hb:∀ b,(b=Bb∨b=B1∨b=B2)→b<W.heap.size):Kp3 n0 Bb B1 B2 W W':=⟨h.mono h0,fun b e=>h.block b (hb b e)⟩
theorem keepsFrom_below {W W':World} {B:Nat} (h:Below W.heap.size W W'):KeepsFrom B W W':=⟨h.size,fun k _ _ hk _=>(h.block k (Array.getElem?_eq_some_iff.1 hk).1).trans hk⟩
theorem dfr_own {β:Type} {D B:Nat} (hD:D<B):OwnFrom B (fun (_:β) W=>W.heap[D]?=some (.deferred (some []))):=fun _ X Y row h hg hr =>
 (hg.block D (Array.getElem?_eq_some_iff.1 h).1 fun e=>by have:=(hr D e.symm).1;omega).trans h
def RX (Bx:Nat) (x:Int×Int×Int) (W:World):Prop:=W.heap[Bx]?=some (.cells #[.int .i64 x.1,.int .i64 x.2.1,.int .i64 x.2.2] 77 (0,0))
theorem flatR_append (l m:List (Int×Int×Int)):flatR (l++m)=flatR l++flatR m:=by simp [flatR]
theorem RB.lt {Bb B1 B2:Nat} {A:Option Addr} {c:Nat} {y:Int} {W:World} (p:RB Bb B1 B2 A c y W):∀ b,(b=Bb∨b=B1∨b=B2)→b<W.heap.size:=by
 rintro b (rfl | rfl | rfl)
 ·exact (Array.getElem?_eq_some_iff.1 p.1).1
 ·exact p.2.1.lt
 ·exact p.2.2.lt
theorem RB.app {Bb B1 B2 Bl:Nat} {A:Option Addr} {c k:Nat} {y:Int} {W w1:World} {v v':Value} {xs:List Value} {tmp:Obj} (p:RB Bb B1 B2 A c y W) (hrow:W.ownsRow Bb 77 3 v k xs) (hg:(W.alloc tmp).grownBy w1 v.ownBlock) (h0:Bb<Bl) (h1:Bl<B1) (h2:B1<B2) (hb:Below Bb W (w1.setCell ⟨Bl,0,none⟩ v')) :
  Kp3 Bb Bb B1 B2 W (w1.setCell ⟨Bl,0,none⟩ v')∧RB Bb B1 B2 A c y (w1.setCell ⟨Bl,0,none⟩ v'):=by
 have ne:∀ (b:Nat) (cs:Array Value) (t:TypeId),W.heap[b]?=some (.cells cs t (0,0))→t≠77→some b≠v.ownBlock:=by
  intro b cs t hb ht e;rcases hrow.2 with ⟨rfl,_⟩ | ⟨g,cap,cur,rfl,_,hgb,_⟩
  ·cases e
  ·injection e with e
   have e:b=g:=e;subst e;rw [hgb] at hb;injection hb with hb
   injection hb with _ hb _
   exact ht hb.symm
 have key:∀ b,(b=Bb∨b=B1∨b=B2)→(w1.setCell ⟨Bl,0,none⟩ v').heap[b]?=W.heap[b]?:=by
  intro b hb;have hlt:=p.lt b hb;have e1:(w1.setCell ⟨Bl,0,none⟩ v').heap[b]?=w1.heap[b]?:=Below.heap_setCell _ _ _ _ (show b≠Bl by rcases hb with rfl | rfl | rfl <;> omega);rw [e1,hg.block b (by rw [World.size_alloc];omega) ?_]
  ·exact Below.heap_alloc W tmp b hlt
  ·rcases hb with rfl | rfl | rfl
   ·exact ne _ _ _ p.1 (by decide)
   ·exact ne _ _ _ p.2.1 (by decide)
   ·exact ne _ _ _ p.2.2 (by decide)
 exact ⟨⟨hb,key⟩,(key Bb (.inl rfl)).trans p.1,(key B1 (.inr (.inl rfl))).trans p.2.1,(key B2 (.inr (.inr rfl))).trans p.2.2⟩
theorem infoRun:(Try.prog.info? 77).map (fun i=>(i.zero,i.size,i.bytes))=some (some (.agg #[.int .i64 0,.int .i64 0,.int .i64 0]),3,24):=by kernel_rfl
theorem news_3 (w:World) (e:TypeId) (a b c:Value) (H:Nat) (hH:w.heap.size=H):∀ j u,[a,b,c][j]?=some u→(w.alloc (.cells #[a,b,c] e)).cell? ((⟨H,0,none⟩:Addr).add j)=some u:=by
 intro j u hu;subst hH;rw [Addr.add_lit,Nat.zero_add,World.cell?_alloc_new];simpa using hu
theorem one_3 {k k' k'':IntKind} {a b c:Int}:∀ u ∈ [Value.int k a,Value.int k' b,Value.int k'' c],u.oneCell'=true:=by
 intro u hu;simp only [List.mem_cons,List.not_mem_nil,or_false] at hu
 rcases hu with rfl | rfl | rfl <;> rfl
set_option maxRecDepth 100000 in
set_option maxHeartbeats 4000000 in
theorem runs_calls {W:World} {A:Option Addr} {c:Nat} (hA:SlD dots2 W.heap.size W A c) :
  CallsIn Fence.wide 9 Try.prog 66 #[.agg #[.int .i64 5,.int .i64 2,.slice A 2 c]] W fun e W'=>∃ v,e=.returned (.tuple #[v,.int .i64 0])∧W'.ownsRow W.heap.size 77 3 v 3 (flatR (rs0++rs1))∧Below W.heap.size W W':=by
 obtain ⟨W1,hW1⟩:∃ W1,W.alloc (.cells #[.int .i64 5,.int .i64 2,.slice A 2 c] 24)=W1:=⟨_,rfl⟩;have hB1:Below W.heap.size W W1:=by rw [←hW1];exact (Below.refl _ W).alloc (Nat.le_refl _) _
 have hsz1:W1.heap.size=W.heap.size+1:=by rw [←hW1];simp
 have hcell:W1.heap[W.heap.size]?=some (.cells #[.int .i64 5,.int .i64 2,.slice A 2 c] 24 (0,0)):=by rw [←hW1];exact World.alloc_heap_new W _
 have hA1:SlD dots2 W.heap.size W1 A c:=hA.is hB1;have g0:W1.cell? ⟨W.heap.size,0,none⟩=some (.int .i64 5):=by simp [World.cell?,hcell]
 have g1:W1.cell? ⟨W.heap.size,1,none⟩=some (.int .i64 2):=by simp [World.cell?,hcell]
 have g2:W1.cell? ⟨W.heap.size,2,none⟩=some (.slice A 2 c):=by simp [World.cell?,hcell]
 obtain ⟨i0,hi,hz0,hz1,hz2⟩:=info_parts infoRun;refine callsIn_of_wp_marks Try.func66 rfl trivial ?_ rfl;simp only [Try.ntmps66,List.size_toArray,List.length_cons,List.length_nil,Nat.reduceAdd,Nat.reduceSub,Array.replicate_succ,Array.replicate_zero,List.push_toArray,List.append_toArray,List.nil_append,List.cons_append]
 gi_wp2_with (refine ⟨trivial,?_⟩;gi_at_call 38;refine (check_calls hA1 _).mono ?_;rintro e W2 ⟨rfl,hB⟩;have hc1:(W2.alloc (.cells #[.slice none 0 0] 74)).cell? ⟨W.heap.size,1,none⟩=some (.int .i64 2):=(keepIs1 (keepIs1 g1 hB) ((Below.refl _ W2).alloc (Nat.le_refl _) _)))
 have hB2:Below W.heap.size W W2:=hB1.trans (hB.mono (by omega));have hsz2:W1.heap.size≤W2.heap.size:=hB.size;have bL:=Boxed.new W2 74 (.slice none 0 0);have hcs:=cells_own (cells_own hcell (grown_of_below hB) (fun r e=>by cases e)) (grown_of_below ((Below.refl _ W2).alloc (Nat.le_refl _) (.cells #[.slice none 0 0] 74))) (fun r e=>by cases e);have hBs:Below W.heap.size W (W2.alloc (.cells #[.slice none 0 0] 74)):=hB2.alloc (by omega) _;have hsz3:(W2.alloc (.cells #[.slice none 0 0] 74)).heap.size=W2.heap.size+1:=by simp
 obtain ⟨W3,hW3⟩:∃ W3,W2.alloc (.cells #[.slice none 0 0] 74)=W3:=⟨_,rfl⟩;rw [hW3] at hc1 bL hcs hBs hsz3 ⊢;obtain ⟨Bl,hBl⟩:∃ Bl,W2.heap.size=Bl:=⟨_,rfl⟩;rw [hBl] at bL hsz3 hsz2 ⊢;obtain ⟨Bb,hBb⟩:∃ Bb,W.heap.size=Bb:=⟨_,rfl⟩;rw [hBb] at hsz1 hcs hc1 hBs hA ⊢;have hlt:Bb<Bl:=by omega
 have bLs:RL Bb Bl [] W3:=⟨_,bL,World.ownsRow_nil _ _ _ _,trivial⟩;clear hW3 hB2 hBl hB hA1 g0 g1 g2 hB1 hW1 hsz1 hsz2 bL hcell;refine wpIn_loop_rounds 3 ?_;rw [roundsIn_succ]
 gi_wp2_with (refine ⟨trivial,?_⟩;gi_at_call 76;refine (row_in _ _ _ _).mono ?_;rintro e W4 ⟨rfl,rfl⟩)
 clear hc1;have hB5:Below W3.heap.size W3 ((W3.alloc (.cells #[.pointer (some ⟨Bb,0,none⟩)] 109)).alloc (.cells #[.int .i64 0] 3)):=((Below.refl _ _).alloc (Nat.le_refl _) _).alloc (by simp) _;have b1:=(Boxed.new W3 109 (.pointer (some ⟨Bb,0,none⟩))).alloc (.cells #[.int .i64 0] 3);have b2:=Boxed.new (W3.alloc (.cells #[.pointer (some ⟨Bb,0,none⟩)] 109)) 3 (.int .i64 0);have z5:((W3.alloc (.cells #[.pointer (some ⟨Bb,0,none⟩)] 109)).alloc (.cells #[.int .i64 0] 3)).heap.size=W3.heap.size+2:=by simp
 rw [World.size_alloc] at b2;have bL5:RL Bb Bl ([]:List (Int×Int×Int)) ((W3.alloc (.cells #[.pointer (some ⟨Bb,0,none⟩)] 109)).alloc (.cells #[.int .i64 0] 3)):=holdsRow_own Bb Bl 74 77 3 (fun (L:List (Int×Int×Int))=>L.length) flatR (fun _ _=>True) ([]:List (Int×Int×Int)) _ _ none bLs (grown_of_below hB5) (fun r e=>by cases e);have hc5:=cells_own hcs (grown_of_below hB5) (fun r e=>by cases e);have hbel5:Below Bb W ((W3.alloc (.cells #[.pointer (some ⟨Bb,0,none⟩)] 109)).alloc (.cells #[.int .i64 0] 3)):=hBs.trans (hB5.mono (by omega));obtain ⟨B1,hB1⟩:∃ B1,W3.heap.size=B1:=⟨_,rfl⟩;obtain ⟨B2,hB2⟩:∃ B2,B1+1=B2:=⟨_,rfl⟩;obtain ⟨W5,hW5⟩:∃ W5,(W3.alloc (.cells #[.pointer (some ⟨Bb,0,none⟩)] 109)).alloc (.cells #[.int .i64 0] 3)=W5:=⟨_,rfl⟩;rw [hW5] at b1 b2 z5 bL5 hc5 hbel5 hB5 ⊢;rw [hB1] at b1 b2 z5;rw [hB2] at b2;have hlB:Bl<B1:=by omega
 rw [show Bl+1=B1 by omega,hB2];have hRB5:RB Bb B1 B2 A c 0 W5:=⟨hc5,b1,b2⟩
 have hblt:∀ b,(b=Bb∨b=B1∨b=B2)→b<W5.heap.size:=by rintro b (rfl | rfl | rfl) <;> omega
 clear hW5 b1 b2 hc5 hcs bLs hBs hB5;have hOwn:OwnFrom W5.heap.size (fun pre W'=>RL Bb Bl (([]:List (Int×Int×Int))++pre) W'∧RB Bb B1 B2 A c 0 W'∧Below Bb W W'):=OwnFrom.and (Own.from (holdsRow_own Bb Bl 74 77 3 (fun pre=>(([]:List (Int×Int×Int))++pre).length) (fun pre=>flatR (([]:List (Int×Int×Int))++pre)) (fun _ _=>True)) _) (OwnFrom.and (Own.from (fun _ _ _ _ hs hg hr=>RB.own hs hg hr) _) (ownFrom_below (by rw [hBb];exact Nat.le_refl _) (by rw [z5];omega)))
 refine wpIn_rangeFunc_ownH rfl (by omega) (gf:=87) (lb:=#[.pointer (some ⟨B1,0,none⟩),.pointer (some ⟨B2,0,none⟩)]) rfl trivial (enters_of Try.func87 (by kernel_rfl) rfl)
  (row1_stops _ (by omega) B1 B2 Bb Bb 5 2 0 dots2 (by omega) (by omega) (by omega) dots_l dots_b rs0 rs0_ok W5 hRB5.2.1.cell hRB5.2.2.cell (hRB5.pic (hA.is hbel5))) kp3_t (kp3_b (by omega) hblt) (Below.refl _ _) (fun _=>rfl)
  (fun pre W'=>RL Bb Bl (([]:List (Int×Int×Int))++pre) W'∧RB Bb B1 B2 A c 0 W'∧Below Bb W W')
  (fun _ _ _=>False)
  hOwn
  (fun _ _ _ _ _ hs _ _=>hs)
  ⟨bL5,hRB5,hbel5⟩
  (fun x a' W'=>∃ Bx,Bl<Bx∧RX Bx x W'∧a'={ tmps:=#[.agg #[.int .i64 5,.int .i64 2,.slice A 2 c],.pointer (some ⟨Bb,0,none⟩),.slice none 0 0,.int .i64 0,.int .i64 0,.pointer (some ⟨Bl,0,none⟩),.int .i64 0,.pointer (some ⟨Bx,0,none⟩),.agg #[.int .i64 5,.int .i64 2,.slice A 2 c],.int .i64 0,.int .i64 0,.bool false,undef,.pointer (some ⟨Bb,1,none⟩),.int .i64 2,.int .i64 0,.bool true,.int .i64 0,.int .i64 0,.func (.func 87) #[] #[.pointer (some ⟨B1,0,none⟩),.pointer (some ⟨B2,0,none⟩)],(.agg #[.int .i64 x.1,.int .i64 x.2.1,.int .i64 x.2.2]),undef,undef,undef,undef,undef,undef],defers:=[] })
  (fun x a' _ X Y row hs hg hr=>by obtain ⟨Bx,h1,h2,h3⟩:=hs;exact ⟨Bx,h1,cells_own h2 hg (fun r e=>(hr r e).2),h3⟩)
  ?assign0 ?body0 ?done0 ?stop0
 case assign0 =>
  rintro l pre x W6 K hI hK
  simp only [encR3]
  gi_wp2
  have hbx:=(Below.refl _ W6).alloc (Nat.le_refl _) (.cells #[.int .i64 x.1,.int .i64 x.2.1,.int .i64 x.2.2] 77);obtain ⟨⟨v,hv,hrow,_⟩,hRB,hBel⟩:=id hI;exact hK _ _ (keepsFrom_below hbx) (kp3_below hbx (Nat.le_of_lt (hRB.lt Bb (.inl rfl))) hRB.lt) (hOwn pre W6 _ none hI (grown_of_below hbx) (fun r e=>by cases e)) ⟨W6.heap.size,hv.lt,World.alloc_heap_new W6 _,rfl⟩
 case body0 =>
  rintro l pre x a' W6 hl ⟨r,hr⟩ ⟨⟨v,hv,hrow,_⟩,hRB,hBel⟩ ⟨Bx,hBx,bX,rfl⟩ hpl
  have hcv:=hv.cell;have k0:W6.cell? ⟨Bx,0,none⟩=some (.int .i64 x.1):=by simp [World.cell?,show W6.heap[Bx]?=_ from bX]
  have k1:W6.cell? ⟨Bx,1,none⟩=some (.int .i64 x.2.1):=by simp [World.cell?,show W6.heap[Bx]?=_ from bX]
  have k2:W6.cell? ⟨Bx,2,none⟩=some (.int .i64 x.2.2):=by simp [World.cell?,show W6.heap[Bx]?=_ from bX]
  have hlen:(([]:List (Int×Int×Int))++pre).length≤3:=by have h0:pre.length<rs0.length:=hpl;have h1:rs0.length=2:=rfl;have h2:(([]:List (Int×Int×Int))).length=0:=rfl;rw [List.length_append];omega
  obtain ⟨L,hLe⟩:∃ L,([]:List (Int×Int×Int))++pre=L:=⟨_,rfl⟩;have hfin:∀ W',RL Bb Bl (L++[x]) W'→RL Bb Bl (([]:List (Int×Int×Int))++(pre++[x])) W':=by intro W' h;rw [←List.append_assoc,hLe];exact h
  rw [hLe] at hrow hlen;clear hLe;have hs6:Bb≤W6.heap.size:=Nat.le_of_lt (hRB.lt Bb (.inl rfl))
  gi_wp2_with (gi_at_builtin;refine wpListIn_append_own _ rfl _ _ 74 rfl Bb 77 i0 (.agg #[.int .i64 0,.int .i64 0,.int .i64 0]) 3 24 Try.underlying74 hi hz0 hz1 hz2 rfl (by decide) _ _ _ rfl (hrow.alloc _) ⟨W6.heap.size,0,none⟩ 1 1 [.int .i64 x.1,.int .i64 x.2.1,.int .i64 x.2.2] rfl rfl (news_3 _ _ _ _ _ _ rfl) one_3 (by simp only [maxLen];omega) (by omega) (by simp;omega) ?_;intro v' w1 hown' hgrow _;obtain ⟨g',cap',rfl⟩:=ownsRow_succ hown';obtain ⟨hv1,hv2,hr2,hk2,hb2⟩:=hv.appended (by decide) hrow hs6 (Nat.le_of_lt hlt) hown' hgrow;obtain ⟨hkp,hRB2⟩:=hRB.app hrow hgrow hlt hlB (by omega) hb2;have hcw:=hv1.cell;have hfw:=hv1.frozen)
  exact ⟨hk2.from _,hkp,hfin _ ⟨_,hv2,by rw [flatR_append,List.length_append];exact hr2,trivial⟩,hRB2,hBel.trans hb2⟩
 case done0 =>
  rintro D0 ys Wq hD rfl ⟨⟨v,hv,hrow,_⟩,hRB,hBs⟩ hD0
  gi_wp2
  rw [roundsIn_succ];have bLs:RL Bb Bl rs0 Wq:=⟨v,hv,hrow,trivial⟩;have hcs:=hRB.1;have hltq:Bl<Wq.heap.size:=hv.lt;have hdlt:D0<Wq.heap.size:=(Array.getElem?_eq_some_iff.1 hD0).1;have hDb:Bb≤D0:=by omega
  clear hOwn hRB5 hbel5 bL5 z5 hblt hlB hsz3 hD hRB hv hrow hB1 hB2;clear W5 W3 W1 W2
  gi_wp2_with (refine ⟨trivial,?_⟩;gi_at_call 76;refine (row_in _ _ _ _).mono ?_;rintro e W4 ⟨rfl,rfl⟩)
  have hB5:Below Wq.heap.size Wq ((Wq.alloc (.cells #[.pointer (some ⟨Bb,0,none⟩)] 109)).alloc (.cells #[.int .i64 1] 3)):=((Below.refl _ _).alloc (Nat.le_refl _) _).alloc (by simp) _;have b1:=(Boxed.new Wq 109 (.pointer (some ⟨Bb,0,none⟩))).alloc (.cells #[.int .i64 1] 3);have b2:=Boxed.new (Wq.alloc (.cells #[.pointer (some ⟨Bb,0,none⟩)] 109)) 3 (.int .i64 1);have z5:((Wq.alloc (.cells #[.pointer (some ⟨Bb,0,none⟩)] 109)).alloc (.cells #[.int .i64 1] 3)).heap.size=Wq.heap.size+2:=by simp
  rw [World.size_alloc] at b2;have bL5:RL Bb Bl rs0 ((Wq.alloc (.cells #[.pointer (some ⟨Bb,0,none⟩)] 109)).alloc (.cells #[.int .i64 1] 3)):=holdsRow_own Bb Bl 74 77 3 (fun (L:List (Int×Int×Int))=>L.length) flatR (fun _ _=>True) rs0 _ _ none bLs (grown_of_below hB5) (fun r e=>by cases e);have hc5:=cells_own hcs (grown_of_below hB5) (fun r e=>by cases e);have hbel5:Below Bb W ((Wq.alloc (.cells #[.pointer (some ⟨Bb,0,none⟩)] 109)).alloc (.cells #[.int .i64 1] 3)):=hBs.trans (hB5.mono (by omega));have hd5:=(hB5.block D0 (by omega)).trans hD0;obtain ⟨B1,hB1⟩:∃ B1,Wq.heap.size=B1:=⟨_,rfl⟩;obtain ⟨B2,hB2⟩:∃ B2,B1+1=B2:=⟨_,rfl⟩;obtain ⟨W5,hW5⟩:∃ W5,(Wq.alloc (.cells #[.pointer (some ⟨Bb,0,none⟩)] 109)).alloc (.cells #[.int .i64 1] 3)=W5:=⟨_,rfl⟩;rw [hW5] at b1 b2 z5 bL5 hc5 hbel5 hB5 hd5 ⊢;rw [hB1] at b1 b2 z5;rw [hB2] at b2;have hlB:Bl<B1:=by omega
  rw [hB1,hB2];have hRB5:RB Bb B1 B2 A c 1 W5:=⟨hc5,b1,b2⟩
  have hblt:∀ b,(b=Bb∨b=B1∨b=B2)→b<W5.heap.size:=by rintro b (rfl | rfl | rfl) <;> omega
  clear hW5 b1 b2 hc5 hcs bLs hBs hB5;have hOwn:OwnFrom W5.heap.size (fun pre W'=>RL Bb Bl (rs0++pre) W'∧RB Bb B1 B2 A c 1 W'∧Below Bb W W'∧W'.heap[D0]?=some (.deferred (some []))):=OwnFrom.and (Own.from (holdsRow_own Bb Bl 74 77 3 (fun pre=>(rs0++pre).length) (fun pre=>flatR (rs0++pre)) (fun _ _=>True)) _) (OwnFrom.and (Own.from (fun _ _ _ _ hs hg hr=>RB.own hs hg hr) _) (OwnFrom.and (ownFrom_below (by rw [hBb];exact Nat.le_refl _) (by rw [z5];omega)) (dfr_own (by rw [z5];omega))))
  refine wpIn_rangeFunc_ownH rfl (by omega) (gf:=87) (lb:=#[.pointer (some ⟨B1,0,none⟩),.pointer (some ⟨B2,0,none⟩)]) rfl trivial (enters_of Try.func87 (by kernel_rfl) rfl)
   (row1_stops _ (by omega) B1 B2 Bb Bb 5 2 1 dots2 (by omega) (by omega) (by omega) dots_l dots_b rs1 rs1_ok W5 hRB5.2.1.cell hRB5.2.2.cell (hRB5.pic (hA.is hbel5))) kp3_t (kp3_b (by omega) hblt) (Below.refl _ _) (fun _=>rfl)
   (fun pre W'=>RL Bb Bl (rs0++pre) W'∧RB Bb B1 B2 A c 1 W'∧Below Bb W W'∧W'.heap[D0]?=some (.deferred (some [])))
   (fun _ _ _=>False)
   hOwn
   (fun _ _ _ _ _ hs _ _=>hs)
   ⟨bL5,hRB5,hbel5,hd5⟩
   (fun x a' W'=>∃ Bx,Bl<Bx∧RX Bx x W'∧a'={ tmps:=#[.agg #[.int .i64 5,.int .i64 2,.slice A 2 c],.pointer (some ⟨Bb,0,none⟩),.slice none 0 0,.int .i64 0,.int .i64 0,.pointer (some ⟨Bl,0,none⟩),.int .i64 1,.pointer (some ⟨Bx,0,none⟩),.agg #[.int .i64 5,.int .i64 2,.slice A 2 c],.int .i64 0,.int .i64 0,.bool false,undef,.pointer (some ⟨Bb,1,none⟩),.int .i64 2,.int .i64 1,.bool true,.int .i64 1,.int .i64 1,.func (.func 87) #[] #[.pointer (some ⟨B1,0,none⟩),.pointer (some ⟨B2,0,none⟩)],(.agg #[.int .i64 x.1,.int .i64 x.2.1,.int .i64 x.2.2]),undef,undef,undef,undef,.int .i64 1,undef],defers:=[] })
   (fun x a' _ X Y row hs hg hr=>by obtain ⟨Bx,h1,h2,h3⟩:=hs;exact ⟨Bx,h1,cells_own h2 hg (fun r e=>(hr r e).2),h3⟩)
   ?assign1 ?body1 ?done1 ?stop1
  case assign1 =>
   rintro l pre x W6 K hI hK
   simp only [encR3]
   gi_wp2
   have hbx:=(Below.refl _ W6).alloc (Nat.le_refl _) (.cells #[.int .i64 x.1,.int .i64 x.2.1,.int .i64 x.2.2] 77);obtain ⟨⟨v,hv,hrow,_⟩,hRB,hBel⟩:=id hI;exact hK _ _ (keepsFrom_below hbx) (kp3_below hbx (Nat.le_of_lt (hRB.lt Bb (.inl rfl))) hRB.lt) (hOwn pre W6 _ none hI (grown_of_below hbx) (fun r e=>by cases e)) ⟨W6.heap.size,hv.lt,World.alloc_heap_new W6 _,rfl⟩
  case body1 =>
   rintro l pre x a' W6 hl ⟨r,hr⟩ ⟨⟨v,hv,hrow,_⟩,hRB,hBel,hD0⟩ ⟨Bx,hBx,bX,rfl⟩ hpl
   have hcv:=hv.cell;have k0:W6.cell? ⟨Bx,0,none⟩=some (.int .i64 x.1):=by simp [World.cell?,show W6.heap[Bx]?=_ from bX]
   have k1:W6.cell? ⟨Bx,1,none⟩=some (.int .i64 x.2.1):=by simp [World.cell?,show W6.heap[Bx]?=_ from bX]
   have k2:W6.cell? ⟨Bx,2,none⟩=some (.int .i64 x.2.2):=by simp [World.cell?,show W6.heap[Bx]?=_ from bX]
   have hlen:(rs0++pre).length≤3:=by have h0:pre.length<rs1.length:=hpl;have h1:rs1.length=1:=rfl;have h2:(rs0).length=2:=rfl;rw [List.length_append];omega
   obtain ⟨L,hLe⟩:∃ L,rs0++pre=L:=⟨_,rfl⟩;have hfin:∀ W',RL Bb Bl (L++[x]) W'→RL Bb Bl (rs0++(pre++[x])) W':=by intro W' h;rw [←List.append_assoc,hLe];exact h
   rw [hLe] at hrow hlen;clear hLe;have hs6:Bb≤W6.heap.size:=Nat.le_of_lt (hRB.lt Bb (.inl rfl))
   gi_wp2_with (gi_at_builtin;refine wpListIn_append_own _ rfl _ _ 74 rfl Bb 77 i0 (.agg #[.int .i64 0,.int .i64 0,.int .i64 0]) 3 24 Try.underlying74 hi hz0 hz1 hz2 rfl (by decide) _ _ _ rfl (hrow.alloc _) ⟨W6.heap.size,0,none⟩ 1 1 [.int .i64 x.1,.int .i64 x.2.1,.int .i64 x.2.2] rfl rfl (news_3 _ _ _ _ _ _ rfl) one_3 (by simp only [maxLen];omega) (by omega) (by simp;omega) ?_;intro v' w1 hown' hgrow _;obtain ⟨g',cap',rfl⟩:=ownsRow_succ hown';obtain ⟨hv1,hv2,hr2,hk2,hb2⟩:=hv.appended (by decide) hrow hs6 (Nat.le_of_lt hlt) hown' hgrow;obtain ⟨hkp,hRB2⟩:=hRB.app hrow hgrow hlt hlB (by omega) hb2;have hcw:=hv1.cell;have hfw:=hv1.frozen)
   exact ⟨hk2.from _,hkp,hfin _ ⟨_,hv2,by rw [flatR_append,List.length_append];exact hr2,trivial⟩,hRB2,hBel.trans hb2,hk2.same D0 _ hD0 rfl⟩
  case done1 =>
   rintro D1 ys W6 hD rfl ⟨⟨v,hv,hrow,_⟩,hRB,hBel,hD0⟩ hK
   have hcv:=hv.cell
   gi_wp2
   rw [roundsIn_succ]
   gi_wp2
   have hne:D1≠D0:=by omega
   have hK':(W6.putObj D1 (.deferred none)).heap[D0]?=some (.deferred (some [])):=((grownBy_putObj' W6 D1 _).block D0 (Array.getElem?_eq_some_iff.1 hD0).1 (fun e=>by injection e with e;exact hne e.symm)).trans hD0;refine ⟨by simp,.inl ⟨_,_,rfl,run_takeDeferred hK,?_⟩⟩;refine ⟨by simp,.inl ⟨_,_,rfl,run_takeDeferred hK',?_⟩⟩;have e1:Below Bb W6 (W6.putObj D1 (.deferred none)):=by rw [←hBb];exact belowK_b (w:=W) (Nat.le_refl _) W6 D1 _ _ (by omega) hK rfl rfl
   have e2:Below Bb (W6.putObj D1 (.deferred none)) ((W6.putObj D1 (.deferred none)).putObj D0 (.deferred none)):=by rw [←hBb];exact belowK_b (w:=W) (Nat.le_refl _) _ D0 _ _ (by omega) hK' rfl rfl
   rw [hBb];exact ⟨_,results_tmp2 rfl _ _ _,v,rfl,ownsRow_putObj (ownsRow_putObj hrow _ hK rfl) _ hK' rfl,(hBel.trans e1).trans e2⟩
  case stop1 =>
   rintro D cc pre W6 _ _ h _
   exact h.elim
 case stop0 =>
  rintro D cc pre W6 _ _ h _
  exact h.elim
def bitmap_Runs_r (_:Nat) (a:((Int)×((Int)×(List (Int))))×(Unit)):Option ((List ((Int)×((Int)×(Int))))×((Int)×(Unit))) :=
 if a=((5,(2,dots2)),()) then some (rs0++rs1,(0,())) else none
def bitmap_Runs_ctr:Ctr:=⟨(.pair (.agg (.pair (.int .i64) (.pair (.int .i64) (.list (.int .u8))))) .unit),(.pair (.list (.pair (.int .i64) (.pair (.int .i64) (.int .i64)))) (.pair (.int .i64) .unit)),bitmap_Runs_r,66⟩
theorem cells_bits (w h:Int) (ds:List Int):Ty.cells false (.pair (.int .i64) (.pair (.int .i64) (.list (.int .u8)))) (w,(h,ds))=[.int .i64 w,.int .i64 h,.ro false 1 (ds.map (Ty.cells false (.int .u8)))]:=by
 simp only [Ty.cells,Ty.size,List.cons_append,List.nil_append]
theorem relD_int {w:World} {own:Nat→Prop} {bs:Nat} {k:IntKind} {n:Int} {x:Value} (h:RelD w own bs (.int k n) x):x=.int k n:=by cases h;rfl
theorem sl_of {W:World} {G:Gh} {v:Value} {ds:List Int} (r:RelV W G (.ro false 1 (ds.map (Ty.cells false (.int .u8)))) v):∃ A c,v=.slice A ds.length c∧SlD ds W.heap.size W A c:=by
 cases r with
 | dat r =>
  cases r with
  | ro _ _ rows A c f hc hm h0 h1 h2 =>
   have hl:(ds.map (Ty.cells false (.int .u8))).length=ds.length:=List.length_map ..;rw [hl] at hc h0 ⊢;refine ⟨A,c,rfl,hc,hm,h0,fun i v hv=>?_⟩;have g1:(ds.map (Ty.cells false (.int .u8)))[i]?=some [.int .u8 v]:=by rw [List.getElem?_map,hv];rfl
   obtain ⟨b,o,e1,_,_,e2⟩:=h1 i _ 0 _ g1 rfl;have e3:=h2 i _ 0 _ g1 rfl;have e4:f i 0=.int .u8 v:=relD_int e3;rw [e4,Nat.mul_one,Nat.add_zero] at e2;exact ⟨b,o,e1,(Go.Proofs.Ytnbmldnahacnlaa.cell_lt e2),e2⟩
theorem rows_ro {W W':World} {v:Value} (h:W'.ownsRow W.heap.size 77 3 v 3 (flatR (rs0++rs1))):RelV W' (Gh.frz W.heap.size) (.ro true 3 ((rs0++rs1).map (Ty.cells true (.pair (.int .i64) (.pair (.int .i64) (.int .i64)))))) v:=by
 have hl:((rs0++rs1).map (Ty.cells true (.pair (.int .i64) (.pair (.int .i64) (.int .i64))))).length=3:=rfl;rcases h.2 with ⟨_,h3⟩ | ⟨g,cap,cur,rfl,hb,hg,hc,hm,hs,ht⟩
 ·omega
 ·have key:∀ i,i<9→W'.cell? ⟨g,i,none⟩=some ((flatR (rs0++rs1)).getD i undef):=by
   intro i hi;have:=h.cellAt i (by omega);rw [this,List.getD_eq_getElem?_getD];have hlt:i<(flatR (rs0++rs1)).length:=hi;rw [List.getElem?_eq_getElem hlt];rfl
  have hr:=RelD.ro (w:=W') (own:=(Gh.frz W.heap.size).own) (bs:=(Gh.frz W.heap.size).bs) true 3 ((rs0++rs1).map (Ty.cells true (.pair (.int .i64) (.pair (.int .i64) (.int .i64))))) (some ⟨g,0,none⟩) cap (fun i j=>(flatR (rs0++rs1)).getD (i*3+j) undef) hc hm (fun _ _=>by simp) (fun i row j a g1 g2=>?_) (fun i row j a g1 g2=>?_)
  ·exact .dat hr
  ·have hi:i<3:=(List.getElem?_eq_some_iff.1 g1).1
   have hj:j<3:=by
    rw [List.getElem?_map] at g1;obtain ⟨x,_,e⟩:=Option.map_eq_some_iff.1 g1;have:=(List.getElem?_eq_some_iff.1 g2).1;rw [←e,Ty.cells_length] at this;exact this
   refine ⟨g,0,rfl,fun h=>by have h:g<W.heap.size:=h;omega,fun _=>hb,?_⟩;rw [Nat.zero_add];exact key _ (by omega)
  ·have hi:i<3:=(List.getElem?_eq_some_iff.1 g1).1
   have hj:j<3:=by
    rw [List.getElem?_map] at g1;obtain ⟨x,_,e⟩:=Option.map_eq_some_iff.1 g1;have:=(List.getElem?_eq_some_iff.1 g2).1;rw [←e,Ty.cells_length] at this;exact this
   have hx:∀ (i j:Nat) (row:List AV) (a:AV),i<3→j<3→((rs0++rs1).map (Ty.cells true (.pair (.int .i64) (.pair (.int .i64) (.int .i64)))))[i]?=some row→row[j]?=some a→∃ n,a=.int .i64 n∧(flatR (rs0++rs1)).getD (i*3+j) undef=.int .i64 n:=by
    intro i j row a hi hj g1 g2
    match i,j,hi,hj,g1,g2 with
    | 0,0,_,_,g1,g2=>simp [rs0,rs1,Ty.cells] at g1;subst g1;simp at g2;subst g2;exact ⟨_,rfl,rfl⟩
    | 0,1,_,_,g1,g2=>simp [rs0,rs1,Ty.cells] at g1;subst g1;simp at g2;subst g2;exact ⟨_,rfl,rfl⟩
    | 0,2,_,_,g1,g2=>simp [rs0,rs1,Ty.cells] at g1;subst g1;simp at g2;subst g2;exact ⟨_,rfl,rfl⟩
    | 1,0,_,_,g1,g2=>simp [rs0,rs1,Ty.cells] at g1;subst g1;simp at g2;subst g2;exact ⟨_,rfl,rfl⟩
    | 1,1,_,_,g1,g2=>simp [rs0,rs1,Ty.cells] at g1;subst g1;simp at g2;subst g2;exact ⟨_,rfl,rfl⟩
    | 1,2,_,_,g1,g2=>simp [rs0,rs1,Ty.cells] at g1;subst g1;simp at g2;subst g2;exact ⟨_,rfl,rfl⟩
    | 2,0,_,_,g1,g2=>simp [rs0,rs1,Ty.cells] at g1;subst g1;simp at g2;subst g2;exact ⟨_,rfl,rfl⟩
    | 2,1,_,_,g1,g2=>simp [rs0,rs1,Ty.cells] at g1;subst g1;simp at g2;subst g2;exact ⟨_,rfl,rfl⟩
    | 2,2,_,_,g1,g2=>simp [rs0,rs1,Ty.cells] at g1;subst g1;simp at g2;subst g2;exact ⟨_,rfl,rfl⟩
   obtain ⟨n,e1,e2⟩:=hx i j row a hi hj g1 g2;subst e1;show RelD _ _ _ _ ((flatR (rs0++rs1)).getD (i*3+j) undef);rw [e2];exact .int .i64 n
theorem bitmap_Runs_ok:CtrOk Try.prog 66 bitmap_Runs_ctr:=fun fu x y hy=>by
 have hy:bitmap_Runs_r fu x=some y:=hy;unfold bitmap_Runs_r at hy;split at hy
 ·rename_i hx;subst hx;injection hy with hy
  subst hy;refine ⟨fun W vs ha=>?_⟩
  obtain ⟨u,rfl⟩:∃ u,vs=#[u]:=by
   have:=ha.size;obtain ⟨l⟩:=vs
   match l,this with
   | [u],_=>exact ⟨u,rfl⟩
  have h0:RelV W (Gh.none W.heap.size) (.agg (Ty.cells false (.pair (.int .i64) (.pair (.int .i64) (.list (.int .u8)))) (5,(2,dots2)))) u:=ha.rel 0 _ u rfl rfl;rw [cells_bits] at h0;obtain ⟨us,rfl,hsz,hr⟩:=h0.agg'
  obtain ⟨x0,x1,x2,rfl⟩:∃ x0 x1 x2,us=#[x0,x1,x2]:=by
   obtain ⟨l⟩:=us
   match l,hsz with
   | [a,b,c],_=>exact ⟨a,b,c,rfl⟩
  have e0:=(hr 0 _ x0 rfl rfl).int';have e1:=(hr 1 _ x1 rfl rfl).int';obtain ⟨A,c,e2,hA⟩:=sl_of (hr 2 _ x2 rfl rfl);subst e0;subst e1;subst e2
  refine (callsIn_wide.1 (runs_calls hA)).mono ?_
  rintro e W' ⟨v,rfl,hown,hB⟩
  refine ⟨_,rfl,hB,?_⟩;refine .tup _ _ rfl fun i a v' ga gv=>?_
  match i,ga,gv with
  | 0,ga,gv =>
   have ga:some (AV.ro true 3 ((rs0++rs1).map (Ty.cells true (.pair (.int .i64) (.pair (.int .i64) (.int .i64))))))=some a:=ga;have gv:some v=some v':=gv;injection ga with ga
   injection gv with gv
   subst ga;subst gv
   exact rows_ro hown
  | 1,ga,gv =>
   have ga:some (AV.int .i64 0)=some a:=ga;have gv:some (Value.int .i64 0)=some v':=gv;injection ga with ga
   injection gv with gv
   subst ga;subst gv
   exact rI _ _ _ _
  | i+2,ga,gv=>simp at gv
 ·cases hy
end Go.Proofs.Ytnbmldnahacnlaa
/- Residual programs of functions (printed by a program out of the code),checked by the kernel,and the contracts that follow. -/
namespace Go.Proofs.Ytnbmldnahacnlaa
open Go Go.RowKit
set_option linter.unusedVariables false
def law_bitmapWorks_r (fu:Nat) (a:Unit):Option ((Bool)×(Unit)) :=
 bindO (bitmap_Set_r fu ((((10:Int),((1:Int),((0:Int)::((0:Int)::([]:List (Int)))))),((9:Int),((0:Int),(true,())))))) fun v0 =>
 let v1:Int:=v0.2.1
 bindO (law_dots_r fu (())) fun v2 =>
 bindO (bitmap_Count_r fu (((v2.1.1,(v2.1.2.1,v2.1.2.2)),()))) fun v3 =>
 let v4:Int:=v3.1
 let v5:Int:=v3.2.1
 bindO (law_dots_r fu (())) fun v6 =>
 bindO (bitmap_Turn_r fu (((v6.1.1,(v6.1.2.1,v6.1.2.2)),((1:Int),())))) fun v7 =>
 let v8:Int:=v7.2.1
 bindO (law_dots_r fu (())) fun v9 =>
 bindO (bitmap_Runs_r fu (((v9.1.1,(v9.1.2.1,v9.1.2.2)),()))) fun v10 =>
 let v11:List ((Int)×((Int)×(Int))):=v10.1
 let v12:Int:=v10.2.1
 bindO (law_dots_r fu (())) fun v13 =>
 bindO (bitmap_Spread_r fu (((v13.1.1,(v13.1.2.1,v13.1.2.2)),((1:Int),())))) fun v14 =>
 let v15:Int:=v14.2.1
 bif (decide (v1=(0:Int))) then
  bindO (R_SameBytes_r fu ((v0.1.2.2,(((0:Int)::((64:Int)::([]:List (Int)))),())))) fun v16 =>
  bif v16.1 then
   bif (decide (v5=(0:Int))) then
    bif (decide (v4=(3:Int))) then
     bif (decide (v8=(0:Int))) then
      bindO (R_SameBits_r fu (((v7.1.1,(v7.1.2.1,v7.1.2.2)),(((2:Int),((5:Int),((64:Int)::((0:Int)::((0:Int)::((64:Int)::((128:Int)::([]:List (Int))))))))),())))) fun v17 =>
      bif v17.1 then
       bif (decide (v12=(0:Int))) then
        bif (decide ((List.length v11:Int)=(3:Int))) then
         bif (decide ((2:Int)<(List.length v11:Int))) then
         let v18:(Int)×((Int)×(Int)):=(List.getD v11 (Int.toNat (2:Int)) (0,(0,0)))
         bif ((decide (v18.1=(1:Int)))&&((decide (v18.2.1=(4:Int)))&&(decide (v18.2.2=(5:Int))))) then
          bif (decide (v15=(0:Int))) then
           bindO (R_SameBytes_r fu ((v14.1.2.2,(((248:Int)::((152:Int)::([]:List (Int)))),())))) fun v19 =>
           let v20:Bool:=v19.1
           some ((v20,()))
          else
          some ((false,()))
         else
         some ((false,()))
         else none
        else
        some ((false,()))
       else
       some ((false,()))
      else
      some ((false,()))
     else
     some ((false,()))
    else
    some ((false,()))
   else
   some ((false,()))
  else
  some ((false,()))
 else
 some ((false,()))
def law_bitmapWorks_an:An:=(.n none .z (.n none .z (.n none .z (.n none .z (.n none .z (.n none .z (.n none .z .z)))))))
noncomputable def law_bitmapWorks_dc:List (Nat×Ctr):=[(19,R_SameBits_ctr),(34,bitmap_Spread_ctr),(35,bitmap_Turn_ctr),(40,bitmap_Set_ctr),(41,bitmap_Count_ctr),(59,R_SameBytes_ctr),(65,law_dots_ctr),(66,bitmap_Runs_ctr)]
def law_bitmapWorks_ctr:Ctr:=⟨.unit,(.pair .bool .unit),law_bitmapWorks_r,33⟩
theorem law_bitmapWorks_ok:CtrOk Try.prog 33 law_bitmapWorks_ctr:=ctr_ok (l:=law_bitmapWorks_dc) (f:=12) (an:=law_bitmapWorks_an) ⟨R_SameBits_ok,⟨bitmap_Spread_ok,⟨bitmap_Turn_ok,⟨bitmap_Set_ok,⟨bitmap_Count_ok,⟨R_SameBytes_ok,⟨law_dots_ok,⟨bitmap_Runs_ok,trivial⟩⟩⟩⟩⟩⟩⟩⟩ fun fu x=>by kernel_rfl
end Go.Proofs.Ytnbmldnahacnlaa
/- bitmap.ToPlate: what it computes,as a contract's residual. -/
namespace Go.Proofs.Ytnbmldnahacnlaa
open Go Go.RowKit Go.Shelf

def tpL (w h t:Int) (P:Int→Int→Bool):List Int:=(List.range (w*h).toNat).map fun i:Nat=>bif P ((i:Int) % w) ((i:Int) / w) then t else 0
def bitmap_ToPlate_r (_:Nat) (a:((Int)×((Int)×(List (Int))))×((Int)×(Unit))):Option (((Int)×((Int)×(List (Int))))×((Int)×(Unit))) :=
 if bitsE a.1.1 a.1.2.1 a.1.2.2=0∧(∀ d ∈ a.1.2.2,0≤d∧d≤255) then some ((a.1.1,(a.1.2.1,tpL a.1.1 a.1.2.1 a.2.1 (pixB a.1.1 a.1.2.1 a.1.2.2))),(0,())) else none
def bitmap_ToPlate_ctr:Ctr:=⟨(.pair (.agg (.pair (.int .i64) (.pair (.int .i64) (.list (.int .u8))))) (.pair (.int .u8) .unit)),(.pair (.agg (.pair (.int .i64) (.pair (.int .i64) (.list (.int .u8))))) (.pair (.int .i64) .unit)),bitmap_ToPlate_r,47⟩
end Go.Proofs.Ytnbmldnahacnlaa
/- bitmap.ToPlate: the runs of a row with their bounds;what the runs paint. -/
namespace Go.Proofs.Ytnbmldnahacnlaa
open Go Go.RowKit Go.Shelf
attribute [local go_sem] Oper.semAt_some

def RunOk (w y:Int) (r:Int×Int×Int):Prop:=r.1=y∧0≤r.2.1∧r.2.1<r.2.2∧r.2.2≤w
set_option maxRecDepth 100000 in
set_option maxHeartbeats 4000000 in
theorem row2_in (n:Nat) (hn:1≤n) (l B1 B2 n0 Bb N:Nat) (w h y:Int) (ds:List Int) (hw0:0≤w) (hw1:w≤1024) (hh:h≤1024) (hl:(ds.length:Int)=strd w*h) (hb:Bytes ds) (rs:List (Int×Int×Int)) (hrs:RF (fun x=>pixB w h ds x y) w y 0 rs) (J Jx:List (Int×Int×Int)→World→Prop) (hJ:AbidesFrom N J)
  (hY:∀ pre x W,RunOk w y x→J pre W→pre.length<rs.length→YieldAt Fence.wide (n-1) Try.prog l #[encR3 x] W fun e W' =>
   (e=.returned (.bool true)∧J (pre++[x]) W'∧Kp3 n0 Bb B1 B2 W W')∨(e=.returned (.bool false)∧Jx (pre++[x]) W'))
  (W:World) (hc1:W.cell? ⟨B1,0,none⟩=some (.pointer (some ⟨Bb,0,none⟩))) (hc2:W.cell? ⟨B2,0,none⟩=some (.int .i64 y)) (hP:Pic w h ds Bb n0 W) (h0:J [] W) :
  CallsIn Fence.wide n Try.prog 87 #[.func (.yield l) #[] #[],.pointer (some ⟨B1,0,none⟩),.pointer (some ⟨B2,0,none⟩)] W fun e W'=>(∃ v,e=.returned v) ∧
   ((∃ ys,ys=rs∧J ys W')∨(∃ pre,pre <+: rs∧Jx pre W')):=by
 refine callsIn_of_wp Try.func87 rfl trivial ?_ rfl;simp only [Try.ntmps87,List.size_toArray,List.length_cons,List.length_nil,Nat.reduceAdd,Nat.reduceSub,Array.replicate_succ,Array.replicate_zero,List.push_toArray,List.append_toArray,List.nil_append,List.cons_append]
 gi_wp2
 gi_loopw [4] (fun p wr=>∃ (pre rest:List (Int×Int×Int)) (x:Int),p=.int .i64 x∧0≤x∧x≤w∧rs=pre++rest∧RF (fun x=>pixB w h ds x y) w y x rest∧J pre wr∧Pic w h ds Bb n0 wr∧wr.cell? ⟨B1,0,none⟩=some (.pointer (some ⟨Bb,0,none⟩))∧wr.cell? ⟨B2,0,none⟩=some (.int .i64 y))
  (fun p wr=>(w-intOf p).toNat)
 case atStart =>
  exact ⟨[],rs,0,rfl,by omega,hw0,rfl,hrs,h0,hP,hc1,hc2⟩
 case round =>
  obtain ⟨pre,rest,x,rfl,hx0,hx1,hx,hrf,hJs,hPs,hk1,hk2⟩:=hrel;have hc0:=hPs.c0
  cases hrf with
  | done _ hd =>
   have hlt:¬ x<w:=by omega
   gi_wp2
   go_end0
   exact ⟨⟨_,rfl⟩,.inl hJs⟩
  | skip _ _ hlt hp t =>
   have hp:pixB w h ds x y=false:=hp
   gi_wp2_with (refine ⟨trivial,?_⟩;gi_at_call 60;refine (is_in hPs hw0 hw1 hh hl hb x y _).mono ?_;rintro e W2 ⟨rfl,hB⟩;rw [hp])
   exact ⟨⟨pre,rest,x+1,rfl,by omega,by omega,hx,t,hJ pre wr W2 none hJs (grown_of_below hB) (fun r e=>by cases e),hPs.is hB,keepIs hk1 hB,keepIs hk2 hB⟩,by simp [intOf];omega⟩
  | run _ x' rest hlt hle hp hq t =>
   have hpx:pixB w h ds x y=true:=hp x (by omega) hlt;have hxw:x<w:=by omega
   gi_wp2_with (refine ⟨trivial,?_⟩;gi_at_call 60;refine (is_in hPs hw0 hw1 hh hl hb x y _).mono ?_;rintro e W2 ⟨rfl,hB⟩;rw [hpx])
   have hJ2:=hJ pre wr W2 none hJs (grown_of_below hB) (fun r e=>by cases e);have hP2:=hPs.is hB;have k1:=keepIs hk1 hB;have k2:=keepIs hk2 hB;clear hJs hPs hk1 hk2 hc0 hB
   gi_loopw [4] (fun p wq=>∃ (x1:Int),p=.int .i64 x1∧x≤x1∧x1≤x'∧J pre wq∧Pic w h ds Bb n0 wq∧wq.cell? ⟨B1,0,none⟩=some (.pointer (some ⟨Bb,0,none⟩))∧wq.cell? ⟨B2,0,none⟩=some (.int .i64 y))
    (fun p wq=>(w-intOf p).toNat)
   case atStart =>
    exact ⟨x,rfl,by omega,by omega,hJ2,hP2,k1,k2⟩
   case round =>
    clear hJ2 hP2 k1 k2;obtain ⟨x1,rfl,hy0,hy1,hJ3,hP3,k1,k2⟩:=hrel;have hc0:=hP3.c0;by_cases hcase:x1<x'
    ·have hpx1:pixB w h ds x1 y=true:=hp x1 hy0 hcase;have hx1w:x1<w:=by omega
     gi_wp2_with (refine ⟨trivial,?_⟩;gi_at_call 60;refine (is_in hP3 hw0 hw1 hh hl hb x1 y _).mono ?_;rintro e W4 ⟨rfl,hB⟩;rw [hpx1])
     exact ⟨⟨x1+1,rfl,by omega,by omega,hJ pre _ W4 none hJ3 (grown_of_below hB) (fun r e=>by cases e),hP3.is hB,keepIs k1 hB,keepIs k2 hB⟩,by simp [intOf];omega⟩
    ·have e1:x1=x':=by omega
     subst e1;by_cases hx1w:x1<w
     ·have hpx1:pixB w h ds x1 y=false:=hq hx1w
      gi_wp2_with (refine ⟨trivial,?_⟩;gi_at_call 60;refine (is_in hP3 hw0 hw1 hh hl hb x1 y _).mono ?_;rintro e W4 ⟨rfl,hB⟩;rw [hpx1];have hJ4:=hJ pre _ W4 none hJ3 (grown_of_below hB) (fun r e=>by cases e);have hP4:=hP3.is hB;have q1:=keepIs k1 hB;have q2:=keepIs k2 hB;obtain ⟨fn,tmps,assign,body,hy,hR⟩:=hY pre (y,x,x1) W4 ⟨rfl,hx0,hlt,hle⟩ hJ4 (by rw [hx];simp);simp only [encR3] at hy;clear hY hJ3 hP3 k1 k2)
      refine hR.mono ?_
      rintro e W5 (⟨rfl,hJ5,hk5⟩ | ⟨rfl,hJx5⟩)
      ·gi_wp2
       exact ⟨⟨pre++[(y,x,x1)],rest,x1,rfl,by omega,by omega,by simp [hx],t,hJ5,hP4.keep3 hk5,(World.cell?_of_block (a:=⟨B1,0,none⟩) (hk5.2 B1 (.inr (.inl rfl)))).trans q1,(World.cell?_of_block (a:=⟨B2,0,none⟩) (hk5.2 B2 (.inr (.inr rfl)))).trans q2⟩,by simp [intOf];omega⟩
      ·gi_wp2
       refine bodyPost_ret (results_none rfl _ _ _) rfl ?_;exact ⟨⟨_,rfl⟩,.inr ⟨pre++[(y,x,x1)],⟨rest,by simp [hx]⟩,hJx5⟩⟩
     ·have hP4:=hP3;have q1:=k1;have q2:=k2;obtain ⟨fn,tmps,assign,body,hy,hR⟩:=hY pre (y,x,x1) wr ⟨rfl,hx0,hlt,hle⟩ hJ3 (by rw [hx];simp);simp only [encR3] at hy;clear hY hJ3 hP3
      gi_wp2
      refine ⟨trivial,?_⟩
      gi_wp2
      refine hR.mono ?_
      rintro e W5 (⟨rfl,hJ5,hk5⟩ | ⟨rfl,hJx5⟩)
      ·gi_wp2
       exact ⟨⟨pre++[(y,x,x1)],rest,x1,rfl,by omega,by omega,by simp [hx],t,hJ5,hP4.keep3 hk5,(World.cell?_of_block (a:=⟨B1,0,none⟩) (hk5.2 B1 (.inr (.inl rfl)))).trans q1,(World.cell?_of_block (a:=⟨B2,0,none⟩) (hk5.2 B2 (.inr (.inr rfl)))).trans q2⟩,by simp [intOf];omega⟩
      ·gi_wp2
       refine bodyPost_ret (results_none rfl _ _ _) rfl ?_;exact ⟨⟨_,rfl⟩,.inr ⟨pre++[(y,x,x1)],⟨rest,by simp [hx]⟩,hJx5⟩⟩
abbrev RunT (w y:Int):={ r:Int×Int×Int // RunOk w y r }
theorem row2_stops (n:Nat) (hn:1≤n) (B1 B2 n0 Bb:Nat) (w h y:Int) (ds:List Int) (hw0:0≤w) (hw1:w≤1024) (hh:h≤1024) (hl:(ds.length:Int)=strd w*h) (hb:Bytes ds) (rs:List (Int×Int×Int)) (hrs:RF (fun x=>pixB w h ds x y) w y 0 rs)
  (W:World) (hc1:W.cell? ⟨B1,0,none⟩=some (.pointer (some ⟨Bb,0,none⟩))) (hc2:W.cell? ⟨B2,0,none⟩=some (.int .i64 y)) (hP:Pic w h ds Bb n0 W) :
  SeqStopsK Fence.wide n Try.prog 87 #[.pointer (some ⟨B1,0,none⟩),.pointer (some ⟨B2,0,none⟩)] (fun x:RunT w y=>#[encR3 x.1]) (Kp3 n0 Bb B1 B2) (fun ys=>ys.map (·.1)=rs) (fun pre=>pre.map (·.1) <+: rs) rs.length W:=fun l J Jx W' hW hJ _ hY h0=>by
 refine (row2_in n hn l B1 B2 n0 Bb W'.heap.size w h y ds hw0 hw1 hh hl hb rs hrs (fun pre W=>∃ pre':List (RunT w y),pre'.map (·.1)=pre∧J pre' W) (fun pre W=>∃ pre':List (RunT w y),pre'.map (·.1)=pre∧Jx pre' W) ?_ ?_ W' (keepIs hc1 hW) (keepIs hc2 hW) (hP.is hW) ⟨[],rfl,h0⟩).mono ?_
 ·rintro pre X Y row ⟨pre',e,h⟩ hg hr
  exact ⟨pre',e,hJ pre' X Y row h hg hr⟩
 ·rintro pre x W1 hx ⟨pre',e,h⟩ hlt
  obtain ⟨fn,tmps,assign,body,hy,hR⟩:=hY pre' ⟨x,hx⟩ W1 h (by rw [←e,List.length_map] at hlt;exact hlt);refine ⟨fn,tmps,assign,body,hy,hR.mono ?_⟩
  rintro e' W2 (⟨q1,q2,q3⟩ | ⟨q1,q2⟩)
  ·exact .inl ⟨q1,⟨_,by rw [List.map_append,e];rfl,q2⟩,q3⟩
  ·exact .inr ⟨q1,⟨_,by rw [List.map_append,e];rfl,q2⟩⟩
 ·rintro e' W2 ⟨hv,⟨ys,hys,pre',e,h⟩ | ⟨pre,hp,pre',e,h⟩⟩
  ·exact ⟨hv,.inl ⟨pre',e.trans hys,h⟩⟩
  ·exact ⟨hv,.inr ⟨pre',(by show List.map _ _ <+: rs;rw [e];exact hp),h⟩⟩
theorem RF.ex (p:Int→Bool) (w y:Int):∀ (k:Nat) (x:Int),x≤w→(w-x).toNat≤k→∃ rs,RF p w y x rs
 | 0,x,_,hk=>⟨[],.done x (by omega)⟩
 | k+1,x,hx,hk=>by
  by_cases c:w≤x
  ·exact ⟨[],.done x c⟩
  ·cases hp:p x with
   | false =>
    obtain ⟨rs,h⟩:=RF.ex p w y k (x+1) (by omega) (by omega);exact ⟨rs,.skip x rs (by omega) hp h⟩
   | true =>
    have key:∀ (m:Nat) (z:Int),x<z→z≤w→(w-z).toNat≤m→(∀ i,x≤i→i<z→p i=true)→∃ x',x<x'∧x'≤w∧(∀ i,x≤i→i<x'→p i=true)∧(x'<w→p x'=false):=by
     intro m
     induction m with
     | zero=>exact fun z h1 h2 h3 h4=>⟨z,h1,h2,h4,fun h=>by omega⟩
     | succ m ih =>
      intro z h1 h2 h3 h4;by_cases hz:z<w
      ·cases hpz:p z with
       | false=>exact ⟨z,h1,h2,h4,fun _=>hpz⟩
       | true =>
        refine ih (z+1) (by omega) (by omega) (by omega) fun i g1 g2=>?_
        by_cases e:i=z
        ·rw [e];exact hpz
        ·exact h4 i g1 (by omega)
      ·exact ⟨z,h1,h2,h4,fun h=>absurd h hz⟩
    obtain ⟨x',g1,g2,g3,g4⟩:=key k (x+1) (by omega) (by omega) (by omega) fun i h1 h2=>by rw [show i=x by omega];exact hp
    obtain ⟨rs,h⟩:=RF.ex p w y k x' g2 (by omega);exact ⟨_,.run x x' rs g1 g2 g3 g4 h⟩
def cov (l:List (Int×Int×Int)) (x:Int):Bool:=l.any fun r=>decide (r.2.1≤x∧x<r.2.2)
theorem RF.low {p:Int→Bool} {w y x:Int} {rs:List (Int×Int×Int)} (h:RF p w y x rs):∀ i,i<x→cov rs i=false:=by
 induction h with
 | done=>exact fun _ _=>rfl
 | skip x l h hp t ih=>exact fun i hi=>ih i (by omega)
 | run x x' l h h' hp hq t ih =>
  intro i hi;rw [cov,List.any_cons,decide_eq_false (show ¬ (x≤i∧i<x') by omega),Bool.false_or];exact ih i (by omega)
theorem RF.cov {p:Int→Bool} {w y x:Int} {rs:List (Int×Int×Int)} (h:RF p w y x rs):∀ i,x≤i→i<w→cov rs i=p i:=by
 induction h with
 | done x h=>exact fun i h1 h2=>by omega
 | skip x l h hp t ih =>
  intro i h1 h2;by_cases e:i=x
  ·rw [e,hp];exact t.low x (by omega)
  ·exact ih i (by omega) h2
 | run x x' l h h' hp hq t ih =>
  intro i h1 h2;show (List.any _ _)=_;rw [List.any_cons];by_cases c:i<x'
  ·rw [decide_eq_true (show x≤i∧i<x' from ⟨h1,c⟩),Bool.true_or,hp i h1 c]
  ·rw [decide_eq_false (show ¬ (x≤i∧i<x') from fun q=>c q.2),Bool.false_or];exact ih i (by omega) h2
end Go.Proofs.Ytnbmldnahacnlaa
/- Rewriting of residual programs by facts of arithmetic. No program in sight. -/
namespace Go.Proofs.Ytnbmldnahacnlaa
open Go Go.RowKit
def firstE (E:Nat→Int):Nat→Nat→Int
 | 0,_=>0
 | n+1,i=>if E i=0 then firstE E n (i+1) else E i
theorem firstE_step {E:Nat→Int} {i m:Nat} (hi:i<m):firstE E (m-i) i=if E i=0 then firstE E (m-(i+1)) (i+1) else E i:=by
 rw [show m-i=(m-(i+1))+1 by omega,firstE]
section
variable {α:Type} {n:Nat} {G G':Int→α}
end
end Go.Proofs.Ytnbmldnahacnlaa
/- Loops by their first error,by what is found,by a postcondition. No program in sight. -/
namespace Go.Proofs.Ytnbmldnahacnlaa
open Go Go.RowKit
set_option linter.unusedSimpArgs false
set_option linter.unusedSectionVars false
set_option linter.unusedVariables false
section
variable {β:Type} {f:(Int→Option β)→Int→Option β} {n fu:Nat} (hn:n<fu)
include hn
end
theorem firstE_all {E:Nat→Int}:∀ (m i0:Nat),(∀ k,i0≤k→k<i0+m→E k=0)→firstE E m i0=0
 | 0,_,_=>rfl
 | m+1,i0,h=>by
  rw [firstE,if_pos (h i0 (Nat.le_refl _) (by omega))];exact firstE_all m (i0+1) fun k g1 g2=>h k (by omega) (by omega)
theorem errGen {X β:Type} {f:(X→Option β)→X→Option β} {n:Nat} {st:Nat→X} {E:Nat→Int} {out:Int→Option β} {fin:Option β}
  (step:∀ j (i:Nat),i<n→(∀ k,k<i→E k=0)→f j (st i)=if E i=0 then j (st (i+1)) else out (E i)) (last:(∀ k,k<n→E k=0)→∀ j,f j (st n)=fin) :
  ∀ (fu i:Nat),i≤n→n-i<fu→(∀ k,k<i→E k=0)→loopF f fu (st i)=if firstE E (n-i) i=0 then fin else out (firstE E (n-i) i)
 | 0,i,_,h,_=>by omega
 | fu+1,i,h0,h1,hE=>by
  rw [loopF];by_cases hi:i<n
  ·rw [step _ i hi hE,firstE_step hi];by_cases e:E i=0
   ·rw [if_pos e];simp only [if_pos e]
    exact errGen step last fu (i+1) (by omega) (by omega) fun k hk=>by
     by_cases q:k=i
     ·rw [q];exact e
     ·exact hE k (by omega)
   ·rw [if_neg e];simp only [if_neg e]
  ·have e:i=n:=by omega
   subst e;rw [last hE,Nat.sub_self];rfl
end Go.Proofs.Ytnbmldnahacnlaa
