/- Decompiling: regions that draw their order, over terms. No program in sight. -/
import Derived.Test.YtljebnobajmjnaaZDM4
import Derived.Test.YtljebnobajmjnaaProg
import Derived.Below
import Derived.WalkKit
import Derived.WalkSpells
/- Decompiling: regions that draw their order,over terms. No program in sight. -/
namespace Go.Proofs.Ytljebnobajmjnaa
open Go Go.RowKit

section
variable {V W:Ty→Type} {ρ:Ty}
def visV (T:List (List Nat)) (b0 i:Nat) (cr:List (Nat×Nat)) (k:Nat):Bool:=Nat.blt k b0||cr.any fun c=>Nat.beq c.2 k&&hasN (T.getD i []) c.1
def visS (T:List (List Nat)) (ws:List (Nat×Nat)) (b0 i:Nat) (cr:List (Nat×Nat)) (k:Nat):Bool:=visV T b0 i cr k&&Dr.okW T ws i k
def lclS (ops:Array Oper) (T:List (List Nat)) (ws:List (Nat×Nat)) (b0 i:Nat) (cr:List (Nat×Nat)) (st:SSt V) (o:Oper):SSt V :=
 ⟨(o.looksAt ops).map fun t=>(t,st.get t),[],(st.heap++st.hk).filter fun p=>visS T ws b0 i cr p.1,[],[],st.nx⟩
def callR (C:DC) (lst:SSt V) (K:SV V→G V W ρ):Op→G V W ρ
 | .call ⟨.value cal,args,_⟩=>match lst.ev cal with
  | .fn F caps=>match lk C.cas F with
   | some _=>match lk C.ctrs F with
    | some c=>match exArgs lst c.a (evS lst args.toList++caps) with
     | some e=>.call c.f c.nm e fun y=>K (oneOfS (svsE true c.r (.var y)))
     | none=>.fail
    | none=>.fail
   | none=>.fail
  | _=>.fail
 | _=>.fail
def isNew:Op→Bool
 | .alloc _=>true
 | .box _ _=>true
 | .makeSlice ..=>true
 | .buildSlice ..=>true
 | .call ⟨.builtin .append,_,_⟩=>true
 | _=>false
def newR (C:DC) (T:List (List Nat)) (ws:List (Nat×Nat)) (b0 i:Nat) (cr:List (Nat×Nat)) (lst st:SSt V) (o:Oper) (K:List (Nat×Nat)→SSt V→G V W ρ):G V W ρ:=match mem0 C.T lst o.dst o.op with
 | some (.new b row,g)=>bif Dr.noW ws i&&Dr.newW T ws i st.nx&&b.refs (fun k=>visS T ws b0 i cr k&&!Nat.beq k st.nx) (fun k _=>visS T ws b0 i cr k&&!Nat.beq k st.nx)&&st.refs (fun id=>!Nat.beq id st.nx) (fun id _=>!Nat.beq id st.nx) then grdG g (K ((i,st.nx)::cr) (MR.app st o.dst (.new b row))) else .fail
 | _=>.fail
def storeB (T:Tab) (st:SSt V) (t:TypeId) (a v:SV V):Option (Nat×SB V):=match lk T.inf t with
 | some (_,s,_)=>bif allOneS st v.cells&&Nat.beq v.cells.length s then (match a with
  | .box id o=>match st.blk id with
   | .box cs e=>bif Nat.ble (o+s) cs.length then some (id,.box (setRS cs o v.cells) e) else none
   | _=>none
  | _=>none) else none
 | none=>none
def storeE (T:Tab) (st:SSt V) (t:TypeId) (a v:SV V):Option (Nat×SB V):=match lk T.inf t with
 | some (_,s,_)=>bif allOneS st v.cells&&Nat.beq v.cells.length s then (match a with
  | .elt id ver i o=>match st.blk id with
   | .row fr ty xs e ver'=>bif Nat.beq ver ver'&&Nat.ble (o+s) ty.size then (match exA fr ty (setRS (cellsE fr ty (.at xs i)) o v.cells) with
    | some x=>some (id,.row fr ty (.set xs i x) e ver')
    | none=>match exA false ty (setRS (cellsE fr ty (.at xs i)) o v.cells) with
     | some x=>some (id,.row false ty (.set xs i x) e ver')
     | none=>none) else none
   | _=>none
  | _=>none) else none
 | none=>none
def idsA (x:SV V):List Nat:=match x with
 | .osl id _=>[id]
 | .vsl id _ _ _=>[id]
 | _=>[]
def notA (x:SV V):Bool:=match x with
 | .aelt ..=>false
 | _=>true
def appR (C:DC) (T:List (List Nat)) (ws:List (Nat×Nat)) (b0 i:Nat) (cr:List (Nat×Nat)) (st:SSt V) (d:Option Nat) (t:TypeId) (y z:SV V) (K:List (Nat×Nat)→SSt V→G V W ρ):G V W ρ:=match appS C.T (fun t=>t) st t y z with
 | some (.upd id b (some x),g)=>bif visS T ws b0 i cr id&&(ws.any fun p=>Nat.beq p.1 i&&Nat.beq p.2 id)&&Dr.onlyW ws i id&&(idsA z).all (fun j=>visS T ws b0 i cr j)&&notA z then grdG g (K cr ((st.hset id b).put d x)) else .fail
 | _=>.fail
def writeR (C:DC) (T:List (List Nat)) (ws:List (Nat×Nat)) (b0 i:Nat) (cr:List (Nat×Nat)) (st:SSt V) (o:Oper) (K:List (Nat×Nat)→SSt V→G V W ρ):G V W ρ:=match o.dst,o.op with
 | none,.store t a v=>match storeB C.T st t (st.ev a) (st.ev v) with
  | some (id,b)=>bif visS T ws b0 i cr id&&(ws.any fun p=>Nat.beq p.1 i&&Nat.beq p.2 id)&&Dr.onlyW ws i id&&b.refs (visS T ws b0 i cr) (fun k _=>visS T ws b0 i cr k)&&(st.blk id).refs (visS T ws b0 i cr) (fun k _=>visS T ws b0 i cr k) then K cr (st.hset id b) else .fail
  | none=>match storeE C.T st t (st.ev a) (st.ev v) with
   | some (id,b)=>bif visS T ws b0 i cr id&&(ws.any fun p=>Nat.beq p.1 i&&Nat.beq p.2 id)&&Dr.onlyW ws i id&&(st.blk id).refs (visS T ws b0 i cr) (fun k _=>visS T ws b0 i cr k) then K cr (st.hset id b) else .fail
   | none=>.fail
 | d,.call ⟨.builtin .append,⟨[y,z]⟩,⟨[t,t']⟩⟩=>bif Nat.beq t' t then appR C T ws b0 i cr st d t (st.ev y) (st.ev z) K else .fail
 | _,_=>.fail
def effOf (C:DC) (lst:SSt V):Op→Option (CtrE×List (SV V))
 | .call ⟨.value cal,args,_⟩=>match lst.ev cal with
  | .fn F caps=>match lk C.cas F with
   | some _=>match lk C.ctrs F with
    | some _=>none
    | none=>match lk C.effs F with
     | some ce=>some (ce,evS lst args.toList++caps)
     | none=>none
   | none=>none
  | _=>none
 | _=>none
def effD (T:List (List Nat)) (ws:List (Nat×Nat)) (b0 i:Nat) (cr:List (Nat×Nat)) (lst st:SSt V) (o:Oper) (ce:CtrE) (vs:List (SV V)) (K:List (Nat×Nat)→SSt V→G V W ρ):G V W ρ :=
 bif (detOk ce.si ce.so ce.nb&&!(st.blk 0).isA)&&(((itemB ce.si.items).all fun b=>visS T ws b0 i cr (mpI (mapE ce.si lst vs) b)&&(ws.any fun p=>Nat.beq p.1 i&&Nat.beq p.2 (mpI (mapE ce.si lst vs) b))) &&
  ((ws.all fun p=>!Nat.beq p.1 i||((itemB ce.si.items).any fun b=>Nat.beq p.2 (mpI (mapE ce.si lst vs) b)))&&(((List.range ce.so.ex).all fun j=>Dr.newW T ws i (st.nx+j))&&refE ce.si ce.so ce.nb (mapE ce.si lst vs) st))) then (match arrE ce.si ce.so ce.nb ce.na lst vs with
  | some e=>.call ce.f ce.nm e fun y=>K ((List.range ce.so.ex).map (fun j=>(i,st.nx+j))++cr) ((outE ce.si ce.so ce.nb (mapE ce.si lst vs) st (.var y)).put o.dst (resE ce.si ce.so ce.nb (mapE ce.si lst vs) st (.var y)))
  | none=>.fail) else .fail
def isMv:Op→Option Operand
 | .move y=>some y
 | .assign y=>some y
 | _=>none
def moveR (T:List (List Nat)) (ws:List (Nat×Nat)) (b0 i:Nat) (cr:List (Nat×Nat)) (st:SSt V) (o:Oper) (y:Operand) (K:List (Nat×Nat)→SSt V→G V W ρ):G V W ρ :=
 bif Dr.noW ws i&&(st.ev y).refs (visV T b0 i cr) (fun k _=>visV T b0 i cr k) then (bif lets o.op then letV (st.ev y) fun x=>K cr (st.put o.dst x) else K cr (st.put o.dst (st.ev y))) else .fail
def stepR' (C:DC) (T:List (List Nat)) (ws:List (Nat×Nat)) (b0 i:Nat) (cr:List (Nat×Nat)) (lst st:SSt V) (o:Oper) (K:List (Nat×Nat)→SSt V→G V W ρ):G V W ρ:=match isMv o.op with
 | some y=>moveR T ws b0 i cr st o y K
 | none=>match rd C.T lst o.op with
 | some (x,g)=>bif Dr.noW ws i&&x.refs (visS T ws b0 i cr) (fun k _=>visS T ws b0 i cr k) then
   grdG g (bif lets o.op then letV x fun x=>K cr (st.put o.dst x) else K cr (st.put o.dst x)) else .fail
 | none=>bif isNew o.op&&Dr.noW ws i then newR C T ws b0 i cr lst st o K else match effOf C lst o.op with
  | some (ce,vs)=>effD T ws b0 i cr lst st o ce vs K
  | none=>bif Dr.noW ws i then callR C lst (fun x=>K cr (st.put o.dst x)) o.op else writeR C T ws b0 i cr st o K
def sR (C:DC) (n:Nat) (ops:Array Oper) (T:List (List Nat)) (ws:List (Nat×Nat)) (b0:Nat) (K:SSt V→G V W ρ):Nat→List (Nat×Nat)→List Oper→SSt V→G V W ρ
 | _,_,[],st=>K st
 | i,cr,o::l,st=>bif dok o.dst n then (match wantS ops o st with
  | .yes=>stepR' C T ws b0 i cr (lclS ops T ws b0 i cr st o) st o fun cr' st'=>sR C n ops T ws b0 K (i+1) cr' l st'
  | .no=>bif Dr.noW ws i then sR C n ops T ws b0 K (i+1) cr l (st.put o.dst .und) else .fail
  | .ask c d want=>.ite c
    (bif want then stepR' C T ws b0 i cr (lclS ops T ws b0 i cr (st.put (some d) (.bool (.bL true))) o) (st.put (some d) (.bool (.bL true))) o fun cr' st'=>sR C n ops T ws b0 K (i+1) cr' l st'
     else bif Dr.noW ws i then sR C n ops T ws b0 K (i+1) cr l ((st.put (some d) (.bool (.bL true))).put o.dst .und) else .fail)
    (bif want then bif Dr.noW ws i then sR C n ops T ws b0 K (i+1) cr l ((st.put (some d) (.bool (.bL false))).put o.dst .und) else .fail
     else stepR' C T ws b0 i cr (lclS ops T ws b0 i cr (st.put (some d) (.bool (.bL false))) o) (st.put (some d) (.bool (.bL false))) o fun cr' st'=>sR C n ops T ws b0 K (i+1) cr' l st')
  | .bad=>.fail) else .fail
def tailN (T:List (List Nat)):Nat→Nat
 | 0=>0
 | i+1=>bif (List.range i).all fun j=>hasN (T.getD i []) j then tailN T i else i+1
def wsD (C:DC):Nat→List Oper→SSt V→List (Nat×Nat)
 | _,[],_=>[]
 | i,o::l,st=>match rd C.T st o.op with
  | some (x,_)=>wsD C (i+1) l (st.put o.dst x)
  | none=>match o.op with
   | .store _ a _=>match st.ev a with
    | .box id _=>(i,id)::wsD C (i+1) l st
    | .elt id _ _ _=>(i,id)::wsD C (i+1) l st
    | _=>wsD C (i+1) l st
   | _=>match effOf C st o.op with
    | some (ce,vs)=>((itemB ce.si.items).map fun b=>(i,mpI (mapE ce.si st vs) b))++wsD C (i+1) l ((⟨st.regs,st.kp,st.heap,st.hk,st.fr,st.nx+ce.so.ex⟩:SSt V).put o.dst .any)
    | none=>match mem0 C.T st o.dst o.op with
     | some (.new b row,_)=>wsD C (i+1) l (MR.app st o.dst (.new b row))
     | some (.upd id b (some r),_)=>(i,id)::wsD C (i+1) l ((st.hset id b).put o.dst r)
     | _=>wsD C (i+1) l (st.put o.dst .any)
def drW (C:DC) (self:SelfG V W ρ) (an:An) (n:Nat) (l:List Oper) (st:SSt V) (ws:List (Nat×Nat)) (K:SSt V→G V W ρ):G V W ρ :=
 bif Dr.planR l (ancs l [])&&(ws.all fun p=>isLive (st.blk p.2)||Nat.ble st.nx p.2)&&Dr.tailR l (ancs l []) (tailN (ancs l []) l.length) then
  sR C n ⟨l⟩ (ancs l []) ws st.nx (fun st'=>sL C self n ⟨l⟩ an (tailN (ancs l []) l.length) (l.drop (tailN (ancs l []) l.length)) st' K) 0 [] (l.take (tailN (ancs l []) l.length)) st else .fail
def anyS (l:List Oper):List Nat→SSt V→SSt V
 | [],st=>st
 | j::J,st=>match l[j]? with
  | some o=>anyS l J (st.put o.dst .any)
  | none=>anyS l J st
def syG (C:DC) (n:Nat) (l:List Oper):List Nat→SSt V→(SSt V→G V W ρ)→G V W ρ
 | [],st,K=>K st
 | j::J,st,K=>match l[j]? with
  | some o=>bif dok o.dst n then (match rd C.T st o.op with
   | some (x,g)=>grdG g (letV x fun x=>syG C n l J (st.put o.dst x) K)
   | none=>.fail) else .fail
  | none=>.fail
def syP (C:DC) (n:Nat) (l:List Oper):List Nat→SSt V→G V W ρ→G V W ρ
 | [],_,k=>k
 | j::J,st,k=>match l[j]? with
  | some o=>bif dok o.dst n then (match rd C.T st o.op with
   | some (x,g)=>grdG g (syP C n l J (st.put o.dst x) k)
   | none=>.fail) else .fail
  | none=>.fail
def drS (C:DC) (self:SelfG V W ρ) (an:An) (n:Nat) (l:List Oper) (m k:Nat) (J:List Nat) (st:SSt V) (ws:List (Nat×Nat)) (K:SSt V→G V W ρ):G V W ρ:=match l[m]? with
 | some A=>bif (Dr.planR l (ancs l [])&&(ws.all fun p=>isLive (st.blk p.2)||Nat.ble st.nx p.2)&&Dr.tailSy l (ancs l []) m k J)&&((ws.all fun p=>Nat.blt p.1 m)&&Dr.isCall A.op) then
   syP C n l J st (sR C n ⟨l⟩ (ancs l []) ws st.nx (fun st'=>sL C self n ⟨l⟩ an m [A] st' fun st2=>syG C n l J (anyS l J st2) fun st3=>sL C self n ⟨l⟩ an k (l.drop k) st3 K) 0 [] (l.take m) st) else .fail
 | none=>.fail
def An.sy:An→Option (Nat×Nat×List Nat)
 | .dr ((888888,m)::(k,_)::J) _=>some (m,k,J.map (·.1))
 | _=>none
def drR (C:DC):DrawG V W ρ:=fun self an n l st K=>match an.sy with
 | some (m,k,J)=>drS C self an n l m k J (anyS l J st) (wsD C 0 (l.take m) (anyS l J st)) K
 | none=>drW C self an n l st (wsD C 0 (l.take (tailN (ancs l []) l.length)) st) K
end
section
variable {m:Nat→Nat} {H:Nat→SB D} {q:Nat→Bool} {pB:Nat→Bool} {pR:Nat→Nat→Bool}
theorem cells_nmd {fr:Bool}:∀ (t:Ty) (e:E D t),SV.refsL pB pR (cellsE fr t e)=true:=by
 intro t
 induction t with
 | pair a b iha ihb =>
  intro e;rw [cellsE]
  have key:∀ (l r:List (SV D)),SV.refsL pB pR l=true→SV.refsL pB pR r=true→SV.refsL pB pR (l++r)=true:=by
   intro l r hl hr
   induction l with
   | nil=>exact hr
   | cons c l ih =>
    rw [SV.refsL,Bool.and_eq_true] at hl;rw [List.cons_append,SV.refsL,hl.1,ih hl.2];rfl
  exact key _ _ (iha _) (ihb _)
 | agg t ih=>intro e;rw [cellsE];exact ih _
 | unit=>intro e;rw [cellsE,SV.refsL]
 | int k=>intro e;rw [cellsE,SV.refsL,SV.refsL];rw [SV.refs] <;> simp
 | bool=>intro e;rw [cellsE,SV.refsL,SV.refsL];rw [SV.refs] <;> simp
 | str=>intro e;rw [cellsE,SV.refsL,SV.refsL];rw [SV.refs] <;> simp
 | list t _=>intro e;rw [cellsE,SV.refsL,SV.refsL];rw [SV.refs] <;> simp
 | ptr t _=>intro e;rw [cellsE,SV.refsL,SV.refsL];rw [SV.refs] <;> simp
 | aix=>intro e;rw [cellsE,SV.refsL,SV.refsL];rw [SV.refs] <;> simp
theorem data_nmd {t:Ty} {fr:Bool}:∀ (e:E D t),SV.refs pB pR (svE fr t e)=true:=by
 intro e
 cases t with
 | agg t=>rw [svE,SV.refs];exact cells_nmd _ _
 | _=>rw [svE,SV.refs] <;> simp
theorem datas_nmd {fr:Bool}:∀ (t:Ty) (e:E D t),SV.refsL pB pR (svsE fr t e)=true
 | .pair a b,e=>by rw [svsE,SV.refsL,data_nmd,datas_nmd b];rfl
 | .int _,_=>by rw [svsE,SV.refsL];all_goals simp
 | .bool,_=>by rw [svsE,SV.refsL];all_goals simp
 | .str,_=>by rw [svsE,SV.refsL];all_goals simp
 | .list _,_=>by rw [svsE,SV.refsL];all_goals simp
 | .unit,_=>by rw [svsE,SV.refsL];all_goals simp
 | .agg _,_=>by rw [svsE,SV.refsL];all_goals simp
 | .ptr _,_=>by rw [svsE,SV.refsL];all_goals simp
 | .aix,_=>by rw [svsE,SV.refsL];all_goals simp
theorem one_nmd {l:List (SV D)} (h:SV.refsL pB pR l=true):(oneOfS l).refs pB pR=true:=by
 unfold oneOfS;split
 ·rw [SV.refsL,Bool.and_eq_true] at h;exact h.1
 ·rw [SV.refs];exact h
end
structure Lay (m:Nat→Nat) (nx0 b0:Nat) (st0:SSt D):Prop where
 new:∀ k,b0≤k→m k=nx0+(k-b0)
 old:∀ k,k<b0→st0.blk k≠.dead→m k<nx0
 inj:∀ k k',st0.blk k≠.dead→st0.blk k'≠.dead→m k=m k'→k=k'
 lt:∀ k,st0.blk k≠.dead→k<b0
 ge:bigA≤nx0∧∀ k,st0.blk k≠.dead→bigA≤m k
def Good (b0:Nat) (st0:SSt D) (k:Nat):Prop:=b0≤k∨st0.blk k≠.dead
section
variable {m:Nat→Nat} {nx0 b0:Nat} {st0:SSt D}
theorem Lay.geG (h:Lay m nx0 b0 st0) {k:Nat} (hk:Good b0 st0 k):bigA≤m k:=by
 rcases hk with hk | hk
 ·rw [h.new k hk];have:=h.ge.1;omega
 ·exact h.ge.2 k hk
theorem Lay.injG (h:Lay m nx0 b0 st0) {k k':Nat} (hk:Good b0 st0 k) (hk':Good b0 st0 k') (e:m k=m k'):k=k':=by
 rcases hk with hk | hk
 ·rcases hk' with hk' | hk'
  ·rw [h.new k hk,h.new k' hk'] at e;omega
  ·have:=h.old k' (h.lt k' hk') hk';rw [h.new k hk] at e;omega
 ·rcases hk' with hk' | hk'
  ·have:=h.old k (h.lt k hk) hk;rw [h.new k' hk'] at e;omega
  ·exact h.inj k k' hk hk' e
def mapP (m:Nat→Nat) (l:List (Nat×Nat)):List (Nat×Nat):=l.map fun p=>(p.1,m p.2)
theorem beq_m (h:Lay m nx0 b0 st0) {k k':Nat} (hk:Good b0 st0 k) (hk':Good b0 st0 k'):Nat.beq (m k) (m k')=Nat.beq k k':=by
 cases hb:Nat.beq k k' with
 | true =>
  have:=Nat.eq_of_beq_eq_true hb;subst this;exact Nat.beq_refl _
 | false =>
  rw [←Bool.not_eq_true];intro e;have:=h.injG hk hk' (Nat.eq_of_beq_eq_true e);subst this;rw [Nat.beq_refl] at hb;cases hb
variable {T:List (List Nat)} {ws cr:List (Nat×Nat)} {i:Nat}
theorem okW_m (h:Lay m nx0 b0 st0) (hw:∀ p ∈ ws,Good b0 st0 p.2) {k:Nat} (hk:Good b0 st0 k):Dr.okW T (mapP m ws) i (m k)=Dr.okW T ws i k:=by
 unfold Dr.okW mapP
 induction ws with
 | nil=>rfl
 | cons p l ih =>
  rw [List.map_cons,List.all_cons,List.all_cons,ih (fun p hp=>hw p (List.mem_cons_of_mem _ hp)),beq_m h (hw p (by simp)) hk]
theorem vis_m (h:Lay m nx0 b0 st0) (hc:∀ p ∈ cr,b0≤p.2) {k:Nat} (hk:Good b0 st0 k):vis T nx0 i (mapP m cr) (m k)=visV T b0 i cr k:=by
 unfold vis visV mapP
 have e1:Nat.blt (m k) nx0=Nat.blt k b0:=by
  rw [Bool.eq_iff_iff];simp only [Nat.blt_eq];rcases hk with hk | hk
  ·rw [h.new k hk];omega
  ·have:=h.old k (h.lt k hk) hk;have:=h.lt k hk;omega
 rw [e1];congr 1
 induction cr with
 | nil=>rfl
 | cons p l ih =>
  rw [List.map_cons,List.any_cons,List.any_cons,ih (fun p hp=>hc p (List.mem_cons_of_mem _ hp)),beq_m h (.inl (hc p (by simp))) hk]
theorem noW_m (ws:List (Nat×Nat)):Dr.noW (mapP m ws) i=Dr.noW ws i:=by
 unfold Dr.noW mapP;rw [List.all_map];rfl
end
theorem vis_arn {m:Nat→Nat} {nx0 b0:Nat} {st0:SSt D} {T:List (List Nat)} {i:Nat} {cr:List (Nat×Nat)} (hL:Lay m nx0 b0 st0) {q:Nat} (hq:q<bigA):vis T nx0 i cr q=true:=by
 unfold vis;rw [show Nat.blt q nx0=true by rw [Nat.blt_eq];exact Nat.lt_of_lt_of_le hq hL.ge.1];rfl
theorem visW_arn {m:Nat→Nat} {nx0 b0:Nat} {st0:SSt D} {T:List (List Nat)} {i:Nat} {ws cr:List (Nat×Nat)} (hL:Lay m nx0 b0 st0) (hw:∀ p ∈ ws,Good b0 st0 p.2) {q:Nat} (hq:q<bigA):Dr.visW T (mapP m ws) nx0 i (mapP m cr) q=true:=by
 unfold Dr.visW;rw [vis_arn hL hq,Bool.true_and];unfold Dr.okW;refine List.all_eq_true.2 fun p hp=>?_
 obtain ⟨p',hp',rfl⟩:=List.mem_map.1 hp;have h1:=hL.geG (hw p' hp')
 have:Nat.beq (m p'.2) q=false:=by
  rw [←Bool.not_eq_true];intro e
  have:=Nat.eq_of_beq_eq_true e;omega
 simp [this]
section
variable {P:Program} {n:Nat} {m:Nat→Nat} {nx nx0 b0:Nat} {st0 st:SSt D} {T:List (List Nat)} {ws cr:List (Nat×Nat)} {i:Nat} {ops:Array Oper} {o:Oper}
theorem lclS_get (d:Nat):(lclS ops T ws b0 i cr st o).get d=look .any ((o.looksAt ops).map fun t=>(t,st.get t)) d:=rfl
theorem lclS_blk (k:Nat):(lclS ops T ws b0 i cr st o).blk k=bif visS T ws b0 i cr k then st.blk k else .dead:=by
 show look (look .dead [] k) ((st.heap++st.hk).filter fun p=>visS T ws b0 i cr p.1) k=_;have:(look .dead ([]:List (Nat×SB D)) k)=.dead:=rfl;rw [this,look_filt (f:=fun k=>visS T ws b0 i cr k),blk_look]
theorem lclS_mem:MemLe m st.blk m (lclS ops T ws b0 i cr st o).blk (fun _=>true) (fun _ _=>true):=by
 refine ⟨fun id _=>?_,fun id v _=>?_⟩
 ·cases hv:visS T ws b0 i cr id with
  | true=>right;unfold isBox;rw [lclS_blk,hv];exact ⟨rfl,rfl⟩
  | false=>left;unfold isBox;rw [lclS_blk,hv];rfl
 ·cases hv:visS T ws b0 i cr id with
  | true=>right;unfold rowLen;rw [lclS_blk,hv];exact ⟨rfl,rfl⟩
  | false=>left;unfold rowLen;rw [lclS_blk,hv];rfl
theorem lclS_mok (hm:MOk m nx st) {k:Nat} (hkA:bigA≤k) (hk:∀ j,(lclS ops T ws b0 i cr st o).blk j≠.dead→m j<k):MOk m k (lclS ops T ws b0 i cr st o):=by
 have live:∀ j,(lclS ops T ws b0 i cr st o).blk j≠.dead→st.blk j≠.dead:=by
  intro j hj;rw [lclS_blk] at hj
  cases hv:visS T ws b0 i cr j with
  | true=>rw [hv] at hj;exact hj
  | false=>rw [hv] at hj;exact absurd rfl hj
 refine ⟨hk,fun j j' h1 h2 e=>hm.inj j j' (live j h1) (live j' h2) e,fun p hp=>?_,fun h=>?_,hkA,fun j hj=>hm.ge.2 j (live j hj)⟩
 rotate_left
 ·rw [lclS_blk] at h
  cases hv:visS T ws b0 i cr 0 with
  | true=>rw [hv] at h;exact hm.ar' h
  | false=>rw [hv] at h;cases h
 have hp:p ∈ ((st.heap++st.hk).filter fun p=>visS T ws b0 i cr p.1)++[]:=hp;rw [List.append_nil] at hp;exact hm.keys p (List.mem_filter.1 hp).1
theorem lclS_les (hL:Lay m nx0 b0 st0) (hw:∀ p ∈ ws,Good b0 st0 p.2) (hc:∀ p ∈ cr,b0≤p.2) (hg:∀ k,st.blk k≠.dead→Good b0 st0 k) (hm:MOk m nx st) {k:Nat} (hkA:bigA≤k) (hk:∀ j,(lclS ops T ws b0 i cr st o).blk j≠.dead→m j<k) :
  LeS ((lclS ops T ws b0 i cr st o).enc m k) (Dr.lcl ops T (mapP m ws) nx0 i (mapP m cr) (st.enc m nx) o k):=by
 refine ⟨fun d=>?_,fun q=>?_,rfl⟩
 ·rw [enc_get,lclS_get];show Les _ (look .any ((o.looksAt ops).map fun t=>(t,look .any (st.enc m nx).regs t)) d);by_cases hd:d ∈ o.looksAt ops
  ·have key:∀ (l:List Nat),d ∈ l→look SV.any (l.map fun t=>(t,st.get t)) d=st.get d∧look AV.any (l.map fun t=>(t,look .any (st.enc m nx).regs t)) d=look .any (st.enc m nx).regs d:=by
    intro l
    induction l with
    | nil=>intro h;cases h
    | cons a l ih =>
     intro h;rw [List.map_cons,List.map_cons,look_cons,look_cons];by_cases e:a=d
     ·subst e;rw [if_pos rfl,if_pos rfl];exact ⟨rfl,rfl⟩
     ·rw [if_neg e,if_neg e];exact ih ((List.mem_cons.1 h).resolve_left fun e'=>e e'.symm)
   obtain ⟨e1,e2⟩:=key _ hd;rw [e1,e2,enc_get];exact enc_les lclS_mem _ (sv_refs_all _)
  ·rw [look_pick_in hd,SV.enc];exact .any _
 ·rcases heap_cases (lclS_mok hm hkA hk) q with h | ⟨j,h,e⟩ | ⟨h1,h2,h3⟩
  ·rw [h];exact .dead _
  rotate_left
  ·have hv:visS T ws b0 i cr 0=true:=by
    cases hv:visS T ws b0 i cr 0 with
    | true=>rfl
    | false=>rw [lclS_blk,hv] at h1;cases h1
   have e1:(lclS ops T ws b0 i cr st o).blk 0=st.blk 0:=by rw [lclS_blk,hv];rfl
   rw [e1] at h1 h3;rw [hm.ar' h1] at h2;rw [h3];show LesB _ (look .dead ((st.enc m nx).heap.filter fun p=>Dr.visW T (mapP m ws) nx0 i (mapP m cr) p.1) q);rw [look_filt (f:=fun id=>Dr.visW T (mapP m ws) nx0 i (mapP m cr) id),visW_arn hL hw h2,enc_look hm,h1,show Nat.blt q (m 0)=true by rw [hm.ar' h1,Nat.blt_eq];exact h2];exact .refl _
  ·subst e;rw [enc_blk (lclS_mok hm hkA hk) h]
   have hv:visS T ws b0 i cr j=true:=by
    cases hv:visS T ws b0 i cr j with
    | true=>rfl
    | false=>rw [lclS_blk,hv] at h;exact absurd rfl h
   have hlj:st.blk j≠.dead:=by rw [lclS_blk,hv] at h;exact h
   have hgj:=hg j hlj;show LesB _ (look .dead ((st.enc m nx).heap.filter fun p=>Dr.visW T (mapP m ws) nx0 i (mapP m cr) p.1) (m j))
   have hvv:Dr.visW T (mapP m ws) nx0 i (mapP m cr) (m j)=true:=by
    unfold Dr.visW;rw [vis_m hL hc hgj,okW_m hL hw hgj];exact hv
   rw [look_filt (f:=fun id=>Dr.visW T (mapP m ws) nx0 i (mapP m cr) id),hvv,enc_blk hm hlj];have e1:(lclS ops T ws b0 i cr st o).blk j=st.blk j:=by rw [lclS_blk,hv];rfl
   rw [e1];exact encB_les lclS_mem _ (sb_refs_all _)
theorem lt_of_rel {K:Kn} {a:Act} {w:World} {G:Gh} (hL:Lay m nx0 b0 st0) (hw:∀ p ∈ ws,Good b0 st0 p.2) (hc:∀ p ∈ cr,b0≤p.2) (hg:∀ k,st.blk k≠.dead→Good b0 st0 k) (hA:∀ j,(st.blk j).isA=true→(st0.blk j).isA=true) (hm:MOk m nx st) {k:Nat} (hkA:nx0≤k) (r:RelG K n (Dr.lcl ops T (mapP m ws) nx0 i (mapP m cr) (st.enc m nx) o k) a w G):∀ j,(lclS ops T ws b0 i cr st o).blk j≠.dead→m j<k:=by
 intro j h
 have hv:visS T ws b0 i cr j=true:=by
  cases hv:visS T ws b0 i cr j with
  | true=>rfl
  | false=>rw [lclS_blk,hv] at h;exact absurd rfl h
 have hlj:st.blk j≠.dead:=by rw [lclS_blk,hv] at h;exact h
 have hgj:=hg j hlj;have hb:=r.hr.blk (m j)
 have e1:look .dead (Dr.lcl ops T (mapP m ws) nx0 i (mapP m cr) (st.enc m nx) o k).heap (m j)=(st.blk j).enc m st.blk:=by
  show look .dead ((st.enc m nx).heap.filter fun p=>Dr.visW T (mapP m ws) nx0 i (mapP m cr) p.1) (m j)=_
  have hvv:Dr.visW T (mapP m ws) nx0 i (mapP m cr) (m j)=true:=by
   unfold Dr.visW;rw [vis_m hL hc hgj,okW_m hL hw hgj];exact hv
  rw [look_filt (f:=fun id=>Dr.visW T (mapP m ws) nx0 i (mapP m cr) id),hvv,enc_blk hm hlj];rfl
 rw [e1] at hb;have hn:G.nx=k:=r.nx;rw [←hn];have hA:=hA j;generalize st.blk j=b at hb hlj hA
 cases b with
 | dead=>exact absurd rfl hlj
 | box cs e=>rw [SB.enc] at hb;exact hb.1
 | row fr t xs e v=>rw [SB.enc] at hb;exact hb.1
 | arn t xs e =>
  rw [hn];have h1:st0.blk j≠.dead:=fun e=>by have:=hA rfl;rw [e] at this;cases this
  exact Nat.lt_of_lt_of_le (hL.old j (hL.lt j h1) h1) hkA
end
end Go.Proofs.Ytljebnobajmjnaa
/- Decompiling: regions that draw their order: the machine over terms says what they do. No program in sight. -/
namespace Go.Proofs.Ytljebnobajmjnaa
open Go Go.RowKit

theorem OpF.le {P:Program} {n:Nat} {s s':ASt} {o:Oper} {x:AV} (h:LeS s s') (k:OpF P n o s x):OpF P n o s' x:=⟨k.dst,fun K a w G r=>k.out K a w G (r.les h)⟩
theorem gdst_looks {ops:Array Oper} {o:Oper} {d:Nat} {want:Bool} (h:gdst ops o=some (d,want)):d ∈ o.looksAt ops:=by
 unfold gdst at h;unfold Oper.looksAt;split at h
 ·rename_i j want' hg;rw [Option.map_eq_some_iff] at h;obtain ⟨d',h1,h2⟩:=h;injection h2 with h2 _
  subst h2;rw [hg];simp [h1]
 ·cases h
theorem lregs_get {ops:Array Oper} {o:Oper} {s:ASt} {d:Nat} (hd:d ∈ o.looksAt ops):look .any (Dr.lregs ops s o) d=look .any s.regs d:=by
 unfold Dr.lregs
 revert hd
 generalize o.looksAt ops=l
 induction l with
 | nil=>intro h;cases h
 | cons a l ih =>
  intro h;rw [List.map_cons,look_cons];by_cases e:a=d
  ·subst e;rw [if_pos rfl]
  ·rw [if_neg e];exact ih ((List.mem_cons.1 h).resolve_left fun e'=>e e'.symm)
def nxOf (nx0 b0:Nat) (st:SSt D):Nat:=nx0+(st.nx-b0)
structure RI (F:List (Nat→AV)) (m:Nat→Nat) (nx0 b0:Nat) (st0 st:SSt D):Prop where
 mok:MOk m (nxOf nx0 b0 st) st
 ge:b0≤st.nx
 fr:FrOk m st.blk st.fr F
 fix:Fix st0 st
 good:∀ k,st.blk k≠.dead→Good b0 st0 k
 arn:∀ k,(st.blk k).isA=true→(st0.blk k).isA=true
section
variable {P:Program} {n:Nat} {F:List (Nat→AV)} {ρ:Ty} {fu:Nat} {C:DC} {r:ρ.den}
variable {m:Nat→Nat} {nx0 b0:Nat} {st0 st:SSt D} {T:List (List Nat)} {ws cr:List (Nat×Nat)} {i:Nat} {ops:Array Oper} {o:Oper} {l:List Oper} {Kt:ASt→Prop}
theorem RI.put (h:RI F m nx0 b0 st0 st) (d:Option Nat) (x:SV D):RI F m nx0 b0 st0 (st.put d x):=by
 have e:nxOf nx0 b0 (st.put d x)=nxOf nx0 b0 st:=by cases d <;> rfl
 refine ⟨by rw [e];exact put_mok h.mok d x,by cases d <;> exact h.ge,by rw [put_blk];cases d <;> exact h.fr,h.fix.trans (put_fix st d x),by rw [put_blk];exact h.good,by rw [put_blk];exact h.arn⟩
theorem arn_hset (h:RI F m nx0 b0 st0 st) {id:Nat} {b:SB D} (hb:b.isA=false) (k:Nat) (hk:((st.hset id b).blk k).isA=true):(st0.blk k).isA=true:=by
 rw [hset_blk] at hk;by_cases e:id=k
 ·rw [if_pos e,hb] at hk;cases hk
 ·rw [if_neg e] at hk;exact h.arn k hk
theorem gst_yesS (h:wantS ops o st=.yes) {nx:Nat} {W cr:List (Nat×Nat)}:o.guard=none∨gst ops o (Dr.lcl ops T W nx0 i cr (st.enc m nx) o 0)=some true:=by
 unfold wantS at h;split at h
 ·rename_i hg;exact .inl hg
 ·split at h
  ·cases h
  ·rename_i d want hg
   right
   have e:=wantV_yes (m:=m) (st:=st) h;rw [←enc_get st m nx,←lregs_get (gdst_looks hg)] at e;unfold gst;rw [hg]
   show (match look AV.any (Dr.lregs ops (st.enc m nx) o) d,want with
    | .bool true,true=>some true
    | .bool false,false=>some true
    | .bool true,false=>some false
    | .bool false,true=>some false
    | .und,_=>some false
    | _,_=>none)=_
   rw [e]
   cases want <;> rfl
theorem gst_noS (h:wantS ops o st=.no) {nx:Nat} {W cr:List (Nat×Nat)}:gst ops o (Dr.lcl ops T W nx0 i cr (st.enc m nx) o 0)=some false:=by
 obtain ⟨d,want,hg,hb⟩:=wantS_no (m:=m) (nx:=nx) h;rw [←lregs_get (gdst_looks hg)] at hb;unfold gst;rw [hg]
 show (match look AV.any (Dr.lregs ops (st.enc m nx) o) d,want with
  | .bool true,true=>some true
  | .bool false,false=>some true
  | .bool true,false=>some false
  | .bool false,true=>some false
  | .und,_=>some false
  | _,_=>none)=_
 rcases hb with hb | hb <;> rw [hb] <;> cases want <;> rfl
theorem gst_put {d:Nat} {want b:Bool} (hg:gdst ops o=some (d,want)) {nx:Nat} {W cr:List (Nat×Nat)}:gst ops o (Dr.lcl ops T W nx0 i cr ((st.put (some d) (.bool (.bL b))).enc m nx) o 0)=some (b==want):=by
 have e:look AV.any (Dr.lregs ops ((st.put (some d) (.bool (.bL b))).enc m nx) o) d=.bool b:=by
  rw [lregs_get (gdst_looks hg),put_enc];show look .any ((d,SV.enc m st.blk (.bool (.bL b)))::(st.enc m nx).regs) d=_;rw [look_self,SV.enc];rfl
 unfold gst;rw [hg]
 show (match look AV.any (Dr.lregs ops ((st.put (some d) (.bool (.bL b))).enc m nx) o) d,want with
  | .bool true,true=>some true
  | .bool false,false=>some true
  | .bool true,false=>some false
  | .bool false,true=>some false
  | .und,_=>some false
  | _,_=>none)=_
 rw [e]
 cases b <;> cases want <;> rfl
theorem lclS_memS:MemLe m (lclS ops T ws b0 i cr st o).blk m st.blk (visS T ws b0 i cr) (fun k _=>visS T ws b0 i cr k):=by
 have e:∀ k,visS T ws b0 i cr k=true→(lclS ops T ws b0 i cr st o).blk k=st.blk k:=fun k hk=>by rw [lclS_blk,hk];rfl
 exact ⟨fun id h=>.inr ⟨by unfold isBox;rw [e id h],rfl⟩,fun id v h=>.inr ⟨by unfold rowLen;rw [e id h],rfl⟩⟩
theorem nmdS (hL:Lay m nx0 b0 st0) (hc:∀ p ∈ cr,b0≤p.2) (hI:RI F m nx0 b0 st0 st) {x:SV D} (h:x.refs (visS T ws b0 i cr) (fun k _=>visS T ws b0 i cr k)=true):(x.enc m (lclS ops T ws b0 i cr st o).blk).nmd (vis T nx0 i (mapP m cr))=true:=by
 have key:∀ id,visS T ws b0 i cr id=true→(lclS ops T ws b0 i cr st o).blk id≠.dead→vis T nx0 i (mapP m cr) (m id)=true:=by
  intro id hv hb;rw [lclS_blk,hv] at hb;rw [vis_m hL hc (hI.good id hb)];unfold visS at hv;rw [Bool.and_eq_true] at hv;exact hv.1
 refine enc_nmd (fun id hp hb=>key id hp fun e=>?_) (fun id v n hp hb=>key id hp fun e=>?_) x h (.inr fun _ h=>vis_arn hL h)
 ·unfold isBox at hb;rw [e] at hb;cases hb
 ·unfold rowLen at hb;rw [e] at hb;cases hb
theorem liveS (hL:Lay m nx0 b0 st0) (hc:∀ p ∈ cr,b0≤p.2) (hI:RI F m nx0 b0 st0 st) {id:Nat} (hv:visS T ws b0 i cr id=true) (hb:st.blk id≠.dead):vis T nx0 i (mapP m cr) (m id)=true:=by
 rw [vis_m hL hc (hI.good id hb)];unfold visS at hv;rw [Bool.and_eq_true] at hv;exact hv.1
theorem rowD {q:Nat→Bool} (hq:∀ k,k<bigA→q k=true) (g:Bool) (t:Ty) (us:List t.den):(us.map (t.cells g)).all (AV.nmd.go q)=true:=by
 refine List.all_eq_true.2 fun row hr=>?_
 obtain ⟨x,_,rfl⟩:=List.mem_map.1 hr;have e1:SV.encL (fun k=>k) (fun _=>.dead) (cellsE g t (.var x:E D t))=t.cells g x:=cellsE_enc g t (.var x);rw [←e1];exact encL_nmd (pB:=fun _=>false) (pR:=fun _ _=>false) (fun id h=>by cases h) (fun id v n h=>by cases h) _ (cells_nmd _ _) (.inr hq)
theorem nmdB (hL:Lay m nx0 b0 st0) (hc:∀ p ∈ cr,b0≤p.2) (hI:RI F m nx0 b0 st0 st) {b:SB D} (h:b.refs (visS T ws b0 i cr) (fun k _=>visS T ws b0 i cr k)=true):(b.enc m st.blk).nmd (vis T nx0 i (mapP m cr))=true:=by
 cases b with
 | dead=>rfl
 | box cs e =>
  rw [SB.refs] at h;refine encL_nmd (fun id hp hb=>liveS hL hc hI hp fun e=>?_) (fun id v n hp hb=>liveS hL hc hI hp fun e=>?_) cs h (.inr fun _ h=>vis_arn hL h)
  ·unfold isBox at hb;rw [e] at hb;cases hb
  ·unfold rowLen at hb;rw [e] at hb;cases hb
 | row fr t xs e v=>exact rowD (fun _ h=>vis_arn hL h) fr t xs.den
 | arn t xs e=>rfl
theorem lregs_ev {s:ASt} {x:Operand} (hx:x ∈ o.op.operands.toList) {hp:List (Nat×AB)} {k:Nat}:(⟨Dr.lregs ops s o,hp,k⟩:ASt).ev x=s.ev x:=by
 cases x with
 | tmp t =>
  show look .any (Dr.lregs ops s o) t=look .any s.regs t;refine lregs_get ?_;unfold Oper.looksAt;rw [List.mem_append]
  left
  rw [List.mem_filterMap];exact ⟨.tmp t,hx,rfl⟩
 | const v=>rfl
 | global g=>rfl
 | func f=>rfl
theorem opWr_box {t:TypeId} {x y:Operand} {z:Option Value} {s b:Nat} {id off:Nat} {cs vs:List AV} {e:TypeId} {g:Option (Nat×Bool)} {ty:TypeId} {ps:String} {af:Array Edge} {st:ASt} (hx:st.ev x=.box id off) (hb:look .dead st.heap id=.box cs e) (hy:(st.ev y).cells=vs) (h1:allOne vs=true) (hI:tyI P t=some (z,s,b)) (hs:vs.length=s) (hle:off+s≤cs.length) :
  Dr.OpWr P n ⟨none,.store t x y,ty,ps,af,g⟩ st id (.box (setR cs off vs) e) .und:=⟨rfl,fun K a w G r=>by
 subst hy;have r:RelG ⟨K.w0,w,G⟩ n st a w G:=⟨r.nx,r.hr,Ext.refl _ _,r.size,r.defers,r.regs⟩;have e1:=r.ev x;rw [hx] at e1;have hcv:=(r.ev y).cellsV h1;obtain ⟨gg,us,e2,hρ,_,_,_⟩:=r.boxAt hb e1
 have hid:id<G.nx:=by
  have hk:=r.hr.blk id;rw [hb] at hk;exact hk.1
 obtain ⟨w',hrun,r2,hk2⟩:=RelG.storeBox (P:=P) (e:=e) hid hρ (st.ev y).cells (a.eval y).cells.toList 0 off cs w r hb (by have:=hcv.size;simp;omega) (by simpa using hcv.size) (fun v hv=>by
  obtain ⟨i,hi,hv⟩:=List.getElem_of_mem hv
  exact hcv.one i v (by rw [←hv];simp)) (fun j x' v hx' hv=>hcv.rel j x' v hx' (by simpa using hv))
 refine ⟨undef,w',G,.inr ⟨?_,rfl⟩,r2.hr,r2.ext,rfl,fun j hne=>⟨rfl,rfl,fun hj g hg=>hk2 g fun e=>?_⟩,.dat .und⟩
 ·simp [execOp,Instr.storeAt,e2,Instr.sureAddr,run_storeVar' hI (show (a.eval y).cells.size=s by rw [hcv.size,hs]),hrun]
 ·subst e
  exact r.hr.dist j id g hj hid hne hg (by rw [hρ];rfl)⟩
theorem opWr_elt {t:TypeId} {x y:Operand} {z:Option Value} {s b:Nat} {id q i o sz:Nat} {rows:List (List AV)} {e:TypeId} {row vs:List AV} {g:Option (Nat×Bool)} {ty:TypeId} {ps:String} {af:Array Edge} {st:ASt} (hx:st.ev x=.elt id q i o) (hb:look .dead st.heap id=.row sz rows e) (hm:q=rows.length) (hr:∀ row',rows[i]?=some row'→row'=row) (hy:(st.ev y).cells=vs) (h1:allOne vs=true) (hI:tyI P t=some (z,s,b)) (hs:vs.length=s) (hle:o+s≤sz) :
  Dr.OpWr P n ⟨none,.store t x y,ty,ps,af,g⟩ st id (.row sz (rows.set i (setR row o vs)) e) .und:=⟨rfl,fun K a w G r=>by
 subst hy;have r:RelG ⟨K.w0,w,G⟩ n st a w G:=⟨r.nx,r.hr,Ext.refl _ _,r.size,r.defers,r.regs⟩;have e1:=r.ev x;rw [hx] at e1
 have hi:i<rows.length:=by
  cases e1 with
  | dat h=>cases h
  | elt _ _ _ _ _ _ hin=>omega
 have hr:=List.getElem?_eq_getElem hi ▸ (show rows[i]?=some row by rw [←hr _ (List.getElem?_eq_getElem hi)];exact List.getElem?_eq_getElem hi);have hr:rows[i]?=some row:=by rw [List.getElem?_eq_getElem hi];exact hr
 have hcv:=(r.ev y).cellsV h1;obtain ⟨gg,c,flat,q1,q2,q3,q4,q5,q6,q7,q8⟩:=r.rowAt hb hm (by omega);generalize he:a.eval x=u at e1
 cases e1 with
 | dat h=>cases h
 | elt _ _ _ _ _ hid hin hs' hn hv' h =>
  obtain ⟨gg',c',e2,rfl⟩:=h (by rw [q5,hm]);rw [q1] at e2;injection e2 with e2 _ _
  injection e2 with e2
  injection e2 with e2 _ _
  subst e2;rw [q3] at he
  obtain ⟨w',hrun,r2,hk2⟩:=RelG.storeElt (P:=P) (K:=⟨K.w0,w,G⟩) (n:=n) (a:=a) (G:=G) (id:=id) (sz:=sz) (i:=i) (gg:=gg) (c:=c) (e:=e) (fun L hL=>by rw [q5] at hL;subst hL;exact q1) (st.ev y).cells (a.eval y).cells.toList 0 o rows row w st r hb hr (by have:=hcv.size;simp;omega) (by simpa using hcv.size) (fun v hv=>by
   obtain ⟨i,hi,hv⟩:=List.getElem_of_mem hv
   exact hcv.one i v (by rw [←hv];simp)) (fun j x' v hx' hv=>hcv.rel j x' v hx' (by simpa using hv))
  refine ⟨undef,w',G,.inr ⟨?_,rfl⟩,r2.hr,r2.ext,rfl,fun j hne=>⟨rfl,rfl,fun hj g hg=>hk2 g fun e=>?_⟩,.dat .und⟩
  ·simp [execOp,Instr.storeAt,he,Instr.sureAddr,run_storeVar' hI (show (a.eval y).cells.size=s by rw [hcv.size,hs]),hrun]
  ·subst e
   exact r.hr.dist j id g hj hid hne hg (by rw [q1];rfl)⟩
theorem all_set {α:Type} {p:α→Bool} {l:List α} {i:Nat} {x:α} (h:l.all p=true) (hx:p x=true):(l.set i x).all p=true:=by
 refine List.all_eq_true.2 fun y hy=>?_
 rcases List.mem_or_eq_of_mem_set hy with h' | h'
 ·exact List.all_eq_true.1 h y h'
 ·rw [h'];exact hx
theorem onlyW_m {id:Nat} (h:Dr.onlyW ws i id=true):Dr.onlyW (mapP m ws) i (m id)=true:=by
 unfold Dr.onlyW mapP at *
 rw [List.all_map];refine List.all_eq_true.2 fun p hp=>?_
 have:=List.all_eq_true.1 h p hp;show (bif Nat.beq p.1 i then Nat.beq (m p.2) (m id) else true)=true
 cases hb:Nat.beq p.1 i with
 | false=>rfl
 | true =>
  rw [hb] at this;have:=Nat.eq_of_beq_eq_true this;rw [this];exact Nat.beq_refl _
theorem storeB_ok {Tb:Tab} {t:TypeId} {a v:SV D} {id:Nat} {b:SB D} (h:storeB Tb st t a v=some (id,b)):∃ Z s bb off cs e,lk Tb.inf t=some (Z,s,bb)∧allOneS st v.cells=true∧v.cells.length=s∧a=.box id off∧st.blk id=.box cs e∧off+s≤cs.length∧b=.box (setRS cs off v.cells) e:=by
 unfold storeB at h;split at h
 ·rename_i Z s bb hI
  cases hc:(allOneS st v.cells&&Nat.beq v.cells.length s) with
  | false=>rw [hc] at h;cases h
  | true =>
   rw [hc] at h;simp only [cond_true] at h;rw [Bool.and_eq_true] at hc;split at h
   ·rename_i id' off;split at h
    ·rename_i cs e hb
     cases hl:Nat.ble (off+s) cs.length with
     | false=>rw [hl] at h;cases h
     | true =>
      rw [hl] at h;simp only [cond_true,Option.some.injEq,Prod.mk.injEq] at h;obtain ⟨rfl,rfl⟩:=h;exact ⟨Z,s,bb,off,cs,e,hI,hc.1,Nat.eq_of_beq_eq_true hc.2,rfl,hb,Nat.le_of_ble_eq_true hl,rfl⟩
    ·cases h
   ·cases h
 ·cases h
abbrev AGm (P:Program) (n:Nat) (ops:Array Oper) (T:List (List Nat)) (ws:List (Nat×Nat)) (nx0 b0:Nat) (m:Nat→Nat) (Kt:ASt→Prop) (i:Nat) (cr:List (Nat×Nat)) (l:List Oper) (st:SSt D):Prop :=
 Dr.AG P n ops T (mapP m ws) nx0 Kt i (mapP m cr) l (st.enc m (nxOf nx0 b0 st))
theorem AGm.put {d:Option Nat} {x:SV D} {y:AV} (hx:Les (x.enc m st.blk) y) (k:AGm P n ops T ws nx0 b0 m Kt i cr l (st.put d x)):Dr.AG P n ops T (mapP m ws) nx0 Kt i (mapP m cr) l ((st.enc m (nxOf nx0 b0 st)).put d y):=by
 have e:nxOf nx0 b0 (st.put d x)=nxOf nx0 b0 st:=by cases d <;> rfl
 refine .le ?_ k;rw [e,put_enc];exact (LeS.refl _).put hx
theorem skipR_ok (hd:dok o.dst n=true) (hW:Dr.noW ws i=true) (hg:gst ops o (Dr.lcl ops T (mapP m ws) nx0 i (mapP m cr) (st.enc m (nxOf nx0 b0 st)) o 0)=some false) (k:AGm P n ops T ws nx0 b0 m Kt (i+1) cr l (st.put o.dst .und)):AGm P n ops T ws nx0 b0 m Kt i cr (o::l) st:=by
 refine .step (.skip (by rw [noW_m];exact hW) hg hd) (AGm.put ?_ k);rw [SV.enc];exact .refl _
theorem exC_refs {pB:Nat→Bool} {pR:Nat→Nat→Bool} (fr:Bool):∀ (t:Ty) (cs:List (SV D)) (e:E D t) (rest:List (SV D)),exC fr t cs=some (e,rest)→SV.refsL pB pR cs=SV.refsL pB pR rest
 | .int k,cs,e,rest,h=>by
  cases cs with
  | nil=>rw [exC] at h;cases h;all_goals simp
  | cons c l =>
   cases c <;> simp only [exC,reduceCtorEq] at h
   split at h
   ·simp only [Option.some.injEq,Prod.mk.injEq] at h
    rw [←h.2,SV.refsL,SV.refs,Bool.true_and] <;> simp
   ·cases h
 | .bool,cs,e,rest,h=>by
  cases cs with
  | nil=>rw [exC] at h;cases h;all_goals simp
  | cons c l =>
   cases c <;> simp only [exC,reduceCtorEq,Option.some.injEq,Prod.mk.injEq] at h
   rw [←h.2,SV.refsL,SV.refs,Bool.true_and] <;> simp
 | .str,cs,e,rest,h=>by
  cases cs with
  | nil=>rw [exC] at h;cases h;all_goals simp
  | cons c l =>
   cases c <;> simp only [exC,reduceCtorEq,Option.some.injEq,Prod.mk.injEq] at h
   rw [←h.2,SV.refsL,SV.refs,Bool.true_and] <;> simp
 | .list t,cs,e,rest,h=>by
  cases cs with
  | nil=>rw [exC] at h;cases h;all_goals simp
  | cons c l =>
   cases c <;> simp only [exC,reduceCtorEq,Option.some.injEq,Prod.mk.injEq] at h
   ·rw [←h.2,SV.refsL,SV.refs,Bool.true_and] <;> simp
   ·rename_i fr' t' e'
    cases hc:(!fr||fr') with
    | false=>rw [hc] at h;cases h
    | true =>
     rw [hc] at h;simp only [cond_true] at h;split at h
     ·simp only [Option.some.injEq,Prod.mk.injEq] at h
      rw [←h.2,SV.refsL,SV.refs,Bool.true_and] <;> simp
     ·cases h
 | .aix,cs,e,rest,h=>by
  cases cs with
  | nil=>rw [exC] at h;cases h;all_goals simp
  | cons c l =>
   cases c <;> simp only [exC,reduceCtorEq,Option.some.injEq,Prod.mk.injEq] at h
   all_goals (rw [←h.2,SV.refsL,SV.refs,Bool.true_and] <;> simp)
 | .unit,cs,e,rest,h=>by
  rw [exC] at h;simp only [Option.some.injEq,Prod.mk.injEq] at h;rw [h.2]
 | .pair a b,cs,e,rest,h=>by
  rw [exC] at h;split at h
  ·rename_i x l' h1;split at h
   ·rename_i y l'' h2;simp only [Option.some.injEq,Prod.mk.injEq] at h;rw [←h.2];exact (exC_refs fr a cs x l' h1).trans (exC_refs fr b l' y l'' h2)
   ·cases h
  ·cases h
 | .agg t,cs,e,rest,h=>by
  rw [exC] at h;split at h
  ·rename_i x l' h1;simp only [Option.some.injEq,Prod.mk.injEq] at h;rw [←h.2];exact exC_refs fr t cs x l' h1
  ·cases h
 | .ptr t,cs,e,rest,h=>by
  rw [exC] at h;cases h
  all_goals simp
theorem exA_refs {pB:Nat→Bool} {pR:Nat→Nat→Bool} {fr:Bool} {t:Ty} {cs:List (SV D)} {e:E D t} (h:exA fr t cs=some e):SV.refsL pB pR cs=true:=by
 unfold exA at h;split at h
 ·rename_i x h1;rw [exC_refs fr t cs x [] h1,SV.refsL]
 ·cases h
theorem storeE_ok {Tb:Tab} {t:TypeId} {a v:SV D} {id:Nat} {b:SB D} (h:storeE Tb st t a v=some (id,b)):∃ (Z:Option Value) (s bb ver ver' off:Nat) (kk:IntKind) (ix:E D (.int kk)) (fr fr':Bool) (rt:Ty) (xs:E D (.list rt)) (e:TypeId) (x:E D rt),lk Tb.inf t=some (Z,s,bb)∧allOneS st v.cells=true∧v.cells.length=s∧a=.elt id ver ix off∧st.blk id=.row fr rt xs e ver'∧Nat.beq ver ver'=true∧off+s≤rt.size∧(!fr'||fr)=true∧exA fr' rt (setRS (cellsE fr rt (.at xs ix)) off v.cells)=some x∧b=.row fr' rt (.set xs ix x) e ver':=by
 unfold storeE at h;split at h
 ·rename_i Z s bb hI
  cases hc:(allOneS st v.cells&&Nat.beq v.cells.length s) with
  | false=>rw [hc] at h;cases h
  | true =>
   rw [hc] at h;simp only [cond_true] at h;rw [Bool.and_eq_true] at hc;split at h
   ·rename_i id' ver kk ix off;split at h
    ·rename_i fr rt xs e ver' hb
     cases hl:(Nat.beq ver ver'&&Nat.ble (off+s) rt.size) with
     | false=>rw [hl] at h;cases h
     | true =>
      rw [hl] at h;simp only [cond_true] at h;rw [Bool.and_eq_true] at hl;split at h
      ·rename_i x hx;simp only [Option.some.injEq,Prod.mk.injEq] at h;obtain ⟨rfl,rfl⟩:=h;exact ⟨Z,s,bb,ver,ver',off,kk,ix,fr,fr,rt,xs,e,x,hI,hc.1,Nat.eq_of_beq_eq_true hc.2,rfl,hb,hl.1,Nat.le_of_ble_eq_true hl.2,by cases fr <;> rfl,hx,rfl⟩
      ·split at h
       ·rename_i x hx;simp only [Option.some.injEq,Prod.mk.injEq] at h;obtain ⟨rfl,rfl⟩:=h;exact ⟨Z,s,bb,ver,ver',off,kk,ix,fr,false,rt,xs,e,x,hI,hc.1,Nat.eq_of_beq_eq_true hc.2,rfl,hb,hl.1,Nat.le_of_ble_eq_true hl.2,rfl,hx,rfl⟩
       ·cases h
    ·cases h
   ·cases h
 ·cases h
def SB.isRow {V:Ty→Type} (b:SB V):Bool:=match b with
 | .row ..=>true
 | _=>false
theorem SrcA.mono {hp hp':List (Nat×AB)} {sz:Nat} {x:AV} {new:List (List AV)} (h:SrcA hp sz x new) (hh:∀ id n,x=.osl id n∨(∃ lo len,x=.vsl id n lo len)→look .dead hp' id=look .dead hp id):SrcA hp' sz x new:=by
 cases h with
 | ro fr _ h=>exact .ro fr _ h
 | osl id n _ e h hn=>exact .osl id n _ e ((hh id n (.inl rfl)).trans h) hn
 | vsl id n lo len rows0 _ e h hn hr=>exact .vsl id n lo len rows0 _ e ((hh id n (.inr ⟨lo,len,rfl⟩)).trans h) hn hr
 | nils=>exact .nils
def arnIds (x:SV D):List Nat:=match x with
 | .aosl e=>[(e.den:Int×Int).1.toNat]
 | _=>[]
theorem enc_ids {m:Nat→Nat} {H:Nat→SB D} {x:SV D} {j q:Nat} (hn:notA x=true) (h:x.enc m H=.osl j q∨∃ lo len,x.enc m H=.vsl j q lo len):(∃ j' ∈ idsA x,j=m j')∨j ∈ arnIds x:=by
 cases x with
 | box id off=>cases hb:isBox H id <;> simp [SV.enc,hb] at h
 | elt id ver i off=>cases hr:rowLen H id ver <;> simp [SV.enc,hr] at h
 | osl id ver =>
  cases hr:rowLen H id ver with
  | none=>simp [SV.enc,hr] at h
  | some n =>
   simp [SV.enc,hr] at h;exact .inl ⟨id,List.mem_singleton.2 rfl,h.1.symm⟩
 | vsl id ver lo hi =>
  cases hr:rowLen H id ver with
  | none=>simp [SV.enc,hr] at h
  | some n =>
   simp [SV.enc,hr] at h;exact .inl ⟨id,List.mem_singleton.2 rfl,h.1.symm⟩
 | aosl e =>
  right
  rw [SV.enc] at h;unfold aixAV at h
  cases hq:(decide (0≤(e.den:Int×Int).1)&&decide ((e.den:Int×Int).1<(bigA:Int))) with
  | false=>rw [hq] at h;simp at h
  | true =>
   rw [hq] at h;simp at h;exact List.mem_singleton.2 h.1.symm
 | aelt _ _=>cases hn
 | _=>simp [SV.enc] at h
theorem opWr_app {e:TypeId} {z:Value} {sz b id q:Nat} {rows new:List (List AV)} {t:TypeId} {x y:Operand} {d:Option Nat} {g:Option (Nat×Bool)} {ty:TypeId} {ps:String} {af:Array Edge} {s:ASt} (hx:s.ev x=.osl id q) (hb:look .dead s.heap id=.row sz rows e) (hm:q=rows.length) (hs:SrcA s.heap sz (s.ev y) new)
  (hT:P.underlying t=some (.slice e)) (hI:tyI P e=some (some z,sz,b)) (hz:z.cells.size=sz) (h63:(rows.length+new.length)*bmul b≤140737488355328) (hd:dok d n=true) :
  Dr.OpWr P n ⟨d,.call ⟨.builtin .append,⟨[x,y]⟩,⟨[t,t]⟩⟩,ty,ps,af,g⟩ s id (.row sz (rows++new) e) (.osl id (rows.length+new.length)):=⟨hd,fun K a w G r=>by
 obtain ⟨v,w',G',h1,h2,h3,h4,h5,h6⟩:=op_append_g (d:=d) (ty:=ty) (ps:=ps) (af:=af) (g:=g) hx hb rfl hm rfl hs hT hI hz h63 r
 exact ⟨v,w',G',.inl h1,h2,h3,h4,h5,h6⟩⟩
theorem appR_ok (hC:C.ok P) (hL:Lay m nx0 b0 st0) (hws:∀ p ∈ ws,Good b0 st0 p.2) (hc:∀ p ∈ cr,b0≤p.2) (hI:RI F m nx0 b0 st0 st) {d:Option Nat} {t:TypeId} {y z:Operand} {ty:TypeId} {ps:String} {af:Array Edge} {gg:Option (Nat×Bool)} (hd:dok d n=true)
  (hg:(⟨d,.call ⟨.builtin .append,⟨[y,z]⟩,⟨[t,t]⟩⟩,ty,ps,af,gg⟩:Oper).guard=none∨gst ops (⟨d,.call ⟨.builtin .append,⟨[y,z]⟩,⟨[t,t]⟩⟩,ty,ps,af,gg⟩:Oper) (Dr.lcl ops T (mapP m ws) nx0 i (mapP m cr) (st.enc m (nxOf nx0 b0 st)) (⟨d,.call ⟨.builtin .append,⟨[y,z]⟩,⟨[t,t]⟩⟩,ty,ps,af,gg⟩:Oper) 0)=some true)
  {K:List (Nat×Nat)→SSt D→G D (KD ρ) ρ} (h:(appR C T ws b0 i cr st d t (st.ev y) (st.ev z) K).den fu=some r)
  (k:∀ cr' st',RI F m nx0 b0 st0 st'→(∀ p ∈ cr',b0≤p.2)→(K cr' st').den fu=some r→AGm P n ops T ws nx0 b0 m Kt (i+1) cr' l st'):AGm P n ops T ws nx0 b0 m Kt i cr (⟨d,.call ⟨.builtin .append,⟨[y,z]⟩,⟨[t,t]⟩⟩,ty,ps,af,gg⟩::l) st:=by
 unfold appR at h;have ez:=enc_ev st m (nxOf nx0 b0 st) z;split at h
 ·rename_i id b x gd happ
  cases hb:(visS T ws b0 i cr id&&(ws.any fun p=>Nat.beq p.1 i&&Nat.beq p.2 id)&&Dr.onlyW ws i id&&(idsA (st.ev z)).all (fun j=>visS T ws b0 i cr j)&&notA (st.ev z)) with
  | false=>rw [hb] at h;cases h
  | true =>
   rw [hb] at h;simp only [cond_true] at h;obtain ⟨hgd,h2⟩:=grdG_den h;clear h;simp only [Bool.and_eq_true] at hb;obtain ⟨⟨⟨⟨b1,b2⟩,b3⟩,b4⟩,b5⟩:=hb;have ey:=enc_ev st m (nxOf nx0 b0 st) y;generalize st.ev y=v0 at happ ey;unfold appS at happ;split at happ
   ·rename_i e hu;split at happ
    ·rename_i Z sz bb hI'
     cases hc0:(Nat.beq Z.cells.size sz&&Nat.blt 0 sz) with
     | false=>rw [hc0] at happ;cases happ
     | true =>
      rw [hc0] at happ;simp only [cond_true] at happ;rw [Bool.and_eq_true] at hc0;have hz:=Nat.eq_of_beq_eq_true hc0.1;split at happ
      ·rename_i id' ver;split at happ
       ·rename_i fr rt xs e' v hblk
        cases hc2:(Nat.beq ver v&&(Nat.beq e' e&&(Nat.beq sz rt.size&&rt.flatA))) with
        | false=>rw [hc2] at happ;cases happ
        | true =>
         rw [hc2] at happ;simp only [cond_true] at happ;simp only [Bool.and_eq_true] at hc2;obtain ⟨hv,he,hsz,hfl⟩:=hc2;have he:=Nat.eq_of_beq_eq_true he;have hsz:=Nat.eq_of_beq_eq_true hsz;subst he;subst hsz;split at happ
         ·rename_i fr' ys hy
          cases hr:st.refs (fun _=>true) (fun i w=>!(Nat.beq i id'&&Nat.beq w (v+1))) with
          | false=>rw [hr] at happ;cases happ
          | true =>
           rw [hr] at happ;simp only [cond_true,Option.some.injEq,Prod.mk.injEq,MR.upd.injEq] at happ;obtain ⟨⟨rfl,rfl,rfl⟩,rfl⟩:=happ;have hlive:st.blk id'≠.dead:=by rw [hblk];simp
           have hbb:=enc_blk hI.mok hlive;have hbb':=hbb;rw [hblk,SB.enc] at hbb';rw [SV.enc,rowLen_eq hblk hv] at ey;obtain ⟨hG,hgd⟩:=andE_b hgd;have hsrc:=srcC_ok (y:=z) (nx:=nxOf nx0 b0 st) hfl hI.mok hG hy
           have harn:∀ j ∈ arnIds (st.ev z),j<bigA∧(look .dead (st.enc m (nxOf nx0 b0 st)).heap j).nmd (vis T nx0 i (mapP m cr))=true:=by
            intro j hj;have hy':=hy;have hG':=hG
            cases hzv:st.ev z <;> rw [hzv] at hj hy' hG' <;> simp only [arnIds,List.not_mem_nil,List.mem_singleton] at hj
            unfold srcC at hy';unfold srcG at hG';simp only at hy' hG';split at hy'
            ·rename_i t' xs' ha;obtain ⟨e0,hb0⟩:=arnOf_blk ha;simp only [ha] at hG';subst hj;rcases arnN_den hG' with ⟨_,hG'⟩ | ⟨_,hn⟩
             ·obtain ⟨a1,a2,_,_,a5⟩:=arn_at hI.mok hb0 hG';rw [hI.mok.ar' (by rw [hb0];rfl)] at a5;exact ⟨a5,by rw [a2];exact rowD (fun _ h=>vis_arn hL h) false _ _⟩
             ·have h0:=Int.toNat_of_nonpos (show _≤(0:Int) from Int.le_of_lt (Int.not_le.1 hn));rw [h0];have hm0:=hI.mok.ar' (by rw [hb0];rfl);have hlt0:0<m 0:=by rw [hm0];decide
              exact ⟨by decide,by rw [arn_look hI.mok hb0 hlt0];exact rowD (fun _ h=>vis_arn hL h) false _ _⟩
            ·cases hy'
           have hgg:=leE_den hgd;have hgg:((List.length xs.den:Int)+(List.length ys.den:Int))*((bmul bb:Nat):Int)≤140737488355328:=hgg;have h63:(List.length xs.den+List.length ys.den)*bmul bb≤140737488355328:=nat_of2 hgg
           have hnew:rowLen (st.hset id' (.row (fr&&fr') rt (.app xs ys) e' (v+1))).blk id' (v+1)=some (List.length xs.den+List.length ys.den):=by
            unfold rowLen;rw [hset_blk,if_pos rfl];simp only [Nat.beq_refl,cond_true];show some (List.length (List.append _ _))=_;rw [List.append_eq,List.length_append]
           have hle:MemLe m st.blk m (st.hset id' (.row (fr&&fr') rt (.app xs ys) e' (v+1))).blk (fun _=>true) (fun i w=>!(Nat.beq i id'&&Nat.beq w (v+1))):=by
            refine ⟨fun k _=>.inr ⟨?_,rfl⟩,fun k w hw=>?_⟩
            ·unfold isBox;rw [hset_blk];by_cases e1:id'=k
             ·subst e1;rw [if_pos rfl,hblk]
             ·rw [if_neg e1]
            ·by_cases e1:id'=k
             ·subst e1;have hw:(!(Nat.beq id' id'&&Nat.beq w (v+1)))=true:=hw;rw [Nat.beq_refl,Bool.true_and] at hw;refine .inl ?_;unfold rowLen;rw [hset_blk,if_pos rfl]
              cases hq:Nat.beq w (v+1) with
              | true=>rw [hq] at hw;cases hw
              | false=>simp only [hq];rfl
             ·refine .inr ⟨?_,rfl⟩;unfold rowLen;rw [hset_blk,if_neg e1]
           have hset:=hset_les (b:=.row (fr&&fr') rt (.app xs ys) e' (v+1)) (b':=.row rt.size ((xs.den:List rt.den).map (rt.cells fr)++(ys.den:List rt.den).map (rt.cells fr')) e') hI.mok (.refl _) (by rw [hblk];exact SB.norm_row ..) (SB.norm_row ..) hle hr (by
            rw [SB.enc];refine .rows ?_;show LesRs (((xs.den:List rt.den)++(ys.den:List rt.den)).map (rt.cells (fr&&fr'))) _;rw [List.map_append]
            exact (rows_le (by cases fr <;> cases fr' <;> rfl) rt _).append (rows_le (by cases fr <;> cases fr' <;> rfl) rt _)) hI.fr
           have hRI:RI F m nx0 b0 st0 (st.hset id' (.row (fr&&fr') rt (.app xs ys) e' (v+1))):=⟨hset.1,hI.ge,hset.2.2,hI.fix.trans ⟨rfl,rfl,rfl⟩,fun k hk=>hI.good k (by
            rw [hset_blk] at hk;by_cases e1:id'=k
            ·subst e1;exact hlive
            ·rw [if_neg e1] at hk;exact hk),arn_hset hI rfl⟩
           have hvis:∀ j,visS T ws b0 i cr j=true→st.blk j≠.dead→Dr.visW T (mapP m ws) nx0 i (mapP m cr) (m j)=true:=by
            intro j hj hjl;unfold Dr.visW;rw [liveS hL hc hI hj hjl,okW_m hL hws (hI.good j hjl)];unfold visS at hj;rw [Bool.and_eq_true] at hj;rw [hj.2];rfl
           have hrowD:∀ (g:Bool) (us:List rt.den),(us.map (rt.cells g)).all (AV.nmd.go (vis T nx0 i (mapP m cr)))=true:=fun g us=>rowD (fun _ h=>vis_arn hL h) g rt us
           have hnmd:∀ j,(st.blk j).isRow=true→((st.blk j).enc m st.blk).nmd (vis T nx0 i (mapP m cr))=true:=by
            intro j hj
            cases hbj:st.blk j with
            | dead=>rw [hbj] at hj;cases hj
            | box cs e=>rw [hbj] at hj;cases hj
            | row fr2 t2 xs2 e2 v2 =>
             exact rowD (fun _ h=>vis_arn hL h) fr2 t2 xs2.den
            | arn t2 xs2 e2=>rfl
           have hzrow:∀ j ∈ idsA (st.ev z),(st.blk j).isRow=true:=by
            intro j hj;have hy':=hy;unfold srcC at hy'
            cases hzv:st.ev z <;> rw [hzv] at hj hy' <;> simp only [idsA,List.not_mem_nil,List.mem_singleton] at hj
            ·subst hj;simp only [srcS] at hy';split at hy'
             ·rename_i hbj;rw [hbj];rfl
             ·cases hy'
            ·subst hj;split at hy'
             ·rename_i a1 a2 a3 a4 hh;injection hh with q1 q2 q3 q4
              subst q1;split at hy'
              ·rename_i hbj;rw [hbj];rfl
              ·cases hy'
             ·rename_i hno;cases hno
             ·rename_i hno _;exact absurd rfl (hno _ _ _ _)
           have hzlive:∀ j ∈ idsA (st.ev z),st.blk j≠.dead:=by
            intro j hj e1;have:=hzrow j hj;rw [e1] at this;cases this
           refine .step (.write (id:=m id') (b:=.row rt.size ((xs.den:List rt.den).map (rt.cells fr)++(ys.den:List rt.den).map (rt.cells fr')) e') (x:=.osl (m id') (List.length xs.den+List.length ys.den)) (m id'::((idsA (st.ev z)).map m++arnIds (st.ev z))) (fun j hj=>?_) hg ?_ ?_ (onlyW_m b3) (fun hp kk _ hhp=>?_) ?_ ?_) (.le ?_ (k cr _ (hRI.put _ _) hc h2))
           ·rcases List.mem_cons.1 hj with rfl | hj
            ·exact ⟨hvis _ b1 hlive,by rw [hbb];exact hnmd id' (by rw [hblk];rfl)⟩
            ·rcases List.mem_append.1 hj with hj | hj
             rotate_left
             ·exact ⟨visW_arn hL hws (harn j hj).1,(harn j hj).2⟩
             obtain ⟨j',hj',rfl⟩:=List.mem_map.1 hj;have hl':=hzlive j' hj';exact ⟨hvis _ (List.all_eq_true.1 b4 j' hj') hl',by rw [enc_blk hI.mok hl'];exact hnmd j' (hzrow j' hj')⟩
           ·exact hvis _ b1 hlive
           ·obtain ⟨p,hp,hpe⟩:=List.any_eq_true.1 b2;rw [Bool.and_eq_true] at hpe;have e1:=Nat.eq_of_beq_eq_true hpe.1;have e2:=Nat.eq_of_beq_eq_true hpe.2;exact List.mem_map.2 ⟨p,hp,by rw [e1,e2]⟩
           ·have hzz:=lregs_ev (o:=⟨d,.call ⟨.builtin .append,⟨[y,z]⟩,⟨[t,t]⟩⟩,ty,ps,af,gg⟩) (ops:=ops) (s:=st.enc m (nxOf nx0 b0 st)) (x:=z) (hp:=hp) (k:=kk) (by simp [Op.operands,Call.operands]);have hyy:=lregs_ev (o:=⟨d,.call ⟨.builtin .append,⟨[y,z]⟩,⟨[t,t]⟩⟩,ty,ps,af,gg⟩) (ops:=ops) (s:=st.enc m (nxOf nx0 b0 st)) (x:=y) (hp:=hp) (k:=kk) (by simp [Op.operands,Call.operands])
            have hsrc':SrcA hp rt.size ((⟨Dr.lregs ops (st.enc m (nxOf nx0 b0 st)) ⟨d,.call ⟨.builtin .append,⟨[y,z]⟩,⟨[t,t]⟩⟩,ty,ps,af,gg⟩,hp,kk⟩:ASt).ev z) ((ys.den:List rt.den).map (rt.cells fr')):=by
             rw [hzz];refine hsrc.mono fun j q hj=>?_
             rw [ez] at hj;rcases enc_ids b5 hj with ⟨j',h1,rfl⟩ | h1
             ·exact hhp _ (List.mem_cons_of_mem _ (List.mem_append.2 (.inl (List.mem_map_of_mem h1))))
             ·exact hhp _ (List.mem_cons_of_mem _ (List.mem_append.2 (.inr h1)))
            have:=opWr_app (P:=P) (n:=n) (d:=d) (ty:=ty) (ps:=ps) (af:=af) (g:=gg) (hyy.trans ey) ((hhp (m id') (List.mem_cons_self ..)).trans hbb') (rows_len _).symm hsrc' (allP_at hC.T.und hu) (allP_at hC.T.inf hI') hz (by rw [rows_len,rows_len];exact h63) hd;rw [rows_len,rows_len] at this;exact this
           ·show (((xs.den:List rt.den).map (rt.cells fr))++((ys.den:List rt.den).map (rt.cells fr'))).all _=true;rw [List.all_append,hrowD,hrowD];rfl
           ·exact liveS hL hc hI b1 hlive
           ·have hnx:nxOf nx0 b0 ((st.hset id' (.row (fr&&fr') rt (.app xs ys) e' (v+1))).put d (.osl id' (v+1)))=nxOf nx0 b0 st:=by cases d <;> rfl
            show LeS (((st.hset id' _).put d (.osl id' (v+1))).enc m _) _;rw [hnx,put_enc];refine hset.2.1.put ?_;rw [SV.enc,hnew];exact .refl _
         ·cases happ
       ·cases happ
      ·split at happ
       ·rename_i rt hty
        cases hc3:(Nat.beq sz rt.size&&rt.flatA) with
        | false=>rw [hc3] at happ;cases happ
        | true =>
         rw [hc3] at happ;simp only [cond_true] at happ
         split at happ <;> cases happ
       ·cases happ
      ·cases happ
    ·cases happ
   ·cases happ
 ·cases h
theorem writeR_ok (hC:C.ok P) (hL:Lay m nx0 b0 st0) (hws:∀ p ∈ ws,Good b0 st0 p.2) (hc:∀ p ∈ cr,b0≤p.2) (hI:RI F m nx0 b0 st0 st) (hd:dok o.dst n=true)
  (hg:o.guard=none∨gst ops o (Dr.lcl ops T (mapP m ws) nx0 i (mapP m cr) (st.enc m (nxOf nx0 b0 st)) o 0)=some true)
  {K:List (Nat×Nat)→SSt D→G D (KD ρ) ρ} (h:(writeR C T ws b0 i cr st o K).den fu=some r)
  (k:∀ cr' st',RI F m nx0 b0 st0 st'→(∀ p ∈ cr',b0≤p.2)→(K cr' st').den fu=some r→AGm P n ops T ws nx0 b0 m Kt (i+1) cr' l st'):AGm P n ops T ws nx0 b0 m Kt i cr (o::l) st:=by
 obtain ⟨d,op,ty,ps,af,gg⟩:=o;unfold writeR at h;simp only at h;split at h
 ·rename_i t y z;split at h
  ·rename_i id b hs
   cases hb:(visS T ws b0 i cr id&&(ws.any fun p=>Nat.beq p.1 i&&Nat.beq p.2 id)&&Dr.onlyW ws i id&&b.refs (visS T ws b0 i cr) (fun k _=>visS T ws b0 i cr k)&&(st.blk id).refs (visS T ws b0 i cr) (fun k _=>visS T ws b0 i cr k)) with
   | false=>rw [hb] at h;cases h
   | true =>
    rw [hb] at h;simp only [cond_true] at h;simp only [Bool.and_eq_true] at hb;obtain ⟨⟨⟨⟨b1,b2⟩,b3⟩,b4⟩,b5⟩:=hb;obtain ⟨Z,s,bb,off,cs,e,hI',h1,hls,ha,hblk,hle,rfl⟩:=storeB_ok hs;have hlive:st.blk id≠.dead:=by rw [hblk];simp
    have hi:isBox st.blk id=true:=by unfold isBox;rw [hblk]
    have ey:(st.enc m (nxOf nx0 b0 st)).ev y=.box (m id) off:=by rw [enc_ev,ha,SV.enc,hi];rfl
    have ez:((st.enc m (nxOf nx0 b0 st)).ev z).cells=SV.encL m st.blk (st.ev z).cells:=by rw [enc_ev,enc_cells]
    have hbb:=enc_blk hI.mok hlive;have hbb':=hbb;rw [hblk,SB.enc] at hbb'
    have hset:=hset_les (b:=.box (setRS cs off (st.ev z).cells) e) (b':=.box (setR (SV.encL m st.blk cs) off (SV.encL m st.blk (st.ev z).cells)) e) (pB:=fun _=>true) (pR:=fun _ _=>true) hI.mok (.refl _) (by rw [hblk];exact SB.norm_box ..) (SB.norm_box ..) (memLe_box hblk) (refs_all st) (by
     rw [SB.enc,setRS_enc];have hH:∀ l:List (SV D),LesL (SV.encL m (st.hset id (.box (setRS cs off (st.ev z).cells) e)).blk l) (SV.encL m st.blk l):=fun l=>encL_les (memLe_box (pB:=fun _=>true) (pR:=fun _ _=>true) hblk) l (svL_refs_all l)
     exact .box e (setR_les (hH cs) (hH _) off)) hI.fr
    have hRI:RI F m nx0 b0 st0 (st.hset id (.box (setRS cs off (st.ev z).cells) e)):=⟨hset.1,hI.ge,hset.2.2,hI.fix.trans ⟨rfl,rfl,rfl⟩,fun k hk=>hI.good k (by
     rw [hset_blk] at hk;by_cases e':id=k
     ·subst e';exact hlive
     ·rw [if_neg e'] at hk;exact hk),arn_hset hI rfl⟩
    refine .step (.write (id:=m id) (b:=.box (setR (SV.encL m st.blk cs) off (SV.encL m st.blk (st.ev z).cells)) e) (x:=.und) [m id] (fun j hj=>?_) hg ?_ ?_ (onlyW_m b3) (fun hp kk _ hhp=>?_) ?_ rfl) (.le ?_ (k cr _ hRI hc h))
    ·rw [List.mem_singleton] at hj;subst hj;refine ⟨?_,?_⟩
     ·unfold Dr.visW;rw [liveS hL hc hI b1 hlive,okW_m hL hws (hI.good id hlive)];unfold visS at b1;rw [Bool.and_eq_true] at b1;rw [b1.2];rfl
     ·rw [hbb];exact nmdB hL hc hI b5
    ·unfold Dr.visW;rw [liveS hL hc hI b1 hlive,okW_m hL hws (hI.good id hlive)];unfold visS at b1;rw [Bool.and_eq_true] at b1;rw [b1.2];rfl
    ·obtain ⟨p,hp,hpe⟩:=List.any_eq_true.1 b2;rw [Bool.and_eq_true] at hpe;have e1:=Nat.eq_of_beq_eq_true hpe.1;have e2:=Nat.eq_of_beq_eq_true hpe.2;exact List.mem_map.2 ⟨p,hp,by rw [e1,e2]⟩
    ·have hz:=lregs_ev (o:=⟨none,.store t y z,ty,ps,af,gg⟩) (ops:=ops) (s:=st.enc m (nxOf nx0 b0 st)) (x:=z) (hp:=hp) (k:=kk) (by simp [Op.operands]);have hy:=lregs_ev (o:=⟨none,.store t y z,ty,ps,af,gg⟩) (ops:=ops) (s:=st.enc m (nxOf nx0 b0 st)) (x:=y) (hp:=hp) (k:=kk) (by simp [Op.operands]);refine opWr_box (hy.trans ey) ((hhp (m id) (by simp)).trans hbb') (by rw [hz,ez]) (allOneS_enc h1) (allP_at hC.T.inf hI') (by rw [encL_length];exact hls) (by rw [encL_length];exact hle)
    ·have:=nmdB (b:=.box (setRS cs off (st.ev z).cells) e) hL hc hI b4;rw [SB.enc,setRS_enc] at this;exact this
    ·exact hset.2.1
  ·split at h
   ·rename_i id b hs
    cases hb:(visS T ws b0 i cr id&&(ws.any fun p=>Nat.beq p.1 i&&Nat.beq p.2 id)&&Dr.onlyW ws i id&&(st.blk id).refs (visS T ws b0 i cr) (fun k _=>visS T ws b0 i cr k)) with
    | false=>rw [hb] at h;cases h
    | true =>
     rw [hb] at h;simp only [cond_true] at h;simp only [Bool.and_eq_true] at hb;obtain ⟨⟨⟨b1,b2⟩,b3⟩,b5⟩:=hb;obtain ⟨Z,s,bb,ver,ver',off,kk,ix,fr,fr',rt,xs,e,x,hI',h1,hls,ha,hblk,hver,hle,hfr,hx,rfl⟩:=storeE_ok hs;have hlive:st.blk id≠.dead:=by rw [hblk];simp
     have ey:(st.enc m (nxOf nx0 b0 st)).ev y=.elt (m id) (List.length xs.den) (Int.toNat ix.den) off:=by rw [enc_ev,ha,SV.enc,rowLen_eq hblk hver]
     have ez:((st.enc m (nxOf nx0 b0 st)).ev z).cells=SV.encL m st.blk (st.ev z).cells:=by rw [enc_ev,enc_cells]
     have hbb:=enc_blk hI.mok hlive;have hbb':=hbb;rw [hblk,SB.enc] at hbb';have hcell:=exA_ok (m:=m) (H:=st.blk) hx;have hcn:=encL_nmd (m:=m) (H:=st.blk) (pB:=fun _=>false) (pR:=fun _ _=>false) (q:=vis T nx0 i (mapP m cr)) (fun id h=>by cases h) (fun id v n h=>by cases h) _ (exA_refs hx) (.inr fun _ h=>vis_arn hL h);rw [setRS_enc,cellsE_enc] at hcell;rw [setRS_enc,cellsE_enc] at hcn
     have hset:=hset_les (b:=.row fr' rt (.set xs ix x) e ver') (b':=.row rt.size (((xs.den:List rt.den).map (rt.cells fr)).set (Int.toNat ix.den) (setR (rt.cells fr (E.at xs ix).den) off (SV.encL m st.blk (st.ev z).cells))) e) (pB:=fun _=>true) (pR:=fun _ _=>true) hI.mok (.refl _) (by rw [hblk];exact SB.norm_row ..) (SB.norm_row ..) (memLe_set hblk (by
      show List.length (List.set _ _ _)=_
      rw [List.length_set])) (refs_all st) (.rows (rows_set hfr hcell)) hI.fr
     have hRI:RI F m nx0 b0 st0 (st.hset id (.row fr' rt (.set xs ix x) e ver')):=⟨hset.1,hI.ge,hset.2.2,hI.fix.trans ⟨rfl,rfl,rfl⟩,fun k hk=>hI.good k (by
      rw [hset_blk] at hk;by_cases e':id=k
      ·subst e';exact hlive
      ·rw [if_neg e'] at hk;exact hk),arn_hset hI rfl⟩
     refine .step (.write (id:=m id) (b:=.row rt.size (((xs.den:List rt.den).map (rt.cells fr)).set (Int.toNat ix.den) (setR (rt.cells fr (E.at xs ix).den) off (SV.encL m st.blk (st.ev z).cells))) e) (x:=.und) [m id] (fun j hj=>?_) hg ?_ ?_ (onlyW_m b3) (fun hp kk _ hhp=>?_) ?_ rfl) (.le ?_ (k cr _ hRI hc h))
     ·rw [List.mem_singleton] at hj;subst hj;refine ⟨?_,?_⟩
      ·unfold Dr.visW;rw [liveS hL hc hI b1 hlive,okW_m hL hws (hI.good id hlive)];unfold visS at b1;rw [Bool.and_eq_true] at b1;rw [b1.2];rfl
      ·rw [hbb];exact nmdB hL hc hI b5
     ·unfold Dr.visW;rw [liveS hL hc hI b1 hlive,okW_m hL hws (hI.good id hlive)];unfold visS at b1;rw [Bool.and_eq_true] at b1;rw [b1.2];rfl
     ·obtain ⟨p,hp,hpe⟩:=List.any_eq_true.1 b2;rw [Bool.and_eq_true] at hpe;have e1:=Nat.eq_of_beq_eq_true hpe.1;have e2:=Nat.eq_of_beq_eq_true hpe.2;exact List.mem_map.2 ⟨p,hp,by rw [e1,e2]⟩
     ·have hz:=lregs_ev (o:=⟨none,.store t y z,ty,ps,af,gg⟩) (ops:=ops) (s:=st.enc m (nxOf nx0 b0 st)) (x:=z) (hp:=hp) (k:=kk) (by simp [Op.operands]);have hy:=lregs_ev (o:=⟨none,.store t y z,ty,ps,af,gg⟩) (ops:=ops) (s:=st.enc m (nxOf nx0 b0 st)) (x:=y) (hp:=hp) (k:=kk) (by simp [Op.operands]);refine opWr_elt (hy.trans ey) ((hhp (m id) (by simp)).trans hbb') (rows_len _).symm (fun row' hr=>at_row hr) (by rw [hz,ez]) (allOneS_enc h1) (allP_at hC.T.inf hI') (by rw [encL_length];exact hls) hle
     ·have hb4:=nmdB hL hc hI b5;rw [hblk,SB.enc] at hb4;exact all_set hb4 hcn
     ·exact hset.2.1
   ·cases h
 ·rename_i y z t t'
  cases ht:Nat.beq t' t with
  | false=>rw [ht] at h;cases h
  | true =>
   rw [ht] at h;have ht:=Nat.eq_of_beq_eq_true ht;subst ht;exact appR_ok hC hL hws hc hI hd hg h k
 ·cases h
theorem exRows_refs {pB:Nat→Bool} {pR:Nat→Nat→Bool} {fr:Bool} {t:Ty}:∀ {rows:List (List (SV D))} {xs:E D (.list t)},exRows fr t rows=some xs→∀ row ∈ rows,SV.refsL pB pR row=true
 | [],xs,h,row,hr=>by cases hr
 | r::l,xs,h,row,hr=>by
  rw [exRows] at h;split at h
  ·rename_i x xs' h1 h2;rcases List.mem_cons.1 hr with rfl | hr
   ·exact exA_refs h1
   ·exact exRows_refs h2 row hr
  ·cases h
structure NewOk (P:Program) (n:Nat) (o:Oper) (lst:SSt D) (m:Nat→Nat) (b:SB D) (row:Bool) (b':AB):Prop where
 op:∀ k,MOk m k lst→OpN P n o (lst.enc m k) b'
 les:LesB (b.enc m lst.blk) b'
 box:row=false→∃ cs e cs',b=.box cs e∧b'=.box cs' e
 nmd:∀ (q:Nat→Bool) (pB:Nat→Bool) (pR:Nat→Nat→Bool),(∀ k,k<bigA→q k=true)→(∀ id,pB id=true→isBox lst.blk id=true→q (m id)=true)→(∀ id v n,pR id v=true→rowLen lst.blk id v=some n→q (m id)=true)→b.refs pB pR=true→b'.nmd q=true
 rw:row=true→∃ fr rt xs e rows,b=.row fr rt xs e 0∧b'=.row rt.size rows e∧rows.length=List.length xs.den
theorem new_ok {Tb:Tab} (hT:Tb.ok P) {lst:SSt D} {b:SB D} {row:Bool} {g:E D .bool} (hn:isNew o.op=true) (h:mem0 Tb lst o.dst o.op=some (.new b row,g)) (hg:g.den=true) (hd:dok o.dst n=true):∃ b',NewOk P n o lst m b row b':=by
 obtain ⟨d,op,ty,ps,af,gg⟩:=o;have hd:dok d n=true:=hd;simp only at h hn;unfold mem0 at h;split at h
 ·rename_i e;unfold allocS at h;split at h
  ·rename_i Z s bb h1
   cases hc:allOne (Z.cells.toList.map avOf) with
   | false=>rw [hc] at h;cases h
   | true =>
    rw [hc] at h;simp only [cond_true,Option.some.injEq,Prod.mk.injEq,MR.new.injEq] at h;obtain ⟨⟨rfl,rfl⟩,rfl⟩:=h
    exact ⟨_,fun k _=>opN_alloc (allP_at hT.inf h1) hc hd,.box e (by rw [zeroS_enc];exact .refl _),fun _=>⟨_,_,_,rfl,rfl⟩,fun q pB pR hq hB hR hb=>(by
     rw [SB.refs] at hb;have:=encL_nmd (m:=m) (H:=lst.blk) hB hR _ hb (.inr hq);rw [zeroS_enc] at this
     exact this),fun h=>by cases h⟩
  ·cases h
 ·rename_i e y;unfold boxS at h
  cases hc:allOneS lst (lst.ev y).cells with
  | false=>rw [hc] at h;cases h
  | true =>
   rw [hc] at h;simp only [cond_true,Option.some.injEq,Prod.mk.injEq,MR.new.injEq] at h;obtain ⟨⟨rfl,rfl⟩,rfl⟩:=h
   refine ⟨.box (SV.encL m lst.blk (lst.ev y).cells) e,fun k _=>?_,.refl _,fun _=>⟨_,_,_,rfl,rfl⟩,fun q pB pR hq hB hR hb=>(by
     rw [SB.refs] at hb
     exact encL_nmd hB hR _ hb (.inr hq)),fun h=>by cases h⟩
   have e1:((lst.enc m k).ev y).cells=SV.encL m lst.blk (lst.ev y).cells:=by rw [enc_ev,enc_cells]
   rw [←e1];exact opN_box (by rw [e1];exact allOneS_enc hc) hd
 ·split at h
  ·rename_i t a v;unfold isNew at hn;cases hn
  ·cases h
 ·rename_i t y z;unfold makeS at h;generalize hy:lst.ev y=vy at h;generalize hz:lst.ev z=vz at h;split at h
  ·rename_i e k L k' Cc hu;split at h
   ·rename_i Z sz bb rt hI hty
    cases hc:(allOne (Z.cells.toList.map avOf)&&Nat.beq (Z.cells.toList.map avOf).length sz&&Nat.blt 0 sz&&Nat.blt 0 bb) with
    | false=>rw [hc] at h;cases h
    | true =>
     rw [hc] at h;simp only [cond_true] at h;simp only [Bool.and_eq_true] at hc;obtain ⟨⟨⟨c1,c2⟩,c3⟩,c4⟩:=hc;split at h
     ·rename_i x0 hx0;simp only [Option.some.injEq,Prod.mk.injEq,MR.new.injEq] at h;obtain ⟨⟨rfl,rfl⟩,rfl⟩:=h;rw [andE_den,andE_den] at hg;obtain ⟨g1,g2⟩:=andB hg;obtain ⟨g2,g3⟩:=andB g2;have g2:=leE_den g2;have hb0:0<bb:=by simpa using c4
      have g2:(0:Int)≤(L.den:Int):=g2;have hzl:(Z.cells.toList.map avOf).length=sz:=Nat.eq_of_beq_eq_true c2;have hcell:=exA_ok (m:=m) (H:=lst.blk) hx0;rw [zeroS_enc] at hcell;have hsz:rt.size=sz:=by rw [←rt.cells_length true x0.den,hcell.len,hzl]
      refine ⟨.row sz (List.replicate (L.den:Int).toNat (Z.cells.toList.map avOf)) e,fun kk hm=>?_,?_,(fun h=>by cases h),(fun q pB pR hq hB hR _=>by
       refine List.all_eq_true.2 fun row hr=>?_
       rw [(List.mem_replicate.1 hr).2,←zeroS_enc (m:=m) (H:=lst.blk)]
       exact encL_nmd hB hR _ (exA_refs hx0) (.inr hq)),fun _=>⟨_,_,_,_,_,rfl,by rw [hsz],by
       rw [List.length_replicate];show _=(List.replicate _ _).length
       rw [List.length_replicate]⟩⟩
      ·have ey:(lst.enc m kk).ev y=.int k L.den:=by rw [enc_ev,hy,SV.enc]
       have ez:(lst.enc m kk).ev z=.int k' Cc.den:=by rw [enc_ev,hz,SV.enc]
       obtain ⟨hLC,g3⟩:(L.den:Int)≤(Cc.den:Int)∧(bb:Int)*(Cc.den:Int)≤281474976710656:=by
        cases hso:sameOp y z with
        | true =>
         have hCL:(Cc.den:Int)=(L.den:Int):=sameOp_eq hso ey ez;rw [hso] at g3;have g3:=leE_den g3;rw [mulL_den] at g3;rw [hCL];exact ⟨Int.le_refl _,g3⟩
        | false =>
         rw [hso] at g1 g3;have g3:=leE_den g3;rw [mulL_den] at g3;exact ⟨leE_den g1,g3⟩
       exact opN_makeC (allP_at hT.und hu) (allP_at hT.inf hI) hzl (by simpa using c3) c1 ey ez g2 hLC g3 (le_of_mul hb0 (Int.le_trans g2 hLC) g3) hd
      ·subst hsz;refine .rows ⟨?_,fun i row row' h1 h2=>?_⟩
       ·show (List.map _ (List.replicate _ _)).length=_;rw [List.length_map,List.length_replicate,List.length_replicate]
       ·have h1:((List.replicate (L.den:Int).toNat x0.den).map (rt.cells true))[i]?=some row:=h1;rw [List.getElem?_map,List.getElem?_replicate] at h1;rw [List.getElem?_replicate] at h2;split at h1
        ·rename_i hi;rw [if_pos hi] at h2;simp only [Option.map_some,Option.some.injEq] at h1 h2;subst h1;subst h2
         exact hcell
        ·cases h1
     ·cases h
   ·cases h
  ·cases h
 ·rename_i t L parts;unfold litS at h;split at h
  ·rename_i e hu;split at h
   ·rename_i Z sz bb rt hI hty
    cases hc:(allOne (Z.cells.toList.map avOf)&&Nat.beq (Z.cells.toList.map avOf).length sz&&Nat.blt 0 sz&&Nat.ble (L*sz) 16777216&&Nat.beq rt.size sz) with
    | false=>rw [hc] at h;cases h
    | true =>
     rw [hc] at h;simp only [cond_true] at h;simp only [Bool.and_eq_true] at hc;obtain ⟨⟨⟨⟨c1,c2⟩,c3⟩,c4⟩,c5⟩:=hc;split at h
     ·rename_i out hf'
      cases ho:Nat.beq out.length (L*sz) with
      | false=>rw [ho] at h;cases h
      | true =>
       rw [ho] at h;simp only [cond_true] at h;have hf':=fillS_enc (m:=m) hf';rw [zerosS_enc,zeroS_enc] at hf';have hsz:=Nat.eq_of_beq_eq_true c5
       have fin:∀ fr xs,exRows fr rt (chunkS sz L out)=some xs→b=.row fr rt xs e 0→row=true→∃ b',NewOk P n ⟨d,.buildSlice t L parts,ty,ps,af,gg⟩ lst m b row b':=by
        intro fr xs hx eb er;subst eb;subst er
        have hch:=chunkS_at (m:=m) (H:=lst.blk) hx
        refine ⟨.row sz (chunk sz L (SV.encL m lst.blk out)) e,fun kk hm=>?_,?_,(fun h=>by cases h),(fun q pB pR hq hB hR _=>by
         refine List.all_eq_true.2 fun row hr=>?_
         rw [chunkS_enc] at hr;obtain ⟨r0,h1,rfl⟩:=List.mem_map.1 hr
         exact encL_nmd hB hR _ (exRows_refs hx r0 h1) (.inr hq)),fun _=>⟨_,_,_,_,_,rfl,by rw [hsz],?_⟩⟩
        ·have hf2:=hf';rw [←evPartsS_enc (nx:=kk)] at hf2;exact opN_lit (allP_at hT.und hu) (allP_at hT.inf hI) c1 (Nat.eq_of_beq_eq_true c2) (by simpa using c3) c4 hf2 (by rw [encL_length];exact Nat.eq_of_beq_eq_true ho) hd
        ·subst hsz;exact .rows hch
        ·have:=hch.len;rw [List.length_map] at this;exact this.symm
       unfold litRow at h;split at h
       ·rename_i xs hx;simp only [Option.some.injEq,Prod.mk.injEq,MR.new.injEq] at h;exact fin _ _ hx h.1.1.symm h.1.2.symm
       ·split at h
        ·rename_i xs hx;simp only [Option.some.injEq,Prod.mk.injEq,MR.new.injEq] at h;exact fin _ _ hx h.1.1.symm h.1.2.symm
        ·cases h
     ·cases h
   ·cases h
  ·cases h
 ·rename_i y z t t'
  cases ht:Nat.beq t' t with
  | false=>rw [ht] at h;cases h
  | true =>
   rw [ht] at h;have ht:=Nat.eq_of_beq_eq_true ht;subst ht;simp only [cond_true] at h;unfold appS at h;generalize hy:lst.ev y=vy at h;split at h
   ·rename_i e hu;split at h
    ·rename_i Z sz bb hI
     cases hc:(Nat.beq Z.cells.size sz&&Nat.blt 0 sz) with
     | false=>rw [hc] at h;cases h
     | true =>
      rw [hc] at h;simp only [cond_true] at h;rw [Bool.and_eq_true] at hc;have hz:=Nat.eq_of_beq_eq_true hc.1;have h0:0<sz:=Nat.le_of_ble_eq_true hc.2;split at h
      ·split at h
       ·rename_i fr ty' xs e' v hb
        cases hc2:(Nat.beq _ v&&(Nat.beq e' e&&(Nat.beq sz ty'.size&&ty'.flatA))) with
        | false=>rw [hc2] at h;cases h
        | true =>
         rw [hc2] at h;simp only [cond_true] at h;split at h
         ·rename_i fr' ys hy2
          cases hr:lst.refs (fun _=>true) (fun i w=>!(Nat.beq i _&&Nat.beq w (v+1))) with
          | false=>rw [hr] at h;cases h
          | true=>rw [hr] at h;cases h
         ·cases h
       ·cases h
      ·split at h
       ·rename_i rt hty
        cases hc2:(Nat.beq sz rt.size&&rt.flatA) with
        | false=>rw [hc2] at h;cases h
        | true =>
         rw [hc2] at h;simp only [cond_true] at h;rw [Bool.and_eq_true] at hc2;have hsz:=Nat.eq_of_beq_eq_true hc2.1;subst hsz;split at h
         ·rename_i fr' ys hys;simp only [Option.some.injEq,Prod.mk.injEq,MR.new.injEq] at h;obtain ⟨⟨rfl,rfl⟩,rfl⟩:=h;obtain ⟨hG,hg⟩:=andE_b hg;have hg:=leE_den hg;have hg:(List.length ys.den:Int)*((bmul bb:Nat):Int)≤140737488355328:=hg;have h63:List.length ys.den*bmul bb≤140737488355328:=nat_of1 hg
          refine ⟨.row rt.size ((ys.den:List rt.den).map (rt.cells fr')) e,fun kk hm=>?_,.refl _,(fun h=>by cases h),(fun q pB pR hq hB hR _=>by
           exact rowD hq fr' rt ys.den),fun _=>⟨_,_,_,_,_,rfl,rfl,rows_len _⟩⟩
          have ey:(lst.enc m kk).ev y=.nils:=by rw [enc_ev,hy,SV.enc]
          exact opN_append_nil ey rfl (srcC_ok hc2.2 hm hG hys) (allP_at hT.und hu) (allP_at hT.inf hI) h0 hz (by rw [rows_len];exact h63) hd
         ·cases h
       ·cases h
      ·cases h
    ·cases h
   ·cases h
 ·cases h
theorem hnew_fix {nx:Nat} {b:SB D} {b':AB} {s:ASt} (hm:MOk m nx st) (hl:LeS (st.enc m nx) s) (hf:FrOk m st.blk st.fr F) (hmx:m st.nx=nx) (hbd:b.norm) (hr:st.refs (nB st) (nR st)=true) (hb:LesB (b.enc m (st.hnew b).blk) b') :
  MOk m (nx+1) (st.hnew b)∧LeS ((st.hnew b).enc m (nx+1)) (s.hnew b')∧FrOk m (st.hnew b).blk (st.hnew b).fr F:=by
 have hnx:nx=s.nx:=hl.nx
 have hc:MemLe m st.blk m (st.hnew b).blk (nB st) (nR st):=by
  have hne:∀ id,(!Nat.beq id st.nx)=true→id≠st.nx:=by
   intro id h e;subst e;have h:(!Nat.beq st.nx st.nx)=true:=h;rw [Nat.beq_refl] at h;cases h
  refine ⟨fun id h=>.inr ⟨?_,rfl⟩,fun id v h=>.inr ⟨?_,rfl⟩⟩
  ·unfold isBox;rw [hnew_blk,if_neg (Ne.symm (hne id h))]
  ·unfold rowLen;rw [hnew_blk,if_neg (Ne.symm (hne id h))]
 unfold SSt.refs at hr;simp only [Bool.and_eq_true] at hr;obtain ⟨r1,r2,r3,r4,r5⟩:=hr
 have hlv:∀ k,(st.hnew b).blk k≠.dead→k≠st.nx→st.blk k≠.dead:=by
  intro k hk e;rw [hnew_blk,if_neg (Ne.symm e)] at hk;exact hk
 have hdead:st.blk st.nx=.dead:=Classical.byContradiction fun e=>Nat.lt_irrefl _ (hm.live e)
 obtain ⟨hbd,hbA⟩:=hbd
 have hA:((st.hnew b).blk 0).isA=(st.blk 0).isA∧∀ B,((st.hnew b).blk 0).rows B=(st.blk 0).rows B:=by
  rw [hnew_blk];by_cases e:st.nx=0
  ·rw [if_pos e,hbA,show st.blk 0=.dead by rw [←e];exact hdead];exact ⟨rfl,fun B=>by rw [isA_rows hbA];rfl⟩
  ·rw [if_neg e];exact ⟨rfl,fun _=>rfl⟩
 refine ⟨⟨fun k hk=>?_,fun k k' hk hk' e=>?_,fun p hp=>?_,fun h=>hm.ar' (hA.1 ▸ h),?_⟩,⟨fun d=>?_,fun k=>?_,?_⟩,hf.les' hc r5⟩
 ·by_cases e:k=st.nx
  ·rw [e,hmx];omega
  ·have:=hm.lt k (hlv k hk e);omega
 ·by_cases e1:k=st.nx
  ·by_cases e2:k'=st.nx
   ·omega
   ·rw [e1,hmx] at e;have:=hm.lt k' (hlv k' hk' e2);omega
  ·by_cases e2:k'=st.nx
   ·rw [e2,hmx] at e;have:=hm.lt k (hlv k hk e1);omega
   ·exact hm.inj k k' (hlv k hk e1) (hlv k' hk' e2) e
 ·show p.1<st.nx+1∧p.2≠.dead;rcases List.mem_cons.1 hp with rfl | hp
  ·exact ⟨Nat.lt_succ_self _,hbd⟩
  ·have:=hm.keys p hp;exact ⟨by omega,this.2⟩
 ·have:=hm.ge.1;refine ⟨by omega,fun k hk=>?_⟩;by_cases e:k=st.nx
  ·rw [e,hmx];exact this
  ·exact hm.ge.2 k (hlv k hk e)
 ·show Les (look .any (encR m (st.hnew b).blk (st.regs++st.kp)) d) _;exact (encR_les hc _ (by rw [refsR_append,r1,r2];rfl) d).trans (hl.regs d)
 ·show LesB (look .dead (((m st.nx,b.enc m (st.hnew b).blk)::encH m (st.hnew b).blk (st.heap++st.hk))++((st.hnew b).blk 0).rows (m 0)) k) (look .dead ((s.nx,b')::s.heap) k);rw [hA.2,List.cons_append,look_cons,look_cons,hmx.trans hnx];split
  ·exact hb
  ·have h1:LesB (look .dead (encH m st.blk (st.heap++st.hk)++(st.blk 0).rows (m 0)) k) (look .dead s.heap k):=hl.heap k;rw [look_append] at h1 ⊢;exact (encH_lesD hc _ _ (by rw [refsH_append,r3,r4];rfl) (fun _ _=>rfl) k).trans h1
 ·show nx+1=s.nx+1;omega
theorem newW_m (hL:Lay m nx0 b0 st0) (hws:∀ p ∈ ws,Good b0 st0 p.2) (hge:b0≤st.nx) (h:Dr.newW T ws i st.nx=true):Dr.newW T (mapP m ws) i (nxOf nx0 b0 st)=true:=by
 have e:nxOf nx0 b0 st=m st.nx:=(hL.new _ hge).symm;rw [e];unfold Dr.newW mapP at *
 rw [List.all_map];refine List.all_eq_true.2 fun p hp=>?_
 have:=List.all_eq_true.1 h p hp;show (bif Nat.beq (m p.2) (m st.nx) then _ else true)=true;rw [beq_m hL (hws p hp) (.inl hge)];exact this
theorem newR_ok (hC:C.ok P) (hL:Lay m nx0 b0 st0) (hws:∀ p ∈ ws,Good b0 st0 p.2) (hc:∀ p ∈ cr,b0≤p.2) (hI:RI F m nx0 b0 st0 st) (hd:dok o.dst n=true) (hnw:isNew o.op=true)
  (hg:o.guard=none∨gst ops o (Dr.lcl ops T (mapP m ws) nx0 i (mapP m cr) (st.enc m (nxOf nx0 b0 st)) o 0)=some true)
  {K:List (Nat×Nat)→SSt D→G D (KD ρ) ρ} (h:(newR C T ws b0 i cr (lclS ops T ws b0 i cr st o) st o K).den fu=some r)
  (k:∀ cr' st',RI F m nx0 b0 st0 st'→(∀ p ∈ cr',b0≤p.2)→(K cr' st').den fu=some r→AGm P n ops T ws nx0 b0 m Kt (i+1) cr' l st'):AGm P n ops T ws nx0 b0 m Kt i cr (o::l) st:=by
 unfold newR at h;split at h
 ·rename_i b row g hmem
  cases hb:(Dr.noW ws i&&Dr.newW T ws i st.nx&&b.refs (fun k=>visS T ws b0 i cr k&&!Nat.beq k st.nx) (fun k _=>visS T ws b0 i cr k&&!Nat.beq k st.nx)&&st.refs (fun id=>!Nat.beq id st.nx) (fun id _=>!Nat.beq id st.nx)) with
  | false=>rw [hb] at h;cases h
  | true =>
   rw [hb] at h;simp only [cond_true] at h;simp only [Bool.and_eq_true] at hb;obtain ⟨⟨⟨b1,b2⟩,b3⟩,b4⟩:=hb;obtain ⟨hgd,h⟩:=grdG_den h;obtain ⟨b',hN⟩:=new_ok (m:=m) hC.T hnw hmem hgd hd
   have hop:∀ k,nx0≤k→OpN P n o (Dr.lcl ops T (mapP m ws) nx0 i (mapP m cr) (st.enc m (nxOf nx0 b0 st)) o k) b':=fun k hkA=>⟨hd,fun K a w G r=>by
    have hk:=lt_of_rel hL hws hc hI.good hI.arn hI.mok hkA r;have hm:=lclS_mok (ops:=ops) (T:=T) (ws:=ws) (b0:=b0) (i:=i) (cr:=cr) (o:=o) hI.mok (Nat.le_trans hL.ge.1 hkA) hk
    exact (hN.op k hm).out K a w G (r.les (lclS_les hL hws hc hI.good hI.mok (Nat.le_trans hL.ge.1 hkA) hk))⟩
   have hmx:m st.nx=nxOf nx0 b0 st:=hL.new _ hI.ge
   have hmem2:MemLe m (lclS ops T ws b0 i cr st o).blk m (st.hnew b).blk (fun k=>visS T ws b0 i cr k&&!Nat.beq k st.nx) (fun k _=>visS T ws b0 i cr k&&!Nat.beq k st.nx):=by
    have e:∀ k,(visS T ws b0 i cr k&&!Nat.beq k st.nx)=true→(st.hnew b).blk k=(lclS ops T ws b0 i cr st o).blk k:=by
     intro k hk;rw [Bool.and_eq_true] at hk
     have hne:st.nx≠k:=fun e=>by
      subst e;have:=hk.2;rw [Nat.beq_refl] at this;cases this
     rw [hnew_blk,if_neg hne,lclS_blk,hk.1];rfl
    exact ⟨fun id h=>.inr ⟨by unfold isBox;rw [e id h],rfl⟩,fun id v h=>.inr ⟨by unfold rowLen;rw [e id h],rfl⟩⟩
   have hbd:b.norm:=by
    cases row with
    | true=>obtain ⟨_,_,_,_,_,rfl,_⟩:=hN.rw rfl;exact SB.norm_row ..
    | false=>obtain ⟨_,_,_,rfl,_⟩:=hN.box rfl;exact SB.norm_box ..
   have hset:=hnew_fix (b:=b) (b':=b') hI.mok (.refl _) hI.fr hmx hbd b4 ((encB_les hmem2 b b3).trans hN.les)
   have hnx':nxOf nx0 b0 (st.hnew b)=nxOf nx0 b0 st+1:=by
    have:=hI.ge;show nx0+(st.nx+1-b0)=nx0+(st.nx-b0)+1;omega
   have hRI:RI F m nx0 b0 st0 (st.hnew b):=⟨by rw [hnx'];exact hset.1,by show b0≤st.nx+1;have:=hI.ge;omega,hset.2.2,hI.fix.trans ⟨rfl,rfl,rfl⟩,fun k hk=>by
    rw [hnew_blk] at hk;by_cases e':st.nx=k
    ·exact .inl (by have:=hI.ge;omega)
    ·rw [if_neg e'] at hk;exact hI.good k hk,fun k hk=>by
    rw [hnew_blk] at hk;by_cases e':st.nx=k
    ·rw [if_pos e',hbd.nA] at hk;cases hk
    ·rw [if_neg e'] at hk;exact hI.arn k hk⟩
   have hnm:b'.nmd (vis T nx0 i (mapP m cr))=true:=by
    have key:∀ id,(visS T ws b0 i cr id&&!Nat.beq id st.nx)=true→(lclS ops T ws b0 i cr st o).blk id≠.dead→vis T nx0 i (mapP m cr) (m id)=true:=by
     intro id hv hbl;rw [Bool.and_eq_true] at hv;rw [lclS_blk,hv.1] at hbl;exact liveS hL hc hI hv.1 hbl
    refine hN.nmd _ _ _ (fun _ h=>vis_arn hL h) (fun id hp hbl=>key id hp fun e=>?_) (fun id v n hp hbl=>key id hp fun e=>?_) b3
    ·unfold isBox at hbl;rw [e] at hbl;cases hbl
    ·unfold rowLen at hbl;rw [e] at hbl;cases hbl
   have hcr:∀ p ∈ (i,st.nx)::cr,b0≤p.2:=fun p hp=>by
    rcases List.mem_cons.1 hp with rfl | hp
    ·exact hI.ge
    ·exact hc p hp
   have hst:Dr.AG P n ops T (mapP m ws) nx0 Kt (i+1) (mapP m ((i,st.nx)::cr)) l (((st.enc m (nxOf nx0 b0 st)).hnew b').put o.dst (refB b' (st.enc m (nxOf nx0 b0 st)).nx)):=by
    refine .le ?_ (k _ _ (by rw [MR.app];exact hRI.put _ _) hcr h)
    have e:nxOf nx0 b0 (MR.app st o.dst (.new b row))=nxOf nx0 b0 st+1:=by
     rw [MR.app,←hnx']
     cases o.dst <;> rfl
    rw [e,MR.app,put_enc];refine hset.2.1.put ?_
    cases row with
    | true =>
     obtain ⟨fr,rt,xs,e1,rows,h1,h2,h3⟩:=hN.rw rfl;subst h1;subst h2
     have hi:rowLen (st.hnew (.row fr rt xs e1 0)).blk st.nx 0=some (List.length xs.den):=by unfold rowLen;rw [hnew_blk,if_pos rfl];rfl
     show Les (SV.enc m _ (.osl st.nx 0)) (.osl (nxOf nx0 b0 st) rows.length);rw [SV.enc,hi,hmx,h3];exact .refl _
    | false =>
     obtain ⟨cs,e1,cs',h1,h2⟩:=hN.box rfl;subst h1;subst h2
     have hi:isBox (st.hnew (.box cs e1)).blk st.nx=true:=by unfold isBox;rw [hnew_blk,if_pos rfl]
     show Les (SV.enc m _ (.box st.nx 0)) (.box (nxOf nx0 b0 st) 0);rw [SV.enc,hi,hmx];exact .refl _
   have e2:mapP m ((i,st.nx)::cr)=(i,(st.enc m (nxOf nx0 b0 st)).nx)::mapP m cr:=by
    show (i,m st.nx)::mapP m cr=_;rw [hmx];rfl
   rw [e2] at hst;exact .step (.new (by rw [noW_m];exact b1) (newW_m hL hws hI.ge b2) hg hop hnm) hst
 ·cases h
theorem EntR.up {ce:CtrE} {vs:List (SV D)} {mp:List (Nat×Nat)} {e:E D (itmsTy ce.si.items)} {kk:Nat} {lst:SSt D} (hnA:(lst.blk 0).isA=false) (h:EntR ce lst m kk vs mp e) (hm:MOk m kk st) (hml:MOk m kk lst) (hb:∀ k,lst.blk k≠.dead→lst.blk k=st.blk k):EntR ce st m kk vs mp e:=by
 have hmem:MemLe m st.blk m lst.blk (fun _=>true) (fun _ _=>true):=by
  refine ⟨fun id _=>?_,fun id v _=>?_⟩
  ·by_cases e:lst.blk id=.dead
   ·left;unfold isBox;rw [e]
   ·right;unfold isBox;rw [hb id e];exact ⟨rfl,rfl⟩
  ·by_cases e:lst.blk id=.dead
   ·left;unfold rowLen;rw [e]
   ·right;unfold rowLen;rw [hb id e];exact ⟨rfl,rfl⟩
 refine ⟨h.mok,h.args.trans (encL_les hmem vs (svL_refs_all vs)),fun id=>(h.heap id).trans ?_,fun b hbi=>?_,h.dead,fun b=>⟨fun hk=>?_,fun hk=>?_⟩,fun b hbi hk=>?_⟩
 ·rcases heap_cases hml id with h' | ⟨b,hbl,rfl⟩ | ⟨h',_,_⟩
  ·rw [h'];exact .dead _
  rotate_left
  ·rw [hnA] at h';cases h'
  ·rw [enc_blk hml hbl,enc_blk hm (by rw [←hb b hbl];exact hbl),hb b hbl];exact encB_les hmem _ (sb_refs_all _)
 ·obtain ⟨h1,h2⟩:=h.live b hbi;exact ⟨h1,by rw [←hb _ h2];exact h2⟩
 ·obtain ⟨cs,ty,h1⟩:=(h.kind b).1 hk;exact ⟨cs,ty,by rw [←hb _ (by rw [h1];simp)];exact h1⟩
 ·obtain ⟨fr,t,xs,ty,v,h1⟩:=(h.kind b).2 hk;exact ⟨fr,t,xs,ty,v,by rw [←hb _ (by rw [h1];simp)];exact h1⟩
 ·have h2:=(h.live b hbi).2;have e1:=hb _ h2;have:=h.len b hbi hk;unfold curVer rowLen at this ⊢;rw [←e1];exact this
theorem effOf_some {C:DC} {lst:SSt D} {op:Op} {ce:CtrE} {vs:List (SV D)} (h:effOf C lst op=some (ce,vs)):∃ cal args ats Fn caps,op=.call ⟨.value cal,args,ats⟩∧lst.ev cal=.fn Fn caps∧(∃ z,lk C.cas Fn=some z)∧lk C.effs Fn=some ce∧vs=evS lst args.toList++caps:=by
 unfold effOf at h;split at h
 ·rename_i cal args ats;split at h
  ·rename_i Fn caps hcal;split at h
   ·rename_i z hz;split at h
    ·cases h
    ·split at h
     ·rename_i ce' hce;simp only [Option.some.injEq,Prod.mk.injEq] at h;obtain ⟨h1,h2⟩:=h;subst h1;subst h2
      exact ⟨cal,args,ats,Fn,caps,rfl,hcal,⟨z,hz⟩,hce,rfl⟩
     ·cases h
   ·cases h
  ·cases h
 ·cases h
theorem look_isA {l:List (Nat×SB D)} (h:∀ p ∈ l,p.2.isA=false) {d:SB D} {j:Nat} (hj:(look d l j).isA=true):d.isA=true:=by
 induction l with
 | nil=>exact hj
 | cons p l ih =>
  obtain ⟨i,b⟩:=p;rw [look_cons] at hj;by_cases e:i=j
  ·rw [if_pos e,h (i,b) (by simp)] at hj;cases hj
  ·rw [if_neg e] at hj;exact ih (fun p hp=>h p (List.mem_cons_of_mem _ hp)) hj
theorem outE_isA {ce:CtrE} {mp:List (Nat×Nat)} {y:E D (itmsTy ce.so.items)} (hs:SigP ce.si ce.so ce.nb) {j:Nat} (h:((outE ce.si ce.so ce.nb mp st y).blk j).isA=true):(st.blk j).isA=true:=by
 have h:(look (look .dead st.hk j) (renHE ce.si ce.so ce.nb mp st (injH ce.so.items y)++st.heap) j).isA=true:=h;rw [look_append] at h;refine look_isA (fun p hp=>?_) h;obtain ⟨p',hp',rfl⟩:=List.mem_map.1 hp;have:=noA_isA (injH_noA _ _ hs.nao p' hp')
 revert this
 show p'.2.isA=false→(p'.2.ren _ _ _ _).isA=false
 cases p'.2 <;> intro h <;> first | rfl | cases h
theorem effD_ok (hC:C.ok P) (hL:Lay m nx0 b0 st0) (hws:∀ p ∈ ws,Good b0 st0 p.2) (hc:∀ p ∈ cr,b0≤p.2) (hI:RI F m nx0 b0 st0 st) (hd:dok o.dst n=true)
  (hg:o.guard=none∨gst ops o (Dr.lcl ops T (mapP m ws) nx0 i (mapP m cr) (st.enc m (nxOf nx0 b0 st)) o 0)=some true) {ce:CtrE} {vs:List (SV D)} (hef:effOf C (lclS ops T ws b0 i cr st o) o.op=some (ce,vs))
  {K:List (Nat×Nat)→SSt D→G D (KD ρ) ρ} (h:(effD T ws b0 i cr (lclS ops T ws b0 i cr st o) st o ce vs K).den fu=some r)
  (k:∀ cr' st',RI F m nx0 b0 st0 st'→(∀ p ∈ cr',b0≤p.2)→(K cr' st').den fu=some r→AGm P n ops T ws nx0 b0 m Kt (i+1) cr' l st'):AGm P n ops T ws nx0 b0 m Kt i cr (o::l) st:=by
 obtain ⟨cal,args,ats,Fn,caps,hop,hcal,⟨z,hz⟩,hce,hvs⟩:=effOf_some hef;have hF:=allP_at hC.cas hz;have hceok:=allP_at hC.effs hce;unfold effD at h;generalize hmp:mapE ce.si (lclS ops T ws b0 i cr st o) vs=mp at h
 cases hb:((detOk ce.si ce.so ce.nb&&!(st.blk 0).isA)&&(((itemB ce.si.items).all fun b=>visS T ws b0 i cr (mpI mp b)&&(ws.any fun p=>Nat.beq p.1 i&&Nat.beq p.2 (mpI mp b))) &&
  ((ws.all fun p=>!Nat.beq p.1 i||((itemB ce.si.items).any fun b=>Nat.beq p.2 (mpI mp b)))&&(((List.range ce.so.ex).all fun j=>Dr.newW T ws i (st.nx+j))&&refE ce.si ce.so ce.nb mp st)))) with
 | false=>rw [hb] at h;cases h
 | true =>
  rw [hb] at h;simp only [cond_true] at h;simp only [Bool.and_eq_true] at hb;obtain ⟨⟨hdet,hnA⟩,b1,b2,b3,b4⟩:=hb;have hnA:(st.blk 0).isA=false:=by simpa using hnA
  split at h
  ·rename_i e he;rw [G.den] at h;unfold bindO at h;split at h
   ·rename_i y hy;unfold arrE at he;rw [hmp] at he
    cases hca:((sigOk ce.si ce.so ce.nb&&!((lclS ops T ws b0 i cr st o).blk 0).isA)&&(Nat.beq ce.na vs.length&&(refE ce.si ce.so ce.nb mp (lclS ops T ws b0 i cr st o)&&((itemB ce.si.items).all fun b=>Nat.blt (mpI mp b) (lclS ops T ws b0 i cr st o).nx)))) with
    | false=>rw [hca] at he;cases he
    | true =>
     rw [hca] at he;simp only [cond_true] at he;simp only [Bool.and_eq_true] at hca;obtain ⟨⟨c1,c0⟩,c2,_,c4⟩:=hca;have hs:=sigOk_at c1;have hna:=Nat.eq_of_beq_eq_true c2;have hlt:∀ b ∈ itemB ce.si.items,mpI mp b<st.nx:=fun b hb=>Nat.le_of_ble_eq_true (List.all_eq_true.1 c4 b hb)
     rw [←hmp] at he
     have hlst:∀ j,(lclS ops T ws b0 i cr st o).blk j≠.dead→(lclS ops T ws b0 i cr st o).blk j=st.blk j:=by
      intro j hj;rw [lclS_blk] at hj ⊢
      cases hv:visS T ws b0 i cr j with
      | true=>rfl
      | false=>rw [hv] at hj;exact absurd rfl hj
     have hkb:∀ j,(lclS ops T ws b0 i cr st o).blk j≠.dead→m j<nxOf nx0 b0 st:=fun j hj=>hI.mok.lt j (by rw [←hlst j hj];exact hj)
     have hmk:∀ q,nxOf nx0 b0 st≤q→MOk m q (lclS ops T ws b0 i cr st o):=fun q hq=>lclS_mok hI.mok (Nat.le_trans hI.mok.ge.1 hq) fun j hj=>by have:=hkb j hj;omega
     have hEq:∀ q,nxOf nx0 b0 st≤q→EntR ce (lclS ops T ws b0 i cr st o) m q vs mp e:=fun q hq=>by
      have:=entR hs (hmk q hq) hna he;rw [hmp] at this;exact this
     have hE0:=hEq _ (Nat.le_refl _);have hE:EntR ce st m (nxOf nx0 b0 st) vs mp e:=hE0.up (by simpa using c0) hI.mok (hmk _ (Nat.le_refl _)) hlst;have hm0:∀ b ∈ itemB ce.si.items,mM m mp b<nxOf nx0 b0 st:=fun b hb=>hE.mok.lt b (hE.live b hb).1
     have hlen:=(hceok.2 fu e.den y hy).1;have hτ:=tau_mok hI.mok.ge.1 (y:=y) (kk:=nxOf nx0 b0 st) hs hE.mok (fun b hb=>⟨(hE.live b hb).1,hm0 b hb⟩);have hτf:=tau_fr (kk:=nxOf nx0 b0 st) (m0:=mM m mp) (nx':=nxOf nx0 b0 st) hs hdet hlen
     let L:List Nat:=(itemB ce.si.items).map (mM m mp)
     have hLp:∀ id,hasN L id=pE ce.si (mM m mp) id:=fun id=>by
      rw [Bool.eq_iff_iff,pE_iff];constructor
      ·intro h';obtain ⟨b,h1,h2⟩:=List.mem_map.1 (hasN_mem h');exact ⟨b,h1,h2⟩
      ·rintro ⟨b,h1,h2⟩
       exact hasN_of (List.mem_map.2 ⟨b,h1,h2⟩)
     have hq:∀ id,(orQ (hasN L) (nxOf nx0 b0 st) (nxOf nx0 b0 st+ce.so.ex) id)=(pE ce.si (mM m mp) id||newQ (nxOf nx0 b0 st) (nxOf nx0 b0 st+ce.so.ex) id):=fun id=>by
      unfold orQ;rw [hLp]
     have hexk:∀ b ∈ itemB ce.so.items,orQ (hasN L) (nxOf nx0 b0 st) (nxOf nx0 b0 st+ce.so.ex) (tauE ce.nb (mM m mp) (nxOf nx0 b0 st) b)=true:=by
      intro b hb;rw [orQ_iff];have:=hs.lt b hb;unfold tauE;split
      ·rename_i c
       left
       rw [hLp,pE_iff];exact ⟨b,(hs.old b hb c).1,rfl⟩
      ·right;omega
     have hXn:∀ b,((exi ce.si ce.so ce.nb (.var y:E D (itmsTy ce.so.items))).blk b).noA=true:=fun b=>by rw [exiB hs];exact look_noA (injH_noA _ _ hs.nao) b
     have hBX:∀ id,isBox (exi ce.si ce.so ce.nb (.var y:E D (itmsTy ce.so.items))).blk id=true→orQ (hasN L) (nxOf nx0 b0 st) (nxOf nx0 b0 st+ce.so.ex) (tauE ce.nb (mM m mp) (nxOf nx0 b0 st) id)=true:=fun id h=>hexk id (exiK (y:=y) hs (fun h'=>by unfold isBox at h;rw [h'] at h;cases h))
     have hRX:∀ id v q,rowLen (exi ce.si ce.so ce.nb (.var y:E D (itmsTy ce.so.items))).blk id v=some q→orQ (hasN L) (nxOf nx0 b0 st) (nxOf nx0 b0 st+ce.so.ex) (tauE ce.nb (mM m mp) (nxOf nx0 b0 st) id)=true:=fun id v q h=>hexk id (exiK (y:=y) hs (fun h'=>by unfold rowLen at h;rw [h'] at h;cases h))
     have hlook:∀ j,look .dead (Dr.onL (L++Dr.news (nxOf nx0 b0 st) (nxOf nx0 b0 st+ce.so.ex)) (look .dead ((exi ce.si ce.so ce.nb (.var y:E D (itmsTy ce.so.items))).enc (tauE ce.nb (mM m mp) (nxOf nx0 b0 st)) (nxOf nx0 b0 st+ce.so.ex)).heap) (st.enc m (nxOf nx0 b0 st)).heap) j =
       bif orQ (pE ce.si (mM m mp)) (nxOf nx0 b0 st) (nxOf nx0 b0 st+ce.so.ex) j then look .dead ((exi ce.si ce.so ce.nb (.var y:E D (itmsTy ce.so.items))).enc (tauE ce.nb (mM m mp) (nxOf nx0 b0 st)) (nxOf nx0 b0 st+ce.so.ex)).heap j else look .dead (st.enc m (nxOf nx0 b0 st)).heap j:=by
      intro j;by_cases hj:j ∈ L++Dr.news (nxOf nx0 b0 st) (nxOf nx0 b0 st+ce.so.ex)
      ·rw [Dr.onL_in hj]
       have:orQ (pE ce.si (mM m mp)) (nxOf nx0 b0 st) (nxOf nx0 b0 st+ce.so.ex) j=true:=by
        rw [orQ_iff];rcases List.mem_append.1 hj with h' | h'
        ·left;rw [←hLp];exact hasN_of h'
        ·exact .inr (Dr.news_mem.1 h')
       rw [this];rfl
      ·rw [Dr.onL_out hj]
       have:orQ (pE ce.si (mM m mp)) (nxOf nx0 b0 st) (nxOf nx0 b0 st+ce.so.ex) j=false:=by
        rw [Bool.eq_false_iff];intro h';refine hj (List.mem_append.2 ?_);rcases orQ_iff.1 h' with h' | h'
        ·left;rw [←hLp] at h';exact hasN_mem h'
        ·exact .inr (Dr.news_mem.2 h')
       rw [this];rfl
     have hκn:∀ b,¬ b<ce.nb→kapE ce.nb mp st.nx b=st.nx+(b-ce.nb):=fun b h=>by
      unfold kapE;rw [show Nat.blt b ce.nb=false by rw [←Bool.not_eq_true];simpa using h];rfl
     have hκo:∀ b,b<ce.nb→kapE ce.nb mp st.nx b=mpI mp b:=fun b h=>by
      unfold kapE;rw [show Nat.blt b ce.nb=true by simpa using h];rfl
     have hnew:∀ j,m (st.nx+j)=nxOf nx0 b0 st+j:=fun j=>by
      have:=hI.ge;rw [hL.new _ (by omega)];unfold nxOf;omega
     have hR:=effCore hnA (Fs:=F) (m2:=m) hs hI.mok hI.fr hE hlt b4 (fun id=>pE_iff) hτ hτf (Nat.le_add_right _ _) (fun j hj=>by
       rcases heap_cases hτ j with h' | ⟨b,hb,rfl⟩ | ⟨h1,_,_⟩
       ·exact absurd h' hj
       rotate_left
       ·rw [noA_isA (hXn 0)] at h1;cases h1
       ·have:=hexk b (exiK hs hb);rw [hq] at this
        exact this) hlook (fun b hb=>by
       unfold tauE;split
       ·rename_i c;rw [hκo b c]
       ·rename_i c;rw [hκn b c,hnew]) (fun _ _=>rfl)
     have hnx':nxOf nx0 b0 (outE ce.si ce.so ce.nb mp st (.var y:E D (itmsTy ce.so.items)))=nxOf nx0 b0 st+ce.so.ex:=by
      have:=hI.ge;show nx0+(st.nx+ce.so.ex-b0)=nx0+(st.nx-b0)+ce.so.ex;omega
     have hRI:RI F m nx0 b0 st0 (outE ce.si ce.so ce.nb mp st (.var y:E D (itmsTy ce.so.items))):=by
      refine ⟨by rw [hnx'];exact hR.mok,by show b0≤st.nx+ce.so.ex;have:=hI.ge;omega,hR.fr,hI.fix.trans ⟨rfl,rfl,rfl⟩,fun j hj=>?_,fun j hj=>hI.arn j (outE_isA hs hj)⟩;by_cases hge:b0≤j
      ·exact .inl hge
      ·refine hI.good j fun hdead=>?_
       have hj2:=hR.mok.live hj;by_cases hk:∃ b ∈ itemB ce.so.items,kapE ce.nb mp st.nx b=j
       ·obtain ⟨b,hb,rfl⟩:=hk;have:=hI.ge;by_cases c:b<ce.nb
        ·rw [hκo b c] at hdead;exact (hE.live b (hs.old b hb c).1).2 hdead
        ·rw [hκn b c] at hge;omega
       ·refine hj ?_;show look (look .dead st.hk j) (renHE ce.si ce.so ce.nb mp st (injH ce.so.items (.var y))++st.heap) j=.dead;rw [look_append,look_none (l:=renHE ce.si ce.so ce.nb mp st (injH ce.so.items (.var y))) (fun hm=>?_)]
        ·exact hdead
        ·obtain ⟨p,hp,h2⟩:=List.mem_map.1 hm;obtain ⟨p',hp',rfl⟩:=List.mem_map.1 hp;refine hk ⟨p'.1,?_,h2⟩;rw [←keyB ce.so.items (.var y:E D (itmsTy ce.so.items))];exact List.mem_map.2 ⟨p',hp',rfl⟩
     have hcr:∀ p ∈ (List.range ce.so.ex).map (fun j=>(i,st.nx+j))++cr,b0≤p.2:=fun p hp=>by
      rcases List.mem_append.1 hp with hp | hp
      ·obtain ⟨j,_,rfl⟩:=List.mem_map.1 hp;have:=hI.ge;show b0≤st.nx+j;omega
      ·exact hc p hp
     have ecr:mapP m ((List.range ce.so.ex).map (fun j=>(i,st.nx+j))++cr)=(Dr.news (nxOf nx0 b0 st) (nxOf nx0 b0 st+ce.so.ex)).map (fun id=>(i,id))++mapP m cr:=by
      unfold mapP Dr.news;rw [List.map_append,Nat.add_sub_cancel_left];congr 1;rw [List.map_map,List.range'_eq_map_range,List.map_map];refine List.map_congr_left fun j _=>?_
      show (i,m (st.nx+j))=(i,nxOf nx0 b0 st+j);rw [hnew]
     have hnext:=k _ _ (hRI.put o.dst _) hcr h
     have hst:Dr.AG P n ops T (mapP m ws) nx0 Kt (i+1) ((Dr.news (nxOf nx0 b0 st) (nxOf nx0 b0 st+ce.so.ex)).map (fun id=>(i,id))++mapP m cr) l
       ((⟨(st.enc m (nxOf nx0 b0 st)).regs,Dr.onL (L++Dr.news (nxOf nx0 b0 st) (nxOf nx0 b0 st+ce.so.ex)) (look .dead ((exi ce.si ce.so ce.nb (.var y:E D (itmsTy ce.so.items))).enc (tauE ce.nb (mM m mp) (nxOf nx0 b0 st)) (nxOf nx0 b0 st+ce.so.ex)).heap) (st.enc m (nxOf nx0 b0 st)).heap,nxOf nx0 b0 st+ce.so.ex⟩:ASt).put o.dst
        ((look SV.any (statR ce.so.stat++injR ce.so.items (.var y:E D (itmsTy ce.so.items))) 0).enc (tauE ce.nb (mM m mp) (nxOf nx0 b0 st)) (exi ce.si ce.so ce.nb (.var y:E D (itmsTy ce.so.items))).blk)):=by
      rw [←ecr];refine .le ?_ hnext
      have e2:nxOf nx0 b0 ((outE ce.si ce.so ce.nb mp st (.var y:E D (itmsTy ce.so.items))).put o.dst (resE ce.si ce.so ce.nb mp st (.var y)))=nxOf nx0 b0 st+ce.so.ex:=by
       rw [←hnx']
       cases o.dst <;> rfl
      rw [e2,put_enc];exact hR.les.put hR.res
     have hvis:∀ b ∈ itemB ce.si.items,Dr.visW T (mapP m ws) nx0 i (mapP m cr) (mM m mp b)=true:=fun b hb=>by
      have h1:=List.all_eq_true.1 b1 b hb;rw [Bool.and_eq_true] at h1;have hgk:Good b0 st0 (mpI mp b):=hI.good _ (hE.live b hb).2;unfold Dr.visW;show (vis T nx0 i (mapP m cr) (m (mpI mp b))&&Dr.okW T (mapP m ws) i (m (mpI mp b)))=true;rw [vis_m hL hc hgk,okW_m hL hws hgk];exact h1.1
     refine .step (.eff L (nxOf nx0 b0 st+ce.so.ex) _ hg (fun q hqq=>⟨hd,fun K' a w G' r'=>?_⟩) hd (Nat.le_add_right _ _) (fun id g1 g2=>?_) (fun id hid=>?_) (fun id=>⟨fun hid=>?_,fun hid=>?_⟩) (fun id=>?_) ?_) hst
     ·have hkq:nxOf nx0 b0 st≤q:=Nat.le_trans (Nat.le_add_right _ _) hqq;have r2:=r'.les (lclS_les hL hws hc hI.good hI.mok (Nat.le_trans hI.mok.ge.1 hkq) (fun j hj=>by have:=hkb j hj;omega));have hc':((lclS ops T ws b0 i cr st o).enc m q).ev cal=.fn Fn (SV.encL m (lclS ops T ws b0 i cr st o).blk caps):=by rw [enc_ev,hcal,SV.enc]
      have e1:=r2.ev cal;rw [hc'] at e1;obtain ⟨us,e2,hul,hur⟩:=e1.fn'
      have hargs:ArgsV w G' (SV.encL m (lclS ops T ws b0 i cr st o).blk vs) (args.map a.eval++us):=by
       rw [hvs,←evS_append (nx:=q)];refine ⟨by simp [hul],fun i x v hx hv=>?_⟩;by_cases hi:i<args.size
       ·rw [List.getElem?_append_left (by simpa using hi)] at hx;rw [Array.getElem?_append_left (by simpa using hi)] at hv;refine list_ev r2 args.toList i x v hx ?_;rw [List.getElem?_map,Array.getElem?_toList];rw [Array.getElem?_map] at hv;exact hv
       ·rw [List.getElem?_append_right (by simp;omega)] at hx;rw [Array.getElem?_append_right (by simp;omega)] at hv;exact hur _ x v hx (by simpa using hv)
      refine ⟨Fn,args.map a.eval++us,by simp [execOp,hop,resolve,e2,Deferred.ofValue,invoke,run_callFunc' hF],?_⟩;have hcall:=callS_ok hI.mok.ge.1 (kk:=nxOf nx0 b0 st) hceok hdet hs (hEq q hkq) hm0 hqq hy r2.hr r2.nx hargs;refine hcall.mono ?_
      rintro en w' ⟨v,G2,g1,g2,g3,g4⟩
      refine ⟨v,G2,g1,?_,by rw [g3];exact r2.nx.symm,g4⟩;have hfun:orQ (hasN L) (nxOf nx0 b0 st) (nxOf nx0 b0 st+ce.so.ex)=fun id=>pE ce.si (mM m mp) id||newQ (nxOf nx0 b0 st) (nxOf nx0 b0 st+ce.so.ex) id:=funext hq
      show OutS (orQ (hasN L) (nxOf nx0 b0 st) (nxOf nx0 b0 st+ce.so.ex)) (nxOf nx0 b0 st) (nxOf nx0 b0 st+ce.so.ex) _ _ _ _ _ _;rw [hfun];exact g2
     ·have g1:nxOf nx0 b0 st≤id:=g1;have g2:id<nxOf nx0 b0 st+ce.so.ex:=g2;obtain ⟨j,rfl⟩:∃ j,id=nxOf nx0 b0 st+j:=⟨id-nxOf nx0 b0 st,by omega⟩;have hj:=List.all_eq_true.1 b3 j (List.mem_range.2 (by omega));rw [←hnew];unfold Dr.newW mapP at *
      rw [List.all_map];refine List.all_eq_true.2 fun p hp=>?_
      have:=List.all_eq_true.1 hj p hp;show (bif Nat.beq (m p.2) (m (st.nx+j)) then _ else true)=true;rw [beq_m hL (hws p hp) (.inl (by have:=hI.ge;omega))];exact this
     ·obtain ⟨b,hb,rfl⟩:=List.mem_map.1 hid;exact ⟨hm0 b hb,hvis b hb⟩
     ·obtain ⟨p,hp,e1⟩:=List.mem_map.1 hid;have h2:=List.all_eq_true.1 b2 p hp;simp only [Prod.mk.injEq] at e1;rw [e1.1,Nat.beq_refl] at h2;simp only [Bool.not_true,Bool.false_or] at h2;obtain ⟨b,hb,h3⟩:=List.any_eq_true.1 h2;refine List.mem_map.2 ⟨b,hb,?_⟩;rw [←e1.2,Nat.eq_of_beq_eq_true h3]
     ·obtain ⟨b,hb,rfl⟩:=List.mem_map.1 hid;have h1:=List.all_eq_true.1 b1 b hb;rw [Bool.and_eq_true] at h1;obtain ⟨p,hp,h2⟩:=List.any_eq_true.1 h1.2;rw [Bool.and_eq_true] at h2;refine List.mem_map.2 ⟨p,hp,?_⟩;rw [Nat.eq_of_beq_eq_true h2.1,Nat.eq_of_beq_eq_true h2.2]
     ·rcases heap_cases hτ id with h' | ⟨b,hb,rfl⟩ | ⟨h1,_,_⟩
      ·exact .inl h'
      rotate_left
      ·rw [noA_isA (hXn 0)] at h1;cases h1
      ·refine .inr ⟨hexk b (exiK hs hb),?_⟩;rw [enc_blk hτ hb];exact sb_nmd hBX hRX _ (hXn _)
     ·exact enc_nmd (pB:=fun _=>true) (pR:=fun _ _=>true) (fun id _ h=>hBX id h) (fun id v q _ h=>hRX id v q h) _ (sv_refs_all _) (.inl (lookV_noA (fun p hp=>(List.mem_append.1 hp).elim (statR_noA hs.nso p) (injR_noA _ _ hs.nao p)) 0))
   ·cases h
  ·cases h
theorem op_mv {o:Oper} {y:Operand} {s:ASt} {v:AV} (hm:isMv o.op=some y) (hx:s.ev y=v) (hd:dok o.dst n=true):OpR P n o s v:=by
 obtain ⟨d,op,ty,ps,af,gg⟩:=o;have hm:isMv op=some y:=hm;have hd:dok d n=true:=hd;unfold isMv at hm;split at hm
 ·injection hm with hm
  subst hm;exact op_move hx hd
 ·injection hm with hm
  subst hm;exact op_assign hx hd
 ·cases hm
theorem moveR_ok (hL:Lay m nx0 b0 st0) (hc:∀ p ∈ cr,b0≤p.2) (hI:RI F m nx0 b0 st0 st) (hd:dok o.dst n=true)
  (hg:o.guard=none∨gst ops o (Dr.lcl ops T (mapP m ws) nx0 i (mapP m cr) (st.enc m (nxOf nx0 b0 st)) o 0)=some true) {y:Operand} (hm:isMv o.op=some y)
  {K:List (Nat×Nat)→SSt D→G D (KD ρ) ρ} (h:(moveR T ws b0 i cr st o y K).den fu=some r)
  (k:∀ cr' st',RI F m nx0 b0 st0 st'→(∀ p ∈ cr',b0≤p.2)→(K cr' st').den fu=some r→AGm P n ops T ws nx0 b0 m Kt (i+1) cr' l st'):AGm P n ops T ws nx0 b0 m Kt i cr (o::l) st:=by
 unfold moveR at h
 cases hb:(Dr.noW ws i&&(st.ev y).refs (visV T b0 i cr) (fun k _=>visV T b0 i cr k)) with
 | false=>rw [hb] at h;cases h
 | true =>
  rw [hb] at h;rw [Bool.and_eq_true] at hb;simp only [cond_true] at h
  have hy:y ∈ o.op.operands.toList:=by
   unfold isMv at hm;split at hm
   ·rename_i e;injection hm with hm;subst hm;rw [e];simp [Op.operands]
   ·rename_i e;injection hm with hm;subst hm;rw [e];simp [Op.operands]
   ·cases hm
  have hop:∀ k,nx0≤k→OpR P n o (Dr.lcl ops T (mapP m ws) nx0 i (mapP m cr) (st.enc m (nxOf nx0 b0 st)) o k) ((st.ev y).enc m st.blk):=fun k _=>op_mv hm ((lregs_ev hy).trans (enc_ev _ _ _ _)) hd
  have key:∀ id,visV T b0 i cr id=true→st.blk id≠.dead→vis T nx0 i (mapP m cr) (m id)=true:=fun id hv hbl=>by rw [vis_m hL hc (hI.good id hbl)];exact hv
  have hnm:((st.ev y).enc m st.blk).nmd (vis T nx0 i (mapP m cr))=true:=by
   refine enc_nmd (fun id hp hb=>key id hp fun e=>?_) (fun id v n hp hb=>key id hp fun e=>?_) _ hb.2 (.inr fun _ h=>vis_arn hL h)
   ·unfold isBox at hb;rw [e] at hb;cases hb
   ·unfold rowLen at hb;rw [e] at hb;cases hb
  cases hl:lets o.op with
  | true =>
   rw [hl] at h;simp only [cond_true] at h;obtain ⟨z,hz,h⟩:=letV_den h;exact .step (.read (by rw [noW_m];exact hb.1) hg hop hnm) (AGm.put (by rw [hz];exact .refl _) (k cr _ (hI.put _ _) hc h))
  | false =>
   rw [hl] at h;exact .step (.read (by rw [noW_m];exact hb.1) hg hop hnm) (AGm.put (.refl _) (k cr _ (hI.put _ _) hc h))
theorem stepR_ok' (hC:C.ok P) (hL:Lay m nx0 b0 st0) (hws:∀ p ∈ ws,Good b0 st0 p.2) (hc:∀ p ∈ cr,b0≤p.2) (hI:RI F m nx0 b0 st0 st) (hd:dok o.dst n=true)
  (hg:o.guard=none∨gst ops o (Dr.lcl ops T (mapP m ws) nx0 i (mapP m cr) (st.enc m (nxOf nx0 b0 st)) o 0)=some true)
  {K:List (Nat×Nat)→SSt D→G D (KD ρ) ρ} (h:(stepR' C T ws b0 i cr (lclS ops T ws b0 i cr st o) st o K).den fu=some r)
  (k:∀ cr' st',RI F m nx0 b0 st0 st'→(∀ p ∈ cr',b0≤p.2)→(K cr' st').den fu=some r→AGm P n ops T ws nx0 b0 m Kt (i+1) cr' l st'):AGm P n ops T ws nx0 b0 m Kt i cr (o::l) st:=by
 unfold stepR' at h;split at h
 ·rename_i y hy;exact moveR_ok hL hc hI hd hg hy h k
 split at h
 ·rename_i x g hx
  cases hb:(Dr.noW ws i&&x.refs (visS T ws b0 i cr) (fun k _=>visS T ws b0 i cr k)) with
  | false=>rw [hb] at h;cases h
  | true =>
   rw [hb] at h;rw [Bool.and_eq_true] at hb;simp only [cond_true] at h;obtain ⟨hgd,h⟩:=grdG_den h
   have hop:∀ k,nx0≤k→OpR P n o (Dr.lcl ops T (mapP m ws) nx0 i (mapP m cr) (st.enc m (nxOf nx0 b0 st)) o k) (x.enc m (lclS ops T ws b0 i cr st o).blk):=fun k hkA=>⟨hd,fun K a w G r=>by
    have hk:=lt_of_rel hL hws hc hI.good hI.arn hI.mok hkA r;have hm:=lclS_mok (ops:=ops) (T:=T) (ws:=ws) (b0:=b0) (i:=i) (cr:=cr) (o:=o) hI.mok (Nat.le_trans hL.ge.1 hkA) hk
    exact (OpR.le (lclS_les hL hws hc hI.good hI.mok (Nat.le_trans hL.ge.1 hkA) hk) (rd_ok (n:=n) hC.T hm hx hgd hd)).out K a w G r⟩
   have hnm:=nmdS (ops:=ops) (o:=o) hL hc hI hb.2;have hles:Les (x.enc m st.blk) (x.enc m (lclS ops T ws b0 i cr st o).blk):=enc_les lclS_memS x hb.2
   cases hl:lets o.op with
   | true =>
    rw [hl] at h;simp only [cond_true] at h;obtain ⟨y,hy,h⟩:=letV_den h;exact .step (.read (by rw [noW_m];exact hb.1) hg hop hnm) (AGm.put (by rw [hy];exact hles) (k cr _ (hI.put _ _) hc h))
   | false =>
    rw [hl] at h;exact .step (.read (by rw [noW_m];exact hb.1) hg hop hnm) (AGm.put hles (k cr _ (hI.put _ _) hc h))
 ·cases hnw:(isNew o.op&&Dr.noW ws i) with
  | true =>
   rw [hnw] at h;rw [Bool.and_eq_true] at hnw;exact newR_ok hC hL hws hc hI hd hnw.1 hg h k
  | false =>
  rw [hnw] at h;simp only [cond_false] at h;split at h
  ·rename_i ce vs hef;exact effD_ok hC hL hws hc hI hd hg hef h k
  rename_i hnone;clear hnone
  cases hb:Dr.noW ws i with
  | false =>
   rw [hb] at h;exact writeR_ok hC hL hws hc hI hd hg h k
  | true =>
   rw [hb] at h;simp only [cond_true] at h;obtain ⟨d,op,ty,ps,af,gg⟩:=o;have hd:dok d n=true:=hd;simp only at h;unfold callR at h;split at h
   ·rename_i cal args ats _ _;split at h
    ·rename_i Fn caps hcal;split at h
     ·rename_i hF;have hcal':=allP_at hC.cas hF;split at h
      ·rename_i c hctr;split at h
       ·rename_i e hargs;rw [G.den] at h;unfold bindO at h;split at h
        ·rename_i y hy;have hAF:=allP_at hC.ctrs hctr fu e.den y hy
         have hop:∀ k,nx0≤k→OpF P n ⟨d,.call ⟨.value cal,args,ats⟩,ty,ps,af,gg⟩ (Dr.lcl ops T (mapP m ws) nx0 i (mapP m cr) (st.enc m (nxOf nx0 b0 st)) ⟨d,.call ⟨.value cal,args,ats⟩,ty,ps,af,gg⟩ k) (oneOf (c.r.avs true y)):=fun k hkA=>⟨hd,fun K a w G r=>by
          have hk:=lt_of_rel hL hws hc hI.good hI.arn hI.mok hkA r;have hm:=lclS_mok (ops:=ops) (T:=T) (ws:=ws) (b0:=b0) (i:=i) (cr:=cr) (o:=⟨d,.call ⟨.value cal,args,ats⟩,ty,ps,af,gg⟩) hI.mok (Nat.le_trans hL.ge.1 hkA) hk;have hc':((lclS ops T ws b0 i cr st ⟨d,.call ⟨.value cal,args,ats⟩,ty,ps,af,gg⟩).enc m k).ev cal=.fn Fn (SV.encL m (lclS ops T ws b0 i cr st ⟨d,.call ⟨.value cal,args,ats⟩,ty,ps,af,gg⟩).blk caps):=by rw [enc_ev,hcal,SV.enc]
          exact (OpF.le (lclS_les hL hws hc hI.good hI.mok (Nat.le_trans hL.ge.1 hkA) hk) (OpF.of hc' (evS_append _ args.toList caps) hcal' hd hAF (exArgs_ok hm _ _ _ hargs))).out K a w G r⟩
         refine .step (.call (by rw [noW_m];exact hb) hg hop ?_) (AGm.put ?_ (k cr _ (hI.put _ _) hc h))
         ·have e1:(oneOfS (svsE true c.r (.var y:E D c.r))).enc m (fun _=>SB.dead)=oneOf (c.r.avs true y):=by rw [oneOfS_enc,svsE_enc];rfl
          rw [←e1];exact enc_nmd (pB:=fun _=>false) (pR:=fun _ _=>false) (fun id h=>by cases h) (fun id v n h=>by cases h) _ (one_nmd (datas_nmd c.r _)) (.inr fun _ h=>vis_arn hL h)
         ·rw [oneOfS_enc,svsE_enc];exact .refl _
        ·cases h
       ·cases h
      ·cases h
     ·cases h
    ·cases h
   ·cases h
theorem sR_ok (hC:C.ok P) (hL:Lay m nx0 b0 st0) (hws:∀ p ∈ ws,Good b0 st0 p.2) {K:SSt D→G D (KD ρ) ρ} (hK:∀ st',RI F m nx0 b0 st0 st'→(K st').den fu=some r→Kt (st'.enc m (nxOf nx0 b0 st'))):∀ (l:List Oper) (i:Nat) (cr:List (Nat×Nat)) (st:SSt D),(sR C n ops T ws b0 K i cr l st).den fu=some r→RI F m nx0 b0 st0 st→(∀ p ∈ cr,b0≤p.2) →
  AGm P n ops T ws nx0 b0 m Kt i cr l st
 | [],i,cr,st,h,hI,hc=>.nil (hK st hI h)
 | o::l,i,cr,st,h,hI,hc=>by
  rw [sR] at h
  cases hd:dok o.dst n with
  | false=>rw [hd] at h;cases h
  | true =>
   rw [hd] at h;simp only [cond_true] at h
   have ihr:∀ cr' st',RI F m nx0 b0 st0 st'→(∀ p ∈ cr',b0≤p.2)→(sR C n ops T ws b0 K (i+1) cr' l st').den fu=some r→AGm P n ops T ws nx0 b0 m Kt (i+1) cr' l st' :=
    fun cr' st' h1 h2 h3=>sR_ok hC hL hws hK l (i+1) cr' st' h3 h1 h2
   have sk:∀ st1,RI F m nx0 b0 st0 st1→gst ops o (Dr.lcl ops T (mapP m ws) nx0 i (mapP m cr) (st1.enc m (nxOf nx0 b0 st1)) o 0)=some false→(bif Dr.noW ws i then sR C n ops T ws b0 K (i+1) cr l (st1.put o.dst .und) else .fail).den fu=some r→AGm P n ops T ws nx0 b0 m Kt i cr (o::l) st1:=by
    intro st1 hI hg h
    cases hb:Dr.noW ws i with
    | false=>rw [hb] at h;cases h
    | true =>
     rw [hb] at h;exact skipR_ok hd hb hg (ihr cr _ (hI.put _ _) hc h)
   split at h
   ·rename_i hw;exact stepR_ok' hC hL hws hc hI hd (gst_yesS hw) h ihr
   ·rename_i hw;exact sk st hI (gst_noS hw) h
   ·rename_i c d want hw;obtain ⟨hg,hx⟩:=wantS_ask hw;rw [G.den] at h
    have know:∀ b,c.den=b→AGm P n ops T ws nx0 b0 m Kt i cr (o::l) (st.put (some d) (.bool (.bL b)))→AGm P n ops T ws nx0 b0 m Kt i cr (o::l) st:=by
     intro b hb k;refine .le ?_ k;have e:nxOf nx0 b0 (st.put (some d) (.bool (.bL b)))=nxOf nx0 b0 st:=rfl;rw [e,put_enc];refine ⟨fun k=>?_,fun k=>.refl _,rfl⟩;show Les (look .any ((d,SV.enc m st.blk (.bool (.bL b)))::(st.enc m (nxOf nx0 b0 st)).regs) k) _;rw [look_cons];split
     ·rename_i e;subst e;rw [enc_get,hx,SV.enc,SV.enc];exact .of (congrArg AV.bool hb.symm)
     ·exact .refl _
    cases hcd:(c.den:Bool) with
    | true =>
     rw [hcd] at h;simp only [cond_true] at h;refine know true hcd ?_
     cases want with
     | true=>exact stepR_ok' hC hL hws hc (hI.put _ _) hd (.inr (gst_put hg)) h ihr
     | false=>exact sk _ (hI.put _ _) (gst_put hg) h
    | false =>
     rw [hcd] at h;simp only [cond_false] at h;refine know false hcd ?_
     cases want with
     | true=>exact sk _ (hI.put _ _) (gst_put hg) h
     | false=>exact stepR_ok' hC hL hws hc (hI.put _ _) hd (.inr (gst_put hg)) h ihr
   ·cases h
theorem dr_pre {st:SSt D} {s:ASt} (hs:StL F st s):∃ m nx0,RLe s (st.enc m nx0)∧Lay m nx0 st.nx st∧RI F m nx0 st.nx st st∧nxOf nx0 st.nx st=nx0:=by
 obtain ⟨m0,nx0,hm,hr,hf⟩:=hs
 let m:Nat→Nat:=fun k=>if k<st.nx then m0 k else nx0+(k-st.nx)
 have hlv:∀ k,st.blk k≠.dead→k<st.nx:=fun k hk=>hm.live hk
 have hmk:∀ k,k<st.nx→m k=m0 k:=fun k hk=>if_pos hk
 have hmn:∀ k,st.nx≤k→m k=nx0+(k-st.nx):=fun k hk=>if_neg (by omega)
 have hmem:MemLe m0 st.blk m st.blk (fun _=>true) (fun _ _=>true):=by
  refine ⟨fun id _=>?_,fun id v _=>?_⟩
  ·by_cases e:st.blk id=.dead
   ·left;unfold isBox;rw [e]
   ·exact .inr ⟨rfl,hmk id (hlv id e)⟩
  ·by_cases e:st.blk id=.dead
   ·left;unfold rowLen;rw [e]
   ·exact .inr ⟨rfl,hmk id (hlv id e)⟩
 have hall:=refs_all st;unfold SSt.refs at hall;simp only [Bool.and_eq_true] at hall;obtain ⟨r1,r2,r3,r4,r5⟩:=hall;have hmok:MOk m nx0 st:=⟨fun k hk=>by rw [hmk k (hlv k hk)];exact hm.lt k hk,fun k k' hk hk' e=>by rw [hmk k (hlv k hk),hmk k' (hlv k' hk')] at e;exact hm.inj k k' hk hk' e,hm.keys,fun h=>by rw [hmk 0 (hlv 0 fun e=>by rw [e] at h;cases h)];exact hm.ar' h,hm.ge.1,fun k hk=>by rw [hmk k (hlv k hk)];exact hm.ge.2 k hk⟩
 have hles:LeS (st.enc m nx0) (st.enc m0 nx0):=by
  refine ⟨fun d=>?_,fun k=>?_,rfl⟩
  ·exact encR_les hmem (st.regs++st.kp) (by rw [refsR_append,r1,r2];rfl) d
  ·have hrw:(st.blk 0).rows (m 0)=(st.blk 0).rows (m0 0):=by
    cases hA:(st.blk 0).isA with
    | true=>rw [hmk 0 (hlv 0 fun e=>by rw [e] at hA;cases hA)]
    | false=>rw [isA_rows hA,isA_rows hA]
   show LesB (look .dead (encH m st.blk (st.heap++st.hk)++(st.blk 0).rows (m 0)) k) (look .dead (encH m0 st.blk (st.heap++st.hk)++(st.blk 0).rows (m0 0)) k);rw [hrw,look_append,look_append];exact encH_lesD hmem _ _ (by rw [refsH_append,r3,r4];rfl) (fun p hp=>hmk p.1 (hm.keys p hp).1) k
 have hL:Lay m nx0 st.nx st:=⟨hmn,fun k hk hb=>by rw [hmk k hk];exact hm.lt k hb,fun k k' h1 h2 e=>hmok.inj k k' h1 h2 e,hlv,hmok.ge⟩;have hnx:nxOf nx0 st.nx st=nx0:=by unfold nxOf;omega
 have hI:RI F m nx0 st.nx st st:=⟨by rw [hnx];exact hmok,Nat.le_refl _,hf.les' hmem r5,.refl st,fun k hk=>.inr hk,fun _ h=>h⟩;exact ⟨m,nx0,hr.trans hles.rle,hL,hI,hnx⟩
theorem ws_good {st:SSt D} {ws:List (Nat×Nat)} (hb:(ws.all fun p=>isLive (st.blk p.2)||Nat.ble st.nx p.2)=true):∀ p ∈ ws,Good st.nx st p.2:=by
 intro p hp;have:=List.all_eq_true.1 hb p hp;rw [Bool.or_eq_true] at this;rcases this with h | h
 ·right
  intro e;rw [e] at h;cases h
 ·exact .inl (Nat.le_of_ble_eq_true h)
theorem anyS_fix (l:List Oper):∀ (J:List Nat) (st:SSt D),Fix st (anyS l J st)∧(anyS l J st).blk=st.blk
 | [],st=>⟨.refl st,rfl⟩
 | j::J,st=>by
  rw [anyS];split
  ·rename_i o _;obtain ⟨h1,h2⟩:=anyS_fix l J (st.put o.dst .any);exact ⟨(put_fix st o.dst .any).trans h1,h2.trans (put_blk st o.dst .any)⟩
  ·exact anyS_fix l J st
theorem any_les (s:ASt) (d:Option Nat):LeS (s.put d .any) s:=by
 cases d with
 | none=>exact .refl s
 | some d =>
  refine ⟨fun k=>?_,fun k=>.refl _,rfl⟩;show Les (look .any ((d,AV.any)::s.regs) k) _;rw [look_cons];split
  ·exact .any _
  ·exact .refl _
theorem anyS_les (l:List Oper) (m:Nat→Nat) (nx:Nat):∀ (J:List Nat) (st:SSt D),LeS ((anyS l J st).enc m nx) (st.enc m nx)
 | [],st=>.refl _
 | j::J,st=>by
  rw [anyS];split
  ·refine (anyS_les l m nx J _).trans ?_;rw [put_enc,SV.enc];exact any_les _ _
  ·exact anyS_les l m nx J st
theorem anyS_mok {m:Nat→Nat} {nx:Nat} (l:List Oper):∀ (J:List Nat) (st:SSt D),MOk m nx st→MOk m nx (anyS l J st)
 | [],st,h=>h
 | j::J,st,h=>by
  rw [anyS];split
  ·exact anyS_mok l J _ (put_mok h _ _)
  ·exact anyS_mok l J st h
theorem anyS_keep (l:List Oper) (t:Nat):∀ (J:List Nat) (st:SSt D),st.get t=.any→(anyS l J st).get t=.any
 | [],st,h=>h
 | j::J,st,h=>by
  rw [anyS];split
  ·rename_i o _;refine anyS_keep l t J _ ?_
   cases hd:o.dst with
   | none=>exact h
   | some d =>
    show look (look .any st.kp t) ((d,SV.any)::st.regs) t=.any;rw [look_cons];split
    ·rfl
    ·exact h
  ·exact anyS_keep l t J st h
theorem anyS_get (l:List Oper) (t:Nat):∀ (J:List Nat) (st:SSt D),(∃ j o,j ∈ J∧l[j]?=some o∧o.dst=some t)→(anyS l J st).get t=.any
 | [],st,⟨j,o,h,_⟩=>by cases h
 | i::J,st,⟨j,o,h,ho,ht⟩=>by
  rw [anyS];rcases List.mem_cons.1 h with rfl | h
  ·rw [ho];refine anyS_keep l t J _ ?_;rw [ht];show look (look .any st.kp t) ((t,SV.any)::st.regs) t=.any;rw [look_self]
  ·split
   ·exact anyS_get l t J _ ⟨j,o,h,ho,ht⟩
   ·exact anyS_get l t J _ ⟨j,o,h,ho,ht⟩
theorem anyS_stl (l:List Oper) (J:List Nat) {st:SSt D} {s:ASt} (hs:StL F st s):StL F (anyS l J st) s:=by
 obtain ⟨m,nx,hm,hr,hf⟩:=hs;obtain ⟨h1,h2⟩:=anyS_fix l J st;exact ⟨m,nx,anyS_mok l J st hm,hr.trans (anyS_les l m nx J st).rle,by rw [h2,h1.fr];exact hf⟩
theorem syP_ok (hC:C.ok P) {m:Nat→Nat} {nx:Nat} {l:List Oper} {k:G D (KD ρ) ρ}:∀ (J:List Nat) (st:SSt D),MOk m nx st→(syP C n l J st k).den fu=some r→Dr.SyRun P n l (fun _=>True) J (st.enc m nx)∧k.den fu=some r
 | [],st,_,h=>⟨trivial,h⟩
 | j::J,st,hm,h=>by
  rw [syP] at h;split at h
  ·rename_i o ho
   cases hd:dok o.dst n with
   | false=>rw [hd] at h;cases h
   | true =>
    rw [hd] at h;simp only [cond_true] at h;split at h
    ·rename_i x g hrd;obtain ⟨hg,h⟩:=grdG_den h;obtain ⟨g1,g2⟩:=syP_ok hC J (st.put o.dst x) (put_mok hm _ _) h;rw [put_enc] at g1;exact ⟨⟨o,_,ho,rd_ok hC.T hm hrd hg hd,g1⟩,g2⟩
    ·cases h
  ·cases h
theorem syG_ok (hC:C.ok P) {m:Nat→Nat} {nx:Nat} {st0:SSt D} {l:List Oper} {KA:ASt→Prop} {K:SSt D→G D (KD ρ) ρ} (hK:∀ st',MOk m nx st'→FrOk m st'.blk st'.fr F→Fix st0 st'→(K st').den fu=some r→KA (st'.enc m nx)):∀ (J:List Nat) (st:SSt D),(syG C n l J st K).den fu=some r→MOk m nx st→FrOk m st.blk st.fr F→Fix st0 st→Dr.SyRun P n l KA J (st.enc m nx)
 | [],st,h,hm,hf,hx=>hK st hm hf hx h
 | j::J,st,h,hm,hf,hx=>by
  rw [syG] at h;split at h
  ·rename_i o ho
   cases hd:dok o.dst n with
   | false=>rw [hd] at h;cases h
   | true =>
    rw [hd] at h;simp only [cond_true] at h;split at h
    ·rename_i x g hrd;obtain ⟨hg,h⟩:=grdG_den h;obtain ⟨y,hy,h⟩:=letV_den h;have hp:=put_fix st o.dst y;have:=syG_ok hC hK J (st.put o.dst y) h (put_mok hm _ _) (by rw [put_blk,hp.fr];exact hf) (hx.trans hp);rw [put_enc,hy] at this;exact ⟨o,_,ho,rd_ok hC.T hm hrd hg hd,this⟩
    ·cases h
  ·cases h
theorem drS_ok (hC:C.ok P) {self:SelfG D (KD ρ) ρ} (hS:SelfOkG P fu self) {an:An} {l:List Oper} {m' k':Nat} {J:List Nat} {st0 st:SSt D} {ws:List (Nat×Nat)} {K:SSt D→G D (KD ρ) ρ} {s:ASt} {id:Nat} (hany:∀ j o t,j ∈ J→l[j]?=some o→o.dst=some t→st.get t=.any) (hfx:Fix st0 st) (h:(drS C self an n l m' k' J st ws K).den fu=some r) (hs:StL F st s):AW P n (.region id l.toArray true) (PostL F st0 fun st'=>(K st').den fu=some r) s:=by
 unfold drS at h;split at h
 rotate_left
 ·cases h
 rename_i A hA
 cases hb:((Dr.planR l (ancs l [])&&(ws.all fun p=>isLive (st.blk p.2)||Nat.ble st.nx p.2)&&Dr.tailSy l (ancs l []) m' k' J)&&((ws.all fun p=>Nat.blt p.1 m')&&Dr.isCall A.op)) with
 | false=>rw [hb] at h;cases h
 | true =>
  rw [hb] at h;simp only [Bool.and_eq_true] at hb;obtain ⟨⟨⟨b1,b2⟩,b3⟩,b4,b5⟩:=hb;simp only [cond_true] at h;obtain ⟨m,nx0,hr,hL,hI,hnx⟩:=dr_pre hs;obtain ⟨hO,h⟩:=syP_ok hC J st hI.mok h;have hsR:=sR_ok (ops:=⟨l⟩) (T:=ancs l []) (ws:=ws) (Kt:=fun s=>AL P n l.toArray (PostL F st0 fun st2=>(syG C n l J (anyS l J st2) fun st3=>sL C self n ⟨l⟩ an k' (l.drop k') st3 K).den fu=some r) [A] s) hC hL (ws_good b2) (fun st' hI' h'=>sL_ok hC hS an _ _ st' _ h' ⟨m,_,hI'.mok,.refl _,hI'.fr⟩ (hfx.trans hI'.fix)) (l.take m') 0 [] st h hI (fun p hp=>by cases hp);unfold AGm at hsR;rw [hnx] at hsR hO;refine AW.rle hr (Dr.AW.drawS (mapP m ws) m' k' J hC.mixed rfl b1 b3 (fun p hp=>?_) hA b5 hO (fun j o t hj ho ht=>?_) (fun e s' hq=>?_) hsR)
  ·obtain ⟨p',hp',rfl⟩:=List.mem_map.1 hp;have:=List.all_eq_true.1 b4 p' hp';simpa using this
  ·rw [enc_get,hany j o t hj ho ht,SV.enc]
  ·obtain ⟨he,st2,hs2,hx2,hd2⟩:=hq;obtain ⟨m2,nx2,hm2,hr2,hf2⟩:=hs2;obtain ⟨g1,g2⟩:=anyS_fix l J st2;refine ⟨he,(anyS l J st2).enc m2 nx2,hr2.trans (anyS_les l m2 nx2 J st2).rle,fun j o t hj ho ht=>?_,?_⟩
   ·rw [enc_get,anyS_get l t J st2 ⟨j,o,hj,ho,ht⟩,SV.enc]
   ·exact syG_ok (st0:=st0) hC (fun st' k1 k2 k3 k4=>sL_ok hC hS an _ _ st' _ k4 ⟨m2,nx2,k1,.refl _,k2⟩ k3) J _ hd2 (anyS_mok l J _ hm2) (by rw [g2,g1.fr];exact hf2) (hx2.trans g1)
theorem drR_ok (hC:C.ok P) {self:SelfG D (KD ρ) ρ} (hS:SelfOkG P fu self):DrawOk (ρ:=ρ) P fu n (drR C self):=by
 intro an l st K r F s id h hs;unfold drR at h;split at h
 ·rename_i m' k' J _;exact drS_ok hC hS (fun j o t hj ho ht=>anyS_get l t J st ⟨j,o,hj,ho,ht⟩) (anyS_fix l J st).1 h (anyS_stl l J hs)
 generalize wsD C 0 (l.take (tailN (ancs l []) l.length)) st=ws at h;unfold drW at h
 cases hb:(Dr.planR l (ancs l [])&&(ws.all fun p=>isLive (st.blk p.2)||Nat.ble st.nx p.2)&&Dr.tailR l (ancs l []) (tailN (ancs l []) l.length)) with
 | false=>rw [hb] at h;cases h
 | true =>
  rw [hb] at h;rw [Bool.and_eq_true,Bool.and_eq_true] at hb;simp only [cond_true] at h;obtain ⟨m,nx0,hr,hL,hI,hnx⟩:=dr_pre hs;have:=sR_ok (ops:=⟨l⟩) (T:=ancs l []) (ws:=ws) (Kt:=fun s=>AL P n l.toArray (PostL F st fun st'=>(K st').den fu=some r) (l.drop (tailN (ancs l []) l.length)) s) hC hL (ws_good hb.1.2) (fun st' hI' h'=>sL_ok hC hS an _ _ st' _ h' ⟨m,_,hI'.mok,.refl _,hI'.fr⟩ hI'.fix) (l.take (tailN (ancs l []) l.length)) 0 [] st h hI (fun p hp=>by cases hp);unfold AGm at this;rw [hnx] at this;exact AW.rle hr (Dr.AW.drawR (mapP m ws) (tailN (ancs l []) l.length) hC.mixed rfl hb.1.1 hb.2 this)
end
end Go.Proofs.Ytljebnobajmjnaa
/- Decompiling: a function that works on its caller's blocks: its residual program is a contract. No program in sight. -/
namespace Go.Proofs.Ytljebnobajmjnaa
open Go Go.RowKit

theorem AC.out {P:Program} {F:FuncId} {xs:List AV} {hp:List (Nat×AB)} {nx:Nat} {post post':AV→List (Nat×AB)→Nat→Prop} (h:AC P F xs hp nx post) (hq:∀ y hp' nx',post y hp' nx'→∃ s:ASt,RLe ⟨[(0,y)],hp',nx'⟩ s∧post' (look .any s.regs 0) s.heap s.nx):AC P F xs hp nx post':=fun w0 w G vs h1 h2 h3 =>
 (h w0 w G vs h1 h2 h3).mono fun e w' ⟨v,y,hp',nx',G',e1,e2,e3,e4,e5,e6⟩=>by
  obtain ⟨s,g1,g2⟩:=hq y hp' nx' e2
  have hr:Rel ⟨w0,w,G⟩ 1 ⟨[(0,y)],hp',nx'⟩ {tmps:=#[v],defers:=[] } w':=by
   refine ⟨G',e3,e4,e6,rfl,rfl,fun d=>?_⟩;show RelV w' G' (look .any [(0,y)] d) _;rw [look_cons];split
   ·rename_i h;subst h;exact e5
   ·exact .dat (.any _)
  obtain ⟨G2,r⟩:=g1.ok hr;exact ⟨v,_,_,_,G2,e1,g2,r.nx,r.hr,r.regs 0,r.ext⟩
section
variable {V W:Ty→Type}
def retS (si:Sig) (y:SV V) (st':SSt V):SSt V:=⟨[(0,y)],[],st'.heap,st'.hk,[refsI si.items],st'.nx⟩
def topE (C:DC) (so:Sig) (dr:DrawG V W (itmsTy so.items)) (f:Nat) (an:An) (F:FuncId) (si:Sig) (nb na:Nat) (x:E V (itmsTy si.items)):G V W (itmsTy so.items) :=
 bif sigOk si so nb then sF C dr f an F (argsI si na x) (ent si nb x) (fun y st'=>match arr (baseE si nb) so (mapOf (matF so (retS si y st')) so) (matF so (retS si y st')) with
  | some e=>.ret e
  | none=>.fail) else .fail
end
def lenB (si so:Sig) (nb:Nat) (x:(itmsTy si.items).den) (y:(itmsTy so.items).den):Bool:=(itemB so.items).all fun b=>!(Nat.blt b nb&&((itemK so.items b==some false)&&Nat.beq (verI so.items b) (verI si.items b))) ||
 (rowLen (exi si so nb (.var y:E D (itmsTy so.items))).blk b (verI so.items b)==rowLen (ent si nb (.var x:E D (itmsTy si.items))).blk b (verI si.items b))
theorem lenB_ok {si so:Sig} {nb:Nat} {x:(itmsTy si.items).den} {y:(itmsTy so.items).den} (h:lenB si so nb x y=true):LenOk si so nb x y:=by
 intro b hb hbn hk hv;have:=List.all_eq_true.1 h b hb;rw [show Nat.blt b nb=true by simpa using hbn,hk,hv,Nat.beq_refl] at this;simpa [hv] using this
def chkE (si so:Sig) (nb:Nat) (g:Nat→(itmsTy si.items).den→Option (itmsTy so.items).den) (fu:Nat) (x:(itmsTy si.items).den):Option (itmsTy so.items).den:=match g fu x with
 | some y=>bif lenB si so nb x y then some y else none
 | none=>none
theorem chkE_some {si so:Sig} {nb:Nat} {g:Nat→(itmsTy si.items).den→Option (itmsTy so.items).den} {fu:Nat} {x:(itmsTy si.items).den} {y:(itmsTy so.items).den} (h:chkE si so nb g fu x=some y):g fu x=some y∧LenOk si so nb x y:=by
 unfold chkE at h;split at h
 ·rename_i y' hy
  cases hb:lenB si so nb x y' with
  | false=>rw [hb] at h;cases h
  | true =>
   rw [hb] at h;injection h with h
   subst h;exact ⟨hy,lenB_ok hb⟩
 ·cases h
theorem topE_ok {P:Program} {C:DC} {so si:Sig} {dr:DrawG D (KD (itmsTy so.items)) (itmsTy so.items)} {fu f nb na:Nat} {an:An} {Fn:FuncId} {x:(itmsTy si.items).den} {y:(itmsTy so.items).den} (hC:C.ok P) (hD:∀ self n,SelfOkG (ρ:=itmsTy so.items) P fu self→DrawOk P fu n (dr self))
  (h:(topE C so dr f an Fn si nb na (.var x)).den fu=some y) {m:Nat→Nat} {nx:Nat} (hm:MOk m nx (ent si nb (.var x:E D (itmsTy si.items)))) :
  AC P Fn (SV.encL m (ent si nb (.var x:E D (itmsTy si.items))).blk (argsI si na (.var x))) ((ent si nb (.var x:E D (itmsTy si.items))).enc m nx).heap nx
  (fun v hp' nx'=>∃ m2,MOk m2 nx' (exi si so nb (.var y:E D (itmsTy so.items)))∧hp'=((exi si so nb (.var y:E D (itmsTy so.items))).enc m2 nx').heap ∧
   v=(look SV.any (statR so.stat++injR so.items (.var y:E D (itmsTy so.items))) 0).enc m2 (exi si so nb (.var y:E D (itmsTy so.items))).blk ∧
   FrOk m2 (exi si so nb (.var y:E D (itmsTy so.items))).blk [refsI si.items] [fun d=>look .any ((ent si nb (.var x:E D (itmsTy si.items))).enc m nx).regs d]):=by
 unfold topE at h
 cases hs:sigOk si so nb with
 | false=>rw [hs] at h;cases h
 | true =>
  rw [hs] at h;simp only [cond_true] at h;have hS:=sigOk_at hs;refine (sF_ok hC hD f an Fn _ _ _ y [] m nx h hm ⟨rfl,fun i l g h=>by simp [ent] at h⟩).out ?_
  rintro v hp' nx' ⟨y',st',m',g1,g2,g3,g4,g5,g6,g7⟩
  subst g4;subst g6
  split at g7
  ·rename_i e he;rw [G.den] at g7;injection g7 with g7
   have hhk:st'.hk=[]:=g2.hk;have hblk:(retS si y' st').blk=st'.blk:=rfl
   have hst:StL [fun d=>look .any ((ent si nb (.var x:E D (itmsTy si.items))).enc m nx).regs d] (retS si y' st') ⟨[(0,y'.enc m' st'.blk)],(st'.enc m' nx').heap,nx'⟩:=by
    refine ⟨m',nx',⟨g3.lt,g3.inj,fun p hp=>g3.keys p hp,g3.ar',g3.ge⟩,LeS.rle ⟨fun d=>.refl _,fun k=>.refl _,rfl⟩,?_⟩;have e0:(ent si nb (.var x:E D (itmsTy si.items))).regs++(ent si nb (.var x:E D (itmsTy si.items))).kp=refsI si.items:=List.append_nil _;rw [e0] at g5;exact g5
   have hfix:Fix (lay (baseE si nb) so) (matF so (retS si y' st')):=by
    refine Fix.trans (b:=retS si y' st') ⟨?_,?_,rfl⟩ (matF_fix so (retS si y' st'))
    ·show []=keepR (baseE si nb) so.keep++[];rw [hS.k3];rfl
    ·show st'.hk=keepH (baseE si nb) so.keepB++[];rw [hS.k4,hhk];rfl
   have hcut:=cut_ok (e':=.var y) he g7.symm hfix (matF_ok so (retS si y' st') hst);obtain ⟨m2,nx2,k1,k2,k3⟩:=hcut;refine ⟨_,k2,m2,k1,rfl,?_,k3⟩;have:=enc_get (exi si so nb (.var y:E D (itmsTy so.items))) m2 nx2 0;show look .any ((exi si so nb (.var y:E D (itmsTy so.items))).enc m2 nx2).regs 0=_;rw [this];congr 1;show look (look .any (keepR (baseE si nb) so.keep++[]) 0) (statR so.stat++injR so.items (.var y)) 0=_;rw [hS.k3];rfl
  ·cases g7
end Go.Proofs.Ytljebnobajmjnaa
/- Facts on the types and functions that the symbolic walks ask for (printed by a program). -/
set_option maxRecDepth 1000000
namespace Go.Proofs.Ytljebnobajmjnaa
open Go
def fd (n : String) (t o : Nat) (e : Bool) (p : String) (b : Nat) : Field := { name := n, type := t, offset := o, embedded := e, tag := "", pkgPath := p, byteOffset := b }
def tab:Tab:={
 und:=[(0,.tuple #[]),
  (1,.func #[] #[] false),
  (2,.int .i64),
  (3,.int .i64),
  (4,.bool),
  (5,.int .u8),
  (6,.int .u8),
  (7, .struct #[fd "x" 2 0 false "runtime" 0, fd "y" 3 1 false "runtime" 8, fd "signed" 4 2 false "runtime" 16, fd "code" 6 3 false "runtime" 17]),
  (8, .struct #[fd "x" 2 0 false "runtime" 0, fd "y" 3 1 false "runtime" 8, fd "signed" 4 2 false "runtime" 16, fd "code" 6 3 false "runtime" 17]),
  (9,.string),
  (10,.string),
  (11,.string),
  (12,.int .u64),
  (13, .struct #[fd "msg" 9 0 false "runtime" 0, fd "addr" 12 1 false "runtime" 16]),
  (14, .struct #[fd "msg" 9 0 false "runtime" 0, fd "addr" 12 1 false "runtime" 16]),
  (15,.pointer 124),
  (16,.pointer 127),
  (17,.pointer 136),
  (18, .struct #[fd "typ" 17 0 false "internal/runtime/maps" 0]),
  (19, .struct #[fd "typ" 17 0 false "internal/runtime/maps" 0]),
  (20,.interface #[]),
  (21,.int .i32),
  (22, .struct #[fd "A" 3 0 false "" 0, fd "B" 3 1 false "" 8, fd "Kind" 3 2 false "" 16]),
  (23, .struct #[fd "A" 3 0 false "" 0, fd "B" 3 1 false "" 8, fd "Kind" 3 2 false "" 16]),
  (24, .struct #[fd "L" 3 0 false "" 0, fd "A" 3 1 false "" 8, fd "B" 3 2 false "" 16]),
  (25, .struct #[fd "L" 3 0 false "" 0, fd "A" 3 1 false "" 8, fd "B" 3 2 false "" 16]),
  (26,.array 4 25),
  (27,.func #[] #[4] false),
  (28,.int .i64),
  (29,.tuple #[3,28]),
  (30,.func #[23] #[3,28] false),
  (31, .struct #[fd "W" 3 0 false "" 0, fd "S" 3 1 false "" 8, fd "H" 3 2 false "" 16]),
  (32, .struct #[fd "W" 3 0 false "" 0, fd "S" 3 1 false "" 8, fd "H" 3 2 false "" 16]),
  (33,.tuple #[32,28]),
  (34,.func #[23,23] #[32,28] false),
  (35,.func #[23,3] #[3,28] false),
  (36,.slice 60),
  (37,.tuple #[36,28]),
  (38,.func #[43,44] #[36,28] false),
  (39,.slice 5),
  (40, .struct #[fd "W" 3 0 false "" 0, fd "H" 3 1 false "" 8, fd "Pix" 39 2 false "" 16]),
  (41, .struct #[fd "W" 3 0 false "" 0, fd "H" 3 1 false "" 8, fd "Pix" 39 2 false "" 16]),
  (42,.func #[3,3,5] #[41] false),
  (43,.slice 41),
  (44,.slice 23),
  (45, .struct #[fd "W" 3 0 false "" 0, fd "H" 3 1 false "" 8, fd "Pix" 39 2 false "" 16]),
  (46,.tuple #[45,28]),
  (47,.func #[36,48,51] #[45,28] false),
  (48,.slice 3),
  (49, .struct #[fd "X" 3 0 false "" 0, fd "Y" 3 1 false "" 8]),
  (50, .struct #[fd "X" 3 0 false "" 0, fd "Y" 3 1 false "" 8]),
  (51,.slice 50),
  (52,.tuple #[48,28]),
  (53,.func #[45,3] #[48,28] false),
  (54,.tuple #[25,28]),
  (55,.func #[45,56] #[25,28] false),
  (56,.slice 25),
  (57,.func #[56,48] #[25,28] false),
  (58,.func #[23,23,5,5,26] #[4] false),
  (59, .struct #[fd "W" 3 0 false "" 0, fd "H" 3 1 false "" 8, fd "Data" 39 2 false "" 16]),
  (60, .struct #[fd "W" 3 0 false "" 0, fd "H" 3 1 false "" 8, fd "Data" 39 2 false "" 16]),
  (61,.tuple #[60,28]),
  (62,.func #[41,23] #[60,28] false),
  (63,.func #[60] #[3,28] false),
  (64,.func #[23] #[28] false),
  (65, .struct #[fd "N" 3 0 false "" 0, fd "S" 3 1 false "" 8, fd "G" 3 2 false "" 16]),
  (66, .struct #[fd "N" 3 0 false "" 0, fd "S" 3 1 false "" 8, fd "G" 3 2 false "" 16]),
  (67,.func #[23] #[66] false),
  (68,.tuple #[3,3,3]),
  (69,.func #[3,3] #[3,3,3] false),
  (70,.func #[3,3] #[3] false),
  (71,.func #[36,48,51] #[28] false),
  (72,.func #[73,3] #[60] false),
  (73,.pointer 60),
  (74,.func #[73,3,3] #[4] false),
  (75,.func #[45] #[28] false),
  (76,.func #[25] #[28] false),
  (77,.func #[48] #[28] false),
  (78,.func #[48] #[48] false),
  (79,.func #[80,23] #[28] false),
  (80,.pointer 41),
  (81,.func #[3,3] #[60] false),
  (82,.func #[3,39] #[] false),
  (83,.func #[80,23] #[82] false),
  (84,.func #[60] #[28] false),
  (85,.func #[5] #[3] false),
  (86,.func #[3,3,87] #[60] false),
  (87,.func #[3,3] #[4] false),
  (88,.func #[3] #[3] false),
  (89,.func #[48,3] #[28] false),
  (90,.func #[41] #[28] false),
  (91,.func #[23] #[48] false),
  (92,.array 256 3),
  (93,.func #[73,3,3] #[] false),
  (94,.tuple #[3,3]),
  (95,.func #[23,66,3] #[3,3] false),
  (96,.func #[3] #[3,3] false),
  (97,.func #[23,66] #[48] false),
  (98,.func #[48,70] #[] false),
  (99,.func #[48,3,3,3,70] #[] false),
  (100,.func #[101] #[3] false),
  (101,.int .u64),
  (102,.func #[48,3,3,70] #[] false),
  (103,.int .i64),
  (104,.tuple #[3,103]),
  (105,.func #[48,3,3,70] #[3,103] false),
  (106,.func #[48,3,3,70] #[4] false),
  (107,.func #[48,3,3,3,70] #[3] false),
  (108,.tuple #[3,4]),
  (109,.func #[48,3,3,3,70] #[3,4] false),
  (110,.func #[111] #[3] false),
  (111,.int .u32),
  (112,.func #[113] #[3] false),
  (113,.int .u64),
  (114,.int .u64),
  (115,.func #[3] #[101] false),
  (116,.func #[] #[113] false),
  (117,.func #[48,3,118,70] #[3] false),
  (118,.pointer 3),
  (119,.func #[48,3,3,3,118,70] #[3] false),
  (120,.pointer 114),
  (121,.func #[48,3,3,118,70] #[3,3] false),
  (122,.func #[] #[9] false),
  (123, .struct #[fd "_interface" 17 0 false "runtime" 0, fd "concrete" 17 1 false "runtime" 8, fd "asserted" 17 2 false "runtime" 16, fd "missingMethod" 9 3 false "runtime" 24]),
  (124, .struct #[fd "_interface" 17 0 false "runtime" 0, fd "concrete" 17 1 false "runtime" 8, fd "asserted" 17 2 false "runtime" 16, fd "missingMethod" 9 3 false "runtime" 24]),
  (125,.array 0 16),
  (126, .struct #[fd "_" 125 0 false "runtime" 0]),
  (127, .struct #[fd "_" 125 0 false "runtime" 0]),
  (128,.func #[] #[3] false),
  (129,.int .u8),
  (130,.int .u8),
  (131,.func #[137,137] #[4] false),
  (132,.pointer 5),
  (133,.int .i32),
  (134,.int .i32),
  (135, .struct #[fd "Size_" 12 0 false "" 0, fd "PtrBytes" 12 1 false "" 8, fd "Hash" 111 2 false "" 16, fd "TFlag" 129 3 false "" 20, fd "Align_" 5 4 false "" 21, fd "FieldAlign_" 5 5 false "" 22, fd "Kind_" 130 6 false "" 23, fd "Equal" 131 7 false "" 24, fd "GCData" 132 8 false "" 32, fd "Str" 133 9 false "" 40, fd "PtrToThis" 134 10 false "" 44]),
  (136, .struct #[fd "Size_" 12 0 false "" 0, fd "PtrBytes" 12 1 false "" 8, fd "Hash" 111 2 false "" 16, fd "TFlag" 129 3 false "" 20, fd "Align_" 5 4 false "" 21, fd "FieldAlign_" 5 5 false "" 22, fd "Kind_" 130 6 false "" 23, fd "Equal" 131 7 false "" 24, fd "GCData" 132 8 false "" 32, fd "Str" 133 9 false "" 40, fd "PtrToThis" 134 10 false "" 44]),
  (137,.unsafePointer)],
 inf:=[(1,(some (.nilFunc),1,8)),
  (2,(some (.int .i64 0),1,8)),
  (3,(some (.int .i64 0),1,8)),
  (4,(some (.bool false),1,1)),
  (5,(some (.int .u8 0),1,1)),
  (6,(some (.int .u8 0),1,1)),
  (7,(some (.agg #[.int .i64 0,.int .i64 0,.bool false,.int .u8 0]),4,24)),
  (8,(some (.agg #[.int .i64 0,.int .i64 0,.bool false,.int .u8 0]),4,24)),
  (9,(some (.string ByteArray.empty),1,16)),
  (10,(some (.string ByteArray.empty),1,16)),
  (11,(some (.string ByteArray.empty),1,16)),
  (12,(some (.int .u64 0),1,8)),
  (13,(some (.agg #[.string ByteArray.empty,.int .u64 0]),2,24)),
  (14,(some (.agg #[.string ByteArray.empty,.int .u64 0]),2,24)),
  (15,(some (.pointer none),1,8)),
  (16,(some (.pointer none),1,8)),
  (17,(some (.pointer none),1,8)),
  (18,(some (.agg #[.pointer none]),1,8)),
  (19,(some (.agg #[.pointer none]),1,8)),
  (20,(some (.nilIface),1,16)),
  (21,(some (.int .i32 0),1,4)),
  (22,(some (.agg #[.int .i64 0,.int .i64 0,.int .i64 0]),3,24)),
  (23,(some (.agg #[.int .i64 0,.int .i64 0,.int .i64 0]),3,24)),
  (24,(some (.agg #[.int .i64 0,.int .i64 0,.int .i64 0]),3,24)),
  (25,(some (.agg #[.int .i64 0,.int .i64 0,.int .i64 0]),3,24)),
  (26,(some (.agg #[.int .i64 0,.int .i64 0,.int .i64 0,.int .i64 0,.int .i64 0,.int .i64 0,.int .i64 0,.int .i64 0,.int .i64 0,.int .i64 0,.int .i64 0,.int .i64 0]),12,96)),
  (27,(some (.nilFunc),1,8)),
  (28,(some (.int .i64 0),1,8)),
  (30,(some (.nilFunc),1,8)),
  (31,(some (.agg #[.int .i64 0,.int .i64 0,.int .i64 0]),3,24)),
  (32,(some (.agg #[.int .i64 0,.int .i64 0,.int .i64 0]),3,24)),
  (34,(some (.nilFunc),1,8)),
  (35,(some (.nilFunc),1,8)),
  (36,(some (.slice none 0 0),1,24)),
  (38,(some (.nilFunc),1,8)),
  (39,(some (.slice none 0 0),1,24)),
  (40,(some (.agg #[.int .i64 0,.int .i64 0,.slice none 0 0]),3,40)),
  (41,(some (.agg #[.int .i64 0,.int .i64 0,.slice none 0 0]),3,40)),
  (42,(some (.nilFunc),1,8)),
  (43,(some (.slice none 0 0),1,24)),
  (44,(some (.slice none 0 0),1,24)),
  (45,(some (.agg #[.int .i64 0,.int .i64 0,.slice none 0 0]),3,40)),
  (47,(some (.nilFunc),1,8)),
  (48,(some (.slice none 0 0),1,24)),
  (49,(some (.agg #[.int .i64 0,.int .i64 0]),2,16)),
  (50,(some (.agg #[.int .i64 0,.int .i64 0]),2,16)),
  (51,(some (.slice none 0 0),1,24)),
  (53,(some (.nilFunc),1,8)),
  (55,(some (.nilFunc),1,8)),
  (56,(some (.slice none 0 0),1,24)),
  (57,(some (.nilFunc),1,8)),
  (58,(some (.nilFunc),1,8)),
  (59,(some (.agg #[.int .i64 0,.int .i64 0,.slice none 0 0]),3,40)),
  (60,(some (.agg #[.int .i64 0,.int .i64 0,.slice none 0 0]),3,40)),
  (62,(some (.nilFunc),1,8)),
  (63,(some (.nilFunc),1,8)),
  (64,(some (.nilFunc),1,8)),
  (65,(some (.agg #[.int .i64 0,.int .i64 0,.int .i64 0]),3,24)),
  (66,(some (.agg #[.int .i64 0,.int .i64 0,.int .i64 0]),3,24)),
  (67,(some (.nilFunc),1,8)),
  (69,(some (.nilFunc),1,8)),
  (70,(some (.nilFunc),1,8)),
  (71,(some (.nilFunc),1,8)),
  (72,(some (.nilFunc),1,8)),
  (73,(some (.pointer none),1,8)),
  (74,(some (.nilFunc),1,8)),
  (75,(some (.nilFunc),1,8)),
  (76,(some (.nilFunc),1,8)),
  (77,(some (.nilFunc),1,8)),
  (78,(some (.nilFunc),1,8)),
  (79,(some (.nilFunc),1,8)),
  (80,(some (.pointer none),1,8)),
  (81,(some (.nilFunc),1,8)),
  (82,(some (.nilFunc),1,8)),
  (83,(some (.nilFunc),1,8)),
  (84,(some (.nilFunc),1,8)),
  (85,(some (.nilFunc),1,8)),
  (86,(some (.nilFunc),1,8)),
  (87,(some (.nilFunc),1,8)),
  (88,(some (.nilFunc),1,8)),
  (89,(some (.nilFunc),1,8)),
  (90,(some (.nilFunc),1,8)),
  (91,(some (.nilFunc),1,8)),
  (92,(some (.agg (Array.replicate 256 (.int .i64 0))),256,2048)),
  (93,(some (.nilFunc),1,8)),
  (95,(some (.nilFunc),1,8)),
  (96,(some (.nilFunc),1,8)),
  (97,(some (.nilFunc),1,8)),
  (98,(some (.nilFunc),1,8)),
  (99,(some (.nilFunc),1,8)),
  (100,(some (.nilFunc),1,8)),
  (101,(some (.int .u64 0),1,8)),
  (102,(some (.nilFunc),1,8)),
  (103,(some (.int .i64 0),1,8)),
  (105,(some (.nilFunc),1,8)),
  (106,(some (.nilFunc),1,8)),
  (107,(some (.nilFunc),1,8)),
  (109,(some (.nilFunc),1,8)),
  (110,(some (.nilFunc),1,8)),
  (111,(some (.int .u32 0),1,4)),
  (112,(some (.nilFunc),1,8)),
  (113,(some (.int .u64 0),1,8)),
  (114,(some (.int .u64 0),1,8)),
  (115,(some (.nilFunc),1,8)),
  (116,(some (.nilFunc),1,8)),
  (117,(some (.nilFunc),1,8)),
  (118,(some (.pointer none),1,8)),
  (119,(some (.nilFunc),1,8)),
  (120,(some (.pointer none),1,8)),
  (121,(some (.nilFunc),1,8)),
  (122,(some (.nilFunc),1,8)),
  (123,(some (.agg #[.pointer none,.pointer none,.pointer none,.string ByteArray.empty]),4,40)),
  (124,(some (.agg #[.pointer none,.pointer none,.pointer none,.string ByteArray.empty]),4,40)),
  (125,(some (.agg #[]),0,0)),
  (126,(some (.agg #[]),0,0)),
  (127,(some (.agg #[]),0,0)),
  (128,(some (.nilFunc),1,8)),
  (129,(some (.int .u8 0),1,1)),
  (130,(some (.int .u8 0),1,1)),
  (131,(some (.nilFunc),1,8)),
  (132,(some (.pointer none),1,8)),
  (133,(some (.int .i32 0),1,4)),
  (134,(some (.int .i32 0),1,4)),
  (135,(some (.agg #[.int .u64 0,.int .u64 0,.int .u32 0,.int .u8 0,.int .u8 0,.int .u8 0,.int .u8 0,.nilFunc,.pointer none,.int .i32 0,.int .i32 0]),11,48)),
  (136,(some (.agg #[.int .u64 0,.int .u64 0,.int .u32 0,.int .u8 0,.int .u8 0,.int .u8 0,.int .u8 0,.nilFunc,.pointer none,.int .i32 0,.int .i32 0]),11,48)),
  (137,(some (.pointer none),1,8))],
 fld:=[(7,[(0,(1,false)),(1,(1,false)),(2,(1,false)),(3,(1,false))]),
  (8,[(0,(1,false)),(1,(1,false)),(2,(1,false)),(3,(1,false))]),
  (13,[(0,(1,false)),(1,(1,false))]),
  (14,[(0,(1,false)),(1,(1,false))]),
  (18,[(0,(1,false))]),
  (19,[(0,(1,false))]),
  (22,[(0,(1,false)),(1,(1,false)),(2,(1,false))]),
  (23,[(0,(1,false)),(1,(1,false)),(2,(1,false))]),
  (24,[(0,(1,false)),(1,(1,false)),(2,(1,false))]),
  (25,[(0,(1,false)),(1,(1,false)),(2,(1,false))]),
  (31,[(0,(1,false)),(1,(1,false)),(2,(1,false))]),
  (32,[(0,(1,false)),(1,(1,false)),(2,(1,false))]),
  (40,[(0,(1,false)),(1,(1,false)),(2,(1,false))]),
  (41,[(0,(1,false)),(1,(1,false)),(2,(1,false))]),
  (45,[(0,(1,false)),(1,(1,false)),(2,(1,false))]),
  (49,[(0,(1,false)),(1,(1,false))]),
  (50,[(0,(1,false)),(1,(1,false))]),
  (59,[(0,(1,false)),(1,(1,false)),(2,(1,false))]),
  (60,[(0,(1,false)),(1,(1,false)),(2,(1,false))]),
  (65,[(0,(1,false)),(1,(1,false)),(2,(1,false))]),
  (66,[(0,(1,false)),(1,(1,false)),(2,(1,false))]),
  (123,[(0,(1,false)),(1,(1,false)),(2,(1,false)),(3,(1,false))]),
  (124,[(0,(1,false)),(1,(1,false)),(2,(1,false)),(3,(1,false))]),
  (126,[(0,(0,true))]),
  (127,[(0,(0,true))]),
  (135,[(0,(1,false)),(1,(1,false)),(2,(1,false)),(3,(1,false)),(4,(1,false)),(5,(1,false)),(6,(1,false)),(7,(1,false)),(8,(1,false)),(9,(1,false)),(10,(1,false))]),
  (136,[(0,(1,false)),(1,(1,false)),(2,(1,false)),(3,(1,false)),(4,(1,false)),(5,(1,false)),(6,(1,false)),(7,(1,false)),(8,(1,false)),(9,(1,false)),(10,(1,false))])],
 eqs:=[(22,3),(23,3),(24,3),(25,3),(31,3),(32,3),(49,2),(50,2),(65,3),(66,3),(92,256)] }
theorem alP1 {α:Type} {R:Nat→α→Prop} {k:Nat} {x:α} {l:List (Nat×α)} (h:R k x) (h2:allP R l):allP R ((k,x)::l):=⟨h,h2⟩
theorem tab_und:allP (fun k D=>Try.prog.underlying k=some D) tab.und:=by
 unfold tab
 repeat (refine alP1 (by kernel_rfl) ?_)
 exact trivial
theorem tab_inf:allP (fun k x=>tyI Try.prog k=some x) tab.inf:=by
 unfold tab
 repeat (refine alP1 (by kernel_rfl) ?_)
 exact trivial
theorem tab_fld:allP (fun k x=>fieldsP Try.prog k=some x) tab.fld:=by
 unfold tab
 repeat (refine alP1 (by kernel_rfl) ?_)
 exact trivial
theorem tab_eqs:allP (fun k L=>eqInts Try.prog k=true∧eqLen Try.prog k=L) tab.eqs:=by
 unfold tab
 repeat (refine alP1 ⟨by kernel_rfl,by kernel_rfl⟩ ?_)
 exact trivial
theorem tab_ok:tab.ok Try.prog:=⟨tab_und,tab_inf,tab_fld,tab_eqs⟩
def cas:List (Nat×Nat):=[(2,0),(3,0),(4,0),(5,0),(6,0),(7,0),(8,0),(9,0),(10,0),(11,0),(12,0),(13,0),(14,0),(15,0),(16,0),(17,0),(18,0),(19,0),(20,0),(21,0),(22,0),(23,0),(24,0),(25,0),(26,0),(27,0),(28,0),(29,0),(30,0),(31,0),(32,0),(33,0),(34,0),(35,0),(36,0),(37,0),(38,0),(39,0),(40,0),(41,0),(42,0),(43,0),(44,0),(45,0),(46,0),(47,0),(48,0),(49,0),(50,0),(51,0),(52,0),(53,0),(54,0),(55,0),(56,0),(57,0),(58,0),(59,0),(60,0),(61,0),(62,0),(63,0),(64,0)]
theorem cas_ok:allP (fun k _=>callable Try.prog k=true) cas:=by
 unfold cas
 repeat (refine alP1 (by kernel_rfl) ?_)
 exact trivial
end Go.Proofs.Ytljebnobajmjnaa
/- What a run of the abstract machine asks of the program (printed by a program). -/
set_option maxRecDepth 1000000
namespace Go.Proofs.Ytljebnobajmjnaa
open Go
noncomputable def ctx:Ctx:=⟨tab,[(2,Try.f2),(3,Try.f3),(4,Try.f4),(5,Try.f5),(6,Try.f6),(7,Try.f7),(8,Try.f8),(9,Try.f9),(10,Try.f10),(11,Try.f11),(12,Try.f12),(13,Try.f13),(14,Try.f14),(15,Try.f15),(16,Try.f16),(17,Try.f17),(18,Try.f18),(19,Try.f19),(20,Try.f20),(21,Try.f21),(22,Try.f22),(23,Try.f23),(24,Try.f24),(25,Try.f25),(26,Try.f26),(27,Try.f27),(28,Try.f28),(29,Try.f29),(30,Try.f30),(31,Try.f31),(32,Try.f32),(33,Try.f33),(34,Try.f34),(35,Try.f35),(36,Try.f36),(37,Try.f37),(38,Try.f38),(39,Try.f39),(40,Try.f40),(41,Try.f41),(42,Try.f42),(43,Try.f43),(44,Try.f44),(45,Try.f45),(46,Try.f46),(47,Try.f47),(48,Try.f48),(49,Try.f49),(50,Try.f50),(51,Try.f51),(52,Try.f52),(53,Try.f53),(54,Try.f54),(55,Try.f55),(56,Try.f56),(57,Try.f57),(58,Try.f58),(59,Try.f59),(60,Try.f60),(61,Try.f61),(62,Try.f62),(63,Try.f63),(64,Try.f64)],cas⟩
set_option maxRecDepth 100000 in
theorem fns_ok:allP (fun k f=>Try.prog.funcs[k]?=some f) ctx.fns:=⟨Try.func2,⟨Try.func3,⟨Try.func4,⟨Try.func5,⟨Try.func6,⟨Try.func7,⟨Try.func8,⟨Try.func9,⟨Try.func10,⟨Try.func11,⟨Try.func12,⟨Try.func13,⟨Try.func14,⟨Try.func15,⟨Try.func16,⟨Try.func17,⟨Try.func18,⟨Try.func19,⟨Try.func20,⟨Try.func21,⟨Try.func22,⟨Try.func23,⟨Try.func24,⟨Try.func25,⟨Try.func26,⟨Try.func27,⟨Try.func28,⟨Try.func29,⟨Try.func30,⟨Try.func31,⟨Try.func32,⟨Try.func33,⟨Try.func34,⟨Try.func35,⟨Try.func36,⟨Try.func37,⟨Try.func38,⟨Try.func39,⟨Try.func40,⟨Try.func41,⟨Try.func42,⟨Try.func43,⟨Try.func44,⟨Try.func45,⟨Try.func46,⟨Try.func47,⟨Try.func48,⟨Try.func49,⟨Try.func50,⟨Try.func51,⟨Try.func52,⟨Try.func53,⟨Try.func54,⟨Try.func55,⟨Try.func56,⟨Try.func57,⟨Try.func58,⟨Try.func59,⟨Try.func60,⟨Try.func61,⟨Try.func62,⟨Try.func63,⟨Try.func64,trivial⟩⟩⟩⟩⟩⟩⟩⟩⟩⟩⟩⟩⟩⟩⟩⟩⟩⟩⟩⟩⟩⟩⟩⟩⟩⟩⟩⟩⟩⟩⟩⟩⟩⟩⟩⟩⟩⟩⟩⟩⟩⟩⟩⟩⟩⟩⟩⟩⟩⟩⟩⟩⟩⟩⟩⟩⟩⟩⟩⟩⟩⟩⟩
theorem ctx_ok:ctx.ok Try.prog:=⟨tab_ok,fns_ok,cas_ok,by kernel_rfl⟩
end Go.Proofs.Ytljebnobajmjnaa
/- Decompiling: the program's functions as the machine over terms takes them. -/
namespace Go.Proofs.Ytljebnobajmjnaa
open Go Go.RowKit
noncomputable def dcE (l:List (Nat×Ctr)) (le:List (Nat×CtrE)):DC:=⟨tab,ctx.fns,ctx.cas,l,le⟩
noncomputable def dc (l:List (Nat×Ctr)):DC:=dcE l []
theorem dcE_ok {l:List (Nat×Ctr)} {le:List (Nat×CtrE)} (h:allP (CtrOk Try.prog) l) (he:allP (CtrEOk Try.prog) le):(dcE l le).ok Try.prog:=⟨ctx_ok.T,ctx_ok.fns,ctx_ok.cas,ctx_ok.mixed,h,he⟩
theorem ctr_okE {l:List (Nat×Ctr)} {le:List (Nat×CtrE)} (hl:allP (CtrOk Try.prog) l) (hle:allP (CtrEOk Try.prog) le) {f:Nat} {an:An} {Fn:Nat} {σ ρ:Ty} {g:Nat→σ.den→Option ρ.den} (h:∀ fu x,(topG (ρ:=ρ) (dcE l le) (drR (dcE l le)) f an Fn σ (.var x)).den fu=g fu x):CtrOk Try.prog Fn ⟨σ,ρ,g,Fn⟩ :=
 fun fu x _ hy=>topG_ok (dcE_ok hl hle) (fun _ _ hS=>drR_ok (dcE_ok hl hle) hS) ((h fu x).trans hy)
theorem ctr_ok {l:List (Nat×Ctr)} (hl:allP (CtrOk Try.prog) l) {f:Nat} {an:An} {Fn:Nat} {σ ρ:Ty} {g:Nat→σ.den→Option ρ.den} (h:∀ fu x,(topG (ρ:=ρ) (dc l) (drR (dc l)) f an Fn σ (.var x)).den fu=g fu x):CtrOk Try.prog Fn ⟨σ,ρ,g,Fn⟩:=ctr_okE hl (le:=[]) trivial h
theorem ctrE_ok {l:List (Nat×Ctr)} {le:List (Nat×CtrE)} (hl:allP (CtrOk Try.prog) l) (hle:allP (CtrEOk Try.prog) le) {f:Nat} {an:An} {Fn:Nat} {si so:Sig} {nb na:Nat} {g:Nat→(itmsTy si.items).den→Option (itmsTy so.items).den} (hs:sigOk si so nb=true)
  (h:∀ fu x,(topE (dcE l le) so (drR (dcE l le)) f an Fn si nb na (.var x)).den fu=g fu x):CtrEOk Try.prog Fn ⟨si,so,nb,na,chkE si so nb g,Fn⟩ :=
 ⟨hs,fun fu x y hy=>by
  obtain ⟨h1,h2⟩:=chkE_some hy
  exact ⟨h2,fun m nx hm=>topE_ok (dcE_ok hl hle) (fun _ _ hS=>drR_ok (dcE_ok hl hle) hS) ((h fu x).trans h1) hm⟩⟩
end Go.Proofs.Ytljebnobajmjnaa
/- Decompiling: functions that call themselves. -/
namespace Go.Proofs.Ytljebnobajmjnaa
open Go Go.RowKit
def recN {α β:Type} (body:(Nat→α→Option β)→Nat→α→Option β):Nat→Nat→α→Option β
 | 0,_,_=>none
 | d+1,fu,x=>body (recN body d) fu x
theorem ctr_rec {l:List (Nat×Ctr)} (hl:allP (CtrOk Try.prog) l) {f:Nat} {an:An} {Fn:Nat} {σ ρ:Ty} {body:(Nat→σ.den→Option ρ.den)→Nat→σ.den→Option ρ.den}
  (h:∀ g fu x,(topG (ρ:=ρ) (dc ((Fn,⟨σ,ρ,g,Fn⟩)::l)) (drR (dc ((Fn,⟨σ,ρ,g,Fn⟩)::l))) f an Fn σ (.var x)).den fu=body g fu x):∀ d,CtrOk Try.prog Fn ⟨σ,ρ,recN body d,Fn⟩
 | 0=>fun fu x y hy=>by
  have hy:none=some y:=hy;cases hy
 | d+1=>fun fu x y hy=>(ctr_ok (l:=(Fn,⟨σ,ρ,recN body d,Fn⟩)::l) ⟨ctr_rec hl h d,hl⟩ (f:=f) (an:=an) (g:=recN body (d+1)) (h (recN body d))) fu x y hy
end Go.Proofs.Ytljebnobajmjnaa
/- Residual programs of functions (printed by a program out of the code),checked by the kernel,and the contracts that follow. -/
namespace Go.Proofs.Ytljebnobajmjnaa
open Go Go.RowKit
set_option linter.unusedVariables false
noncomputable section
def screen_mod_j1 (fu:Nat) (v0:Int):Option (Int×Unit) :=
 some ((v0,()))
def screen_mod_r (fu:Nat) (a:Int×Int×Unit):Option (Int×Unit) :=
 joinF (screen_mod_j1 fu) fun j0 =>
 bif (decide (a.2.1≠(0:Int))) then
 let v1:Int:=(Int.tmod a.1 a.2.1)
 bif (decide (v1<(0:Int))) then
  let v2:Int:=(IntKind.i64.wrap (v1+a.2.1))
  j0 (v2)
 else
 j0 (v1)
 else none
def screen_mod_an:An:=(.n none .z (.n (some ⟨[],[],[],[.reg 0 (.int .i64)],0,[]⟩) (.n none .z (.n none .z (.n none .z .z))) (.n none .z .z)))
noncomputable def screen_mod_dc:List (Nat×Ctr):=[]
def screen_mod_ctr:Ctr:=⟨(.pair (.int .i64) (.pair (.int .i64) .unit)),(.pair (.int .i64) .unit),screen_mod_r,19⟩
theorem screen_mod_ok:CtrOk Try.prog 19 screen_mod_ctr:=ctr_ok (l:=screen_mod_dc) (f:=12) (an:=screen_mod_an) trivial fun fu x=>by kernel_rfl
def _screen_Form__Place_r (fu:Nat) (a:(Int×Int×Int)×Int×Int×Unit):Option (Int×Unit) :=
 bindO (screen_mod_r fu ((a.2.2.1,(a.1.2.2,())))) fun v0 =>
 let v1:Int:=v0.1
 bif (decide (a.1.2.2≠(0:Int))) then
 let v2:Int:=(IntKind.i64.wrap (Int.tdiv (IntKind.i64.wrap (a.2.2.1-v1)) a.1.2.2))
 bindO (screen_mod_r fu ((v2,(a.1.1,())))) fun v3 =>
 bindO (screen_mod_r fu (((IntKind.i64.wrap (a.2.1-(IntKind.i64.wrap (v3.1*a.1.2.1)))),(a.1.1,())))) fun v4 =>
 let v5:Int:=(IntKind.i64.wrap ((IntKind.i64.wrap (v1*a.1.1))+v4.1))
 some ((v5,()))
 else none
def _screen_Form__Place_an:An:=(.n none .z (.n none .z (.n none .z (.n none (.dr [] []) .z))))
noncomputable def _screen_Form__Place_dc:List (Nat×Ctr):=[(19,screen_mod_ctr)]
def _screen_Form__Place_ctr:Ctr:=⟨(.pair (.agg (.pair (.int .i64) (.pair (.int .i64) (.int .i64)))) (.pair (.int .i64) (.pair (.int .i64) .unit))),(.pair (.int .i64) .unit),_screen_Form__Place_r,40⟩
theorem _screen_Form__Place_ok:CtrOk Try.prog 40 _screen_Form__Place_ctr:=ctr_ok (l:=_screen_Form__Place_dc) (f:=12) (an:=_screen_Form__Place_an) ⟨screen_mod_ok,trivial⟩ fun fu x=>by kernel_rfl
def screen_offset_r (fu:Nat) (a:(Int×Int×Int)×(Int×Int×Int)×Int×Unit):Option (Int×Int×Unit) :=
 let v0:Int:=(IntKind.i64.wrap ((IntKind.i64.wrap (a.1.1*a.1.1))+(IntKind.i64.wrap (a.1.2.1*a.1.2.1))))
 bif (decide (a.2.1.1≠(0:Int))) then
 bif (decide (a.2.1.1≠(0:Int))) then
 let v1:Int:=(Int.tmod a.2.2.1 a.2.1.1)
 let v2:Int:=(IntKind.i64.wrap (Int.tdiv a.2.2.1 a.2.1.1))
 bindO (screen_mod_r fu (((IntKind.i64.wrap ((IntKind.i64.wrap (v1*a.1.1))+(IntKind.i64.wrap (v2*a.1.2.1)))),(v0,())))) fun v3 =>
 bindO (screen_mod_r fu (((IntKind.i64.wrap ((IntKind.i64.wrap (v2*a.1.1))-(IntKind.i64.wrap (v1*a.1.2.1)))),(v0,())))) fun v4 =>
 let v5:Int:=v3.1
 let v6:Int:=v4.1
 let v7:Int:=(min v5 (IntKind.i64.wrap (v0-v5)))
 let v8:Int:=(min v6 (IntKind.i64.wrap (v0-v6)))
 some ((v7,(v8,())))
 else none
 else none
def screen_offset_an:An:=(.n none .z (.n none .z (.n none (.dr [] []) (.n none (.dr [] []) (.n none .z .z)))))
noncomputable def screen_offset_dc:List (Nat×Ctr):=[(19,screen_mod_ctr)]
def screen_offset_ctr:Ctr:=⟨(.pair (.agg (.pair (.int .i64) (.pair (.int .i64) (.int .i64)))) (.pair (.agg (.pair (.int .i64) (.pair (.int .i64) (.int .i64)))) (.pair (.int .i64) .unit))),(.pair (.int .i64) (.pair (.int .i64) .unit)),screen_offset_r,43⟩
theorem screen_offset_ok:CtrOk Try.prog 43 screen_offset_ctr:=ctr_ok (l:=screen_offset_dc) (f:=12) (an:=screen_offset_an) ⟨screen_mod_ok,trivial⟩ fun fu x=>by kernel_rfl
def screen_scatter_j4 (fu:Nat) (j3:(Int×Int)→Option (List Int×Unit)) (v4:Int×Int):Option (List Int×Unit) :=
 j3 ((v4.2,(IntKind.i64.wrap (v4.1+(1:Int)))))
def screen_scatter_j5 (fu:Nat) (v3:Int×Int) (v5:Int) (j4:(Int×Int)→Option (List Int×Unit)) (v7:Bool×Int):Option (List Int×Unit) :=
 bif v7.1 then
  j4 ((v3.2,v5))
 else
 j4 ((v3.2,v7.2))
def screen_scatter_l6 (fu:Nat) (a:(Int×Int×Int)×(Int×Int×Int)×Unit) (v2:Int×List Int×List Int) (v3:Int×Int) (j2:(Int×List Int×List Int)→Option (List Int×Unit)) (j4:(Int×List Int)→Option (List Int×Unit)) (v4:Int×List Int):Option (List Int×Unit) :=
 bif (decide (v4.1<(List.length v2.2.1:Int))) then
  let v5:Int:=v4.1
  bif (decide (a.2.1.1≠(0:Int))) then
  bif (decide (a.2.1.1≠(0:Int))) then
  bif (decide (a.2.1.1≠(0:Int))) then
  bif (decide (a.2.1.1≠(0:Int))) then
  bindO (_screen_Form__Place_r fu ((a.2.1,((IntKind.i64.wrap ((Int.tmod v5 a.2.1.1)-(Int.tmod v3.1 a.2.1.1))),((IntKind.i64.wrap ((IntKind.i64.wrap (Int.tdiv v5 a.2.1.1))-(IntKind.i64.wrap (Int.tdiv v3.1 a.2.1.1)))),()))))) fun v6 =>
  bindO (screen_offset_r fu ((a.1,(a.2.1,(v6.1,()))))) fun v7 =>
  let v8:Int:=v7.1
  let v9:Int:=v7.2.1
  bif ((decide ((0:Int)≤v5))&&(decide (v5<(List.length v4.2:Int)))) then
  bif ((decide ((0:Int)≤v5))&&(decide (v5<(List.length v4.2:Int)))) then
  j4 (((IntKind.i64.wrap (v4.1+(1:Int))),(List.set v4.2 (Int.toNat v5) (min (List.getD v4.2 (Int.toNat v5) 0) (IntKind.i64.wrap ((IntKind.i64.wrap (v8*v8))+(IntKind.i64.wrap (v9*v9))))))))
  else none
  else none
  else none
  else none
  else none
  else none
 else
 j2 (((IntKind.i64.wrap (v2.1+(1:Int))),(v4.2,(v2.2.2++([v3.1]:List Int)))))
def screen_scatter_l3 (fu:Nat) (a:(Int×Int×Int)×(Int×Int×Int)×Unit) (v2:Int×List Int×List Int) (j2:(Int×List Int×List Int)→Option (List Int×Unit)) (j3:(Int×Int)→Option (List Int×Unit)) (v3:Int×Int):Option (List Int×Unit) :=
 bif (decide (v3.2<(List.length v2.2.1:Int))) then
  joinF (screen_scatter_j4 fu j3) fun j4 =>
  bif ((decide ((0:Int)≤v3.2))&&(decide (v3.2<(List.length v2.2.1:Int)))) then
  let v5:Int:=v3.2
  let v6:Int:=(List.getD v2.2.1 (Int.toNat v3.2) 0)
  joinF (screen_scatter_j5 fu v3 v5 j4) fun j7 =>
  bif (decide ((0:Int)<v6)) then
   bif (decide (v3.1<(0:Int))) then
    j7 ((true,v3.1))
   else
   bif ((decide ((0:Int)≤v3.1))&&(decide (v3.1<(List.length v2.2.1:Int)))) then
   j7 (((decide ((List.getD v2.2.1 (Int.toNat v3.1) 0)<v6)),v3.1))
   else none
  else
  j7 ((false,v3.1))
  else none
 else
 bif (decide ((((List.length v2.2.2:Int)+(List.length ([v3.1]:List Int):Int))*(8:Int))≤(140737488355328:Int))) then
 loopF (screen_scatter_l6 fu a v2 v3 j2) fu (((0:Int),v2.2.1))
 else none
def screen_scatter_l2 (fu:Nat) (a:(Int×Int×Int)×(Int×Int×Int)×Unit) (v0:Int) (j2:(Int×List Int×List Int)→Option (List Int×Unit)) (v2:Int×List Int×List Int):Option (List Int×Unit) :=
 bif (decide (v2.1<v0)) then
  loopF (screen_scatter_l3 fu a v2 j2) fu (((-1:Int),(0:Int)))
 else
 some ((v2.2.2,()))
def screen_scatter_l1 (fu:Nat) (a:(Int×Int×Int)×(Int×Int×Int)×Unit) (v0:Int) (j1:(Int×List Int)→Option (List Int×Unit)) (v1:Int×List Int):Option (List Int×Unit) :=
 bif (decide (v1.1<(List.length (List.replicate (Int.toNat v0) (0:Int)):Int))) then
  let v2:Int:=v1.1
  bif ((decide ((0:Int)≤v2))&&(decide (v2<(List.length v1.2:Int)))) then
  j1 (((IntKind.i64.wrap (v1.1+(1:Int))),(List.set v1.2 (Int.toNat v2) (1099511627776:Int))))
  else none
 else
 loopF (screen_scatter_l2 fu a v0) fu (((0:Int),(v1.2,([]:List (Int)))))
def screen_scatter_r (fu:Nat) (a:(Int×Int×Int)×(Int×Int×Int)×Unit):Option (List Int×Unit) :=
 let v0:Int:=(IntKind.i64.wrap ((IntKind.i64.wrap (a.1.1*a.1.1))+(IntKind.i64.wrap (a.1.2.1*a.1.2.1))))
 bif ((decide ((0:Int)≤v0))&&(decide (((8:Int)*v0)≤(281474976710656:Int)))) then
 loopF (screen_scatter_l1 fu a v0) fu (((0:Int),(List.replicate (Int.toNat v0) (0:Int))))
 else none
def screen_scatter_an:An:=(.n none .z (.n none .z (.n none .z (.n none (.n none .z (.n none (.n (some ⟨[2,3,6,5,29,4],[1,0],[],[.reg 30 (.int .i64),.row 2 true (.int .i64) 3 0],0,[]⟩) (.n none .z (.n none .z (.n none (.n none (.n none .z .z) .z) .z))) .z) .z)) (.n none .z (.n none (.n none .z (.n none (.n (some ⟨[6,3,2,37,4],[1,0],[(8,(.osl 3 0))],[.reg 38 (.int .i64),.row 2 true (.int .i64) 3 0,.row 3 true (.int .i64) 3 0],1,[(8,(.int .i64),3)]⟩) (.n none .z (.n none .z (.n none (.n none (.n none .z (.n none (.n none .z (.n none (.n (some ⟨[38,8,40,41],[3,2],[],[.reg 9 (.int .i64),.reg 42 (.int .i64)],0,[]⟩) (.n none .z (.n none .z (.n (some ⟨[],[],[],[.reg 42 (.int .i64),.reg 9 (.int .i64)],0,[]⟩) (.n none (.n none .z (.n (some ⟨[10,42],[],[],[.reg 60 .bool,.reg 9 (.int .i64)],0,[]⟩) .z (.n none .z .z))) .z) .z))) .z) .z)) (.n none .z (.n none .z (.n none (.n (some ⟨[8,38,9,68],[4,3],[],[.reg 69 (.int .i64),.row 2 true (.int .i64) 3 0],0,[]⟩) (.n none .z (.n none .z (.n none (.n none (.n none .z (.n none (.dr [] []) .z)) .z) .z))) .z) .z))))) .z) .z))) .z) .z)) (.n none .z .z)))))))
noncomputable def screen_scatter_dc:List (Nat×Ctr):=[(40,_screen_Form__Place_ctr),(43,screen_offset_ctr)]
def screen_scatter_ctr:Ctr:=⟨(.pair (.agg (.pair (.int .i64) (.pair (.int .i64) (.int .i64)))) (.pair (.agg (.pair (.int .i64) (.pair (.int .i64) (.int .i64)))) .unit)),(.pair (.list (.int .i64)) .unit),screen_scatter_r,44⟩
theorem screen_scatter_ok:CtrOk Try.prog 44 screen_scatter_ctr:=ctr_ok (l:=screen_scatter_dc) (f:=12) (an:=screen_scatter_an) ⟨_screen_Form__Place_ok,⟨screen_offset_ok,trivial⟩⟩ fun fu x=>by kernel_rfl
def screen_bezout_b (sf:Nat→(Int×Int×Unit)→Option (Int×Int×Int×Unit)) (fu:Nat) (a:Int×Int×Unit):Option (Int×Int×Int×Unit) :=
 bif (decide (a.2.1=(0:Int))) then
  let v0:Int:=a.1
  some ((v0,((1:Int),((0:Int),()))))
 else
 bif (decide (a.2.1≠(0:Int))) then
 bindO (sf fu ((a.2.1,((Int.tmod a.1 a.2.1),())))) fun v0 =>
 let v1:Int:=v0.1
 let v2:Int:=v0.2.1
 let v3:Int:=v0.2.2.1
 bif (decide (a.2.1≠(0:Int))) then
 let v4:Int:=(IntKind.i64.wrap (v2-(IntKind.i64.wrap ((IntKind.i64.wrap (Int.tdiv a.1 a.2.1))*v3))))
 some ((v1,(v3,(v4,()))))
 else none
 else none
def screen_bezout_r (fu:Nat) (a:Int×Int×Unit):Option (Int×Int×Int×Unit):=recN screen_bezout_b fu fu a
def screen_bezout_an:An:=(.n none .z (.n none (.n none .z (.n none (.n none .z .z) .z)) (.n none .z (.n none (.dr [] []) .z))))
noncomputable def screen_bezout_dc:List (Nat×Ctr):=[]
def screen_bezout_ctr:Ctr:=⟨(.pair (.int .i64) (.pair (.int .i64) .unit)),(.pair (.int .i64) (.pair (.int .i64) (.pair (.int .i64) .unit))),screen_bezout_r,18⟩
theorem screen_bezout_ok:CtrOk Try.prog 18 screen_bezout_ctr:=fun fu x y hy=>ctr_rec (σ:=(.pair (.int .i64) (.pair (.int .i64) .unit))) (ρ:=(.pair (.int .i64) (.pair (.int .i64) (.pair (.int .i64) .unit)))) (l:=screen_bezout_dc) trivial (f:=12) (an:=screen_bezout_an) (body:=screen_bezout_b) (fun g fu x=>by kernel_rfl) fu fu x y hy
def screen_Of_r (fu:Nat) (a:(Int×Int×Int)×Unit):Option ((Int×Int×Int)×Unit) :=
 bindO (screen_bezout_r fu ((a.1.1,(a.1.2.1,())))) fun v0 =>
 let v1:Int:=v0.1
 let v2:Int:=v0.2.1
 let v3:Int:=v0.2.2.1
 bif (decide (v1≠(0:Int))) then
 let v4:Int:=(IntKind.i64.wrap (Int.tdiv (IntKind.i64.wrap ((IntKind.i64.wrap (a.1.1*a.1.1))+(IntKind.i64.wrap (a.1.2.1*a.1.2.1)))) v1))
 bindO (screen_mod_r fu (((IntKind.i64.wrap ((IntKind.i64.wrap (v3*a.1.1))-(IntKind.i64.wrap (v2*a.1.2.1)))),(v4,())))) fun v5 =>
 some (((v4,(v5.1,v1)),()))
 else none
def screen_Of_an:An:=(.n none .z (.n none .z (.n none .z (.n none .z .z))))
noncomputable def screen_Of_dc:List (Nat×Ctr):=[(18,screen_bezout_ctr),(19,screen_mod_ctr)]
def screen_Of_ctr:Ctr:=⟨(.pair (.agg (.pair (.int .i64) (.pair (.int .i64) (.int .i64)))) .unit),(.pair (.agg (.pair (.int .i64) (.pair (.int .i64) (.int .i64)))) .unit),screen_Of_r,17⟩
theorem screen_Of_ok:CtrOk Try.prog 17 screen_Of_ctr:=ctr_ok (l:=screen_Of_dc) (f:=12) (an:=screen_Of_an) ⟨screen_bezout_ok,⟨screen_mod_ok,trivial⟩⟩ fun fu x=>by kernel_rfl
end
end Go.Proofs.Ytljebnobajmjnaa
/- Residual programs of functions (printed by a program out of the code),checked by the kernel,and the contracts that follow. -/
namespace Go.Proofs.Ytljebnobajmjnaa
open Go Go.RowKit
set_option linter.unusedVariables false
noncomputable section
def curve_Nearest_j1 (fu:Nat) (v3:Int):Option (Int×Unit) :=
 some ((v3,()))
def curve_Nearest_r (fu:Nat) (a:Int×Int×Unit):Option (Int×Unit) :=
 let v0:Int:=(IntKind.i64.wrap ((IntKind.i64.wrap ((2:Int)*a.1))+a.2.1))
 let v1:Int:=(IntKind.i64.wrap ((2:Int)*a.2.1))
 bif (decide (v1≠(0:Int))) then
 let v2:Int:=(IntKind.i64.wrap (Int.tdiv v0 v1))
 joinF (curve_Nearest_j1 fu) fun j3 =>
 bif (decide (v1≠(0:Int))) then
 bif (decide ((Int.tmod v0 v1)<(0:Int))) then
  let v4:Int:=(IntKind.i64.wrap (v2-(1:Int)))
  j3 (v4)
 else
 j3 (v2)
 else none
 else none
def curve_Nearest_an:An:=(.n none .z (.n none .z (.n none .z (.n (some ⟨[],[],[],[.reg 5 (.int .i64)],0,[]⟩) (.n none .z (.n none .z .z)) (.n none .z .z)))))
noncomputable def curve_Nearest_dc:List (Nat×Ctr):=[]
def curve_Nearest_ctr:Ctr:=⟨(.pair (.int .i64) (.pair (.int .i64) .unit)),(.pair (.int .i64) .unit),curve_Nearest_r,20⟩
theorem curve_Nearest_ok:CtrOk Try.prog 20 curve_Nearest_ctr:=ctr_ok (l:=curve_Nearest_dc) (f:=12) (an:=curve_Nearest_an) trivial fun fu x=>by kernel_rfl
def overprint_shares_l3 (fu:Nat) (v0:Int×List Int) (v1:Int) (v2:Int) (j0:(Int×List Int)→Option (List Int×Unit)) (j4:(Int×List Int)→Option (List Int×Unit)) (v4:Int×List Int):Option (List Int×Unit) :=
 bif (decide (v4.1<v2)) then
  let v5:Int:=v4.1
  bif ((decide ((0:Int)≤v5))&&(decide (v5<(List.length v4.2:Int)))) then
  bif ((decide ((0:Int)≤v5))&&(decide (v5<(List.length v4.2:Int)))) then
  j4 (((IntKind.i64.wrap (v4.1+(1:Int))),(List.set v4.2 (Int.toNat v5) (IntKind.i64.wrap ((List.getD v4.2 (Int.toNat v5) 0)*(IntKind.i64.wrap ((255:Int)-v1)))))))
  else none
  else none
 else
 j0 (((IntKind.i64.wrap (v0.1+(1:Int))),v4.2))
def overprint_shares_l2 (fu:Nat) (v0:Int×List Int) (v1:Int) (v2:Int) (j0:(Int×List Int)→Option (List Int×Unit)) (j3:(Int×List Int)→Option (List Int×Unit)) (v3:Int×List Int):Option (List Int×Unit) :=
 bif (decide (v3.1<v2)) then
  let v4:Int:=v3.1
  bif ((decide ((0:Int)≤v4))&&(decide (v4<(List.length v3.2:Int)))) then
  bif (decide ((((List.length v3.2:Int)+(List.length ([(IntKind.i64.wrap ((List.getD v3.2 (Int.toNat v4) 0)*v1))]:List Int):Int))*(8:Int))≤(140737488355328:Int))) then
  j3 (((IntKind.i64.wrap (v3.1+(1:Int))),(v3.2++([(IntKind.i64.wrap ((List.getD v3.2 (Int.toNat v4) 0)*v1))]:List Int))))
  else none
  else none
 else
 loopF (overprint_shares_l3 fu v0 v1 v2 j0) fu (((0:Int),v3.2))
def overprint_shares_l1 (fu:Nat) (a:List Int×Unit) (j0:(Int×List Int)→Option (List Int×Unit)) (v0:Int×List Int):Option (List Int×Unit) :=
 bif (decide (v0.1<(List.length a.1:Int))) then
  bif ((decide ((0:Int)≤v0.1))&&(decide (v0.1<(List.length a.1:Int)))) then
  let v1:Int:=(List.getD a.1 (Int.toNat v0.1) 0)
  let v2:Int:=(List.length v0.2:Int)
  loopF (overprint_shares_l2 fu v0 v1 v2 j0) fu (((0:Int),v0.2))
  else none
 else
 some ((v0.2,()))
def overprint_shares_r (fu:Nat) (a:List Int×Unit):Option (List Int×Unit) :=
 loopF (overprint_shares_l1 fu a) fu (((0:Int),([(1:Int)]:List Int)))
def overprint_shares_an:An:=(.n none .z (.n none .z (.n none (.n none .z (.n none (.n (some ⟨[10,11,2],[],[(3,(.osl 0 0))],[.reg 12 (.int .i64),.row 0 true (.int .i64) 3 0],0,[]⟩) (.n none .z (.n none .z (.n none (.n none (.n none .z (.n none .z (.n none (.n none .z (.n none (.n (some ⟨[5,12,6,18],[],[(3,(.osl 0 0))],[.reg 19 (.int .i64),.row 0 true (.int .i64) 3 0],0,[]⟩) (.n none .z (.n none .z (.n none (.n none (.n none .z .z) .z) .z))) .z) .z)) (.n none .z (.n none (.n (some ⟨[3,12,5,32],[],[],[.reg 33 (.int .i64),.row 0 true (.int .i64) 3 0],0,[]⟩) (.n none .z (.n none .z (.n none (.n none (.n none .z .z) .z) .z))) .z) .z))))) .z) .z))) .z) .z)) (.n none .z .z))))
noncomputable def overprint_shares_dc:List (Nat×Ctr):=[]
def overprint_shares_ctr:Ctr:=⟨(.pair (.list (.int .i64)) .unit),(.pair (.list (.int .i64)) .unit),overprint_shares_r,27⟩
theorem overprint_shares_ok:CtrOk Try.prog 27 overprint_shares_ctr:=ctr_ok (l:=overprint_shares_dc) (f:=12) (an:=overprint_shares_an) trivial fun fu x=>by kernel_rfl
def refspace_Check_j1 (fu:Nat) (v0:Bool):Option (Int×Unit) :=
 bif v0 then
  some (((3:Int),()))
 else
 some (((0:Int),()))
def refspace_Check_r (fu:Nat) (a:(Int×Int×Int)×Unit):Option (Int×Unit) :=
 joinF (refspace_Check_j1 fu) fun j0 =>
 bif (decide (a.1.1<(0:Int))) then
  j0 (true)
 else
 bif (decide ((10000:Int)<a.1.1)) then
  j0 (true)
 else
 bif (decide (a.1.2.1<(-12800:Int))) then
  j0 (true)
 else
 bif (decide ((12800:Int)<a.1.2.1)) then
  j0 (true)
 else
 bif (decide (a.1.2.2<(-12800:Int))) then
  j0 (true)
 else
 j0 ((decide ((12800:Int)<a.1.2.2)))
def refspace_Check_an:An:=(.n none .z (.n none (.n (some ⟨[],[0],[],[.reg 30 .bool],0,[]⟩) .z (.n none (.n none .z .z) .z)) (.n none .z .z)))
noncomputable def refspace_Check_dc:List (Nat×Ctr):=[]
def refspace_Check_ctr:Ctr:=⟨(.pair (.agg (.pair (.int .i64) (.pair (.int .i64) (.int .i64)))) .unit),(.pair (.int .i64) .unit),refspace_Check_r,25⟩
theorem refspace_Check_ok:CtrOk Try.prog 25 refspace_Check_ctr:=ctr_ok (l:=refspace_Check_dc) (f:=12) (an:=refspace_Check_an) trivial fun fu x=>by kernel_rfl
def profile_Tones_j2 (fu:Nat) (v0:Int) (j0:(Int)→Option (Int×Unit)) (v2:Bool):Option (Int×Unit) :=
 bif v2 then
  some (((3:Int),()))
 else
 j0 ((IntKind.i64.wrap (v0+(1:Int))))
def profile_Tones_l1 (fu:Nat) (a:List Int×Int×Unit) (j0:(Int)→Option (Int×Unit)) (v0:Int):Option (Int×Unit) :=
 bif (decide (v0<(List.length a.1:Int))) then
  bif ((decide ((0:Int)≤v0))&&(decide (v0<(List.length a.1:Int)))) then
  let v1:Int:=(List.getD a.1 (Int.toNat v0) 0)
  joinF (profile_Tones_j2 fu v0 j0) fun j2 =>
  bif (decide (v1<(0:Int))) then
   j2 (true)
  else
  j2 ((decide ((255:Int)<v1)))
  else none
 else
 some (((0:Int),()))
def profile_Tones_r (fu:Nat) (a:List Int×Int×Unit):Option (Int×Unit) :=
 bif (decide ((List.length a.1:Int)≠a.2.1)) then
  some (((4:Int),()))
 else
 loopF (profile_Tones_l1 fu a) fu ((0:Int))
def profile_Tones_an:An:=(.n none .z (.n none (.n none .z (.n none (.n none .z .z) .z)) (.n none (.n none .z (.n none (.n (some ⟨[11,12],[],[],[.reg 13 (.int .i64)],0,[]⟩) (.n none .z (.n none .z (.n none (.n none (.n none .z (.n (some ⟨[13],[],[],[.reg 22 .bool],0,[]⟩) .z (.n none (.n none .z .z) .z))) .z) .z))) .z) .z)) (.n none .z .z))))
noncomputable def profile_Tones_dc:List (Nat×Ctr):=[]
def profile_Tones_ctr:Ctr:=⟨(.pair (.list (.int .i64)) (.pair (.int .i64) .unit)),(.pair (.int .i64) .unit),profile_Tones_r,36⟩
theorem profile_Tones_ok:CtrOk Try.prog 36 profile_Tones_ctr:=ctr_ok (l:=profile_Tones_dc) (f:=12) (an:=profile_Tones_an) trivial fun fu x=>by kernel_rfl
def overprint_check_r (fu:Nat) (a:List Int×Unit):Option (Int×Unit) :=
 let v0:Int:=(List.length a.1:Int)
 let v1:Bool:=(decide ((6:Int)<v0))
 bif v1 then
  some (((2:Int),()))
 else
 let v2:Bool:=(decide (v0=(0:Int)))
 bif v2 then
  some (((1:Int),()))
 else
 bindO (profile_Tones_r fu ((a.1,((List.length a.1:Int),())))) fun v3 =>
 let v4:Int:=v3.1
 some ((v4,()))
def overprint_check_an:An:=(.n none .z (.n none (.n none .z (.n none (.n none .z (.n none (.n none .z .z) (.n none .z (.n none (.n none .z .z) .z)))) .z)) (.n none .z .z)))
noncomputable def overprint_check_dc:List (Nat×Ctr):=[(36,profile_Tones_ctr)]
def overprint_check_ctr:Ctr:=⟨(.pair (.list (.int .i64)) .unit),(.pair (.int .i64) .unit),overprint_check_r,26⟩
theorem overprint_check_ok:CtrOk Try.prog 26 overprint_check_ctr:=ctr_ok (l:=overprint_check_dc) (f:=12) (an:=overprint_check_an) ⟨profile_Tones_ok,trivial⟩ fun fu x=>by kernel_rfl
def overprint_Predict_l2 (fu:Nat) (a:List (Int×Int×Int)×List Int×Unit) (v3:List Int×Unit) (j4:(Int×Int×Int×Int×Int)→Option ((Int×Int×Int)×Int×Unit)) (v4:Int×Int×Int×Int×Int):Option ((Int×Int×Int)×Int×Unit) :=
 bif (decide (v4.2.1<(List.length v3.1:Int))) then
  bif ((decide ((0:Int)≤v4.2.1))&&(decide (v4.2.1<(List.length v3.1:Int)))) then
  let v5:Int:=(List.getD v3.1 (Int.toNat v4.2.1) 0)
  let v6:Int:=v4.2.1
  let v7:Int:=(IntKind.i64.wrap (v4.1+v5))
  bif ((decide ((0:Int)≤v6))&&(decide (v6<(List.length a.1:Int)))) then
  let v8:Int×Int×Int:=(List.getD a.1 (Int.toNat v6) (0,(0,0)))
  bif ((decide ((0:Int)≤v6))&&(decide (v6<(List.length a.1:Int)))) then
  let v9:Int×Int×Int:=(List.getD a.1 (Int.toNat v6) (0,(0,0)))
  bif ((decide ((0:Int)≤v6))&&(decide (v6<(List.length a.1:Int)))) then
  let v10:Int×Int×Int:=(List.getD a.1 (Int.toNat v6) (0,(0,0)))
  j4 ((v7,((IntKind.i64.wrap (v4.2.1+(1:Int))),((IntKind.i64.wrap (v4.2.2.1+(IntKind.i64.wrap (v5*v8.1)))),((IntKind.i64.wrap (v4.2.2.2.1+(IntKind.i64.wrap (v5*v9.2.1)))),(IntKind.i64.wrap (v4.2.2.2.2+(IntKind.i64.wrap (v5*v10.2.2)))))))))
  else none
  else none
  else none
  else none
 else
 bindO (curve_Nearest_r fu ((v4.2.2.1,(v4.1,())))) fun v5 =>
 bindO (curve_Nearest_r fu ((v4.2.2.2.1,(v4.1,())))) fun v6 =>
 bindO (curve_Nearest_r fu ((v4.2.2.2.2,(v4.1,())))) fun v7 =>
 some (((v5.1,(v6.1,v7.1)),((0:Int),())))
def overprint_Predict_l1 (fu:Nat) (a:List (Int×Int×Int)×List Int×Unit) (j2:(Int×Int×Int×Int)→Option ((Int×Int×Int)×Int×Unit)) (v2:Int×Int×Int×Int):Option ((Int×Int×Int)×Int×Unit) :=
 bif (decide (v2.1<(List.length a.1:Int))) then
  bif ((decide ((0:Int)≤v2.1))&&(decide (v2.1<(List.length a.1:Int)))) then
  let v3:Int×Int×Int:=(List.getD a.1 (Int.toNat v2.1) (0,(0,0)))
  bindO (refspace_Check_r fu ((v3,()))) fun v4 =>
  let v5:Int:=v4.1
  bif (decide (v5≠(0:Int))) then
   some ((((0:Int),((0:Int),(0:Int))),(v5,())))
  else
  j2 (((IntKind.i64.wrap (v2.1+(1:Int))),v2.2))
  else none
 else
 bindO (overprint_shares_r fu ((a.2.1,()))) fun v3 =>
 loopF (overprint_Predict_l2 fu a v3) fu (((0:Int),((0:Int),((0:Int),((0:Int),(0:Int))))))
def overprint_Predict_r (fu:Nat) (a:List (Int×Int×Int)×List Int×Unit):Option ((Int×Int×Int)×Int×Unit) :=
 bindO (overprint_check_r fu ((a.2.1,()))) fun v0 =>
 let v1:Int:=v0.1
 bif (decide (v1≠(0:Int))) then
  some ((((0:Int),((0:Int),(0:Int))),(v1,())))
 else
 bif ((decide ((0:Int)≤(List.length a.2.1:Int)))&&(decide ((List.length a.2.1:Int)≤(64:Int)))) then
 bif (decide ((List.length a.1:Int)≠(IntKind.i64.wrap ((1:Int)*2 ^ (Int.toNat (List.length a.2.1:Int)))))) then
  some ((((0:Int),((0:Int),(0:Int))),((4:Int),())))
 else
 loopF (overprint_Predict_l1 fu a) fu (((0:Int),((0:Int),((0:Int),(0:Int)))))
 else none
def overprint_Predict_an:An:=(.n none .z (.n none (.n none .z (.n none .z (.n none (.n none .z .z) .z))) (.n none (.n none .z (.n none (.n none .z .z) .z)) (.n none (.n none .z (.n none (.n (some ⟨[0,4,1,27,28],[],[],[.reg 29 (.int .i64),.box 0 [(.int .i64),(.int .i64),(.int .i64)] 25],0,[]⟩) (.n none .z (.n none .z (.n none (.n none (.n none .z (.n none .z (.n none .z (.n none (.n none .z .z) .z)))) .z) .z))) .z) .z)) (.n none .z (.n none (.n none .z (.n none (.n (some ⟨[4,11,42,0,43],[0],[],[.reg 10 (.int .i64),.reg 44 (.int .i64),.box 1 [(.int .i64),(.int .i64),(.int .i64)] 25],0,[]⟩) (.n none .z (.n none .z (.n none (.n none (.n none .z (.n none .z (.n none (.dr [] []) (.n none (.dr [] []) (.dr [] []))))) .z) .z))) .z) .z)) (.n none (.dr [] []) .z)))))))
noncomputable def overprint_Predict_dc:List (Nat×Ctr):=[(20,curve_Nearest_ctr),(25,refspace_Check_ctr),(26,overprint_check_ctr),(27,overprint_shares_ctr)]
def overprint_Predict_ctr:Ctr:=⟨(.pair (.list (.pair (.int .i64) (.pair (.int .i64) (.int .i64)))) (.pair (.list (.int .i64)) .unit)),(.pair (.agg (.pair (.int .i64) (.pair (.int .i64) (.int .i64)))) (.pair (.int .i64) .unit)),overprint_Predict_r,13⟩
theorem overprint_Predict_ok:CtrOk Try.prog 13 overprint_Predict_ctr:=ctr_ok (l:=overprint_Predict_dc) (f:=12) (an:=overprint_Predict_an) ⟨curve_Nearest_ok,⟨refspace_Check_ok,⟨overprint_check_ok,⟨overprint_shares_ok,trivial⟩⟩⟩⟩ fun fu x=>by kernel_rfl
def sheet_Check_j1 (fu:Nat) (a:(Int×Int×List Int)×Unit) (v0:Bool):Option (Int×Unit) :=
 bif v0 then
  some (((3:Int),()))
 else
 bif (decide ((List.length a.1.2.2:Int)≠(IntKind.i64.wrap (a.1.1*a.1.2.1)))) then
  some (((4:Int),()))
 else
 some (((0:Int),()))
def sheet_Check_r (fu:Nat) (a:(Int×Int×List Int)×Unit):Option (Int×Unit) :=
 joinF (sheet_Check_j1 fu a) fun j0 =>
 bif (decide (a.1.1<(1:Int))) then
  j0 (true)
 else
 bif (decide ((1024:Int)<a.1.1)) then
  j0 (true)
 else
 bif (decide (a.1.2.1<(1:Int))) then
  j0 (true)
 else
 j0 ((decide ((1024:Int)<a.1.2.1)))
def sheet_Check_an:An:=(.n none .z (.n none (.n (some ⟨[1],[0],[],[.reg 20 .bool],0,[]⟩) .z (.n none (.n none .z .z) .z)) (.n none (.n none .z (.n none (.n none .z .z) .z)) (.n none .z .z))))
noncomputable def sheet_Check_dc:List (Nat×Ctr):=[]
def sheet_Check_ctr:Ctr:=⟨(.pair (.agg (.pair (.int .i64) (.pair (.int .i64) (.list (.int .u8))))) .unit),(.pair (.int .i64) .unit),sheet_Check_r,24⟩
theorem sheet_Check_ok:CtrOk Try.prog 24 sheet_Check_ctr:=ctr_ok (l:=sheet_Check_dc) (f:=12) (an:=sheet_Check_an) trivial fun fu x=>by kernel_rfl
def sheet_Counts_l2 (fu:Nat) (a:(Int×Int×List Int)×Int×Unit) (j3:(Int×List Int)→Option (List Int×Int×Unit)) (v3:Int×List Int):Option (List Int×Int×Unit) :=
 bif (decide (v3.1<(List.length a.1.2.2:Int))) then
  bif ((decide ((0:Int)≤v3.1))&&(decide (v3.1<(List.length a.1.2.2:Int)))) then
  let v4:Int:=(List.getD a.1.2.2 (Int.toNat v3.1) 0)
  bif (decide ((List.length v3.2:Int)≤(IntKind.i64.wrap v4))) then
   some ((([]:List (Int)),((4:Int),())))
  else
  bif ((decide ((0:Int)≤v4))&&(decide (v4<(List.length v3.2:Int)))) then
  bif ((decide ((0:Int)≤v4))&&(decide (v4<(List.length v3.2:Int)))) then
  j3 (((IntKind.i64.wrap (v3.1+(1:Int))),(List.set v3.2 (Int.toNat v4) (IntKind.i64.wrap ((List.getD v3.2 (Int.toNat v4) 0)+(1:Int))))))
  else none
  else none
  else none
 else
 some ((v3.2,((0:Int),())))
def sheet_Counts_j1 (fu:Nat) (a:(Int×Int×List Int)×Int×Unit) (v2:Bool):Option (List Int×Int×Unit) :=
 bif v2 then
  some ((([]:List (Int)),((3:Int),())))
 else
 bif ((decide ((0:Int)≤a.2.1))&&(decide (a.2.1≤(64:Int)))) then
 bif ((decide ((0:Int)≤(IntKind.i64.wrap ((1:Int)*2 ^ (Int.toNat a.2.1)))))&&(decide (((8:Int)*(IntKind.i64.wrap ((1:Int)*2 ^ (Int.toNat a.2.1))))≤(281474976710656:Int)))) then
 loopF (sheet_Counts_l2 fu a) fu (((0:Int),(List.replicate (Int.toNat (IntKind.i64.wrap ((1:Int)*2 ^ (Int.toNat a.2.1)))) (0:Int))))
 else none
 else none
def sheet_Counts_r (fu:Nat) (a:(Int×Int×List Int)×Int×Unit):Option (List Int×Int×Unit) :=
 bindO (sheet_Check_r fu ((a.1,()))) fun v0 =>
 let v1:Int:=v0.1
 bif (decide (v1≠(0:Int))) then
  some ((([]:List (Int)),(v1,())))
 else
 joinF (sheet_Counts_j1 fu a) fun j2 =>
 bif (decide (a.2.1<(1:Int))) then
  j2 (true)
 else
 j2 ((decide ((8:Int)<a.2.1)))
def sheet_Counts_an:An:=(.n none .z (.n none (.n none .z (.n none .z (.n none (.n none .z .z) .z))) (.n none (.n (some ⟨[1,2],[0],[],[.reg 20 .bool],0,[]⟩) .z (.n none (.n none .z .z) .z)) (.n none .z (.n none (.n none .z (.n none (.n (some ⟨[7,25,26],[0],[],[.reg 27 (.int .i64),.row 1 true (.int .i64) 3 0],0,[]⟩) (.n none .z (.n none .z (.n none (.n none (.n none .z (.n none (.n none .z (.n none (.n none .z .z) .z)) .z)) .z) .z))) .z) .z)) (.n none .z .z))))))
noncomputable def sheet_Counts_dc:List (Nat×Ctr):=[(24,sheet_Check_ctr)]
def sheet_Counts_ctr:Ctr:=⟨(.pair (.agg (.pair (.int .i64) (.pair (.int .i64) (.list (.int .u8))))) (.pair (.int .i64) .unit)),(.pair (.list (.int .i64)) (.pair (.int .i64) .unit)),sheet_Counts_r,11⟩
theorem sheet_Counts_ok:CtrOk Try.prog 11 sheet_Counts_ctr:=ctr_ok (l:=sheet_Counts_dc) (f:=12) (an:=sheet_Counts_an) ⟨sheet_Check_ok,trivial⟩ fun fu x=>by kernel_rfl
def sheet_Mean_l5 (fu:Nat) (a:(Int×Int×List Int)×List (Int×Int×Int)×Unit) (v7:List Int) (j9:(Int×Int×Int×Int)→Option ((Int×Int×Int)×Int×Unit)) (v9:Int×Int×Int×Int):Option ((Int×Int×Int)×Int×Unit) :=
 bif (decide (v9.1<(List.length v7:Int))) then
  bif ((decide ((0:Int)≤v9.1))&&(decide (v9.1<(List.length v7:Int)))) then
  let v10:Int:=(List.getD v7 (Int.toNat v9.1) 0)
  let v11:Int:=v9.1
  bif ((decide ((0:Int)≤v11))&&(decide (v11<(List.length a.2.1:Int)))) then
  let v12:Int×Int×Int:=(List.getD a.2.1 (Int.toNat v11) (0,(0,0)))
  bif ((decide ((0:Int)≤v11))&&(decide (v11<(List.length a.2.1:Int)))) then
  let v13:Int×Int×Int:=(List.getD a.2.1 (Int.toNat v11) (0,(0,0)))
  bif ((decide ((0:Int)≤v11))&&(decide (v11<(List.length a.2.1:Int)))) then
  let v14:Int×Int×Int:=(List.getD a.2.1 (Int.toNat v11) (0,(0,0)))
  j9 (((IntKind.i64.wrap (v9.1+(1:Int))),((IntKind.i64.wrap (v9.2.1+(IntKind.i64.wrap (v10*v12.1)))),((IntKind.i64.wrap (v9.2.2.1+(IntKind.i64.wrap (v10*v13.2.1)))),(IntKind.i64.wrap (v9.2.2.2+(IntKind.i64.wrap (v10*v14.2.2))))))))
  else none
  else none
  else none
  else none
 else
 let v10:Int:=(IntKind.i64.wrap (a.1.1*a.1.2.1))
 bindO (curve_Nearest_r fu ((v9.2.1,(v10,())))) fun v11 =>
 bindO (curve_Nearest_r fu ((v9.2.2.1,(v10,())))) fun v12 =>
 bindO (curve_Nearest_r fu ((v9.2.2.2,(v10,())))) fun v13 =>
 some (((v11.1,(v12.1,v13.1)),((0:Int),())))
def sheet_Mean_l4 (fu:Nat) (a:(Int×Int×List Int)×List (Int×Int×Int)×Unit) (v2:Int) (j5:(Int×Int×Int×Int)→Option ((Int×Int×Int)×Int×Unit)) (v5:Int×Int×Int×Int):Option ((Int×Int×Int)×Int×Unit) :=
 bif (decide (v5.1<(List.length a.2.1:Int))) then
  bif ((decide ((0:Int)≤v5.1))&&(decide (v5.1<(List.length a.2.1:Int)))) then
  let v6:Int×Int×Int:=(List.getD a.2.1 (Int.toNat v5.1) (0,(0,0)))
  bindO (refspace_Check_r fu ((v6,()))) fun v7 =>
  let v8:Int:=v7.1
  bif (decide (v8≠(0:Int))) then
   some ((((0:Int),((0:Int),(0:Int))),(v8,())))
  else
  j5 (((IntKind.i64.wrap (v5.1+(1:Int))),v5.2))
  else none
 else
 bindO (sheet_Counts_r fu ((a.1,(v2,())))) fun v6 =>
 let v7:List Int:=v6.1
 let v8:Int:=v6.2.1
 bif (decide (v8≠(0:Int))) then
  some ((((0:Int),((0:Int),(0:Int))),(v8,())))
 else
 loopF (sheet_Mean_l5 fu a v7) fu (((0:Int),((0:Int),((0:Int),(0:Int)))))
def sheet_Mean_j3 (fu:Nat) (a:(Int×Int×List Int)×List (Int×Int×Int)×Unit) (v2:Int) (v4:Bool):Option ((Int×Int×Int)×Int×Unit) :=
 bif v4 then
  some ((((0:Int),((0:Int),(0:Int))),((4:Int),())))
 else
 loopF (sheet_Mean_l4 fu a v2) fu (((0:Int),((0:Int),((0:Int),(0:Int)))))
def sheet_Mean_j2 (fu:Nat) (a:(Int×Int×List Int)×List (Int×Int×Int)×Unit) (v2:Int) (j2:(Int)→Option ((Int×Int×Int)×Int×Unit)) (v3:Bool):Option ((Int×Int×Int)×Int×Unit) :=
 bif v3 then
  let v4:Int:=(IntKind.i64.wrap (v2+(1:Int)))
  j2 (v4)
 else
 joinF (sheet_Mean_j3 fu a v2) fun j4 =>
 bif (decide (v2=(0:Int))) then
  j4 (true)
 else
 j4 ((decide ((8:Int)<v2)))
def sheet_Mean_l1 (fu:Nat) (a:(Int×Int×List Int)×List (Int×Int×Int)×Unit) (j2:(Int)→Option ((Int×Int×Int)×Int×Unit)) (v2:Int):Option ((Int×Int×Int)×Int×Unit) :=
 joinF (sheet_Mean_j2 fu a v2 j2) fun j3 =>
 bif (decide (v2≤(8:Int))) then
  bif ((decide ((0:Int)≤v2))&&(decide (v2≤(64:Int)))) then
  j3 ((decide ((List.length a.2.1:Int)≠(IntKind.i64.wrap ((1:Int)*2 ^ (Int.toNat v2))))))
  else none
 else
 j3 (false)
def sheet_Mean_r (fu:Nat) (a:(Int×Int×List Int)×List (Int×Int×Int)×Unit):Option ((Int×Int×Int)×Int×Unit) :=
 bindO (sheet_Check_r fu ((a.1,()))) fun v0 =>
 let v1:Int:=v0.1
 bif (decide (v1≠(0:Int))) then
  some ((((0:Int),((0:Int),(0:Int))),(v1,())))
 else
 loopF (sheet_Mean_l1 fu a) fu ((0:Int))
def sheet_Mean_an:An:=(.n none .z (.n none (.n none .z (.n none .z (.n none (.n none .z .z) .z))) (.n none .z (.n none (.n none (.n (some ⟨[4,2,1,5],[0,1],[],[.reg 7 (.int .i64)],0,[]⟩) (.n none (.n (some ⟨[7],[],[],[.reg 31 .bool],0,[]⟩) .z .z) (.n none .z .z)) .z) .z) (.n none (.n (some ⟨[1,2,4,7],[0,1],[],[.reg 39 .bool],0,[]⟩) .z (.n none (.n none .z .z) .z)) (.n none (.n none .z (.n none (.n (some ⟨[1,2,4,7,41,42],[0],[],[.reg 43 (.int .i64),.box 1 [(.int .i64),(.int .i64),(.int .i64)] 25],0,[]⟩) (.n none .z (.n none .z (.n none (.n none (.n none .z (.n none .z (.n none .z (.n none (.n none .z .z) .z)))) .z) .z))) .z) .z)) (.n none .z (.n none (.n none .z (.n none (.n none .z .z) .z)) (.n none .z (.n none (.n none .z (.n none (.n (some ⟨[4,13,2,65,1,66],[1,0],[],[.reg 67 (.int .i64),.box 2 [(.int .i64),(.int .i64),(.int .i64)] 25],0,[]⟩) (.n none .z (.n none .z (.n none (.n none (.n none .z (.n none (.dr [] []) (.n none (.dr [] []) (.dr [] [])))) .z) .z))) .z) .z)) (.n none .z (.n none (.dr [] []) .z))))))))))))
noncomputable def sheet_Mean_dc:List (Nat×Ctr):=[(11,sheet_Counts_ctr),(20,curve_Nearest_ctr),(24,sheet_Check_ctr),(25,refspace_Check_ctr)]
def sheet_Mean_ctr:Ctr:=⟨(.pair (.agg (.pair (.int .i64) (.pair (.int .i64) (.list (.int .u8))))) (.pair (.list (.pair (.int .i64) (.pair (.int .i64) (.int .i64)))) .unit)),(.pair (.agg (.pair (.int .i64) (.pair (.int .i64) (.int .i64)))) (.pair (.int .i64) .unit)),sheet_Mean_r,12⟩
theorem sheet_Mean_ok:CtrOk Try.prog 12 sheet_Mean_ctr:=ctr_ok (l:=sheet_Mean_dc) (f:=12) (an:=sheet_Mean_an) ⟨sheet_Counts_ok,⟨curve_Nearest_ok,⟨sheet_Check_ok,⟨refspace_Check_ok,trivial⟩⟩⟩⟩ fun fu x=>by kernel_rfl
def bitmap_stride_r (fu:Nat) (a:Int×Unit):Option (Int×Unit) :=
 let v0:Int:=(IntKind.i64.wrap (Int.tdiv (IntKind.i64.wrap (a.1+(7:Int))) (8:Int)))
 some ((v0,()))
def bitmap_stride_an:An:=(.n none .z (.n none .z .z))
noncomputable def bitmap_stride_dc:List (Nat×Ctr):=[]
def bitmap_stride_ctr:Ctr:=⟨(.pair (.int .i64) .unit),(.pair (.int .i64) .unit),bitmap_stride_r,35⟩
theorem bitmap_stride_ok:CtrOk Try.prog 35 bitmap_stride_ctr:=ctr_ok (l:=bitmap_stride_dc) (f:=12) (an:=bitmap_stride_an) trivial fun fu x=>by kernel_rfl
def bitmap_Is_r (fu:Nat) (a:(Int×Int×List Int)×Int×Int×Unit):Option (Bool×Unit) :=
 bif (decide ((0:Int)≤a.2.1)) then
  bif (decide (a.2.1<a.1.1)) then
   bif (decide ((0:Int)≤a.2.2.1)) then
    bif (decide (a.2.2.1<a.1.2.1)) then
     bindO (bitmap_stride_r fu ((a.1.1,()))) fun v0 =>
     bif ((decide ((0:Int)≤(IntKind.i64.wrap ((IntKind.i64.wrap (a.2.2.1*v0.1))+(IntKind.i64.wrap (Int.tdiv a.2.1 (8:Int)))))))&&(decide ((IntKind.i64.wrap ((IntKind.i64.wrap (a.2.2.1*v0.1))+(IntKind.i64.wrap (Int.tdiv a.2.1 (8:Int)))))<(List.length a.1.2.2:Int)))) then
     let v1:Int:=(List.getD a.1.2.2 (Int.toNat (IntKind.i64.wrap ((IntKind.i64.wrap (a.2.2.1*v0.1))+(IntKind.i64.wrap (Int.tdiv a.2.1 (8:Int)))))) 0)
     bif ((decide ((0:Int)≤(Int.tmod a.2.1 (8:Int))))&&(decide ((Int.tmod a.2.1 (8:Int))≤(8:Int)))) then
     let v2:Bool:=(decide ((bits BinOp.and IntKind.u8 v1 ((128:Int) / 2 ^ (Int.toNat (Int.tmod a.2.1 (8:Int)))))≠(0:Int)))
     some ((v2,()))
     else none
     else none
    else
    some ((false,()))
   else
   some ((false,()))
  else
  some ((false,()))
 else
 some ((false,()))
def bitmap_Is_an:An:=(.n none .z (.n none (.dr [] []) .z))
noncomputable def bitmap_Is_dc:List (Nat×Ctr):=[(35,bitmap_stride_ctr)]
def bitmap_Is_ctr:Ctr:=⟨(.pair (.ptr (.pair (.int .i64) (.pair (.int .i64) (.list (.int .u8))))) (.pair (.int .i64) (.pair (.int .i64) .unit))),(.pair .bool .unit),bitmap_Is_r,23⟩
theorem bitmap_Is_ok:CtrOk Try.prog 23 bitmap_Is_ctr:=ctr_ok (l:=bitmap_Is_dc) (f:=12) (an:=bitmap_Is_an) ⟨bitmap_stride_ok,trivial⟩ fun fu x=>by kernel_rfl
def bitmap_Grown_1_r (fu:Nat) (a:Int×Int×(Int×Int×List Int)×Unit):Option (Bool×Unit) :=
 bindO (bitmap_Is_r fu ((a.2.2.1,(a.1,(a.2.1,()))))) fun v0 =>
 bif v0.1 then
  some ((true,()))
 else
 bindO (bitmap_Is_r fu ((a.2.2.1,((IntKind.i64.wrap (a.1-(1:Int))),(a.2.1,()))))) fun v1 =>
 bif v1.1 then
  some ((true,()))
 else
 bindO (bitmap_Is_r fu ((a.2.2.1,((IntKind.i64.wrap (a.1+(1:Int))),(a.2.1,()))))) fun v2 =>
 bif v2.1 then
  some ((true,()))
 else
 bindO (bitmap_Is_r fu ((a.2.2.1,(a.1,((IntKind.i64.wrap (a.2.1-(1:Int))),()))))) fun v3 =>
 bif v3.1 then
  some ((true,()))
 else
 bindO (bitmap_Is_r fu ((a.2.2.1,(a.1,((IntKind.i64.wrap (a.2.1+(1:Int))),()))))) fun v4 =>
 let v5:Bool:=v4.1
 some ((v5,()))
def bitmap_Grown_1_an:An:=(.n none .z (.n none .z .z))
noncomputable def bitmap_Grown_1_dc:List (Nat×Ctr):=[(23,bitmap_Is_ctr)]
def bitmap_Grown_1_ctr:Ctr:=⟨(.pair (.int .i64) (.pair (.int .i64) (.pair (.ptr (.pair (.int .i64) (.pair (.int .i64) (.list (.int .u8))))) .unit))),(.pair .bool .unit),bitmap_Grown_1_r,34⟩
theorem bitmap_Grown_1_ok:CtrOk Try.prog 34 bitmap_Grown_1_ctr:=ctr_ok (l:=bitmap_Grown_1_dc) (f:=12) (an:=bitmap_Grown_1_an) ⟨bitmap_Is_ok,trivial⟩ fun fu x=>by kernel_rfl
def bitmap_Blank_si:Sig:=⟨[],[],[],[.reg 0 (.int .i64),.reg 1 (.int .i64)],0,[]⟩
def bitmap_Blank_so:Sig:=⟨[],[],[],[.reg 0 (.agg [(.int .i64),(.int .i64),(.osl 0 0)]),.row 0 true (.int .u8) 5 0],1,[]⟩
def bitmap_Blank_g (fu:Nat) (a:Int×Int):Option ((Int×Int×Unit)×List Int) :=
 bindO (bitmap_stride_r fu ((a.1,()))) fun v0 =>
 bif ((decide ((0:Int)≤(IntKind.i64.wrap (v0.1*a.2))))&&(decide (((1:Int)*(IntKind.i64.wrap (v0.1*a.2)))≤(281474976710656:Int)))) then
 some (((a.1,(a.2,())),(List.replicate (Int.toNat (IntKind.i64.wrap (v0.1*a.2))) (0:Int))))
 else none
def bitmap_Blank_r (fu:Nat) (a:Int×Int):Option ((Int×Int×Unit)×List Int):=chkE bitmap_Blank_si bitmap_Blank_so 0 bitmap_Blank_g fu a
def bitmap_Blank_an:An:=(.n none .z (.n none .z .z))
noncomputable def bitmap_Blank_dc:List (Nat×Ctr):=[(35,bitmap_stride_ctr)]
def bitmap_Blank_ctr:CtrE:=⟨bitmap_Blank_si,bitmap_Blank_so,0,2,bitmap_Blank_r,29⟩
theorem bitmap_Blank_ok:CtrEOk Try.prog 29 bitmap_Blank_ctr:=ctrE_ok (l:=bitmap_Blank_dc) (le:=[]) ⟨bitmap_stride_ok,trivial⟩ trivial (f:=12) (an:=bitmap_Blank_an) (si:=bitmap_Blank_si) (so:=bitmap_Blank_so) (nb:=0) (na:=2) (g:=bitmap_Blank_g) (by kernel_rfl) fun fu x=>by kernel_rfl
def bitmap_Grown_j4 (fu:Nat) (j4:(Int×List Int)→Option ((Int×Int×List Int)×Unit)) (v5:Int×List Int):Option ((Int×Int×List Int)×Unit) :=
 j4 (((IntKind.i64.wrap (v5.1+(1:Int))),v5.2))
def bitmap_Grown_l3 (fu:Nat) (v0:Int×List Int×Int×Int×Unit) (v1:(Int×Int×Unit)×List Int) (v2:Int×List Int) (v3:Int) (j2:(Int×List Int)→Option ((Int×Int×List Int)×Unit)) (j4:(Int×List Int)→Option ((Int×Int×List Int)×Unit)) (v4:Int×List Int):Option ((Int×Int×List Int)×Unit) :=
 bif (decide (v4.1<v0.2.2.1)) then
  joinF (bitmap_Grown_j4 fu j4) fun j5 =>
  let v6:Int:=v4.1
  bindO (bitmap_Grown_1_r fu ((v6,(v3,((v0.2.2.1,(v0.2.2.2.1,v0.2.1)),()))))) fun v7 =>
  bif v7.1 then
   bindO (bitmap_stride_r fu ((v1.1.1,()))) fun v8 =>
   bif ((decide ((0:Int)≤(IntKind.i64.wrap ((IntKind.i64.wrap (v3*v8.1))+(IntKind.i64.wrap (Int.tdiv v6 (8:Int)))))))&&(decide ((IntKind.i64.wrap ((IntKind.i64.wrap (v3*v8.1))+(IntKind.i64.wrap (Int.tdiv v6 (8:Int)))))<(List.length v4.2:Int)))) then
   bif ((decide ((0:Int)≤(Int.tmod v6 (8:Int))))&&(decide ((Int.tmod v6 (8:Int))≤(8:Int)))) then
   bif ((decide ((0:Int)≤(IntKind.i64.wrap ((IntKind.i64.wrap (v3*v8.1))+(IntKind.i64.wrap (Int.tdiv v6 (8:Int)))))))&&(decide ((IntKind.i64.wrap ((IntKind.i64.wrap (v3*v8.1))+(IntKind.i64.wrap (Int.tdiv v6 (8:Int)))))<(List.length v4.2:Int)))) then
   j5 ((v4.1,(List.set v4.2 (Int.toNat (IntKind.i64.wrap ((IntKind.i64.wrap (v3*v8.1))+(IntKind.i64.wrap (Int.tdiv v6 (8:Int)))))) (bits BinOp.or IntKind.u8 (List.getD v4.2 (Int.toNat (IntKind.i64.wrap ((IntKind.i64.wrap (v3*v8.1))+(IntKind.i64.wrap (Int.tdiv v6 (8:Int)))))) 0) ((128:Int) / 2 ^ (Int.toNat (Int.tmod v6 (8:Int))))))))
   else none
   else none
   else none
  else
  j5 (v4)
 else
 j2 (((IntKind.i64.wrap (v2.1+(1:Int))),v4.2))
def bitmap_Grown_l2 (fu:Nat) (v0:Int×List Int×Int×Int×Unit) (v1:(Int×Int×Unit)×List Int) (j0:(Int×List Int×Int×Int×Unit)→Option ((Int×Int×List Int)×Unit)) (j2:(Int×List Int)→Option ((Int×Int×List Int)×Unit)) (v2:Int×List Int):Option ((Int×Int×List Int)×Unit) :=
 bif (decide (v2.1<v0.2.2.2.1)) then
  let v3:Int:=v2.1
  loopF (bitmap_Grown_l3 fu v0 v1 v2 v3 j2) fu (((0:Int),v2.2))
 else
 j0 (((IntKind.i64.wrap (v0.1+(1:Int))),(v2.2,(v1.1.1,(v1.1.2.1,())))))
def bitmap_Grown_l1 (fu:Nat) (a:(Int×Int×List Int)×Int×Unit) (j0:(Int×List Int×Int×Int×Unit)→Option ((Int×Int×List Int)×Unit)) (v0:Int×List Int×Int×Int×Unit):Option ((Int×Int×List Int)×Unit) :=
 bif (decide (v0.1<a.2.1)) then
  bindO (bitmap_Blank_r fu ((v0.2.2.1,v0.2.2.2.1))) fun v1 =>
  loopF (bitmap_Grown_l2 fu v0 v1 j0) fu (((0:Int),v1.2))
 else
 some (((v0.2.2.1,(v0.2.2.2.1,v0.2.1)),()))
def bitmap_Grown_r (fu:Nat) (a:(Int×Int×List Int)×Int×Unit):Option ((Int×Int×List Int)×Unit) :=
 bif (decide (((List.length a.1.2.2:Int)*(1:Int))≤(140737488355328:Int))) then
 loopF (bitmap_Grown_l1 fu a) fu (((0:Int),(a.1.2.2,(a.1.1,(a.1.2.1,())))))
 else none
def bitmap_Grown_an:An:=(.n none .z (.n none .z (.n none .z (.n none (.n none .z (.n none (.n (some ⟨[4,5,16],[0],[],[.reg 17 (.int .i64),.row 2 false (.int .u8) 5 0,.box 1 [(.int .i64),(.int .i64),(.osl 2 0)] 60],0,[]⟩) (.n none .z (.n none .z (.n none (.n none (.n none .z (.ops [(5,(.n none (.n none .z (.n none .z (.n none (.n none .z (.n none (.n (some ⟨[6,7,0,2,13],[1,2,3,4,6],[],[.reg 14 (.int .i64),.row 5 true (.int .u8) 5 0],0,[]⟩) (.n none .z (.n none .z (.n none (.n none (.n none .z (.n none .z (.n none (.n (some ⟨[14,8,17],[],[],[.reg 18 (.int .i64),.row 5 true (.int .u8) 5 0],0,[]⟩) (.n none .z (.n none .z (.n (some ⟨[],[],[],[.reg 18 (.int .i64),.row 5 true (.int .u8) 5 0],0,[]⟩) (.n none (.n none .z (.n none .z (.n none (.ops [(2,(.n none (.dr [] []) .z))]) .z))) .z) .z))) .z) .z))) .z) .z))) .z) .z)) (.n none .z .z)))) .z))])) .z) .z))) .z) .z)) (.n none .z .z)))))
noncomputable def bitmap_Grown_dc:List (Nat×Ctr):=[(34,bitmap_Grown_1_ctr),(35,bitmap_stride_ctr)]
noncomputable def bitmap_Grown_de:List (Nat×CtrE):=[(29,bitmap_Blank_ctr)]
def bitmap_Grown_ctr:Ctr:=⟨(.pair (.ptr (.pair (.int .i64) (.pair (.int .i64) (.list (.int .u8))))) (.pair (.int .i64) .unit)),(.pair (.agg (.pair (.int .i64) (.pair (.int .i64) (.list (.int .u8))))) .unit),bitmap_Grown_r,22⟩
theorem bitmap_Grown_ok:CtrOk Try.prog 22 bitmap_Grown_ctr:=ctr_okE (l:=bitmap_Grown_dc) (le:=bitmap_Grown_de) ⟨bitmap_Grown_1_ok,⟨bitmap_stride_ok,trivial⟩⟩ ⟨bitmap_Blank_ok,trivial⟩ (f:=12) (an:=bitmap_Grown_an) fun fu x=>by kernel_rfl
def bitmap_Check_j2 (fu:Nat) (v3:Unit):Option (Int×Unit) :=
 some (((0:Int),()))
def bitmap_Check_l3 (fu:Nat) (a:(Int×Int×List Int)×Unit) (v2:Int) (v4:Int) (j3:(Unit)→Option (Int×Unit)) (j5:(Int)→Option (Int×Unit)) (v5:Int):Option (Int×Unit) :=
 bif (decide (v5<a.1.2.1)) then
  bif ((decide ((0:Int)≤(IntKind.i64.wrap ((IntKind.i64.wrap ((IntKind.i64.wrap (v5*v2))+v2))-(1:Int)))))&&(decide ((IntKind.i64.wrap ((IntKind.i64.wrap ((IntKind.i64.wrap (v5*v2))+v2))-(1:Int)))<(List.length a.1.2.2:Int)))) then
  let v6:Int:=(List.getD a.1.2.2 (Int.toNat (IntKind.i64.wrap ((IntKind.i64.wrap ((IntKind.i64.wrap (v5*v2))+v2))-(1:Int)))) 0)
  bif (decide ((bits BinOp.and IntKind.u8 v6 v4)≠(0:Int))) then
   some (((4:Int),()))
  else
  j5 ((IntKind.i64.wrap (v5+(1:Int))))
  else none
 else
 j3 (())
def bitmap_Check_j1 (fu:Nat) (a:(Int×Int×List Int)×Unit) (v0:Bool):Option (Int×Unit) :=
 bif v0 then
  some (((3:Int),()))
 else
 bindO (bitmap_stride_r fu ((a.1.1,()))) fun v1 =>
 let v2:Int:=v1.1
 bif (decide ((List.length a.1.2.2:Int)≠(IntKind.i64.wrap (v2*a.1.2.1)))) then
  some (((4:Int),()))
 else
 joinF (bitmap_Check_j2 fu) fun j3 =>
 bif ((decide ((0:Int)≤(IntKind.i64.wrap ((IntKind.i64.wrap ((8:Int)*v2))-a.1.1))))&&(decide ((IntKind.i64.wrap ((IntKind.i64.wrap ((8:Int)*v2))-a.1.1))≤(8:Int)))) then
 let v4:Int:=(IntKind.u8.wrap ((IntKind.u8.wrap ((1:Int)*2 ^ (Int.toNat (IntKind.i64.wrap ((IntKind.i64.wrap ((8:Int)*v2))-a.1.1)))))-(1:Int)))
 bif (decide (v4≠(0:Int))) then
  loopF (bitmap_Check_l3 fu a v2 v4 j3) fu ((0:Int))
 else
 j3 (())
 else none
def bitmap_Check_r (fu:Nat) (a:(Int×Int×List Int)×Unit):Option (Int×Unit) :=
 joinF (bitmap_Check_j1 fu a) fun j0 =>
 bif (decide (a.1.1<(1:Int))) then
  j0 (true)
 else
 bif (decide ((1024:Int)<a.1.1)) then
  j0 (true)
 else
 bif (decide (a.1.2.1<(1:Int))) then
  j0 (true)
 else
 j0 ((decide ((1024:Int)<a.1.2.1)))
def bitmap_Check_an:An:=(.n none .z (.n none (.n (some ⟨[1],[0],[],[.reg 23 .bool],0,[]⟩) .z (.n none (.n none .z .z) .z)) (.n none .z (.n none (.n none .z (.n none (.n none .z .z) .z)) (.n (some ⟨[],[0],[],[],0,[]⟩) (.n none .z (.n none .z (.n none (.n none .z (.n none (.n (some ⟨[1,3,4,45],[],[],[.reg 46 (.int .i64)],0,[]⟩) (.n none .z (.n none .z (.n none (.n none (.n none .z (.n none .z (.n none (.n none .z .z) .z))) .z) .z))) .z) .z)) .z))) (.n none .z .z))))))
noncomputable def bitmap_Check_dc:List (Nat×Ctr):=[(35,bitmap_stride_ctr)]
def bitmap_Check_ctr:Ctr:=⟨(.pair (.agg (.pair (.int .i64) (.pair (.int .i64) (.list (.int .u8))))) .unit),(.pair (.int .i64) .unit),bitmap_Check_r,31⟩
theorem bitmap_Check_ok:CtrOk Try.prog 31 bitmap_Check_ctr:=ctr_ok (l:=bitmap_Check_dc) (f:=12) (an:=bitmap_Check_an) ⟨bitmap_stride_ok,trivial⟩ fun fu x=>by kernel_rfl
def sheet_check_j5 (fu:Nat) (v3:Int) (j3:(Int)→Option (Int×Unit)) (v10:Bool):Option (Int×Unit) :=
 bif v10 then
  some (((3:Int),()))
 else
 j3 ((IntKind.i64.wrap (v3+(1:Int))))
def sheet_check_j4 (fu:Nat) (a:List (Int×Int×List Int)×List Int×List (Int×Int)×Unit) (v3:Int) (j3:(Int)→Option (Int×Unit)) (v8:Bool):Option (Int×Unit) :=
 bif v8 then
  some (((3:Int),()))
 else
 bif ((decide ((0:Int)≤v3))&&(decide (v3<(List.length a.2.2.1:Int)))) then
 let v9:Int×Int:=(List.getD a.2.2.1 (Int.toNat v3) (0,0))
 joinF (sheet_check_j5 fu v3 j3) fun j10 =>
 bif (decide (v9.1<(-1024:Int))) then
  j10 (true)
 else
 bif (decide ((1024:Int)<v9.1)) then
  j10 (true)
 else
 bif (decide (v9.2<(-1024:Int))) then
  j10 (true)
 else
 j10 ((decide ((1024:Int)<v9.2)))
 else none
def sheet_check_j3 (fu:Nat) (a:List (Int×Int×List Int)×List Int×List (Int×Int)×Unit) (v3:Int) (j3:(Int)→Option (Int×Unit)) (v7:Bool):Option (Int×Unit) :=
 bif v7 then
  some (((4:Int),()))
 else
 joinF (sheet_check_j4 fu a v3 j3) fun j8 =>
 bif ((decide ((0:Int)≤v3))&&(decide (v3<(List.length a.2.1:Int)))) then
 let v9:Int:=(List.getD a.2.1 (Int.toNat v3) 0)
 bif (decide (v9<(0:Int))) then
  j8 (true)
 else
 bif ((decide ((0:Int)≤v3))&&(decide (v3<(List.length a.2.1:Int)))) then
 let v10:Int:=(List.getD a.2.1 (Int.toNat v3) 0)
 j8 ((decide ((16:Int)<v10)))
 else none
 else none
def sheet_check_l2 (fu:Nat) (a:List (Int×Int×List Int)×List Int×List (Int×Int)×Unit) (j3:(Int)→Option (Int×Unit)) (v3:Int):Option (Int×Unit) :=
 bif (decide (v3<(List.length a.1:Int))) then
  bif ((decide ((0:Int)≤v3))&&(decide (v3<(List.length a.1:Int)))) then
  let v4:Int×Int×List Int:=(List.getD a.1 (Int.toNat v3) (0,(0,[])))
  bindO (bitmap_Check_r fu ((v4,()))) fun v5 =>
  let v6:Int:=v5.1
  bif (decide (v6≠(0:Int))) then
   some ((v6,()))
  else
  joinF (sheet_check_j3 fu a v3 j3) fun j7 =>
  bif (decide ((0:Int)<(List.length a.1:Int))) then
  let v8:Int×Int×List Int:=(List.getD a.1 (Int.toNat (0:Int)) (0,(0,[])))
  bif (decide (v4.1≠v8.1)) then
   j7 (true)
  else
  bif (decide ((0:Int)<(List.length a.1:Int))) then
  let v9:Int×Int×List Int:=(List.getD a.1 (Int.toNat (0:Int)) (0,(0,[])))
  j7 ((decide (v4.2.1≠v9.2.1)))
  else none
  else none
  else none
 else
 some (((0:Int),()))
def sheet_check_j1 (fu:Nat) (a:List (Int×Int×List Int)×List Int×List (Int×Int)×Unit) (v2:Bool):Option (Int×Unit) :=
 bif v2 then
  some (((4:Int),()))
 else
 loopF (sheet_check_l2 fu a) fu ((0:Int))
def sheet_check_r (fu:Nat) (a:List (Int×Int×List Int)×List Int×List (Int×Int)×Unit):Option (Int×Unit) :=
 let v0:Bool:=(decide ((8:Int)<(List.length a.1:Int)))
 bif v0 then
  some (((2:Int),()))
 else
 let v1:Bool:=(decide ((List.length a.1:Int)=(0:Int)))
 bif v1 then
  some (((1:Int),()))
 else
 joinF (sheet_check_j1 fu a) fun j2 =>
 bif (decide ((List.length a.2.1:Int)≠(List.length a.1:Int))) then
  j2 (true)
 else
 let v3:Bool:=(decide ((List.length a.2.2.1:Int)≠(List.length a.1:Int)))
 j2 (v3)
def sheet_check_an:An:=(.n none .z (.n none (.n none (.n none .z (.n none (.n none .z .z) (.n none .z (.n none (.n none .z .z) (.n (some ⟨[0,1,2],[],[],[.reg 19 .bool],0,[]⟩) .z (.n none (.n none .z .z) .z)))))) .z) (.n none (.n none .z (.n none (.n (some ⟨[32,0,1,2,33],[],[],[.reg 34 (.int .i64)],0,[]⟩) (.n none .z (.n none .z (.n none (.n none (.n none .z (.n none (.n none .z (.n none .z (.n none (.n none .z .z) .z))) (.n none (.n (some ⟨[7,34],[0],[],[.reg 59 .bool],0,[]⟩) (.dr [] []) (.n none (.n none .z .z) .z)) (.n none (.n (some ⟨[7,34],[],[],[.reg 71 .bool],0,[]⟩) .z (.n none (.n none .z .z) .z)) (.n none .z (.n (some ⟨[34],[1],[],[.reg 93 .bool],0,[]⟩) .z (.n none (.n none .z .z) .z))))))) .z) .z))) .z) .z)) (.n none .z .z))))
noncomputable def sheet_check_dc:List (Nat×Ctr):=[(31,bitmap_Check_ctr)]
def sheet_check_ctr:Ctr:=⟨(.pair (.list (.pair (.int .i64) (.pair (.int .i64) (.list (.int .u8))))) (.pair (.list (.int .i64)) (.pair (.list (.pair (.int .i64) (.int .i64))) .unit))),(.pair (.int .i64) .unit),sheet_check_r,21⟩
theorem sheet_check_ok:CtrOk Try.prog 21 sheet_check_ctr:=ctr_ok (l:=sheet_check_dc) (f:=12) (an:=sheet_check_an) ⟨bitmap_Check_ok,trivial⟩ fun fu x=>by kernel_rfl
def sheet_Print_j4 (fu:Nat) (j13:(Int×List Int)→Option ((Int×Int×List Int)×Int×Unit)) (v14:Int×List Int):Option ((Int×Int×List Int)×Int×Unit) :=
 j13 (((IntKind.i64.wrap (v14.1+(1:Int))),v14.2))
def sheet_Print_l3 (fu:Nat) (a:List (Int×Int×List Int)×List Int×List (Int×Int)×Unit) (v2:Int×Int×List Int) (v7:Int) (v10:(Int×Int×List Int)×Unit) (v11:Int×List Int) (v12:Int) (j11:(Int×List Int)→Option ((Int×Int×List Int)×Int×Unit)) (j13:(Int×List Int)→Option ((Int×Int×List Int)×Int×Unit)) (v13:Int×List Int):Option ((Int×Int×List Int)×Int×Unit) :=
 bif (decide (v13.1<v2.1)) then
  joinF (sheet_Print_j4 fu j13) fun j14 =>
  let v15:Int:=v13.1
  bif ((decide ((0:Int)≤v7))&&(decide (v7<(List.length a.2.2.1:Int)))) then
  let v16:Int×Int:=(List.getD a.2.2.1 (Int.toNat v7) (0,0))
  bif ((decide ((0:Int)≤v7))&&(decide (v7<(List.length a.2.2.1:Int)))) then
  let v17:Int×Int:=(List.getD a.2.2.1 (Int.toNat v7) (0,0))
  bindO (bitmap_Is_r fu ((v10.1,((IntKind.i64.wrap (v15-v16.1)),((IntKind.i64.wrap (v12-v17.2)),()))))) fun v18 =>
  bif v18.1 then
   bif ((decide ((0:Int)≤(IntKind.i64.wrap ((IntKind.i64.wrap (v12*v2.1))+v15))))&&(decide ((IntKind.i64.wrap ((IntKind.i64.wrap (v12*v2.1))+v15))<(List.length v13.2:Int)))) then
   bif ((decide ((0:Int)≤v7))&&(decide (v7≤(8:Int)))) then
   bif ((decide ((0:Int)≤(IntKind.i64.wrap ((IntKind.i64.wrap (v12*v2.1))+v15))))&&(decide ((IntKind.i64.wrap ((IntKind.i64.wrap (v12*v2.1))+v15))<(List.length v13.2:Int)))) then
   j14 ((v13.1,(List.set v13.2 (Int.toNat (IntKind.i64.wrap ((IntKind.i64.wrap (v12*v2.1))+v15))) (bits BinOp.or IntKind.u8 (List.getD v13.2 (Int.toNat (IntKind.i64.wrap ((IntKind.i64.wrap (v12*v2.1))+v15))) 0) (IntKind.u8.wrap ((1:Int)*2 ^ (Int.toNat v7)))))))
   else none
   else none
   else none
  else
  j14 (v13)
  else none
  else none
 else
 j11 (((IntKind.i64.wrap (v11.1+(1:Int))),v13.2))
def sheet_Print_l2 (fu:Nat) (a:List (Int×Int×List Int)×List Int×List (Int×Int)×Unit) (v2:Int×Int×List Int) (v3:Int×Int×List Int) (v6:Int×List Int) (v7:Int) (v10:(Int×Int×List Int)×Unit) (j6:(Int×List Int)→Option ((Int×Int×List Int)×Int×Unit)) (j11:(Int×List Int)→Option ((Int×Int×List Int)×Int×Unit)) (v11:Int×List Int):Option ((Int×Int×List Int)×Int×Unit) :=
 bif (decide (v11.1<v3.2.1)) then
  let v12:Int:=v11.1
  loopF (sheet_Print_l3 fu a v2 v7 v10 v11 v12 j11) fu (((0:Int),v11.2))
 else
 j6 (((IntKind.i64.wrap (v6.1+(1:Int))),v11.2))
def sheet_Print_l1 (fu:Nat) (a:List (Int×Int×List Int)×List Int×List (Int×Int)×Unit) (v2:Int×Int×List Int) (v3:Int×Int×List Int) (j6:(Int×List Int)→Option ((Int×Int×List Int)×Int×Unit)) (v6:Int×List Int):Option ((Int×Int×List Int)×Int×Unit) :=
 bif (decide (v6.1<(List.length a.1:Int))) then
  let v7:Int:=v6.1
  bif ((decide ((0:Int)≤v7))&&(decide (v7<(List.length a.1:Int)))) then
  let v8:Int×Int×List Int:=(List.getD a.1 (Int.toNat v7) (0,(0,[])))
  bif ((decide ((0:Int)≤v7))&&(decide (v7<(List.length a.2.1:Int)))) then
  let v9:Int:=(List.getD a.2.1 (Int.toNat v7) 0)
  bindO (bitmap_Grown_r fu ((v8,(v9,())))) fun v10 =>
  loopF (sheet_Print_l2 fu a v2 v3 v6 v7 v10 j6) fu (((0:Int),v6.2))
  else none
  else none
 else
 some (((v2.1,(v3.2.1,v6.2)),((0:Int),())))
def sheet_Print_r (fu:Nat) (a:List (Int×Int×List Int)×List Int×List (Int×Int)×Unit):Option ((Int×Int×List Int)×Int×Unit) :=
 bindO (sheet_check_r fu ((a.1,(a.2.1,(a.2.2.1,()))))) fun v0 =>
 let v1:Int:=v0.1
 bif (decide (v1≠(0:Int))) then
  some ((((0:Int),((0:Int),([]:List (Int)))),(v1,())))
 else
 bif (decide ((0:Int)<(List.length a.1:Int))) then
 let v2:Int×Int×List Int:=(List.getD a.1 (Int.toNat (0:Int)) (0,(0,[])))
 bif (decide ((0:Int)<(List.length a.1:Int))) then
 let v3:Int×Int×List Int:=(List.getD a.1 (Int.toNat (0:Int)) (0,(0,[])))
 bif (decide ((0:Int)<(List.length a.1:Int))) then
 let v4:Int×Int×List Int:=(List.getD a.1 (Int.toNat (0:Int)) (0,(0,[])))
 bif (decide ((0:Int)<(List.length a.1:Int))) then
 let v5:Int×Int×List Int:=(List.getD a.1 (Int.toNat (0:Int)) (0,(0,[])))
 bif ((decide ((0:Int)≤(IntKind.i64.wrap (v4.1*v5.2.1))))&&(decide (((1:Int)*(IntKind.i64.wrap (v4.1*v5.2.1)))≤(281474976710656:Int)))) then
 loopF (sheet_Print_l1 fu a v2 v3) fu (((0:Int),(List.replicate (Int.toNat (IntKind.i64.wrap (v4.1*v5.2.1))) (0:Int))))
 else none
 else none
 else none
 else none
 else none
def sheet_Print_an:An:=(.n none .z (.n none (.n none .z (.n none .z (.n none (.n none .z .z) .z))) (.n none (.dr [] []) (.n none (.n none .z (.n none (.n (some ⟨[6,9,0,1,2,42,7],[0,2],[],[.reg 43 (.int .i64),.row 1 true (.int .u8) 5 0],0,[]⟩) (.n none .z (.n none .z (.n none (.n none (.n none .z (.n none (.dr [] []) (.n none .z (.n none (.n (some ⟨[43,11,10,55],[3],[],[.reg 56 (.int .i64),.row 1 true (.int .u8) 5 0],0,[]⟩) (.n none .z (.n none .z (.n none (.n none (.n none .z (.n none .z (.n none (.n (some ⟨[56,12,60],[],[],[.reg 61 (.int .i64),.row 1 true (.int .u8) 5 0],0,[]⟩) (.n none .z (.n none .z (.n (some ⟨[],[],[],[.reg 61 (.int .i64),.row 1 true (.int .u8) 5 0],0,[]⟩) (.n none (.n none .z (.n none (.dr [] []) (.n none (.dr [] []) .z))) .z) .z))) .z) .z))) .z) .z))) .z) .z)))) .z) .z))) .z) .z)) (.n none .z .z)))))
noncomputable def sheet_Print_dc:List (Nat×Ctr):=[(21,sheet_check_ctr),(22,bitmap_Grown_ctr),(23,bitmap_Is_ctr)]
def sheet_Print_ctr:Ctr:=⟨(.pair (.list (.pair (.int .i64) (.pair (.int .i64) (.list (.int .u8))))) (.pair (.list (.int .i64)) (.pair (.list (.pair (.int .i64) (.int .i64))) .unit))),(.pair (.agg (.pair (.int .i64) (.pair (.int .i64) (.list (.int .u8))))) (.pair (.int .i64) .unit)),sheet_Print_r,10⟩
theorem sheet_Print_ok:CtrOk Try.prog 10 sheet_Print_ctr:=ctr_ok (l:=sheet_Print_dc) (f:=12) (an:=sheet_Print_an) ⟨sheet_check_ok,⟨bitmap_Grown_ok,⟨bitmap_Is_ok,trivial⟩⟩⟩ fun fu x=>by kernel_rfl
def screen_Check_j1 (fu:Nat) (a:(Int×Int×Int)×Unit) (v0:Bool):Option (Int×Unit) :=
 bif v0 then
  some (((3:Int),()))
 else
 let v1:Int:=(IntKind.i64.wrap ((IntKind.i64.wrap (a.1.1*a.1.1))+(IntKind.i64.wrap (a.1.2.1*a.1.2.1))))
 let v2:Bool:=(decide (v1=(0:Int)))
 bif v2 then
  some (((1:Int),()))
 else
 let v3:Bool:=(decide ((400:Int)<v1))
 bif v3 then
  some (((2:Int),()))
 else
 some (((0:Int),()))
def screen_Check_r (fu:Nat) (a:(Int×Int×Int)×Unit):Option (Int×Unit) :=
 joinF (screen_Check_j1 fu a) fun j0 =>
 bif (decide (a.1.1<(0:Int))) then
  j0 (true)
 else
 bif (decide ((20:Int)<a.1.1)) then
  j0 (true)
 else
 bif (decide (a.1.2.1<(0:Int))) then
  j0 (true)
 else
 bif (decide ((20:Int)<a.1.2.1)) then
  j0 (true)
 else
 bif (decide (a.1.2.2<(0:Int))) then
  j0 (true)
 else
 j0 ((decide ((3:Int)<a.1.2.2)))
def screen_Check_an:An:=(.n none .z (.n none (.n (some ⟨[1],[0],[],[.reg 31 .bool],0,[]⟩) .z (.n none (.n none .z .z) .z)) (.n none (.n none .z (.n none (.n none .z (.n none (.n none .z .z) (.n none .z (.n none (.n none .z .z) .z)))) .z)) (.n none .z .z))))
noncomputable def screen_Check_dc:List (Nat×Ctr):=[]
def screen_Check_ctr:Ctr:=⟨(.pair (.agg (.pair (.int .i64) (.pair (.int .i64) (.int .i64)))) .unit),(.pair (.int .i64) .unit),screen_Check_r,16⟩
theorem screen_Check_ok:CtrOk Try.prog 16 screen_Check_ctr:=ctr_ok (l:=screen_Check_dc) (f:=12) (an:=screen_Check_an) trivial fun fu x=>by kernel_rfl
def devicelink_CheckPlate_j1 (fu:Nat) (a:(Int×Int×List Int)×Unit) (v0:Bool):Option (Int×Unit) :=
 bif v0 then
  some (((3:Int),()))
 else
 bif (decide ((List.length a.1.2.2:Int)≠(IntKind.i64.wrap (a.1.1*a.1.2.1)))) then
  some (((4:Int),()))
 else
 some (((0:Int),()))
def devicelink_CheckPlate_r (fu:Nat) (a:(Int×Int×List Int)×Unit):Option (Int×Unit) :=
 joinF (devicelink_CheckPlate_j1 fu a) fun j0 =>
 bif (decide (a.1.1<(1:Int))) then
  j0 (true)
 else
 bif (decide ((1024:Int)<a.1.1)) then
  j0 (true)
 else
 bif (decide (a.1.2.1<(1:Int))) then
  j0 (true)
 else
 j0 ((decide ((1024:Int)<a.1.2.1)))
def devicelink_CheckPlate_an:An:=(.n none .z (.n none (.n (some ⟨[1],[0],[],[.reg 20 .bool],0,[]⟩) .z (.n none (.n none .z .z) .z)) (.n none (.n none .z (.n none (.n none .z .z) .z)) (.n none .z .z))))
noncomputable def devicelink_CheckPlate_dc:List (Nat×Ctr):=[]
def devicelink_CheckPlate_ctr:Ctr:=⟨(.pair (.agg (.pair (.int .i64) (.pair (.int .i64) (.list (.int .u8))))) .unit),(.pair (.int .i64) .unit),devicelink_CheckPlate_r,37⟩
theorem devicelink_CheckPlate_ok:CtrOk Try.prog 37 devicelink_CheckPlate_ctr:=ctr_ok (l:=devicelink_CheckPlate_dc) (f:=12) (an:=devicelink_CheckPlate_an) trivial fun fu x=>by kernel_rfl
def halftone_check_r (fu:Nat) (a:(Int×Int×List Int)×(Int×Int×Int)×Unit):Option (Int×Unit) :=
 bindO (devicelink_CheckPlate_r fu ((a.1,()))) fun v0 =>
 let v1:Int:=v0.1
 bif (decide (v1≠(0:Int))) then
  some ((v1,()))
 else
 bindO (screen_Check_r fu ((a.2.1,()))) fun v2 =>
 let v3:Int:=v2.1
 some ((v3,()))
def halftone_check_an:An:=(.n none .z (.n none (.n none .z (.n none .z (.n none (.n none .z .z) .z))) (.n none .z .z)))
noncomputable def halftone_check_dc:List (Nat×Ctr):=[(16,screen_Check_ctr),(37,devicelink_CheckPlate_ctr)]
def halftone_check_ctr:Ctr:=⟨(.pair (.ptr (.pair (.int .i64) (.pair (.int .i64) (.list (.int .u8))))) (.pair (.agg (.pair (.int .i64) (.pair (.int .i64) (.int .i64)))) .unit)),(.pair (.int .i64) .unit),halftone_check_r,28⟩
theorem halftone_check_ok:CtrOk Try.prog 28 halftone_check_ctr:=ctr_ok (l:=halftone_check_dc) (f:=12) (an:=halftone_check_an) ⟨screen_Check_ok,⟨devicelink_CheckPlate_ok,trivial⟩⟩ fun fu x=>by kernel_rfl
def top_sFlat_l1 (fu:Nat) (a:Int×Int×Int×Unit) (j0:(Int×List Int)→Option ((Int×Int×List Int)×Unit)) (v0:Int×List Int):Option ((Int×Int×List Int)×Unit) :=
 bif (decide (v0.1<(List.length (List.replicate (Int.toNat (IntKind.i64.wrap (a.1*a.2.1))) (0:Int)):Int))) then
  let v1:Int:=v0.1
  bif ((decide ((0:Int)≤v1))&&(decide (v1<(List.length v0.2:Int)))) then
  j0 (((IntKind.i64.wrap (v0.1+(1:Int))),(List.set v0.2 (Int.toNat v1) a.2.2.1)))
  else none
 else
 some (((a.1,(a.2.1,v0.2)),()))
def top_sFlat_r (fu:Nat) (a:Int×Int×Int×Unit):Option ((Int×Int×List Int)×Unit) :=
 bif ((decide ((0:Int)≤(IntKind.i64.wrap (a.1*a.2.1))))&&(decide (((1:Int)*(IntKind.i64.wrap (a.1*a.2.1)))≤(281474976710656:Int)))) then
 loopF (top_sFlat_l1 fu a) fu (((0:Int),(List.replicate (Int.toNat (IntKind.i64.wrap (a.1*a.2.1))) (0:Int))))
 else none
def top_sFlat_an:An:=(.n none .z (.n none .z (.n none (.n none .z (.n none (.n (some ⟨[6,7,2,18],[0,2],[],[.reg 19 (.int .i64),.row 1 true (.int .u8) 5 0],0,[]⟩) (.n none .z (.n none .z (.n none (.n none (.n none .z .z) .z) .z))) .z) .z)) (.n none .z .z))))
noncomputable def top_sFlat_dc:List (Nat×Ctr):=[]
def top_sFlat_ctr:Ctr:=⟨(.pair (.int .i64) (.pair (.int .i64) (.pair (.int .u8) .unit))),(.pair (.agg (.pair (.int .i64) (.pair (.int .i64) (.list (.int .u8))))) .unit),top_sFlat_r,9⟩
theorem top_sFlat_ok:CtrOk Try.prog 9 top_sFlat_ctr:=ctr_ok (l:=top_sFlat_dc) (f:=12) (an:=top_sFlat_an) trivial fun fu x=>by kernel_rfl
def screen_Dots_j1 (fu:Nat) (a:(Int×Int×Int)×Int×Unit) (v2:Bool):Option (Int×Int×Unit) :=
 bif v2 then
  some (((0:Int),((3:Int),())))
 else
 bindO (curve_Nearest_r fu (((IntKind.i64.wrap (a.2.1*(IntKind.i64.wrap ((IntKind.i64.wrap (a.1.1*a.1.1))+(IntKind.i64.wrap (a.1.2.1*a.1.2.1)))))),((255:Int),())))) fun v3 =>
 let v4:Int:=v3.1
 some ((v4,((0:Int),())))
def screen_Dots_r (fu:Nat) (a:(Int×Int×Int)×Int×Unit):Option (Int×Int×Unit) :=
 bindO (screen_Check_r fu ((a.1,()))) fun v0 =>
 let v1:Int:=v0.1
 bif (decide (v1≠(0:Int))) then
  some (((0:Int),(v1,())))
 else
 joinF (screen_Dots_j1 fu a) fun j2 =>
 bif (decide (a.2.1<(0:Int))) then
  j2 (true)
 else
 j2 ((decide ((255:Int)<a.2.1)))
def screen_Dots_an:An:=(.n none .z (.n none (.n none .z (.n none .z (.n none (.n none .z .z) .z))) (.n none (.n (some ⟨[1,2],[0],[],[.reg 17 .bool],0,[]⟩) .z (.n none (.n none .z .z) .z)) (.n none .z .z))))
noncomputable def screen_Dots_dc:List (Nat×Ctr):=[(16,screen_Check_ctr),(20,curve_Nearest_ctr)]
def screen_Dots_ctr:Ctr:=⟨(.pair (.agg (.pair (.int .i64) (.pair (.int .i64) (.int .i64)))) (.pair (.int .i64) .unit)),(.pair (.int .i64) (.pair (.int .i64) .unit)),screen_Dots_r,7⟩
theorem screen_Dots_ok:CtrOk Try.prog 7 screen_Dots_ctr:=ctr_ok (l:=screen_Dots_dc) (f:=12) (an:=screen_Dots_an) ⟨screen_Check_ok,⟨curve_Nearest_ok,trivial⟩⟩ fun fu x=>by kernel_rfl
def screen_Common_r (fu:Nat) (a:(Int×Int×Int)×(Int×Int×Int)×Unit):Option ((Int×Int×Int)×Int×Unit) :=
 bindO (screen_Check_r fu ((a.1,()))) fun v0 =>
 let v1:Int:=v0.1
 bif (decide (v1≠(0:Int))) then
  some ((((0:Int),((0:Int),(0:Int))),(v1,())))
 else
 bindO (screen_Check_r fu ((a.2.1,()))) fun v2 =>
 let v3:Int:=v2.1
 bif (decide (v3≠(0:Int))) then
  some ((((0:Int),((0:Int),(0:Int))),(v3,())))
 else
 bindO (screen_Of_r fu ((a.1,()))) fun v4 =>
 bindO (screen_Of_r fu ((a.2.1,()))) fun v5 =>
 bindO (screen_bezout_r fu ((v4.1.1,(v5.1.1,())))) fun v6 =>
 let v7:Int:=v6.1
 let v8:Int:=v6.2.1
 let v9:Int:=v6.2.2.1
 bindO (screen_bezout_r fu ((v4.1.2.2,(v5.1.2.2,())))) fun v10 =>
 let v11:Int:=v10.1
 let v12:Int:=v10.2.1
 let v13:Int:=v10.2.2.1
 bif (decide (v11≠(0:Int))) then
 let v14:Int:=(IntKind.i64.wrap ((IntKind.i64.wrap (Int.tdiv v4.1.2.2 v11))*v5.1.2.2))
 bif (decide (v4.1.2.2≠(0:Int))) then
 bindO (screen_mod_r fu (((IntKind.i64.wrap ((IntKind.i64.wrap (Int.tdiv v14 v4.1.2.2))*v4.1.2.1)),(v4.1.1,())))) fun v15 =>
 bif (decide (v5.1.2.2≠(0:Int))) then
 bindO (screen_mod_r fu (((IntKind.i64.wrap ((IntKind.i64.wrap (Int.tdiv v14 v5.1.2.2))*v5.1.2.1)),(v5.1.1,())))) fun v16 =>
 let v17:Int:=v15.1
 let v18:Int:=v16.1
 bindO (screen_mod_r fu (((IntKind.i64.wrap (v17-v18)),(v7,())))) fun v19 =>
 bindO (screen_bezout_r fu ((v7,(v19.1,())))) fun v20 =>
 let v21:Int:=v20.1
 let v22:Int:=v20.2.1
 let v23:Int:=v20.2.2.1
 bif (decide (v21≠(0:Int))) then
 let v24:Int:=(IntKind.i64.wrap (Int.tdiv v7 v21))
 bif (decide (v7≠(0:Int))) then
 let v25:Int:=(IntKind.i64.wrap ((IntKind.i64.wrap (Int.tdiv v4.1.1 v7))*v5.1.1))
 bindO (screen_mod_r fu (((IntKind.i64.wrap (v17*v24)),(v4.1.1,())))) fun v26 =>
 bindO (screen_mod_r fu (((IntKind.i64.wrap (v18*v24)),(v5.1.1,())))) fun v27 =>
 let v28:Int:=v26.1
 let v29:Int:=v27.1
 bif (decide (v7≠(0:Int))) then
 bif (decide (v7≠(0:Int))) then
 bindO (screen_mod_r fu (((IntKind.i64.wrap ((IntKind.i64.wrap (Int.tdiv (IntKind.i64.wrap (v29-v28)) v7))*v8)),((IntKind.i64.wrap (Int.tdiv v5.1.1 v7)),())))) fun v30 =>
 let v31:Int:=v30.1
 bindO (screen_mod_r fu (((IntKind.i64.wrap (v28+(IntKind.i64.wrap (v4.1.1*v31)))),(v25,())))) fun v32 =>
 some (((v25,(v32.1,(IntKind.i64.wrap (v14*v24)))),((0:Int),())))
 else none
 else none
 else none
 else none
 else none
 else none
 else none
def screen_Common_an:An:=(.n none .z (.n none (.n none .z (.n none .z (.n none (.n none .z .z) .z))) (.n none (.n none .z (.n none .z (.n none (.n none .z .z) .z))) (.n none (.dr [] []) (.n none .z (.n none .z (.n none (.dr [] []) (.n none (.dr [] []) (.n none .z (.n none .z (.n none (.dr [] []) (.n none (.dr [] []) (.n none (.dr [] []) (.n none .z .z))))))))))))))
noncomputable def screen_Common_dc:List (Nat×Ctr):=[(16,screen_Check_ctr),(17,screen_Of_ctr),(18,screen_bezout_ctr),(19,screen_mod_ctr)]
def screen_Common_ctr:Ctr:=⟨(.pair (.agg (.pair (.int .i64) (.pair (.int .i64) (.int .i64)))) (.pair (.agg (.pair (.int .i64) (.pair (.int .i64) (.int .i64)))) .unit)),(.pair (.agg (.pair (.int .i64) (.pair (.int .i64) (.int .i64)))) (.pair (.int .i64) .unit)),screen_Common_r,6⟩
theorem screen_Common_ok:CtrOk Try.prog 6 screen_Common_ctr:=ctr_ok (l:=screen_Common_dc) (f:=12) (an:=screen_Common_an) ⟨screen_Check_ok,⟨screen_Of_ok,⟨screen_bezout_ok,⟨screen_mod_ok,trivial⟩⟩⟩⟩ fun fu x=>by kernel_rfl
def screen_Area_r (fu:Nat) (a:(Int×Int×Int)×Unit):Option (Int×Int×Unit) :=
 bindO (screen_Check_r fu ((a.1,()))) fun v0 =>
 let v1:Int:=v0.1
 bif (decide (v1≠(0:Int))) then
  some (((0:Int),(v1,())))
 else
 let v2:Int:=(IntKind.i64.wrap ((IntKind.i64.wrap (a.1.1*a.1.1))+(IntKind.i64.wrap (a.1.2.1*a.1.2.1))))
 some ((v2,((0:Int),())))
def screen_Area_an:An:=(.n none .z (.n none (.n none .z (.n none .z (.n none (.n none .z .z) .z))) (.n none .z .z)))
noncomputable def screen_Area_dc:List (Nat×Ctr):=[(16,screen_Check_ctr)]
def screen_Area_ctr:Ctr:=⟨(.pair (.agg (.pair (.int .i64) (.pair (.int .i64) (.int .i64)))) .unit),(.pair (.int .i64) (.pair (.int .i64) .unit)),screen_Area_r,5⟩
theorem screen_Area_ok:CtrOk Try.prog 5 screen_Area_ctr:=ctr_ok (l:=screen_Area_dc) (f:=12) (an:=screen_Area_an) ⟨screen_Check_ok,trivial⟩ fun fu x=>by kernel_rfl
def math_bits_OnesCount8_r (fu:Nat) (a:Int×Unit):Option (Int×Unit) :=
 bif ((decide ((0:Int)≤a.1))&&(decide (a.1<(List.length ([0,1,1,2,1,2,2,3,1,2,2,3,2,3,3,4,1,2,2,3,2,3,3,4,2,3,3,4,3,4,4,5,1,2,2,3,2,3,3,4,2,3,3,4,3,4,4,5,2,3,3,4,3,4,4,5,3,4,4,5,4,5,5,6,1,2,2,3,2,3,3,4,2,3,3,4,3,4,4,5,2,3,3,4,3,4,4,5,3,4,4,5,4,5,5,6,2,3,3,4,3,4,4,5,3,4,4,5,4,5,5,6,3,4,4,5,4,5,5,6,4,5,5,6,5,6,6,7,1,2,2,3,2,3,3,4,2,3,3,4,3,4,4,5,2,3,3,4,3,4,4,5,3,4,4,5,4,5,5,6,2,3,3,4,3,4,4,5,3,4,4,5,4,5,5,6,3,4,4,5,4,5,5,6,4,5,5,6,5,6,6,7,2,3,3,4,3,4,4,5,3,4,4,5,4,5,5,6,3,4,4,5,4,5,5,6,4,5,5,6,5,6,6,7,3,4,4,5,4,5,5,6,4,5,5,6,5,6,6,7,4,5,5,6,5,6,6,7,5,6,6,7,6,7,7,8]:List UInt8):Int)))) then
 let v0:Int:=(IntKind.i64.wrap ((List.getD ([0,1,1,2,1,2,2,3,1,2,2,3,2,3,3,4,1,2,2,3,2,3,3,4,2,3,3,4,3,4,4,5,1,2,2,3,2,3,3,4,2,3,3,4,3,4,4,5,2,3,3,4,3,4,4,5,3,4,4,5,4,5,5,6,1,2,2,3,2,3,3,4,2,3,3,4,3,4,4,5,2,3,3,4,3,4,4,5,3,4,4,5,4,5,5,6,2,3,3,4,3,4,4,5,3,4,4,5,4,5,5,6,3,4,4,5,4,5,5,6,4,5,5,6,5,6,6,7,1,2,2,3,2,3,3,4,2,3,3,4,3,4,4,5,2,3,3,4,3,4,4,5,3,4,4,5,4,5,5,6,2,3,3,4,3,4,4,5,3,4,4,5,4,5,5,6,3,4,4,5,4,5,5,6,4,5,5,6,5,6,6,7,2,3,3,4,3,4,4,5,3,4,4,5,4,5,5,6,3,4,4,5,4,5,5,6,4,5,5,6,5,6,6,7,3,4,4,5,4,5,5,6,4,5,5,6,5,6,6,7,4,5,5,6,5,6,6,7,5,6,6,7,6,7,7,8]:List UInt8) (Int.toNat a.1) 0).toNat:Int))
 some ((v0,()))
 else none
def math_bits_OnesCount8_an:An:=(.n none .z (.n none .z .z))
noncomputable def math_bits_OnesCount8_dc:List (Nat×Ctr):=[]
def math_bits_OnesCount8_ctr:Ctr:=⟨(.pair (.int .u8) .unit),(.pair (.int .i64) .unit),math_bits_OnesCount8_r,32⟩
theorem math_bits_OnesCount8_ok:CtrOk Try.prog 32 math_bits_OnesCount8_ctr:=ctr_ok (l:=math_bits_OnesCount8_dc) (f:=12) (an:=math_bits_OnesCount8_an) trivial fun fu x=>by kernel_rfl
def bitmap_Count_l1 (fu:Nat) (a:(Int×Int×List Int)×Unit) (j2:(Int×Int)→Option (Int×Int×Unit)) (v2:Int×Int):Option (Int×Int×Unit) :=
 bif (decide (v2.2<(List.length a.1.2.2:Int))) then
  bif ((decide ((0:Int)≤v2.2))&&(decide (v2.2<(List.length a.1.2.2:Int)))) then
  let v3:Int:=(List.getD a.1.2.2 (Int.toNat v2.2) 0)
  bindO (math_bits_OnesCount8_r fu ((v3,()))) fun v4 =>
  let v5:Int:=(IntKind.i64.wrap (v2.1+v4.1))
  j2 ((v5,(IntKind.i64.wrap (v2.2+(1:Int)))))
  else none
 else
 let v3:Int:=v2.1
 some ((v3,((0:Int),())))
def bitmap_Count_r (fu:Nat) (a:(Int×Int×List Int)×Unit):Option (Int×Int×Unit) :=
 bindO (bitmap_Check_r fu ((a.1,()))) fun v0 =>
 let v1:Int:=v0.1
 bif (decide (v1≠(0:Int))) then
  some (((0:Int),(v1,())))
 else
 loopF (bitmap_Count_l1 fu a) fu (((0:Int),(0:Int)))
def bitmap_Count_an:An:=(.n none .z (.n none (.n none .z (.n none .z (.n none (.n none .z .z) .z))) (.n none .z (.n none (.n none .z (.n none (.n (some ⟨[14,15,2,3],[0],[],[.reg 5 (.int .i64),.reg 16 (.int .i64)],0,[]⟩) (.n none .z (.n none .z (.n none (.n none (.n none .z .z) .z) .z))) .z) .z)) (.n none .z .z)))))
noncomputable def bitmap_Count_dc:List (Nat×Ctr):=[(31,bitmap_Check_ctr),(32,math_bits_OnesCount8_ctr)]
def bitmap_Count_ctr:Ctr:=⟨(.pair (.agg (.pair (.int .i64) (.pair (.int .i64) (.list (.int .u8))))) .unit),(.pair (.int .i64) (.pair (.int .i64) .unit)),bitmap_Count_r,15⟩
theorem bitmap_Count_ok:CtrOk Try.prog 15 bitmap_Count_ctr:=ctr_ok (l:=bitmap_Count_dc) (f:=12) (an:=bitmap_Count_an) ⟨bitmap_Check_ok,⟨math_bits_OnesCount8_ok,trivial⟩⟩ fun fu x=>by kernel_rfl
end
end Go.Proofs.Ytljebnobajmjnaa
/- Plain facts for residual programs. No program in sight. -/
namespace Go.Proofs.Ytljebnobajmjnaa
open Go Go.RowKit
theorem loopF_spec {α β:Type} {f:(α→Option β)→α→Option β} (μ:α→Nat) (I:α→Prop) (S:α→Option β) (h:∀ j x,I x→(∀ x',I x'→μ x'<μ x→j x'=S x')→f j x=S x):∀ (fu:Nat) (x:α),I x→μ x<fu→loopF f fu x=S x
 | 0,_,_,h0=>absurd h0 (Nat.not_lt_zero _)
 | fu+1,x,hI,hm=>by
  rw [loopF];exact h _ x hI fun x' h1 h2=>loopF_spec μ I S h fu x' h1 (by omega)
theorem bif_pos {α:Type} {p:Prop} [Decidable p] {a b:α} (h:p):(bif decide p then a else b)=a:=by rw [decide_eq_true h];rfl
theorem bif_neg {α:Type} {p:Prop} [Decidable p] {a b:α} (h:¬ p):(bif decide p then a else b)=b:=by rw [decide_eq_false h];rfl
theorem bif_and {α:Type} {p q:Prop} [Decidable p] [Decidable q] {a b:α} (h:p) (k:q):(bif decide p&&decide q then a else b)=a:=by rw [decide_eq_true h,decide_eq_true k];rfl
theorem joinF_eq {α β:Type} (J:α→Option β) (b:(α→Option β)→Option β):joinF J b=b J:=rfl
theorem bindO_some {α β:Type} (x:α) (k:α→Option β):bindO (some x) k=k x:=rfl
def FU:Nat:=18446744073709551616
def allFrom (p:Nat→Bool) (n i:Nat):Bool:=(List.range' i (n-i)).all p
theorem allFrom_lt {p:Nat→Bool} {n i:Nat} (h:i<n):allFrom p n i=(p i&&allFrom p n (i+1)):=by
 unfold allFrom;rw [show n-i=(n-(i+1))+1 by omega,List.range'_succ,List.all_cons]
theorem allFrom_ge {p:Nat→Bool} {n i:Nat} (h:n≤i):allFrom p n i=true:=by
 unfold allFrom;rw [show n-i=0 by omega];rfl
theorem allFrom_zero (p:Nat→Bool) (n:Nat):allFrom p n 0=(List.range n).all p:=by
 unfold allFrom;rw [Nat.sub_zero,List.range_eq_range']
end Go.Proofs.Ytljebnobajmjnaa
/- Plain facts on whole numbers: rounding,floor division. No program in sight. -/
namespace Go.Proofs.Ytljebnobajmjnaa

def rnd (n d:Int):Int:=(2*n+d) / (2*d)

theorem div_uniq {a b q r:Int} (hb:0<b) (h:r+b*q=a) (h0:0≤r) (h1:r<b):a / b=q :=
 ((Int.ediv_emod_unique hb).2 ⟨h,h0,h1⟩).1

theorem tdiv_neg {a b:Int} (hb:0<b) (h:a.tmod b<0):a.tdiv b-1=a / b:=by
 have h1:=Int.tmod_add_mul_tdiv a b
 have h2:-b<a.tmod b:=by
  have:=Int.lt_tmod_of_pos a hb;omega
 refine (div_uniq (r:=a.tmod b+b) hb ?_ (by omega) (by omega)).symm;rw [Int.mul_sub];omega

theorem tdiv_pos {a b:Int} (hb:0<b) (h:0≤a.tmod b):a.tdiv b=a / b:=by
 have h1:=Int.tmod_add_mul_tdiv a b;have h2:a.tmod b<b:=Int.tmod_lt_of_pos a hb;exact (div_uniq (r:=a.tmod b) hb (by omega) (by omega) (by omega)).symm

theorem tdiv_abs {n m:Int} (d:Int) (h1:-m≤n) (h2:n≤m):-m≤n.tdiv d∧n.tdiv d≤m:=by
 have:=Int.natAbs_tdiv_le_natAbs n d;omega

end Go.Proofs.Ytljebnobajmjnaa
/- Rewriting of residual programs by facts of arithmetic. No program in sight. -/
namespace Go.Proofs.Ytljebnobajmjnaa
open Go Go.RowKit
theorem s_pos {p:Prop} [Decidable p] (h:p):decide p=true:=decide_eq_true h
theorem s_neg {p:Prop} [Decidable p] (h:¬ p):decide p=false:=decide_eq_false h
theorem s_wr {x:Int} (h0:-9223372036854775808≤x) (h1:x≤9223372036854775807):IntKind.i64.wrap x=x:=wr64 h0 h1
theorem s_td {a b:Int} (h:0≤a):Int.tdiv a b=a / b:=Int.tdiv_eq_ediv_of_nonneg h
theorem s_tm {a b:Int} (h:0≤a):Int.tmod a b=a % b:=Int.tmod_eq_emod_of_nonneg h
def firstE (E:Nat→Int):Nat→Nat→Int
 | 0,_=>0
 | n+1,i=>if E i=0 then firstE E n (i+1) else E i
theorem firstE_step {E:Nat→Int} {i m:Nat} (hi:i<m):firstE E (m-i) i=if E i=0 then firstE E (m-(i+1)) (i+1) else E i:=by
 rw [show m-i=(m-(i+1))+1 by omega,firstE]
def tabL {α:Type} (n:Nat) (G:Int→α):List α:=(List.range n).map fun i:Nat=>G (i:Int)
section
variable {α:Type} {n:Nat} {G G':Int→α}
theorem tabL_length (n:Nat) (G:Int→α):(tabL n G).length=n:=by rw [tabL,List.length_map,List.length_range]
theorem tabL_getElem {q:Nat} (h:q<(tabL n G).length):(tabL n G)[q]=G q:=by simp only [tabL,List.getElem_map,List.getElem_range]
theorem tabL_getD {d:α} {i:Int} (h0:0≤i) (h1:i<n):(tabL n G).getD i.toNat d=G i:=by
 rw [List.getD_eq_getElem?_getD,List.getElem?_eq_getElem (by rw [tabL_length];omega),Option.getD_some,tabL_getElem,Int.toNat_of_nonneg h0]
theorem tabL_congr (h:∀ i:Int,0≤i→i<(n:Int)→G i=G' i):tabL n G=tabL n G':=List.map_congr_left fun i hi=>h i (by omega) (by have:=List.mem_range.1 hi;omega)
theorem tabL_set {k:Int} {v:α} (h0:0≤k) (hk:G' k=v) (h:∀ i:Int,0≤i→i<(n:Int)→i≠k→G i=G' i):(tabL n G).set k.toNat v=tabL n G':=by
 refine List.ext_getElem (by rw [List.length_set,tabL_length,tabL_length]) fun q g1 g2=>?_
 rw [List.getElem_set,tabL_getElem,tabL_getElem];rw [tabL_length] at g2;split
 ·rename_i e;rw [←hk,←e,Int.toNat_of_nonneg h0]
 ·exact h q (by omega) (by omega) (by omega)
theorem tabL_rep {d:α} (h:∀ i:Int,0≤i→i<(n:Int)→G i=d):tabL n G=List.replicate n d:=by
 refine List.ext_getElem (by rw [tabL_length,List.length_replicate]) fun q g1 g2=>?_
 rw [tabL_getElem,List.getElem_replicate];rw [tabL_length] at g1;exact h q (by omega) (by omega)
end
end Go.Proofs.Ytljebnobajmjnaa
/- Loops by their first error,by what is found,by a postcondition. No program in sight. -/
namespace Go.Proofs.Ytljebnobajmjnaa
open Go Go.RowKit
set_option linter.unusedSimpArgs false
set_option linter.unusedSectionVars false
set_option linter.unusedVariables false
theorem postLoop {X β:Type} {f:(X→Option β)→X→Option β} (μ:X→Nat) (I:X→Prop) (Q:Option β→Prop)
  (h:∀ j x,I x→(∃ x',I x'∧μ x'<μ x∧f j x=j x')∨Q (f j x)):∀ (fu:Nat) (x:X),I x→μ x<fu→Q (loopF f fu x)
 | 0,_,_,h0=>absurd h0 (Nat.not_lt_zero _)
 | fu+1,x,hI,hm=>by
  rw [loopF];rcases h (loopF f fu) x hI with ⟨x',h1,h2,h3⟩ | h3
  ·rw [h3];exact postLoop μ I Q h fu x' h1 (by omega)
  ·exact h3
section
variable {β:Type} {f:(Int→Option β)→Int→Option β} {n fu:Nat} (hn:n<fu)
include hn
end
theorem firstE_all {E:Nat→Int}:∀ (m i0:Nat),(∀ k,i0≤k→k<i0+m→E k=0)→firstE E m i0=0
 | 0,_,_=>rfl
 | m+1,i0,h=>by
  rw [firstE,if_pos (h i0 (Nat.le_refl _) (by omega))];exact firstE_all m (i0+1) fun k g1 g2=>h k (by omega) (by omega)
theorem errGen {X β:Type} {f:(X→Option β)→X→Option β} {n:Nat} {st:Nat→X} {E:Nat→Int} {out:Int→Option β} {fin:Option β}
  (step:∀ j (i:Nat),i<n→(∀ k,k<i→E k=0)→f j (st i)=if E i=0 then j (st (i+1)) else out (E i)) (last:(∀ k,k<n→E k=0)→∀ j,f j (st n)=fin) :
  ∀ (fu i:Nat),i≤n→n-i<fu→(∀ k,k<i→E k=0)→loopF f fu (st i)=if firstE E (n-i) i=0 then fin else out (firstE E (n-i) i)
 | 0,i,_,h,_=>by omega
 | fu+1,i,h0,h1,hE=>by
  rw [loopF];by_cases hi:i<n
  ·rw [step _ i hi hE,firstE_step hi];by_cases e:E i=0
   ·rw [if_pos e];simp only [if_pos e]
    exact errGen step last fu (i+1) (by omega) (by omega) fun k hk=>by
     by_cases q:k=i
     ·rw [q];exact e
     ·exact hE k (by omega)
   ·rw [if_neg e];simp only [if_neg e]
  ·have e:i=n:=by omega
   subst e;rw [last hE,Nat.sub_self];rfl
theorem tabL_getDN {α:Type} {n i:Nat} {G:Int→α} {d:α} (h:i<n):(tabL n G).getD i d=G i:=by
 have:=tabL_getD (n:=n) (G:=G) (d:=d) (i:=(i:Int)) (by omega) (by omega);rw [Int.toNat_natCast] at this;exact this
end Go.Proofs.Ytljebnobajmjnaa
/- Bits of bytes,bitmaps as lists of bytes. No program in sight. -/
namespace Go.Proofs.Ytljebnobajmjnaa
open Go Go.RowKit
set_option linter.unusedSimpArgs false
set_option linter.unusedSectionVars false
set_option linter.unusedVariables false

def bitAt (v:Int) (j:Nat):Bool:=v / 2 ^ (7-j) % 2==1
theorem fin_byte {p:Int→Prop} (h:∀ v:Fin 256,p (v.val:Int)) {v:Int} (h0:0≤v) (h1:v≤255):p v:=by
 have:=h ⟨v.toNat,by omega⟩;rwa [show ((⟨v.toNat,by omega⟩:Fin 256).val:Int)=v from Int.toNat_of_nonneg h0] at this
theorem and_mask {v:Int} (h0:0≤v) (h1:v≤255) {k:Nat} (hk:k<8):bits .and .u8 v (128 / 2 ^ k)=(if bitAt v k=true then 128 / 2 ^ k else 0) :=
 fin_byte (p:=fun v=>∀ k:Fin 8,bits .and .u8 v (128 / 2 ^ k.val)=(if bitAt v k.val=true then 128 / 2 ^ k.val else 0)) (by decide +kernel) h0 h1 ⟨k,hk⟩
theorem mask_ne {k:Nat} (hk:k<8):(128:Int) / 2 ^ k≠0:=(show ∀ k:Fin 8,(128:Int) / 2 ^ k.val≠0 by decide) ⟨k,hk⟩
def lowOk (v:Int) (u:Nat):Bool:=v % 2 ^ u==0
theorem and_low {v:Int} (h0:0≤v) (h1:v≤255) {u:Nat} (hu:u<8):bits .and .u8 v (2 ^ u-1)=v % 2 ^ u :=
 fin_byte (p:=fun v=>∀ u:Fin 8,bits .and .u8 v (2 ^ u.val-1)=v % 2 ^ u.val) (by decide +kernel) h0 h1 ⟨u,hu⟩
theorem low_bits {v:Int} (h0:0≤v) (h1:v≤255) {u:Nat} (hu:u<8):lowOk v u=true↔∀ k,k<8→8-u≤k→bitAt v k=false:=by
 have h:=fin_byte (p:=fun v=>∀ u:Fin 8,lowOk v u.val=true↔∀ k:Fin 8,8-u.val≤k.val→bitAt v k.val=false) (by decide +kernel) h0 h1 ⟨u,hu⟩;exact h.trans ⟨fun g k hk hu=>g ⟨k,hk⟩ hu,fun g k hu=>g k.val k.isLt hu⟩
theorem wrap_pow {u:Nat} (hu:u<8):IntKind.wrap .u8 (IntKind.wrap .u8 (1*2 ^ u)-1)=2 ^ u-1:=(show ∀ u:Fin 8,IntKind.wrap .u8 (IntKind.wrap .u8 (1*2 ^ u.val)-1)=2 ^ u.val-1 by decide +kernel) ⟨u,hu⟩
def Bytes (ds:List Int):Prop:=∀ d ∈ ds,0≤d∧d≤255
def strideN (w:Nat):Nat:=(w+7) / 8
def tailOk (w h:Nat) (ds:List Int):Bool:=(List.range h).all fun y=>lowOk (ds.getD (y*strideN w+strideN w-1) 0) (8*strideN w-w)
def bitsE (w h:Int) (ds:List Int):Int:=if 1≤w∧w≤1024∧1≤h∧h≤1024 then (if ds.length=strideN w.toNat*h.toNat then (if tailOk w.toNat h.toNat ds=true then 0 else 4) else 4) else 3
end Go.Proofs.Ytljebnobajmjnaa
/- Strips: what the small functions compute. -/
namespace Go.Proofs.Ytljebnobajmjnaa
open Go Go.RowKit
set_option linter.unusedSimpArgs false
set_option linter.unusedSectionVars false
set_option linter.unusedVariables false

def strd (w:Int):Int:=(w+7) / 8
theorem stride_r (fu:Nat) {w:Int} (h0:0≤w) (h1:w≤1000000):bitmap_stride_r fu (w,())=some (strd w,()):=by
 unfold bitmap_stride_r strd;simp only;rw [wr64 (x:=w+7) (by omega) (by omega),Int.tdiv_eq_ediv_of_nonneg (by omega),wr64 (x:=(w+7) / 8) (by omega) (by omega)]
theorem strd_N {w:Int} (h0:0≤w):strd w=(strideN w.toNat:Int):=by
 unfold strd strideN;omega
def pixB (w h:Int) (ds:List Int) (x y:Int):Bool:=decide (0≤x∧x<w∧0≤y∧y<h)&&bitAt (ds.getD (y*strd w+x / 8).toNat 0) (x % 8).toNat
theorem at_ok {w h:Int} (hw:0≤w) {x y:Int} {l:Nat} (hx0:0≤x) (hx1:x<w) (hy0:0≤y) (hy1:y<h) (hl:(l:Int)=strd w*h):0≤y*strd w∧0≤y*strd w+x / 8∧y*strd w+x / 8<l:=by
 have h1:x / 8<strd w:=by unfold strd;omega
 have h2:y*strd w≤(h-1)*strd w:=Int.mul_le_mul_of_nonneg_right (by omega) (by unfold strd;omega);have h3:(h-1)*strd w=strd w*h-strd w:=by rw [Int.sub_mul,Int.one_mul,Int.mul_comm]
 have h4:0≤y*strd w:=Int.mul_nonneg hy0 (by unfold strd;omega);omega
theorem Bytes.at {ds:List Int} (h:Bytes ds) (i:Nat):0≤ds.getD i 0∧ds.getD i 0≤255:=by
 rw [List.getD_eq_getElem?_getD]
 cases e:ds[i]? with
 | none=>simp
 | some d=>exact h d (List.mem_of_getElem? e)
theorem is_r (fu:Nat) {w h:Int} {ds:List Int} (hw0:0≤w) (hw1:w≤1024) (hh:h≤1024) (hl:(ds.length:Int)=strd w*h) (hb:Bytes ds) (x y:Int):bitmap_Is_r fu ((w,(h,ds)),(x,(y,())))=some (pixB w h ds x y,()):=by
 unfold bitmap_Is_r pixB;simp only;by_cases h1:0≤x
 ·rw [bif_pos h1];by_cases h2:x<w
  ·rw [bif_pos h2];by_cases h3:0≤y
   ·rw [bif_pos h3];by_cases h4:y<h
    ·rw [bif_pos h4,stride_r fu hw0 (by omega)];simp only [bindO_some];obtain ⟨g0,g1,g2⟩:=at_ok hw0 h1 h2 h3 h4 hl
     have hs:strd w*h≤128*1024:=by
      have a1:strd w≤128:=by unfold strd;omega
      have a2:0≤strd w:=by unfold strd;omega
      have:=Int.mul_le_mul a1 hh (by omega:0≤h) (by omega:(0:Int)≤128);omega
     rw [Int.tdiv_eq_ediv_of_nonneg h1,Int.tmod_eq_emod_of_nonneg h1,wr64 (x:=x / 8) (by omega) (by omega),wr64 (x:=y*strd w) (by omega) (by omega),wr64 (x:=y*strd w+x / 8) (by omega) (by omega)];rw [bif_and g1 g2,bif_and (by omega) (by omega),and_mask (hb.at _).1 (hb.at _).2 (by omega)];rw [decide_eq_true (show 0≤x∧x<w∧0≤y∧y<h from ⟨h1,h2,h3,h4⟩),Bool.true_and];have:=mask_ne (k:=(x % 8).toNat) (by omega)
     cases bitAt (ds.getD (y*strd w+x / 8).toNat 0) (x % 8).toNat with
     | true=>rw [if_pos rfl,decide_eq_true this]
     | false=>rw [if_neg (by simp)];rfl
    ·rw [bif_neg h4,decide_eq_false (by omega)];rfl
   ·rw [bif_neg h3,decide_eq_false (by omega)];rfl
  ·rw [bif_neg h2,decide_eq_false (by omega)];rfl
 ·rw [bif_neg h1,decide_eq_false (by omega)];rfl
end Go.Proofs.Ytljebnobajmjnaa
/- Pictures of pixels. No program in sight. -/
set_option maxRecDepth 100000
namespace Go.Proofs.Ytljebnobajmjnaa
open Go Go.RowKit
set_option linter.unusedSimpArgs false
set_option linter.unusedSectionVars false
set_option linter.unusedVariables false

def byteB (b0 b1 b2 b3 b4 b5 b6 b7:Bool):Int:=(bif b0 then 128 else 0)+(bif b1 then 64 else 0)+(bif b2 then 32 else 0)+(bif b3 then 16 else 0)+(bif b4 then 8 else 0)+(bif b5 then 4 else 0)+(bif b6 then 2 else 0)+(bif b7 then 1 else 0)
def byteOf (p:Nat→Bool):Int:=byteB (p 0) (p 1) (p 2) (p 3) (p 4) (p 5) (p 6) (p 7)
theorem byteOf_congr {p q:Nat→Bool} (h:∀ k,k<8→p k=q k):byteOf p=byteOf q:=by
 unfold byteOf;rw [h 0 (by omega),h 1 (by omega),h 2 (by omega),h 3 (by omega),h 4 (by omega),h 5 (by omega),h 6 (by omega),h 7 (by omega)]
theorem byteOf_bd (p:Nat→Bool):0≤byteOf p∧byteOf p≤255:=by
 unfold byteOf;generalize p 0=a0;generalize p 1=a1;generalize p 2=a2;generalize p 3=a3;generalize p 4=a4;generalize p 5=a5;generalize p 6=a6;generalize p 7=a7
 revert a0 a1 a2 a3 a4 a5 a6 a7
 decide +kernel
theorem bool_fun {p:Nat→Bool} {a0 a1 a2 a3 a4 a5 a6 a7:Bool} (h0:p 0=a0) (h1:p 1=a1) (h2:p 2=a2) (h3:p 3=a3) (h4:p 4=a4) (h5:p 5=a5) (h6:p 6=a6) (h7:p 7=a7):∀ k,k<8→p k=[a0,a1,a2,a3,a4,a5,a6,a7].getD k false
 | 0,_=>h0 | 1,_=>h1 | 2,_=>h2 | 3,_=>h3 | 4,_=>h4 | 5,_=>h5 | 6,_=>h6 | 7,_=>h7
 | k+8,h=>by omega
theorem byteOf_bit (p:Nat→Bool) {k:Nat} (hk:k<8):bitAt (byteOf p) k=p k:=by
 rw [bool_fun (p:=p) rfl rfl rfl rfl rfl rfl rfl rfl k hk];unfold byteOf;generalize p 0=a0;generalize p 1=a1;generalize p 2=a2;generalize p 3=a3;generalize p 4=a4;generalize p 5=a5;generalize p 6=a6;generalize p 7=a7
 exact (show ∀ (k:Fin 8) (a0 a1 a2 a3 a4 a5 a6 a7:Bool),bitAt (byteB a0 a1 a2 a3 a4 a5 a6 a7) k.val=[a0,a1,a2,a3,a4,a5,a6,a7].getD k.val false by decide +kernel) ⟨k,hk⟩ a0 a1 a2 a3 a4 a5 a6 a7
theorem byteOf_self {v:Int} (h0:0≤v) (h1:v≤255):byteOf (bitAt v)=v :=
 fin_byte (p:=fun v=>byteOf (bitAt v)=v) (by decide +kernel) h0 h1
theorem or_byte {v:Int} (h0:0≤v) (h1:v≤255) {k:Nat} (hk:k<8):bits .or .u8 v (128 / 2 ^ k)=byteOf (fun j=>bitAt v j||j==k) :=
 fin_byte (p:=fun v=>bits .or .u8 v (128 / 2 ^ k)=byteOf (fun j=>bitAt v j||j==k)) (fun v=>(show ∀ (k:Fin 8) (v:Fin 256),bits .or .u8 (v.val:Int) (128 / 2 ^ k.val)=byteOf (fun j=>bitAt (v.val:Int) j||j==k.val) by decide +kernel) ⟨k,hk⟩ v) h0 h1
theorem byteOf_or (p:Nat→Bool) {k:Nat} (hk:k<8):bits .or .u8 (byteOf p) (128 / 2 ^ k)=byteOf (fun j=>p j||j==k):=by
 rw [or_byte (byteOf_bd p).1 (byteOf_bd p).2 hk];exact byteOf_congr fun j hj=>by rw [byteOf_bit p hj]
def cbyte (w:Int) (P:Int→Int→Bool) (i:Int):Int:=byteOf fun k=>decide (8*(i % strd w)+k<w)&&P (8*(i % strd w)+k) (i / strd w)
def canon (w h:Int) (P:Int→Int→Bool):List Int:=(List.range (strd w*h).toNat).map fun i:Nat=>cbyte w P (i:Int)
theorem canon_length (w h:Int) (P:Int→Int→Bool):(canon w h P).length=(strd w*h).toNat:=by rw [canon,List.length_map,List.length_range]
theorem canon_len {w h:Int} (hw:0≤w) (hh:0≤h) (P:Int→Int→Bool):((canon w h P).length:Int)=strd w*h:=by
 rw [canon_length,Int.toNat_of_nonneg (Int.mul_nonneg (by unfold strd;omega) hh)]
theorem canon_get {w h:Int} {P:Int→Int→Bool} {i:Nat} (hi:i<(canon w h P).length):(canon w h P)[i]=cbyte w P i:=by
 simp only [canon,List.getElem_map,List.getElem_range]
theorem canon_getD {w h:Int} {P:Int→Int→Bool} {i:Nat} (hi:i<(strd w*h).toNat):(canon w h P).getD i 0=cbyte w P i:=by
 rw [←canon_length w h P] at hi;rw [List.getD_eq_getElem?_getD,List.getElem?_eq_getElem hi,Option.getD_some,canon_get]
theorem canon_bytes (w h:Int) (P:Int→Int→Bool):Bytes (canon w h P):=by
 intro d hd;obtain ⟨i,_,rfl⟩:=List.mem_map.1 hd;exact byteOf_bd _
theorem canon_congr {w h:Int} {P Q:Int→Int→Bool} (hw:0<w) (hp:∀ x y,0≤x→x<w→0≤y→y<h→P x y=Q x y):canon w h P=canon w h Q:=by
 unfold canon;refine List.map_congr_left fun i hi=>byteOf_congr fun k _=>?_
 have hi:=List.mem_range.1 hi;have hs:0<strd w:=by unfold strd;omega
 have hi':(i:Int)<strd w*h:=by omega
 have e1:0≤(i:Int) % strd w:=Int.emod_nonneg _ (by omega);have e2:(i:Int) / strd w<h:=Int.ediv_lt_of_lt_mul hs (by rw [Int.mul_comm];exact hi');have e3:0≤(i:Int) / strd w:=Int.ediv_nonneg (by omega) (by omega);by_cases g:8*((i:Int) % strd w)+k<w
 ·rw [hp _ _ (by omega) g e3 e2]
 ·rw [decide_eq_false g];rfl
theorem div_of {s a b:Int} (h0:0≤b) (h1:b<s):(a*s+b) / s=a∧(a*s+b) % s=b:=by
 have hs:s≠0:=by omega
 constructor
 ·rw [Int.add_comm,Int.add_mul_ediv_right _ _ hs,Int.ediv_eq_zero_of_lt h0 h1,Int.zero_add]
 ·rw [Int.add_comm,Int.add_mul_emod_self_right,Int.emod_eq_of_lt h0 h1]
theorem mul_div_mod (i s:Int):i / s*s+i % s=i:=by rw [Int.mul_comm];exact Int.mul_ediv_add_emod i s
section
variable {w h x y:Int} {P:Int→Int→Bool}
theorem at_lt (hx0:0≤x) (hx1:x<w) (hy0:0≤y) (hy1:y<h):(y*strd w+x / 8).toNat<(strd w*h).toNat∧((y*strd w+x / 8).toNat:Int)=y*strd w+x / 8:=by
 have h1:0≤strd w*h:=Int.mul_nonneg (by unfold strd;omega) (by omega);obtain ⟨g0,g1,g2⟩:=at_ok (w:=w) (h:=h) (x:=x) (y:=y) (l:=(strd w*h).toNat) (by omega) hx0 hx1 hy0 hy1 (by omega);omega
theorem cbyte_at (hx0:0≤x) (hx1:x<w) (hy0:0≤y):cbyte w P (y*strd w+x / 8)=byteOf fun k=>decide (8*(x / 8)+k<w)&&P (8*(x / 8)+k) y:=by
 have h1:x / 8<strd w:=by unfold strd;omega
 have:=hy0;unfold cbyte;rw [(div_of (by omega) h1).1,(div_of (by omega) h1).2]
theorem canon_upd {Q:Int→Int→Bool} {v:Int} (hx0:0≤x) (hx1:x<w) (hy0:0≤y) (hy1:y<h) (hv:v=byteOf fun k=>decide (8*(x / 8)+k<w)&&Q (8*(x / 8)+k) y)
  (hq:∀ a b,0≤a→¬ (a / 8=x / 8∧b=y)→Q a b=P a b):(canon w h P).set (y*strd w+x / 8).toNat v=canon w h Q:=by
 obtain ⟨hlt,hcast⟩:=at_lt hx0 hx1 hy0 hy1;refine List.ext_getElem (by rw [List.length_set,canon_length,canon_length]) fun i h1 h2=>?_
 rw [List.getElem_set];split
 ·rename_i e;subst e;rw [canon_get,hcast,cbyte_at hx0 hx1 hy0];exact hv
 ·rename_i e;rw [canon_get,canon_get];refine byteOf_congr fun k hk=>?_
  have hs:0<strd w:=by unfold strd;omega
  have e1:0≤(i:Int) % strd w:=Int.emod_nonneg _ (by omega);congr 1;refine (hq _ _ (by omega) ?_).symm
  rintro ⟨g1,g2⟩
  have g3:(i:Int) % strd w=x / 8:=by omega
  have:=mul_div_mod (i:Int) (strd w);rw [g2,g3] at this;omega
theorem canon_set (hx0:0≤x) (hx1:x<w) (hy0:0≤y) (hy1:y<h) :
  (canon w h P).set (y*strd w+x / 8).toNat (bits .or .u8 ((canon w h P).getD (y*strd w+x / 8).toNat 0) (128 / 2 ^ (x % 8).toNat))=canon w h (fun a b=>P a b||(decide (a=x)&&decide (b=y))):=by
 obtain ⟨hlt,hcast⟩:=at_lt hx0 hx1 hy0 hy1;refine canon_upd hx0 hx1 hy0 hy1 ?_ (fun a b ha hn=>?_)
 ·rw [canon_getD hlt,hcast,cbyte_at hx0 hx1 hy0,byteOf_or _ (by omega)];refine byteOf_congr fun k hk=>?_
  rw [decide_eq_true (rfl:y=y),Bool.and_true];by_cases e:k=(x % 8).toNat
  ·subst e;have e1:8*(x / 8)+((x % 8).toNat:Int)=x:=by omega
   rw [e1,decide_eq_true hx1,decide_eq_true (rfl:x=x)];simp
  ·rw [decide_eq_false (show ¬ 8*(x / 8)+(k:Int)=x by omega)];simp [e]
 ·have:¬ (a=x∧b=y):=fun g=>hn (by rw [g.1];exact ⟨rfl,g.2⟩)
  by_cases e:a=x
  ·rw [decide_eq_false (show ¬ b=y from fun g=>this ⟨e,g⟩)];simp
  ·rw [decide_eq_false e];simp
theorem canon_pix (hw:0≤w):pixB w h (canon w h P) x y=(decide (0≤x∧x<w∧0≤y∧y<h)&&P x y):=by
 have:=hw;unfold pixB;by_cases g:0≤x∧x<w∧0≤y∧y<h
 ·obtain ⟨g1,g2,g3,g4⟩:=g;obtain ⟨hlt,hcast⟩:=at_lt g1 g2 g3 g4;rw [canon_getD hlt,hcast,cbyte_at g1 g2 g3,byteOf_bit _ (by omega)];have e1:8*(x / 8)+((x % 8).toNat:Int)=x:=by omega
  rw [e1,decide_eq_true g2,Bool.true_and]
 ·rw [decide_eq_false g];rfl
theorem canon_self {ds:List Int} (hb:Bytes ds) (h0:bitsE w h ds=0):ds=canon w h (pixB w h ds):=by
 unfold bitsE at h0;split at h0
 ·rename_i hr;obtain ⟨r1,r2,r3,r4⟩:=hr;split at h0
  ·rename_i hl;split at h0
   ·rename_i ht;have hs:=strd_N (w:=w) (by omega);have hsp:0<strd w:=by unfold strd;omega
    have hlI:(ds.length:Int)=strd w*h:=by rw [hl,hs,Int.natCast_mul,Int.toNat_of_nonneg (by omega:0≤h)]
    refine List.ext_getElem (by rw [canon_length];omega) fun i h1 h2=>?_
    have hbi:=hb.at i;rw [List.getD_eq_getElem?_getD,List.getElem?_eq_getElem h1,Option.getD_some] at hbi;rw [canon_get,←byteOf_self hbi.1 hbi.2];refine byteOf_congr fun k hk=>?_
    have e1:0≤(i:Int) % strd w:=Int.emod_nonneg _ (by omega);have e1':(i:Int) % strd w<strd w:=Int.emod_lt_of_pos _ hsp;have e2:(i:Int) / strd w<h:=Int.ediv_lt_of_lt_mul hsp (by rw [Int.mul_comm];omega);have e3:0≤(i:Int) / strd w:=Int.ediv_nonneg (by omega) (by omega);have hmd:=mul_div_mod (i:Int) (strd w);by_cases g:8*((i:Int) % strd w)+k<w
    ·rw [decide_eq_true g,Bool.true_and];unfold pixB;rw [decide_eq_true (show 0≤8*((i:Int) % strd w)+k∧8*((i:Int) % strd w)+k<w∧0≤(i:Int) / strd w∧(i:Int) / strd w<h from ⟨by omega,g,e3,e2⟩),Bool.true_and];have q1:(8*((i:Int) % strd w)+(k:Int)) / 8=(i:Int) % strd w:=by omega
     have q2:((8*((i:Int) % strd w)+(k:Int)) % 8).toNat=k:=by omega
     rw [q1,q2,hmd,Int.toNat_natCast,List.getD_eq_getElem?_getD,List.getElem?_eq_getElem h1,Option.getD_some]
    ·rw [decide_eq_false g,Bool.false_and]

     have hlast:(i:Int) % strd w=strd w-1:=by unfold strd at *;omega
     have hrow:=(List.all_eq_true.1 ht) ((i:Int) / strd w).toNat (List.mem_range.2 (by omega))
     have hidx:((i:Int) / strd w).toNat*strideN w.toNat+strideN w.toNat-1=i:=by
      have:((((i:Int) / strd w).toNat*strideN w.toNat:Nat):Int)=(i:Int) / strd w*strd w:=by
       rw [Int.natCast_mul,Int.toNat_of_nonneg e3,hs]
      omega
     rw [hidx,List.getD_eq_getElem?_getD,List.getElem?_eq_getElem h1,Option.getD_some] at hrow;have hu:8*strideN w.toNat-w.toNat<8:=by unfold strideN;omega
     refine (low_bits hbi.1 hbi.2 hu).1 hrow k hk ?_;omega
   ·omega
  ·omega
 ·omega
end
theorem strd_bd {w h:Int} (hw0:0≤w) (hw1:w≤1024) (hh0:0≤h) (hh1:h≤1024):0≤strd w∧strd w≤128∧0≤strd w*h∧strd w*h≤131072:=by
 have a1:strd w≤128:=by unfold strd;omega
 have a2:0≤strd w:=by unfold strd;omega
 have:=Int.mul_le_mul a1 hh1 hh0 (by omega:(0:Int)≤128);have:=Int.mul_nonneg a2 hh0;omega
theorem idx_bd {w h x y:Int} (hx0:0≤x) (hx1:x<w) (hw1:w≤1024) (hy0:0≤y) (hy1:y<h) (hh1:h≤1024):0≤y*strd w∧y*strd w+x / 8<strd w*h∧strd w*h≤131072:=by
 obtain ⟨b1,b2,b3,b4⟩:=strd_bd (w:=w) (h:=h) (by omega) hw1 (by omega) hh1;obtain ⟨g0,g1,g2⟩:=at_ok (w:=w) (h:=h) (x:=x) (y:=y) (l:=(strd w*h).toNat) (by omega) hx0 hx1 hy0 hy1 (by omega);omega
theorem canon_zero (w h:Int) {P:Int→Int→Bool} (hp:∀ x y,P x y=false):canon w h P=List.replicate (strd w*h).toNat 0:=by
 refine List.ext_getElem (by rw [canon_length,List.length_replicate]) fun i h1 h2=>?_
 rw [canon_get,List.getElem_replicate];show byteOf _=0;rw [byteOf_congr (q:=fun _=>false) (fun k _=>by rw [hp,Bool.and_false])];rfl
theorem bitsE_dim {w h:Int} {ds:List Int} (h0:bitsE w h ds=0):1≤w∧w≤1024∧1≤h∧h≤1024∧(ds.length:Int)=strd w*h:=by
 unfold bitsE at h0;split at h0
 ·rename_i hr;split at h0
  ·rename_i hl;refine ⟨hr.1,hr.2.1,hr.2.2.1,hr.2.2.2,?_⟩;rw [hl,strd_N (by omega),Int.natCast_mul,Int.toNat_of_nonneg (by omega:0≤h)]
  ·omega
 ·omega
def onL (n:Nat) (G:Int→Bool):List Bool:=(List.range n).map fun i:Nat=>G (i:Int)
end Go.Proofs.Ytljebnobajmjnaa
/- Pictures: what bitmap.Mark,R.Drawn,R.SameBits compute. -/
set_option maxRecDepth 100000
namespace Go.Proofs.Ytljebnobajmjnaa
open Go Go.RowKit
set_option linter.unusedSimpArgs false
set_option linter.unusedSectionVars false
set_option linter.unusedVariables false

section
variable {β:Type}
variable {fu:Nat} (hf:18446744073709551616≤fu) {w h:Int}
include hf
end
end Go.Proofs.Ytljebnobajmjnaa
/- Strips: Check and BitsErr. -/
namespace Go.Proofs.Ytljebnobajmjnaa
open Go Go.RowKit
set_option linter.unusedSimpArgs false
set_option linter.unusedSectionVars false
set_option linter.unusedVariables false

theorem bitChk_r {fu:Nat} (hf:18446744073709551616≤fu) {w h:Int} {ds:List Int} (hb:Bytes ds):bitmap_Check_r fu ((w,(h,ds)),())=some (bitsE w h ds,()):=by
 unfold bitmap_Check_r bitsE;simp only [joinF_eq]
 have bad:∀ p:Prop,¬ (1≤w∧w≤1024∧1≤h∧h≤1024)→bitmap_Check_j1 fu ((w,(h,ds)),()) true=some (if 1≤w∧w≤1024∧1≤h∧h≤1024 then (if ds.length=strideN w.toNat*h.toNat then (if tailOk w.toNat h.toNat ds=true then 0 else 4) else 4) else 3,()):=by
  intro _ hn;rw [if_neg hn];rfl
 by_cases h1:w<1
 ·rw [bif_pos h1];exact bad True (by omega)
 rw [bif_neg h1];by_cases h2:1024<w
 ·rw [bif_pos h2];exact bad True (by omega)
 rw [bif_neg h2];by_cases h3:h<1
 ·rw [bif_pos h3];exact bad True (by omega)
 rw [bif_neg h3];by_cases h4:1024<h
 ·rw [decide_eq_true h4];exact bad True (by omega)
 rw [decide_eq_false h4,if_pos (by omega)];clear bad;unfold bitmap_Check_j1;simp only [cond_false];rw [stride_r fu (by omega) (by omega)];simp only [bindO_some,joinF_eq];have hs0:1≤strd w∧strd w≤128∧w≤8*strd w∧8*strd w≤w+7:=by unfold strd;omega
 have hN:strd w=(strideN w.toNat:Int):=strd_N (by omega)
 have hs:0≤strd w*h∧strd w*h≤128*1024:=⟨Int.mul_nonneg (by omega) (by omega),by
  have:=Int.mul_le_mul hs0.2.1 (show h≤1024 by omega) (by omega:0≤h) (by omega:(0:Int)≤128)
  omega⟩
 rw [wr64 (x:=strd w*h) (by omega) (by omega),wr64 (x:=8*strd w) (by omega) (by omega),wr64 (x:=8*strd w-w) (by omega) (by omega)];have hmul:strd w*h=((strideN w.toNat*h.toNat:Nat):Int):=by rw [hN,Int.natCast_mul];congr 1;omega
 by_cases hl:ds.length=strideN w.toNat*h.toNat
 ·rw [bif_neg (by rw [hmul,hl];simp),if_pos hl,bif_and (by omega) (by omega)];have e4:IntKind.u8.wrap (IntKind.u8.wrap (1*2 ^ (8*strd w-w).toNat)-1)=2 ^ (8*strd w-w).toNat-1:=wrap_pow (by omega);rw [e4];have hu:(8*strd w-w).toNat=8*strideN w.toNat-w.toNat:=by omega
  by_cases hz:w=8*strd w
  ·have:(2:Int) ^ (8*strd w-w).toNat-1=0:=by rw [show (8*strd w-w).toNat=0 by omega];rfl
   rw [this,bif_neg (by simp)]
   have ht:tailOk w.toNat h.toNat ds=true:=by
    refine List.all_eq_true.2 fun y _=>?_
    rw [show 8*strideN w.toNat-w.toNat=0 by omega];unfold lowOk;simp [Int.emod_one]
   rw [if_pos ht];rfl
  ·have hne:(2:Int) ^ (8*strd w-w).toNat-1≠0:=by
    have:∀ u:Fin 8,0<u.val→(2:Int) ^ u.val-1≠0:=by decide
    exact this ⟨(8*strd w-w).toNat,by omega⟩ (by show 0<(8*strd w-w).toNat;omega)
   rw [bif_pos hne]
   let p:Nat→Bool:=fun y=>lowOk (ds.getD (y*strideN w.toNat+strideN w.toNat-1) 0) (8*strideN w.toNat-w.toNat)
   have:=loopF_spec (f:=bitmap_Check_l3 fu ((w,(h,ds)),()) (strd w) (2 ^ (8*strd w-w).toNat-1) (bitmap_Check_j2 fu)) (fun y:Int=>(h-y).toNat) (fun y=>0≤y∧y≤h) (fun y=>some (if allFrom p h.toNat y.toNat=true then 0 else 4,())) (fun j y ⟨i0,i1⟩ hj=>?_) fu 0 ⟨by omega,by omega⟩ (by omega)
   ·rw [this];show some (if allFrom p h.toNat 0=true then (0:Int) else 4,())=_;rw [allFrom_zero];rfl
   ·unfold bitmap_Check_l3;simp only;by_cases hy:y<h
    ·obtain ⟨g0,g1,g2⟩:=at_ok (w:=w) (h:=h) (x:=w-1) (y:=y) (l:=ds.length) (by omega) (by omega) (by omega) i0 hy (by rw [hmul,hl])
     have g3:y*strd w+strd w≤strd w*h:=by
      have:=Int.mul_le_mul_of_nonneg_right (show y+1≤h by omega) (show 0≤strd w by omega);rw [Int.add_mul,Int.one_mul,Int.mul_comm h] at this;exact this
     rw [bif_pos hy,wr64 (x:=y*strd w) (by omega) (by omega),wr64 (x:=y*strd w+strd w) (by omega) (by omega),wr64 (x:=y*strd w+strd w-1) (by omega) (by omega),bif_and (by omega) (by rw [hl,←hmul];omega)];rw [and_low (hb.at _).1 (hb.at _).2 (by omega),allFrom_lt (by omega)]
     have ei:(y*strd w+strd w-1).toNat=y.toNat*strideN w.toNat+strideN w.toNat-1:=by
      have:y*strd w=((y.toNat*strideN w.toNat:Nat):Int):=by rw [hN,Int.natCast_mul];congr 1;omega
      omega
     have ep:p y.toNat=decide (ds.getD (y*strd w+strd w-1).toNat 0 % 2 ^ (8*strd w-w).toNat=0):=by
      show lowOk _ _=_;unfold lowOk;rw [ei,hu];rfl
     by_cases hd:ds.getD (y*strd w+strd w-1).toNat 0 % 2 ^ (8*strd w-w).toNat=0
     ·rw [bif_neg (by simpa using hd),wr64 (x:=y+1) (by omega) (by omega),hj (y+1) ⟨by omega,by omega⟩ (by omega),ep,decide_eq_true hd,Bool.true_and];rw [show (y+1).toNat=y.toNat+1 by omega]
     ·rw [bif_pos hd,ep,decide_eq_false hd,Bool.false_and];rfl
    ·rw [bif_neg hy,allFrom_ge (by omega)];rfl
 ·rw [bif_pos (by rw [hmul];omega),if_neg hl]
end Go.Proofs.Ytljebnobajmjnaa
/- BitmapPixels: what the law computes. -/
namespace Go.Proofs.Ytljebnobajmjnaa
open Go Go.RowKit
set_option linter.unusedSimpArgs false
set_option linter.unusedSectionVars false
set_option linter.unusedVariables false

def sumN (f:Nat→Nat):Nat→Nat
 | 0=>0
 | n+1=>sumN f n+f n
theorem sumN_congr {f g:Nat→Nat}:∀ {n:Nat},(∀ i,i<n→f i=g i)→sumN f n=sumN g n
 | 0,_=>rfl
 | n+1,h=>by rw [sumN,sumN,sumN_congr (fun i hi=>h i (by omega)),h n (by omega)]
theorem sumN_add (f:Nat→Nat) (m:Nat):∀ n,sumN f (m+n)=sumN f m+sumN (fun i=>f (m+i)) n
 | 0=>rfl
 | n+1=>by rw [←Nat.add_assoc,sumN,sumN,sumN_add f m n,Nat.add_assoc]
theorem sumN_mul (f:Nat→Nat) (a:Nat):∀ b,sumN f (a*b)=sumN (fun j=>sumN (fun k=>f (a*j+k)) a) b
 | 0=>rfl
 | b+1=>by rw [Nat.mul_succ,sumN_add,sumN,sumN_mul f a b]
theorem sumN_zero {f:Nat→Nat}:∀ {n:Nat},(∀ i,i<n→f i=0)→sumN f n=0
 | 0,_=>rfl
 | n+1,h=>by rw [sumN,sumN_zero (fun i hi=>h i (by omega)),h n (by omega)]
theorem sumN_le {f:Nat→Nat} {c:Nat} (h:∀ i,f i≤c):∀ n,sumN f n≤c*n
 | 0=>Nat.le_refl _
 | n+1=>by
  have:=sumN_le h n;have:=h n;rw [sumN,Nat.mul_succ];omega
def bn (b:Bool):Nat:=bif b then 1 else 0
theorem bn_le (b:Bool):bn b≤1:=by cases b <;> decide
def popc (v:Int):Nat:=sumN (fun k=>bn (bitAt v k)) 8
theorem popc_le (v:Int):popc v≤8:=by
 have:=sumN_le (f:=fun k=>bn (bitAt v k)) (c:=1) (fun _=>bn_le _) 8;unfold popc;omega
theorem ones_r (fu:Nat) {v:Int} (h0:0≤v) (h1:v≤255):math_bits_OnesCount8_r fu (v,())=some ((popc v:Int),()) :=
 fin_byte (p:=fun v=>math_bits_OnesCount8_r fu (v,())=some ((popc v:Int),())) (fun v=>by
  have:∀ v:Fin 256,math_bits_OnesCount8_r 0 ((v.val:Int),())=some ((popc (v.val:Int):Int),()):=by decide +kernel
  exact this v) h0 h1
theorem count_eq {w h:Int} (hw:0<w) (hh:0≤h) (P:Int→Int→Bool) :
  sumN (fun i=>popc (cbyte w P i)) (strd w*h).toNat=sumN (fun i=>bn (P ((i:Int) % w) ((i:Int) / w))) (w*h).toNat:=by
 have hs:0<strd w:=by unfold strd;omega
 have hws:w≤8*strd w:=by unfold strd;omega
 have e1:(strd w*h).toNat=(strd w).toNat*h.toNat:=Int.toNat_mul (by omega) hh;have e2:(w*h).toNat=w.toNat*h.toNat:=Int.toNat_mul (by omega) hh;rw [e1,e2,sumN_mul,sumN_mul];refine sumN_congr fun y hy=>?_
 have row:∀ x:Nat,x<w.toNat→bn (P (((w.toNat*y+x:Nat):Int) % w) (((w.toNat*y+x:Nat):Int) / w))=bn (decide ((x:Int)<w)&&P x y):=by
  intro x hx
  have e:((w.toNat*y+x:Nat):Int)=(y:Int)*w+x:=by
   rw [Int.natCast_add,Int.natCast_mul,Int.toNat_of_nonneg (by omega),Int.mul_comm]
  rw [e,(div_of (a:=(y:Int)) (b:=(x:Int)) (s:=w) (by omega) (by omega)).1,(div_of (a:=(y:Int)) (b:=(x:Int)) (s:=w) (by omega) (by omega)).2,decide_eq_true (by omega),Bool.true_and]
 rw [sumN_congr row];have e3:8*(strd w).toNat=w.toNat+(8*(strd w).toNat-w.toNat):=by omega
 have tail:sumN (fun x:Nat=>bn (decide ((x:Int)<w)&&P x y)) (8*(strd w).toNat)=sumN (fun x:Nat=>bn (decide ((x:Int)<w)&&P x y)) w.toNat:=by
  rw [e3,sumN_add,sumN_zero (f:=fun i=>bn (decide (((w.toNat+i:Nat):Int)<w)&&P ((w.toNat+i:Nat):Int) y)),Nat.add_zero];intro i _;rw [decide_eq_false (by omega)];rfl
 rw [←tail,sumN_mul];refine sumN_congr fun j hj=>?_
 have e:(((strd w).toNat*y+j:Nat):Int)=(y:Int)*strd w+j:=by
  rw [Int.natCast_add,Int.natCast_mul,Int.toNat_of_nonneg (by omega),Int.mul_comm]
 unfold popc;refine sumN_congr fun k hk=>?_
 unfold cbyte;rw [byteOf_bit _ hk,e,(div_of (a:=(y:Int)) (b:=(j:Int)) (s:=strd w) (by omega) (by omega)).1,(div_of (a:=(y:Int)) (b:=(j:Int)) (s:=strd w) (by omega) (by omega)).2];congr 1
theorem canon_valid {w h:Int} (hw0:1≤w) (hw1:w≤1024) (hh0:1≤h) (hh1:h≤1024) (P:Int→Int→Bool):bitsE w h (canon w h P)=0:=by
 have hs:=strd_N (w:=w) (by omega);have hsp:0<strd w:=by unfold strd;omega
 have hl:(canon w h P).length=strideN w.toNat*h.toNat:=by
  rw [canon_length,Int.toNat_mul (by omega) (by omega),hs,Int.toNat_natCast]
 unfold bitsE;rw [if_pos ⟨hw0,hw1,hh0,hh1⟩,if_pos hl,if_pos];refine List.all_eq_true.2 fun y hy=>?_
 have hy:=List.mem_range.1 hy;have hsn:0<strideN w.toNat:=by unfold strideN;omega
 have hlt:y*strideN w.toNat+strideN w.toNat-1<(strd w*h).toNat:=by
  rw [Int.toNat_mul (by omega) (by omega),hs,Int.toNat_natCast];have h1:(y+1)*strideN w.toNat≤h.toNat*strideN w.toNat:=Nat.mul_le_mul_right _ hy;rw [Nat.add_mul,Nat.one_mul,Nat.mul_comm h.toNat] at h1;omega
 rw [canon_getD hlt];have hu:8*strideN w.toNat-w.toNat<8:=by unfold strideN;omega
 have e:((y*strideN w.toNat+strideN w.toNat-1:Nat):Int)=(y:Int)*strd w+(strd w-1):=by
  rw [Int.natCast_sub (by omega),Int.natCast_add,Int.natCast_mul,hs];omega
 rw [e];unfold cbyte;rw [(div_of (a:=(y:Int)) (b:=strd w-1) (s:=strd w) (by omega) (by omega)).1,(div_of (a:=(y:Int)) (b:=strd w-1) (s:=strd w) (by omega) (by omega)).2];refine (low_bits (byteOf_bd _).1 (byteOf_bd _).2 hu).2 fun k hk hk2=>?_
 rw [byteOf_bit _ hk,decide_eq_false (by rw [hs];omega),Bool.false_and]
section
variable {fu:Nat} (hf:18446744073709551616≤fu) {w h x y:Int} {ds:List Int} (hb:Bytes ds)
include hf hb
theorem count_in (h0:bitsE w h ds=0):bitmap_Count_r fu ((w,(h,ds)),())=some ((sumN (fun i=>bn (pixB w h ds ((i:Int) % w) ((i:Int) / w))) (w*h).toNat:Int),(0,())):=by
 obtain ⟨d1,d2,d3,d4,d5⟩:=bitsE_dim h0;obtain ⟨b1,b2,b3,b4⟩:=strd_bd (w:=w) (h:=h) (by omega) d2 (by omega) d4;have hself:=canon_self hb h0;unfold bitmap_Count_r;simp only;rw [bitChk_r hf hb,bindO_some];simp only;rw [bif_neg (by omega),←count_eq (by omega) (by omega)];refine loopF_spec (fun v:Int×Int=>((ds.length:Int)-v.2).toNat) (fun v=>0≤v.2∧v.2≤ds.length∧v.1=sumN (fun i=>popc (ds.getD i 0)) v.2.toNat) (fun _=>some ((sumN (fun i=>popc (cbyte w (pixB w h ds) i)) (strd w*h).toNat:Int),(0,()))) ?_ fu (0,0) ⟨by omega,by simp only;omega,rfl⟩ (by simp only;omega)
 rintro j ⟨n,i⟩ ⟨k0,k1,kn⟩ ih
 simp only at k0 k1 kn;unfold bitmap_Count_l1;simp only;have hle:=sumN_le (f:=fun i=>popc (ds.getD i 0)) (c:=8) (fun _=>popc_le _) i.toNat;by_cases hi:i<ds.length
 ·rw [bif_pos hi,bif_and k0 hi,ones_r fu (hb.at _).1 (hb.at _).2,bindO_some];have hp:=popc_le (ds.getD i.toNat 0);simp only;rw [wr64 (x:=n+(popc (ds.getD i.toNat 0):Int)) (by omega) (by omega),wr64 (x:=i+1) (by omega) (by omega)];refine ih (_,i+1) ⟨by simp only;omega,by simp only;omega,?_⟩ (by simp only;omega);simp only;rw [show (i+1).toNat=i.toNat+1 by omega,sumN,kn];rfl
 ·rw [bif_neg hi,kn];have e:i.toNat=(strd w*h).toNat:=by omega
  rw [e];congr 3;refine sumN_congr fun k hk=>?_
  have:ds.getD k 0=(canon w h (pixB w h ds)).getD k 0:=by rw [←hself]
  rw [this,canon_getD hk]
end
end Go.Proofs.Ytljebnobajmjnaa
