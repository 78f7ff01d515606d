/- Decompiling: regions that draw their order: the machine over terms says what they do. No program in sight. -/
import Derived.Test.YtelpkjellakigaaZHT64
import Derived.Test.YtelpkjellakigaaProg
import Derived.Lib.ConvBytes
import Derived.Lib.AppendStr
import Derived.Lib.AppendZerosOnto
/- Decompiling: regions that draw their order: the machine over terms says what they do. No program in sight. -/
namespace Go.Proofs.Ytelpkjellakigaa
open Go Go.RowKit

theorem OpF.le {P:Program} {n:Nat} {s s':ASt} {o:Oper} {x:AV} (h:LeS s s') (k:OpF P n o s x):OpF P n o s' x:=⟨k.dst,fun K a w G r=>k.out K a w G (r.les h)⟩
theorem gdst_looks {ops:Array Oper} {o:Oper} {d:Nat} {want:Bool} (h:gdst ops o=some (d,want)):d ∈ o.looksAt ops:=by
 unfold gdst at h;unfold Oper.looksAt;split at h
 ·rename_i j want' hg;rw [Option.map_eq_some_iff] at h;obtain ⟨d',h1,h2⟩:=h;injection h2 with h2 _
  subst h2;rw [hg];simp [h1]
 ·cases h
theorem lregs_get {ops:Array Oper} {o:Oper} {s:ASt} {d:Nat} (hd:d ∈ o.looksAt ops):look .any (Dr.lregs ops s o) d=look .any s.regs d:=by
 unfold Dr.lregs
 revert hd
 generalize o.looksAt ops=l
 induction l with
 | nil=>intro h;cases h
 | cons a l ih =>
  intro h;rw [List.map_cons,look_cons];by_cases e:a=d
  ·subst e;rw [if_pos rfl]
  ·rw [if_neg e];exact ih ((List.mem_cons.1 h).resolve_left fun e'=>e e'.symm)
def nxOf (nx0 b0:Nat) (st:SSt D):Nat:=nx0+(st.nx-b0)
structure RI (F:List (Nat→AV)) (m:Nat→Nat) (nx0 b0:Nat) (st0 st:SSt D):Prop where
 mok:MOk m (nxOf nx0 b0 st) st
 ge:b0≤st.nx
 fr:FrOk m st.blk st.fr F
 fix:Fix st0 st
 good:∀ k,st.blk k≠.dead→Good b0 st0 k
section
variable {P:Program} {n:Nat} {F:List (Nat→AV)} {ρ:Ty} {fu:Nat} {C:DC} {r:ρ.den}
variable {m:Nat→Nat} {nx0 b0:Nat} {st0 st:SSt D} {T:List (List Nat)} {ws cr:List (Nat×Nat)} {i:Nat} {ops:Array Oper} {o:Oper} {l:List Oper} {Kt:ASt→Prop}
theorem RI.put (h:RI F m nx0 b0 st0 st) (d:Option Nat) (x:SV D):RI F m nx0 b0 st0 (st.put d x):=by
 have e:nxOf nx0 b0 (st.put d x)=nxOf nx0 b0 st:=by cases d <;> rfl
 refine ⟨by rw [e];exact put_mok h.mok d x,by cases d <;> exact h.ge,by rw [put_blk];cases d <;> exact h.fr,h.fix.trans (put_fix st d x),by rw [put_blk];exact h.good⟩
theorem gst_yesS (h:wantS ops o st=.yes) {nx:Nat} {W cr:List (Nat×Nat)}:o.guard=none∨gst ops o (Dr.lcl ops T W nx0 i cr (st.enc m nx) o 0)=some true:=by
 unfold wantS at h;split at h
 ·rename_i hg;exact .inl hg
 ·split at h
  ·cases h
  ·rename_i d want hg
   right
   have e:=wantV_yes (m:=m) (st:=st) h;rw [←enc_get st m nx,←lregs_get (gdst_looks hg)] at e;unfold gst;rw [hg]
   show (match look AV.any (Dr.lregs ops (st.enc m nx) o) d,want with
    | .bool true,true=>some true
    | .bool false,false=>some true
    | .bool true,false=>some false
    | .bool false,true=>some false
    | .und,_=>some false
    | _,_=>none)=_
   rw [e]
   cases want <;> rfl
theorem gst_noS (h:wantS ops o st=.no) {nx:Nat} {W cr:List (Nat×Nat)}:gst ops o (Dr.lcl ops T W nx0 i cr (st.enc m nx) o 0)=some false:=by
 obtain ⟨d,want,hg,hb⟩:=wantS_no (m:=m) (nx:=nx) h;rw [←lregs_get (gdst_looks hg)] at hb;unfold gst;rw [hg]
 show (match look AV.any (Dr.lregs ops (st.enc m nx) o) d,want with
  | .bool true,true=>some true
  | .bool false,false=>some true
  | .bool true,false=>some false
  | .bool false,true=>some false
  | .und,_=>some false
  | _,_=>none)=_
 rcases hb with hb | hb <;> rw [hb] <;> cases want <;> rfl
theorem gst_put {d:Nat} {want b:Bool} (hg:gdst ops o=some (d,want)) {nx:Nat} {W cr:List (Nat×Nat)}:gst ops o (Dr.lcl ops T W nx0 i cr ((st.put (some d) (.bool (.bL b))).enc m nx) o 0)=some (b==want):=by
 have e:look AV.any (Dr.lregs ops ((st.put (some d) (.bool (.bL b))).enc m nx) o) d=.bool b:=by
  rw [lregs_get (gdst_looks hg),put_enc];show look .any ((d,SV.enc m st.blk (.bool (.bL b)))::(st.enc m nx).regs) d=_;rw [look_self,SV.enc];rfl
 unfold gst;rw [hg]
 show (match look AV.any (Dr.lregs ops ((st.put (some d) (.bool (.bL b))).enc m nx) o) d,want with
  | .bool true,true=>some true
  | .bool false,false=>some true
  | .bool true,false=>some false
  | .bool false,true=>some false
  | .und,_=>some false
  | _,_=>none)=_
 rw [e]
 cases b <;> cases want <;> rfl
theorem lclS_memS:MemLe m (lclS ops T ws b0 i cr st o).blk m st.blk (visS T ws b0 i cr) (fun k _=>visS T ws b0 i cr k):=by
 have e:∀ k,visS T ws b0 i cr k=true→(lclS ops T ws b0 i cr st o).blk k=st.blk k:=fun k hk=>by rw [lclS_blk,hk];rfl
 exact ⟨fun id h=>.inr ⟨by unfold isBox;rw [e id h],rfl⟩,fun id v h=>.inr ⟨by unfold rowLen;rw [e id h],rfl⟩⟩
theorem nmdS (hL:Lay m nx0 b0 st0) (hc:∀ p ∈ cr,b0≤p.2) (hI:RI F m nx0 b0 st0 st) {x:SV D} (h:x.refs (visS T ws b0 i cr) (fun k _=>visS T ws b0 i cr k)=true):(x.enc m (lclS ops T ws b0 i cr st o).blk).nmd (vis T nx0 i (mapP m cr))=true:=by
 have key:∀ id,visS T ws b0 i cr id=true→(lclS ops T ws b0 i cr st o).blk id≠.dead→vis T nx0 i (mapP m cr) (m id)=true:=by
  intro id hv hb;rw [lclS_blk,hv] at hb;rw [vis_m hL hc (hI.good id hb)];unfold visS at hv;rw [Bool.and_eq_true] at hv;exact hv.1
 refine enc_nmd (fun id hp hb=>key id hp fun e=>?_) (fun id v n hp hb=>key id hp fun e=>?_) x h
 ·unfold isBox at hb;rw [e] at hb;cases hb
 ·unfold rowLen at hb;rw [e] at hb;cases hb
theorem liveS (hL:Lay m nx0 b0 st0) (hc:∀ p ∈ cr,b0≤p.2) (hI:RI F m nx0 b0 st0 st) {id:Nat} (hv:visS T ws b0 i cr id=true) (hb:st.blk id≠.dead):vis T nx0 i (mapP m cr) (m id)=true:=by
 rw [vis_m hL hc (hI.good id hb)];unfold visS at hv;rw [Bool.and_eq_true] at hv;exact hv.1
theorem nmdB (hL:Lay m nx0 b0 st0) (hc:∀ p ∈ cr,b0≤p.2) (hI:RI F m nx0 b0 st0 st) {b:SB D} (h:b.refs (visS T ws b0 i cr) (fun k _=>visS T ws b0 i cr k)=true):(b.enc m st.blk).nmd (vis T nx0 i (mapP m cr))=true:=by
 cases b with
 | dead=>rfl
 | box cs e =>
  rw [SB.refs] at h;refine encL_nmd (fun id hp hb=>liveS hL hc hI hp fun e=>?_) (fun id v n hp hb=>liveS hL hc hI hp fun e=>?_) cs h
  ·unfold isBox at hb;rw [e] at hb;cases hb
  ·unfold rowLen at hb;rw [e] at hb;cases hb
 | row fr t xs e v =>
  show List.all _ _=true;refine List.all_eq_true.2 fun row hr=>?_
  obtain ⟨x,_,rfl⟩:=List.mem_map.1 hr;have e1:SV.encL m st.blk (cellsE fr t (.var x:E D t))=t.cells fr x:=cellsE_enc fr t (.var x);rw [←e1];exact encL_nmd (pB:=fun _=>false) (pR:=fun _ _=>false) (fun id h=>by cases h) (fun id v n h=>by cases h) _ (cells_nmd _ _)
theorem lregs_ev {s:ASt} {x:Operand} (hx:x ∈ o.op.operands.toList) {hp:List (Nat×AB)} {k:Nat}:(⟨Dr.lregs ops s o,hp,k⟩:ASt).ev x=s.ev x:=by
 cases x with
 | tmp t =>
  show look .any (Dr.lregs ops s o) t=look .any s.regs t;refine lregs_get ?_;unfold Oper.looksAt;rw [List.mem_append]
  left
  rw [List.mem_filterMap];exact ⟨.tmp t,hx,rfl⟩
 | const v=>rfl
 | global g=>rfl
 | func f=>rfl
theorem opWr_box {t:TypeId} {x y:Operand} {z:Option Value} {s b:Nat} {id off:Nat} {cs vs:List AV} {e:TypeId} {g:Option (Nat×Bool)} {ty:TypeId} {ps:String} {af:Array Edge} {st:ASt} (hx:st.ev x=.box id off) (hb:look .dead st.heap id=.box cs e) (hy:(st.ev y).cells=vs) (h1:allOne vs=true) (hI:tyI P t=some (z,s,b)) (hs:vs.length=s) (hle:off+s≤cs.length) :
  Dr.OpWr P n ⟨none,.store t x y,ty,ps,af,g⟩ st id (.box (setR cs off vs) e) .und:=⟨rfl,fun K a w G r=>by
 subst hy;have r:RelG ⟨K.w0,w,G⟩ n st a w G:=⟨r.nx,r.hr,Ext.refl _ _,r.size,r.defers,r.regs⟩;have e1:=r.ev x;rw [hx] at e1;have hcv:=(r.ev y).cellsV h1;obtain ⟨gg,us,e2,hρ,_,_,_⟩:=r.boxAt hb e1
 have hid:id<G.nx:=by
  have hk:=r.hr.blk id;rw [hb] at hk;exact hk.1
 obtain ⟨w',hrun,r2,hk2⟩:=RelG.storeBox (P:=P) (e:=e) hid hρ (st.ev y).cells (a.eval y).cells.toList 0 off cs w r hb (by have:=hcv.size;simp;omega) (by simpa using hcv.size) (fun v hv=>by
  obtain ⟨i,hi,hv⟩:=List.getElem_of_mem hv
  exact hcv.one i v (by rw [←hv];simp)) (fun j x' v hx' hv=>hcv.rel j x' v hx' (by simpa using hv))
 refine ⟨undef,w',G,.inr ⟨?_,rfl⟩,r2.hr,r2.ext,rfl,fun j hne=>⟨rfl,rfl,fun hj g hg=>hk2 g fun e=>?_⟩,.dat .und⟩
 ·simp [execOp,Instr.storeAt,e2,Instr.sureAddr,run_storeVar' hI (show (a.eval y).cells.size=s by rw [hcv.size,hs]),hrun]
 ·subst e
  exact r.hr.dist j id g hj hid hne hg (by rw [hρ];rfl)⟩
theorem opWr_elt {t:TypeId} {x y:Operand} {z:Option Value} {s b:Nat} {id q i o sz:Nat} {rows:List (List AV)} {e:TypeId} {row vs:List AV} {g:Option (Nat×Bool)} {ty:TypeId} {ps:String} {af:Array Edge} {st:ASt} (hx:st.ev x=.elt id q i o) (hb:look .dead st.heap id=.row sz rows e) (hm:q=rows.length) (hr:∀ row',rows[i]?=some row'→row'=row) (hy:(st.ev y).cells=vs) (h1:allOne vs=true) (hI:tyI P t=some (z,s,b)) (hs:vs.length=s) (hle:o+s≤sz) :
  Dr.OpWr P n ⟨none,.store t x y,ty,ps,af,g⟩ st id (.row sz (rows.set i (setR row o vs)) e) .und:=⟨rfl,fun K a w G r=>by
 subst hy;have r:RelG ⟨K.w0,w,G⟩ n st a w G:=⟨r.nx,r.hr,Ext.refl _ _,r.size,r.defers,r.regs⟩;have e1:=r.ev x;rw [hx] at e1
 have hi:i<rows.length:=by
  cases e1 with
  | dat h=>cases h
  | elt _ _ _ _ _ _ hin=>omega
 have hr:=List.getElem?_eq_getElem hi ▸ (show rows[i]?=some row by rw [←hr _ (List.getElem?_eq_getElem hi)];exact List.getElem?_eq_getElem hi);have hr:rows[i]?=some row:=by rw [List.getElem?_eq_getElem hi];exact hr
 have hcv:=(r.ev y).cellsV h1;obtain ⟨gg,c,flat,q1,q2,q3,q4,q5,q6,q7,q8⟩:=r.rowAt hb hm (by omega);generalize he:a.eval x=u at e1
 cases e1 with
 | dat h=>cases h
 | elt _ _ _ _ _ hid hin hs' hn hv' h =>
  obtain ⟨gg',c',e2,rfl⟩:=h (by rw [q5,hm]);rw [q1] at e2;injection e2 with e2 _ _
  injection e2 with e2
  injection e2 with e2 _ _
  subst e2;rw [q3] at he
  obtain ⟨w',hrun,r2,hk2⟩:=RelG.storeElt (P:=P) (K:=⟨K.w0,w,G⟩) (n:=n) (a:=a) (G:=G) (id:=id) (sz:=sz) (i:=i) (gg:=gg) (c:=c) (e:=e) (fun L hL=>by rw [q5] at hL;subst hL;exact q1) (st.ev y).cells (a.eval y).cells.toList 0 o rows row w st r hb hr (by have:=hcv.size;simp;omega) (by simpa using hcv.size) (fun v hv=>by
   obtain ⟨i,hi,hv⟩:=List.getElem_of_mem hv
   exact hcv.one i v (by rw [←hv];simp)) (fun j x' v hx' hv=>hcv.rel j x' v hx' (by simpa using hv))
  refine ⟨undef,w',G,.inr ⟨?_,rfl⟩,r2.hr,r2.ext,rfl,fun j hne=>⟨rfl,rfl,fun hj g hg=>hk2 g fun e=>?_⟩,.dat .und⟩
  ·simp [execOp,Instr.storeAt,he,Instr.sureAddr,run_storeVar' hI (show (a.eval y).cells.size=s by rw [hcv.size,hs]),hrun]
  ·subst e
   exact r.hr.dist j id g hj hid hne hg (by rw [q1];rfl)⟩
theorem all_set {α:Type} {p:α→Bool} {l:List α} {i:Nat} {x:α} (h:l.all p=true) (hx:p x=true):(l.set i x).all p=true:=by
 refine List.all_eq_true.2 fun y hy=>?_
 rcases List.mem_or_eq_of_mem_set hy with h' | h'
 ·exact List.all_eq_true.1 h y h'
 ·rw [h'];exact hx
theorem onlyW_m {id:Nat} (h:Dr.onlyW ws i id=true):Dr.onlyW (mapP m ws) i (m id)=true:=by
 unfold Dr.onlyW mapP at *
 rw [List.all_map];refine List.all_eq_true.2 fun p hp=>?_
 have:=List.all_eq_true.1 h p hp;show (bif Nat.beq p.1 i then Nat.beq (m p.2) (m id) else true)=true
 cases hb:Nat.beq p.1 i with
 | false=>rfl
 | true =>
  rw [hb] at this;have:=Nat.eq_of_beq_eq_true this;rw [this];exact Nat.beq_refl _
theorem storeB_ok {Tb:Tab} {t:TypeId} {a v:SV D} {id:Nat} {b:SB D} (h:storeB Tb st t a v=some (id,b)):∃ Z s bb off cs e,lk Tb.inf t=some (Z,s,bb)∧allOneS st v.cells=true∧v.cells.length=s∧a=.box id off∧st.blk id=.box cs e∧off+s≤cs.length∧b=.box (setRS cs off v.cells) e:=by
 unfold storeB at h;split at h
 ·rename_i Z s bb hI
  cases hc:(allOneS st v.cells&&Nat.beq v.cells.length s) with
  | false=>rw [hc] at h;cases h
  | true =>
   rw [hc] at h;simp only [cond_true] at h;rw [Bool.and_eq_true] at hc;split at h
   ·rename_i id' off;split at h
    ·rename_i cs e hb
     cases hl:Nat.ble (off+s) cs.length with
     | false=>rw [hl] at h;cases h
     | true =>
      rw [hl] at h;simp only [cond_true,Option.some.injEq,Prod.mk.injEq] at h;obtain ⟨rfl,rfl⟩:=h;exact ⟨Z,s,bb,off,cs,e,hI,hc.1,Nat.eq_of_beq_eq_true hc.2,rfl,hb,Nat.le_of_ble_eq_true hl,rfl⟩
    ·cases h
   ·cases h
 ·cases h
abbrev AGm (P:Program) (n:Nat) (ops:Array Oper) (T:List (List Nat)) (ws:List (Nat×Nat)) (nx0 b0:Nat) (m:Nat→Nat) (Kt:ASt→Prop) (i:Nat) (cr:List (Nat×Nat)) (l:List Oper) (st:SSt D):Prop :=
 Dr.AG P n ops T (mapP m ws) nx0 Kt i (mapP m cr) l (st.enc m (nxOf nx0 b0 st))
theorem AGm.put {d:Option Nat} {x:SV D} {y:AV} (hx:Les (x.enc m st.blk) y) (k:AGm P n ops T ws nx0 b0 m Kt i cr l (st.put d x)):Dr.AG P n ops T (mapP m ws) nx0 Kt i (mapP m cr) l ((st.enc m (nxOf nx0 b0 st)).put d y):=by
 have e:nxOf nx0 b0 (st.put d x)=nxOf nx0 b0 st:=by cases d <;> rfl
 refine .le ?_ k;rw [e,put_enc];exact (LeS.refl _).put hx
theorem skipR_ok (hd:dok o.dst n=true) (hW:Dr.noW ws i=true) (hg:gst ops o (Dr.lcl ops T (mapP m ws) nx0 i (mapP m cr) (st.enc m (nxOf nx0 b0 st)) o 0)=some false) (k:AGm P n ops T ws nx0 b0 m Kt (i+1) cr l (st.put o.dst .und)):AGm P n ops T ws nx0 b0 m Kt i cr (o::l) st:=by
 refine .step (.skip (by rw [noW_m];exact hW) hg hd) (AGm.put ?_ k);rw [SV.enc];exact .refl _
theorem exC_refs {pB:Nat→Bool} {pR:Nat→Nat→Bool} (fr:Bool):∀ (t:Ty) (cs:List (SV D)) (e:E D t) (rest:List (SV D)),exC fr t cs=some (e,rest)→SV.refsL pB pR cs=SV.refsL pB pR rest
 | .int k,cs,e,rest,h=>by
  cases cs with
  | nil=>rw [exC] at h;cases h;all_goals simp
  | cons c l =>
   cases c <;> simp only [exC,reduceCtorEq] at h
   split at h
   ·simp only [Option.some.injEq,Prod.mk.injEq] at h
    rw [←h.2,SV.refsL,SV.refs,Bool.true_and] <;> simp
   ·cases h
 | .bool,cs,e,rest,h=>by
  cases cs with
  | nil=>rw [exC] at h;cases h;all_goals simp
  | cons c l =>
   cases c <;> simp only [exC,reduceCtorEq,Option.some.injEq,Prod.mk.injEq] at h
   rw [←h.2,SV.refsL,SV.refs,Bool.true_and] <;> simp
 | .str,cs,e,rest,h=>by
  cases cs with
  | nil=>rw [exC] at h;cases h;all_goals simp
  | cons c l =>
   cases c <;> simp only [exC,reduceCtorEq,Option.some.injEq,Prod.mk.injEq] at h
   rw [←h.2,SV.refsL,SV.refs,Bool.true_and] <;> simp
 | .list t,cs,e,rest,h=>by
  cases cs with
  | nil=>rw [exC] at h;cases h;all_goals simp
  | cons c l =>
   cases c <;> simp only [exC,reduceCtorEq,Option.some.injEq,Prod.mk.injEq] at h
   ·rw [←h.2,SV.refsL,SV.refs,Bool.true_and] <;> simp
   ·rename_i fr' t' e'
    cases hc:(!fr||fr') with
    | false=>rw [hc] at h;cases h
    | true =>
     rw [hc] at h;simp only [cond_true] at h;split at h
     ·simp only [Option.some.injEq,Prod.mk.injEq] at h
      rw [←h.2,SV.refsL,SV.refs,Bool.true_and] <;> simp
     ·cases h
 | .unit,cs,e,rest,h=>by
  rw [exC] at h;simp only [Option.some.injEq,Prod.mk.injEq] at h;rw [h.2]
 | .pair a b,cs,e,rest,h=>by
  rw [exC] at h;split at h
  ·rename_i x l' h1;split at h
   ·rename_i y l'' h2;simp only [Option.some.injEq,Prod.mk.injEq] at h;rw [←h.2];exact (exC_refs fr a cs x l' h1).trans (exC_refs fr b l' y l'' h2)
   ·cases h
  ·cases h
 | .agg t,cs,e,rest,h=>by
  rw [exC] at h;split at h
  ·rename_i x l' h1;simp only [Option.some.injEq,Prod.mk.injEq] at h;rw [←h.2];exact exC_refs fr t cs x l' h1
  ·cases h
 | .ptr t,cs,e,rest,h=>by
  rw [exC] at h;cases h
  all_goals simp
theorem exA_refs {pB:Nat→Bool} {pR:Nat→Nat→Bool} {fr:Bool} {t:Ty} {cs:List (SV D)} {e:E D t} (h:exA fr t cs=some e):SV.refsL pB pR cs=true:=by
 unfold exA at h;split at h
 ·rename_i x h1;rw [exC_refs fr t cs x [] h1,SV.refsL]
 ·cases h
theorem storeE_ok {Tb:Tab} {t:TypeId} {a v:SV D} {id:Nat} {b:SB D} (h:storeE Tb st t a v=some (id,b)):∃ (Z:Option Value) (s bb ver ver' off:Nat) (kk:IntKind) (ix:E D (.int kk)) (fr fr':Bool) (rt:Ty) (xs:E D (.list rt)) (e:TypeId) (x:E D rt),lk Tb.inf t=some (Z,s,bb)∧allOneS st v.cells=true∧v.cells.length=s∧a=.elt id ver ix off∧st.blk id=.row fr rt xs e ver'∧Nat.beq ver ver'=true∧off+s≤rt.size∧(!fr'||fr)=true∧exA fr' rt (setRS (cellsE fr rt (.at xs ix)) off v.cells)=some x∧b=.row fr' rt (.set xs ix x) e ver':=by
 unfold storeE at h;split at h
 ·rename_i Z s bb hI
  cases hc:(allOneS st v.cells&&Nat.beq v.cells.length s) with
  | false=>rw [hc] at h;cases h
  | true =>
   rw [hc] at h;simp only [cond_true] at h;rw [Bool.and_eq_true] at hc;split at h
   ·rename_i id' ver kk ix off;split at h
    ·rename_i fr rt xs e ver' hb
     cases hl:(Nat.beq ver ver'&&Nat.ble (off+s) rt.size) with
     | false=>rw [hl] at h;cases h
     | true =>
      rw [hl] at h;simp only [cond_true] at h;rw [Bool.and_eq_true] at hl;split at h
      ·rename_i x hx;simp only [Option.some.injEq,Prod.mk.injEq] at h;obtain ⟨rfl,rfl⟩:=h;exact ⟨Z,s,bb,ver,ver',off,kk,ix,fr,fr,rt,xs,e,x,hI,hc.1,Nat.eq_of_beq_eq_true hc.2,rfl,hb,hl.1,Nat.le_of_ble_eq_true hl.2,by cases fr <;> rfl,hx,rfl⟩
      ·split at h
       ·rename_i x hx;simp only [Option.some.injEq,Prod.mk.injEq] at h;obtain ⟨rfl,rfl⟩:=h;exact ⟨Z,s,bb,ver,ver',off,kk,ix,fr,false,rt,xs,e,x,hI,hc.1,Nat.eq_of_beq_eq_true hc.2,rfl,hb,hl.1,Nat.le_of_ble_eq_true hl.2,rfl,hx,rfl⟩
       ·cases h
    ·cases h
   ·cases h
 ·cases h
theorem nmd_isD' {q:Nat→Bool} {a:AV} (h:isD a=true):a.nmd q=true:=by
 cases a <;> first | (cases h;done) | rfl
theorem nmd_go_isD' {q:Nat→Bool}:∀ {l:List AV},(∀ a ∈ l,isD a=true)→AV.nmd.go q l=true
 | [],_=>rfl
 | a::l,h=>by
  show (a.nmd q&&AV.nmd.go q l)=true;rw [nmd_isD' (h a (by simp)),nmd_go_isD' fun b hb=>h b (by simp [hb])];rfl
def SB.isRow {V:Ty→Type} (b:SB V):Bool:=match b with
 | .row ..=>true
 | _=>false
theorem SrcA.mono {hp hp':List (Nat×AB)} {sz:Nat} {x:AV} {new:List (List AV)} (h:SrcA hp sz x new) (hh:∀ id n,x=.osl id n∨(∃ lo len,x=.vsl id n lo len)→look .dead hp' id=look .dead hp id):SrcA hp' sz x new:=by
 cases h with
 | ro fr _ h=>exact .ro fr _ h
 | osl id n _ e h hn=>exact .osl id n _ e ((hh id n (.inl rfl)).trans h) hn
 | vsl id n lo len rows0 _ e h hn hr=>exact .vsl id n lo len rows0 _ e ((hh id n (.inr ⟨lo,len,rfl⟩)).trans h) hn hr
 | nils=>exact .nils
theorem enc_ids {m:Nat→Nat} {H:Nat→SB D} {x:SV D} {j q:Nat} (h:x.enc m H=.osl j q∨∃ lo len,x.enc m H=.vsl j q lo len):∃ j' ∈ idsA x,j=m j':=by
 cases x with
 | box id off=>cases hb:isBox H id <;> simp [SV.enc,hb] at h
 | elt id ver i off=>cases hr:rowLen H id ver <;> simp [SV.enc,hr] at h
 | osl id ver =>
  cases hr:rowLen H id ver with
  | none=>simp [SV.enc,hr] at h
  | some n =>
   simp [SV.enc,hr] at h;exact ⟨id,List.mem_singleton.2 rfl,h.1.symm⟩
 | vsl id ver lo hi =>
  cases hr:rowLen H id ver with
  | none=>simp [SV.enc,hr] at h
  | some n =>
   simp [SV.enc,hr] at h;exact ⟨id,List.mem_singleton.2 rfl,h.1.symm⟩
 | _=>simp [SV.enc] at h
theorem opWr_app {e:TypeId} {z:Value} {sz b id q:Nat} {rows new:List (List AV)} {t:TypeId} {x y:Operand} {d:Option Nat} {g:Option (Nat×Bool)} {ty:TypeId} {ps:String} {af:Array Edge} {s:ASt} (hx:s.ev x=.osl id q) (hb:look .dead s.heap id=.row sz rows e) (hm:q=rows.length) (hs:SrcA s.heap sz (s.ev y) new)
  (hT:P.underlying t=some (.slice e)) (hI:tyI P e=some (some z,sz,b)) (hz:z.cells.size=sz) (h63:(rows.length+new.length)*bmul b≤140737488355328) (hd:dok d n=true) :
  Dr.OpWr P n ⟨d,.call ⟨.builtin .append,⟨[x,y]⟩,⟨[t,t]⟩⟩,ty,ps,af,g⟩ s id (.row sz (rows++new) e) (.osl id (rows.length+new.length)):=⟨hd,fun K a w G r=>by
 obtain ⟨v,w',G',h1,h2,h3,h4,h5,h6⟩:=op_append_g (d:=d) (ty:=ty) (ps:=ps) (af:=af) (g:=g) hx hb rfl hm rfl hs hT hI hz h63 r
 exact ⟨v,w',G',.inl h1,h2,h3,h4,h5,h6⟩⟩
theorem appR_ok (hC:C.ok P) (hL:Lay m nx0 b0 st0) (hws:∀ p ∈ ws,Good b0 st0 p.2) (hc:∀ p ∈ cr,b0≤p.2) (hI:RI F m nx0 b0 st0 st) {d:Option Nat} {t:TypeId} {y z:Operand} {ty:TypeId} {ps:String} {af:Array Edge} {gg:Option (Nat×Bool)} (hd:dok d n=true)
  (hg:(⟨d,.call ⟨.builtin .append,⟨[y,z]⟩,⟨[t,t]⟩⟩,ty,ps,af,gg⟩:Oper).guard=none∨gst ops (⟨d,.call ⟨.builtin .append,⟨[y,z]⟩,⟨[t,t]⟩⟩,ty,ps,af,gg⟩:Oper) (Dr.lcl ops T (mapP m ws) nx0 i (mapP m cr) (st.enc m (nxOf nx0 b0 st)) (⟨d,.call ⟨.builtin .append,⟨[y,z]⟩,⟨[t,t]⟩⟩,ty,ps,af,gg⟩:Oper) 0)=some true)
  {K:List (Nat×Nat)→SSt D→G D (KD ρ) ρ} (h:(appR C T ws b0 i cr st d t (st.ev y) (st.ev z) K).den fu=some r)
  (k:∀ cr' st',RI F m nx0 b0 st0 st'→(∀ p ∈ cr',b0≤p.2)→(K cr' st').den fu=some r→AGm P n ops T ws nx0 b0 m Kt (i+1) cr' l st'):AGm P n ops T ws nx0 b0 m Kt i cr (⟨d,.call ⟨.builtin .append,⟨[y,z]⟩,⟨[t,t]⟩⟩,ty,ps,af,gg⟩::l) st:=by
 unfold appR at h;have ez:=enc_ev st m (nxOf nx0 b0 st) z;split at h
 ·rename_i id b x gd happ
  cases hb:(visS T ws b0 i cr id&&(ws.any fun p=>Nat.beq p.1 i&&Nat.beq p.2 id)&&Dr.onlyW ws i id&&(idsA (st.ev z)).all (fun j=>visS T ws b0 i cr j)) with
  | false=>rw [hb] at h;cases h
  | true =>
   rw [hb] at h;simp only [cond_true] at h;obtain ⟨hgd,h2⟩:=grdG_den h;clear h;simp only [Bool.and_eq_true] at hb;obtain ⟨⟨⟨b1,b2⟩,b3⟩,b4⟩:=hb;have ey:=enc_ev st m (nxOf nx0 b0 st) y;generalize st.ev y=v0 at happ ey;unfold appS at happ;split at happ
   ·rename_i e hu;split at happ
    ·rename_i Z sz bb hI'
     cases hc0:(Nat.beq Z.cells.size sz&&Nat.blt 0 sz) with
     | false=>rw [hc0] at happ;cases happ
     | true =>
      rw [hc0] at happ;simp only [cond_true] at happ;rw [Bool.and_eq_true] at hc0;have hz:=Nat.eq_of_beq_eq_true hc0.1;split at happ
      ·rename_i id' ver;split at happ
       ·rename_i fr rt xs e' v hblk
        cases hc2:(Nat.beq ver v&&(Nat.beq e' e&&(Nat.beq sz rt.size&&rt.flat))) with
        | false=>rw [hc2] at happ;cases happ
        | true =>
         rw [hc2] at happ;simp only [cond_true] at happ;simp only [Bool.and_eq_true] at hc2;obtain ⟨hv,he,hsz,hfl⟩:=hc2;have he:=Nat.eq_of_beq_eq_true he;have hsz:=Nat.eq_of_beq_eq_true hsz;subst he;subst hsz;split at happ
         ·rename_i fr' ys hy
          cases hr:st.refs (fun _=>true) (fun i w=>!(Nat.beq i id'&&Nat.beq w (v+1))) with
          | false=>rw [hr] at happ;cases happ
          | true =>
           rw [hr] at happ;simp only [cond_true,Option.some.injEq,Prod.mk.injEq,MR.upd.injEq] at happ;obtain ⟨⟨rfl,rfl,rfl⟩,rfl⟩:=happ;have hlive:st.blk id'≠.dead:=by rw [hblk];simp
           have hbb:=enc_blk hI.mok hlive;have hbb':=hbb;rw [hblk,SB.enc] at hbb';rw [SV.enc,rowLen_eq hblk hv] at ey;have hsrc:=srcC_ok (y:=z) (nx:=nxOf nx0 b0 st) hfl hI.mok hy;have hgg:=leE_den hgd;have hgg:((List.length xs.den:Int)+(List.length ys.den:Int))*((bmul bb:Nat):Int)≤140737488355328:=hgg;have h63:(List.length xs.den+List.length ys.den)*bmul bb≤140737488355328:=nat_of2 hgg
           have hnew:rowLen (st.hset id' (.row (fr&&fr') rt (.app xs ys) e' (v+1))).blk id' (v+1)=some (List.length xs.den+List.length ys.den):=by
            unfold rowLen;rw [hset_blk,if_pos rfl];simp only [Nat.beq_refl,cond_true];show some (List.length (List.append _ _))=_;rw [List.append_eq,List.length_append]
           have hle:MemLe m st.blk m (st.hset id' (.row (fr&&fr') rt (.app xs ys) e' (v+1))).blk (fun _=>true) (fun i w=>!(Nat.beq i id'&&Nat.beq w (v+1))):=by
            refine ⟨fun k _=>.inr ⟨?_,rfl⟩,fun k w hw=>?_⟩
            ·unfold isBox;rw [hset_blk];by_cases e1:id'=k
             ·subst e1;rw [if_pos rfl,hblk]
             ·rw [if_neg e1]
            ·by_cases e1:id'=k
             ·subst e1;have hw:(!(Nat.beq id' id'&&Nat.beq w (v+1)))=true:=hw;rw [Nat.beq_refl,Bool.true_and] at hw;refine .inl ?_;unfold rowLen;rw [hset_blk,if_pos rfl]
              cases hq:Nat.beq w (v+1) with
              | true=>rw [hq] at hw;cases hw
              | false=>simp only [hq];rfl
             ·refine .inr ⟨?_,rfl⟩;unfold rowLen;rw [hset_blk,if_neg e1]
           have hset:=hset_les (b:=.row (fr&&fr') rt (.app xs ys) e' (v+1)) (b':=.row rt.size ((xs.den:List rt.den).map (rt.cells fr)++(ys.den:List rt.den).map (rt.cells fr')) e') hI.mok (.refl _) hlive (by simp) hle hr (by
            rw [SB.enc];refine .rows ?_;show LesRs (((xs.den:List rt.den)++(ys.den:List rt.den)).map (rt.cells (fr&&fr'))) _;rw [List.map_append]
            exact (rows_le (by cases fr <;> cases fr' <;> rfl) rt _).append (rows_le (by cases fr <;> cases fr' <;> rfl) rt _)) hI.fr
           have hRI:RI F m nx0 b0 st0 (st.hset id' (.row (fr&&fr') rt (.app xs ys) e' (v+1))):=⟨hset.1,hI.ge,hset.2.2,hI.fix.trans ⟨rfl,rfl,rfl⟩,fun k hk=>hI.good k (by
            rw [hset_blk] at hk;by_cases e1:id'=k
            ·subst e1;exact hlive
            ·rw [if_neg e1] at hk;exact hk)⟩
           have hvis:∀ j,visS T ws b0 i cr j=true→st.blk j≠.dead→Dr.visW T (mapP m ws) nx0 i (mapP m cr) (m j)=true:=by
            intro j hj hjl;unfold Dr.visW;rw [liveS hL hc hI hj hjl,okW_m hL hws (hI.good j hjl)];unfold visS at hj;rw [Bool.and_eq_true] at hj;rw [hj.2];rfl
           have hrowD:∀ (g:Bool) (us:List rt.den) (q:Nat→Bool),(us.map (rt.cells g)).all (AV.nmd.go q)=true:=by
            intro g us q;refine List.all_eq_true.2 fun row hrow=>?_
            obtain ⟨u,_,rfl⟩:=List.mem_map.1 hrow;exact nmd_go_isD' fun a ha=>rt.cells_isD g u a ha
           have hnmd:∀ j,(st.blk j).isRow=true→((st.blk j).enc m st.blk).nmd (vis T nx0 i (mapP m cr))=true:=by
            intro j hj
            cases hbj:st.blk j with
            | dead=>rw [hbj] at hj;cases hj
            | box cs e=>rw [hbj] at hj;cases hj
            | row fr2 t2 xs2 e2 v2 =>
             rw [SB.enc];refine List.all_eq_true.2 fun row hrow=>?_
             obtain ⟨u,_,rfl⟩:=List.mem_map.1 hrow;exact nmd_go_isD' fun a ha=>t2.cells_isD fr2 u a ha
           have hzrow:∀ j ∈ idsA (st.ev z),(st.blk j).isRow=true:=by
            intro j hj;have hy':=hy;unfold srcC at hy'
            cases hzv:st.ev z <;> rw [hzv] at hj hy' <;> simp only [idsA,List.not_mem_nil,List.mem_singleton] at hj
            ·subst hj;simp only [srcS] at hy';split at hy'
             ·rename_i hbj;rw [hbj];rfl
             ·cases hy'
            ·subst hj;split at hy'
             ·rename_i a1 a2 a3 a4 hh;injection hh with q1 q2 q3 q4
              subst q1;split at hy'
              ·rename_i hbj;rw [hbj];rfl
              ·cases hy'
             ·rename_i hno;exact absurd rfl (hno _ _ _ _)
           have hzlive:∀ j ∈ idsA (st.ev z),st.blk j≠.dead:=by
            intro j hj e1;have:=hzrow j hj;rw [e1] at this;cases this
           refine .step (.write (id:=m id') (b:=.row rt.size ((xs.den:List rt.den).map (rt.cells fr)++(ys.den:List rt.den).map (rt.cells fr')) e') (x:=.osl (m id') (List.length xs.den+List.length ys.den)) (m id'::(idsA (st.ev z)).map m) (fun j hj=>?_) hg ?_ ?_ (onlyW_m b3) (fun hp kk hhp=>?_) ?_ ?_) (.le ?_ (k cr _ (hRI.put _ _) hc h2))
           ·rcases List.mem_cons.1 hj with rfl | hj
            ·exact ⟨hvis _ b1 hlive,by rw [hbb];exact hnmd id' (by rw [hblk];rfl)⟩
            ·obtain ⟨j',hj',rfl⟩:=List.mem_map.1 hj;have hl':=hzlive j' hj';exact ⟨hvis _ (List.all_eq_true.1 b4 j' hj') hl',by rw [enc_blk hI.mok hl'];exact hnmd j' (hzrow j' hj')⟩
           ·exact hvis _ b1 hlive
           ·obtain ⟨p,hp,hpe⟩:=List.any_eq_true.1 b2;rw [Bool.and_eq_true] at hpe;have e1:=Nat.eq_of_beq_eq_true hpe.1;have e2:=Nat.eq_of_beq_eq_true hpe.2;exact List.mem_map.2 ⟨p,hp,by rw [e1,e2]⟩
           ·have hzz:=lregs_ev (o:=⟨d,.call ⟨.builtin .append,⟨[y,z]⟩,⟨[t,t]⟩⟩,ty,ps,af,gg⟩) (ops:=ops) (s:=st.enc m (nxOf nx0 b0 st)) (x:=z) (hp:=hp) (k:=kk) (by simp [Op.operands,Call.operands]);have hyy:=lregs_ev (o:=⟨d,.call ⟨.builtin .append,⟨[y,z]⟩,⟨[t,t]⟩⟩,ty,ps,af,gg⟩) (ops:=ops) (s:=st.enc m (nxOf nx0 b0 st)) (x:=y) (hp:=hp) (k:=kk) (by simp [Op.operands,Call.operands])
            have hsrc':SrcA hp rt.size ((⟨Dr.lregs ops (st.enc m (nxOf nx0 b0 st)) ⟨d,.call ⟨.builtin .append,⟨[y,z]⟩,⟨[t,t]⟩⟩,ty,ps,af,gg⟩,hp,kk⟩:ASt).ev z) ((ys.den:List rt.den).map (rt.cells fr')):=by
             rw [hzz];refine hsrc.mono fun j q hj=>?_
             rw [ez] at hj;have key:=enc_ids hj;obtain ⟨j',h1,rfl⟩:=key;exact hhp _ (List.mem_cons_of_mem _ (List.mem_map_of_mem h1))
            have:=opWr_app (P:=P) (n:=n) (d:=d) (ty:=ty) (ps:=ps) (af:=af) (g:=gg) (hyy.trans ey) ((hhp (m id') (List.mem_cons_self ..)).trans hbb') (rows_len _).symm hsrc' (allP_at hC.T.und hu) (allP_at hC.T.inf hI') hz (by rw [rows_len,rows_len];exact h63) hd;rw [rows_len,rows_len] at this;exact this
           ·show (((xs.den:List rt.den).map (rt.cells fr))++((ys.den:List rt.den).map (rt.cells fr'))).all _=true;rw [List.all_append,hrowD,hrowD];rfl
           ·exact liveS hL hc hI b1 hlive
           ·have hnx:nxOf nx0 b0 ((st.hset id' (.row (fr&&fr') rt (.app xs ys) e' (v+1))).put d (.osl id' (v+1)))=nxOf nx0 b0 st:=by cases d <;> rfl
            show LeS (((st.hset id' _).put d (.osl id' (v+1))).enc m _) _;rw [hnx,put_enc];refine hset.2.1.put ?_;rw [SV.enc,hnew];exact .refl _
         ·cases happ
       ·cases happ
      ·split at happ
       ·rename_i rt hty
        cases hc3:(Nat.beq sz rt.size&&rt.flat) with
        | false=>rw [hc3] at happ;cases happ
        | true =>
         rw [hc3] at happ;simp only [cond_true] at happ
         split at happ <;> cases happ
       ·cases happ
      ·cases happ
    ·cases happ
   ·cases happ
 ·cases h
theorem writeR_ok (hC:C.ok P) (hL:Lay m nx0 b0 st0) (hws:∀ p ∈ ws,Good b0 st0 p.2) (hc:∀ p ∈ cr,b0≤p.2) (hI:RI F m nx0 b0 st0 st) (hd:dok o.dst n=true)
  (hg:o.guard=none∨gst ops o (Dr.lcl ops T (mapP m ws) nx0 i (mapP m cr) (st.enc m (nxOf nx0 b0 st)) o 0)=some true)
  {K:List (Nat×Nat)→SSt D→G D (KD ρ) ρ} (h:(writeR C T ws b0 i cr st o K).den fu=some r)
  (k:∀ cr' st',RI F m nx0 b0 st0 st'→(∀ p ∈ cr',b0≤p.2)→(K cr' st').den fu=some r→AGm P n ops T ws nx0 b0 m Kt (i+1) cr' l st'):AGm P n ops T ws nx0 b0 m Kt i cr (o::l) st:=by
 obtain ⟨d,op,ty,ps,af,gg⟩:=o;unfold writeR at h;simp only at h;split at h
 ·rename_i t y z;split at h
  ·rename_i id b hs
   cases hb:(visS T ws b0 i cr id&&(ws.any fun p=>Nat.beq p.1 i&&Nat.beq p.2 id)&&Dr.onlyW ws i id&&b.refs (visS T ws b0 i cr) (fun k _=>visS T ws b0 i cr k)&&(st.blk id).refs (visS T ws b0 i cr) (fun k _=>visS T ws b0 i cr k)) with
   | false=>rw [hb] at h;cases h
   | true =>
    rw [hb] at h;simp only [cond_true] at h;simp only [Bool.and_eq_true] at hb;obtain ⟨⟨⟨⟨b1,b2⟩,b3⟩,b4⟩,b5⟩:=hb;obtain ⟨Z,s,bb,off,cs,e,hI',h1,hls,ha,hblk,hle,rfl⟩:=storeB_ok hs;have hlive:st.blk id≠.dead:=by rw [hblk];simp
    have hi:isBox st.blk id=true:=by unfold isBox;rw [hblk]
    have ey:(st.enc m (nxOf nx0 b0 st)).ev y=.box (m id) off:=by rw [enc_ev,ha,SV.enc,hi];rfl
    have ez:((st.enc m (nxOf nx0 b0 st)).ev z).cells=SV.encL m st.blk (st.ev z).cells:=by rw [enc_ev,enc_cells]
    have hbb:=enc_blk hI.mok hlive;have hbb':=hbb;rw [hblk,SB.enc] at hbb'
    have hset:=hset_les (b:=.box (setRS cs off (st.ev z).cells) e) (b':=.box (setR (SV.encL m st.blk cs) off (SV.encL m st.blk (st.ev z).cells)) e) (pB:=fun _=>true) (pR:=fun _ _=>true) hI.mok (.refl _) hlive (by simp) (memLe_box hblk) (refs_all st) (by
     rw [SB.enc,setRS_enc];have hH:∀ l:List (SV D),LesL (SV.encL m (st.hset id (.box (setRS cs off (st.ev z).cells) e)).blk l) (SV.encL m st.blk l):=fun l=>encL_les (memLe_box (pB:=fun _=>true) (pR:=fun _ _=>true) hblk) l (svL_refs_all l)
     exact .box e (setR_les (hH cs) (hH _) off)) hI.fr
    have hRI:RI F m nx0 b0 st0 (st.hset id (.box (setRS cs off (st.ev z).cells) e)):=⟨hset.1,hI.ge,hset.2.2,hI.fix.trans ⟨rfl,rfl,rfl⟩,fun k hk=>hI.good k (by
     rw [hset_blk] at hk;by_cases e':id=k
     ·subst e';exact hlive
     ·rw [if_neg e'] at hk;exact hk)⟩
    refine .step (.write (id:=m id) (b:=.box (setR (SV.encL m st.blk cs) off (SV.encL m st.blk (st.ev z).cells)) e) (x:=.und) [m id] (fun j hj=>?_) hg ?_ ?_ (onlyW_m b3) (fun hp kk hhp=>?_) ?_ rfl) (.le ?_ (k cr _ hRI hc h))
    ·rw [List.mem_singleton] at hj;subst hj;refine ⟨?_,?_⟩
     ·unfold Dr.visW;rw [liveS hL hc hI b1 hlive,okW_m hL hws (hI.good id hlive)];unfold visS at b1;rw [Bool.and_eq_true] at b1;rw [b1.2];rfl
     ·rw [hbb];exact nmdB hL hc hI b5
    ·unfold Dr.visW;rw [liveS hL hc hI b1 hlive,okW_m hL hws (hI.good id hlive)];unfold visS at b1;rw [Bool.and_eq_true] at b1;rw [b1.2];rfl
    ·obtain ⟨p,hp,hpe⟩:=List.any_eq_true.1 b2;rw [Bool.and_eq_true] at hpe;have e1:=Nat.eq_of_beq_eq_true hpe.1;have e2:=Nat.eq_of_beq_eq_true hpe.2;exact List.mem_map.2 ⟨p,hp,by rw [e1,e2]⟩
    ·have hz:=lregs_ev (o:=⟨none,.store t y z,ty,ps,af,gg⟩) (ops:=ops) (s:=st.enc m (nxOf nx0 b0 st)) (x:=z) (hp:=hp) (k:=kk) (by simp [Op.operands]);have hy:=lregs_ev (o:=⟨none,.store t y z,ty,ps,af,gg⟩) (ops:=ops) (s:=st.enc m (nxOf nx0 b0 st)) (x:=y) (hp:=hp) (k:=kk) (by simp [Op.operands]);refine opWr_box (hy.trans ey) ((hhp (m id) (by simp)).trans hbb') (by rw [hz,ez]) (allOneS_enc h1) (allP_at hC.T.inf hI') (by rw [encL_length];exact hls) (by rw [encL_length];exact hle)
    ·have:=nmdB (b:=.box (setRS cs off (st.ev z).cells) e) hL hc hI b4;rw [SB.enc,setRS_enc] at this;exact this
    ·exact hset.2.1
  ·split at h
   ·rename_i id b hs
    cases hb:(visS T ws b0 i cr id&&(ws.any fun p=>Nat.beq p.1 i&&Nat.beq p.2 id)&&Dr.onlyW ws i id&&(st.blk id).refs (visS T ws b0 i cr) (fun k _=>visS T ws b0 i cr k)) with
    | false=>rw [hb] at h;cases h
    | true =>
     rw [hb] at h;simp only [cond_true] at h;simp only [Bool.and_eq_true] at hb;obtain ⟨⟨⟨b1,b2⟩,b3⟩,b5⟩:=hb;obtain ⟨Z,s,bb,ver,ver',off,kk,ix,fr,fr',rt,xs,e,x,hI',h1,hls,ha,hblk,hver,hle,hfr,hx,rfl⟩:=storeE_ok hs;have hlive:st.blk id≠.dead:=by rw [hblk];simp
     have ey:(st.enc m (nxOf nx0 b0 st)).ev y=.elt (m id) (List.length xs.den) (Int.toNat ix.den) off:=by rw [enc_ev,ha,SV.enc,rowLen_eq hblk hver]
     have ez:((st.enc m (nxOf nx0 b0 st)).ev z).cells=SV.encL m st.blk (st.ev z).cells:=by rw [enc_ev,enc_cells]
     have hbb:=enc_blk hI.mok hlive;have hbb':=hbb;rw [hblk,SB.enc] at hbb';have hcell:=exA_ok (m:=m) (H:=st.blk) hx;have hcn:=encL_nmd (m:=m) (H:=st.blk) (pB:=fun _=>false) (pR:=fun _ _=>false) (q:=vis T nx0 i (mapP m cr)) (fun id h=>by cases h) (fun id v n h=>by cases h) _ (exA_refs hx);rw [setRS_enc,cellsE_enc] at hcell;rw [setRS_enc,cellsE_enc] at hcn
     have hset:=hset_les (b:=.row fr' rt (.set xs ix x) e ver') (b':=.row rt.size (((xs.den:List rt.den).map (rt.cells fr)).set (Int.toNat ix.den) (setR (rt.cells fr (E.at xs ix).den) off (SV.encL m st.blk (st.ev z).cells))) e) (pB:=fun _=>true) (pR:=fun _ _=>true) hI.mok (.refl _) hlive (by simp) (memLe_set hblk (by
      show List.length (List.set _ _ _)=_
      rw [List.length_set])) (refs_all st) (.rows (rows_set hfr hcell)) hI.fr
     have hRI:RI F m nx0 b0 st0 (st.hset id (.row fr' rt (.set xs ix x) e ver')):=⟨hset.1,hI.ge,hset.2.2,hI.fix.trans ⟨rfl,rfl,rfl⟩,fun k hk=>hI.good k (by
      rw [hset_blk] at hk;by_cases e':id=k
      ·subst e';exact hlive
      ·rw [if_neg e'] at hk;exact hk)⟩
     refine .step (.write (id:=m id) (b:=.row rt.size (((xs.den:List rt.den).map (rt.cells fr)).set (Int.toNat ix.den) (setR (rt.cells fr (E.at xs ix).den) off (SV.encL m st.blk (st.ev z).cells))) e) (x:=.und) [m id] (fun j hj=>?_) hg ?_ ?_ (onlyW_m b3) (fun hp kk hhp=>?_) ?_ rfl) (.le ?_ (k cr _ hRI hc h))
     ·rw [List.mem_singleton] at hj;subst hj;refine ⟨?_,?_⟩
      ·unfold Dr.visW;rw [liveS hL hc hI b1 hlive,okW_m hL hws (hI.good id hlive)];unfold visS at b1;rw [Bool.and_eq_true] at b1;rw [b1.2];rfl
      ·rw [hbb];exact nmdB hL hc hI b5
     ·unfold Dr.visW;rw [liveS hL hc hI b1 hlive,okW_m hL hws (hI.good id hlive)];unfold visS at b1;rw [Bool.and_eq_true] at b1;rw [b1.2];rfl
     ·obtain ⟨p,hp,hpe⟩:=List.any_eq_true.1 b2;rw [Bool.and_eq_true] at hpe;have e1:=Nat.eq_of_beq_eq_true hpe.1;have e2:=Nat.eq_of_beq_eq_true hpe.2;exact List.mem_map.2 ⟨p,hp,by rw [e1,e2]⟩
     ·have hz:=lregs_ev (o:=⟨none,.store t y z,ty,ps,af,gg⟩) (ops:=ops) (s:=st.enc m (nxOf nx0 b0 st)) (x:=z) (hp:=hp) (k:=kk) (by simp [Op.operands]);have hy:=lregs_ev (o:=⟨none,.store t y z,ty,ps,af,gg⟩) (ops:=ops) (s:=st.enc m (nxOf nx0 b0 st)) (x:=y) (hp:=hp) (k:=kk) (by simp [Op.operands]);refine opWr_elt (hy.trans ey) ((hhp (m id) (by simp)).trans hbb') (rows_len _).symm (fun row' hr=>at_row hr) (by rw [hz,ez]) (allOneS_enc h1) (allP_at hC.T.inf hI') (by rw [encL_length];exact hls) hle
     ·have hb4:=nmdB hL hc hI b5;rw [hblk,SB.enc] at hb4;exact all_set hb4 hcn
     ·exact hset.2.1
   ·cases h
 ·rename_i y z t t'
  cases ht:Nat.beq t' t with
  | false=>rw [ht] at h;cases h
  | true =>
   rw [ht] at h;have ht:=Nat.eq_of_beq_eq_true ht;subst ht;exact appR_ok hC hL hws hc hI hd hg h k
 ·cases h
theorem exRows_refs {pB:Nat→Bool} {pR:Nat→Nat→Bool} {fr:Bool} {t:Ty}:∀ {rows:List (List (SV D))} {xs:E D (.list t)},exRows fr t rows=some xs→∀ row ∈ rows,SV.refsL pB pR row=true
 | [],xs,h,row,hr=>by cases hr
 | r::l,xs,h,row,hr=>by
  rw [exRows] at h;split at h
  ·rename_i x xs' h1 h2;rcases List.mem_cons.1 hr with rfl | hr
   ·exact exA_refs h1
   ·exact exRows_refs h2 row hr
  ·cases h
theorem nmd_isD {q:Nat→Bool} {a:AV} (h:isD a=true):a.nmd q=true:=by
 cases a <;> first | (cases h;done) | rfl
theorem nmd_go_isD {q:Nat→Bool}:∀ {l:List AV},(∀ a ∈ l,isD a=true)→AV.nmd.go q l=true
 | [],_=>rfl
 | a::l,h=>by
  show (a.nmd q&&AV.nmd.go q l)=true;rw [nmd_isD (h a (by simp)),nmd_go_isD fun b hb=>h b (by simp [hb])];rfl
structure NewOk (P:Program) (n:Nat) (o:Oper) (lst:SSt D) (m:Nat→Nat) (b:SB D) (row:Bool) (b':AB):Prop where
 op:∀ k,MOk m k lst→OpN P n o (lst.enc m k) b'
 les:LesB (b.enc m lst.blk) b'
 box:row=false→∃ cs e cs',b=.box cs e∧b'=.box cs' e
 nmd:∀ (q:Nat→Bool) (pB:Nat→Bool) (pR:Nat→Nat→Bool),(∀ id,pB id=true→isBox lst.blk id=true→q (m id)=true)→(∀ id v n,pR id v=true→rowLen lst.blk id v=some n→q (m id)=true)→b.refs pB pR=true→b'.nmd q=true
 rw:row=true→∃ fr rt xs e rows,b=.row fr rt xs e 0∧b'=.row rt.size rows e∧rows.length=List.length xs.den
theorem new_ok {Tb:Tab} (hT:Tb.ok P) {lst:SSt D} {b:SB D} {row:Bool} {g:E D .bool} (hn:isNew o.op=true) (h:mem0 Tb lst o.dst o.op=some (.new b row,g)) (hg:g.den=true) (hd:dok o.dst n=true):∃ b',NewOk P n o lst m b row b':=by
 obtain ⟨d,op,ty,ps,af,gg⟩:=o;have hd:dok d n=true:=hd;simp only at h hn;unfold mem0 at h;split at h
 ·rename_i e;unfold allocS at h;split at h
  ·rename_i Z s bb h1
   cases hc:allOne (Z.cells.toList.map avOf) with
   | false=>rw [hc] at h;cases h
   | true =>
    rw [hc] at h;simp only [cond_true,Option.some.injEq,Prod.mk.injEq,MR.new.injEq] at h;obtain ⟨⟨rfl,rfl⟩,rfl⟩:=h
    exact ⟨_,fun k _=>opN_alloc (allP_at hT.inf h1) hc hd,.box e (by rw [zeroS_enc];exact .refl _),fun _=>⟨_,_,_,rfl,rfl⟩,fun q pB pR hB hR hb=>(by
     rw [SB.refs] at hb;have:=encL_nmd (m:=m) (H:=lst.blk) hB hR _ hb;rw [zeroS_enc] at this
     exact this),fun h=>by cases h⟩
  ·cases h
 ·rename_i e y;unfold boxS at h
  cases hc:allOneS lst (lst.ev y).cells with
  | false=>rw [hc] at h;cases h
  | true =>
   rw [hc] at h;simp only [cond_true,Option.some.injEq,Prod.mk.injEq,MR.new.injEq] at h;obtain ⟨⟨rfl,rfl⟩,rfl⟩:=h
   refine ⟨.box (SV.encL m lst.blk (lst.ev y).cells) e,fun k _=>?_,.refl _,fun _=>⟨_,_,_,rfl,rfl⟩,fun q pB pR hB hR hb=>(by
     rw [SB.refs] at hb
     exact encL_nmd hB hR _ hb),fun h=>by cases h⟩
   have e1:((lst.enc m k).ev y).cells=SV.encL m lst.blk (lst.ev y).cells:=by rw [enc_ev,enc_cells]
   rw [←e1];exact opN_box (by rw [e1];exact allOneS_enc hc) hd
 ·split at h
  ·rename_i t a v;unfold isNew at hn;cases hn
  ·cases h
 ·rename_i t y z;unfold makeS at h;generalize hy:lst.ev y=vy at h;generalize hz:lst.ev z=vz at h;split at h
  ·rename_i e k L k' Cc hu;split at h
   ·rename_i Z sz bb rt hI hty
    cases hc:(allOne (Z.cells.toList.map avOf)&&Nat.beq (Z.cells.toList.map avOf).length sz&&Nat.blt 0 sz&&Nat.blt 0 bb) with
    | false=>rw [hc] at h;cases h
    | true =>
     rw [hc] at h;simp only [cond_true] at h;simp only [Bool.and_eq_true] at hc;obtain ⟨⟨⟨c1,c2⟩,c3⟩,c4⟩:=hc;split at h
     ·rename_i x0 hx0;simp only [Option.some.injEq,Prod.mk.injEq,MR.new.injEq] at h;obtain ⟨⟨rfl,rfl⟩,rfl⟩:=h;rw [andE_den,andE_den] at hg;obtain ⟨g1,g2⟩:=andB hg;obtain ⟨g2,g3⟩:=andB g2;have g2:=leE_den g2;have hb0:0<bb:=by simpa using c4
      have g2:(0:Int)≤(L.den:Int):=g2;have hzl:(Z.cells.toList.map avOf).length=sz:=Nat.eq_of_beq_eq_true c2;have hcell:=exA_ok (m:=m) (H:=lst.blk) hx0;rw [zeroS_enc] at hcell;have hsz:rt.size=sz:=by rw [←rt.cells_length true x0.den,hcell.len,hzl]
      refine ⟨.row sz (List.replicate (L.den:Int).toNat (Z.cells.toList.map avOf)) e,fun kk hm=>?_,?_,(fun h=>by cases h),(fun q pB pR hB hR _=>by
       refine List.all_eq_true.2 fun row hr=>?_
       rw [(List.mem_replicate.1 hr).2,←zeroS_enc (m:=m) (H:=lst.blk)]
       exact encL_nmd hB hR _ (exA_refs hx0)),fun _=>⟨_,_,_,_,_,rfl,by rw [hsz],by
       rw [List.length_replicate];show _=(List.replicate _ _).length
       rw [List.length_replicate]⟩⟩
      ·have ey:(lst.enc m kk).ev y=.int k L.den:=by rw [enc_ev,hy,SV.enc]
       have ez:(lst.enc m kk).ev z=.int k' Cc.den:=by rw [enc_ev,hz,SV.enc]
       obtain ⟨hLC,g3⟩:(L.den:Int)≤(Cc.den:Int)∧(bb:Int)*(Cc.den:Int)≤281474976710656:=by
        cases hso:sameOp y z with
        | true =>
         have hCL:(Cc.den:Int)=(L.den:Int):=sameOp_eq hso ey ez;rw [hso] at g3;have g3:=leE_den g3;rw [mulL_den] at g3;rw [hCL];exact ⟨Int.le_refl _,g3⟩
        | false =>
         rw [hso] at g1 g3;have g3:=leE_den g3;rw [mulL_den] at g3;exact ⟨leE_den g1,g3⟩
       exact opN_makeC (allP_at hT.und hu) (allP_at hT.inf hI) hzl (by simpa using c3) c1 ey ez g2 hLC g3 (le_of_mul hb0 (Int.le_trans g2 hLC) g3) hd
      ·subst hsz;refine .rows ⟨?_,fun i row row' h1 h2=>?_⟩
       ·show (List.map _ (List.replicate _ _)).length=_;rw [List.length_map,List.length_replicate,List.length_replicate]
       ·have h1:((List.replicate (L.den:Int).toNat x0.den).map (rt.cells true))[i]?=some row:=h1;rw [List.getElem?_map,List.getElem?_replicate] at h1;rw [List.getElem?_replicate] at h2;split at h1
        ·rename_i hi;rw [if_pos hi] at h2;simp only [Option.map_some,Option.some.injEq] at h1 h2;subst h1;subst h2
         exact hcell
        ·cases h1
     ·cases h
   ·cases h
  ·cases h
 ·rename_i t L parts;unfold litS at h;split at h
  ·rename_i e hu;split at h
   ·rename_i Z sz bb rt hI hty
    cases hc:(allOne (Z.cells.toList.map avOf)&&Nat.beq (Z.cells.toList.map avOf).length sz&&Nat.blt 0 sz&&Nat.ble (L*sz) 16777216&&Nat.beq rt.size sz) with
    | false=>rw [hc] at h;cases h
    | true =>
     rw [hc] at h;simp only [cond_true] at h;simp only [Bool.and_eq_true] at hc;obtain ⟨⟨⟨⟨c1,c2⟩,c3⟩,c4⟩,c5⟩:=hc;split at h
     ·rename_i out hf'
      cases ho:Nat.beq out.length (L*sz) with
      | false=>rw [ho] at h;cases h
      | true =>
       rw [ho] at h;simp only [cond_true] at h;have hf':=fillS_enc (m:=m) hf';rw [zerosS_enc,zeroS_enc] at hf';have hsz:=Nat.eq_of_beq_eq_true c5
       have fin:∀ fr xs,exRows fr rt (chunkS sz L out)=some xs→b=.row fr rt xs e 0→row=true→∃ b',NewOk P n ⟨d,.buildSlice t L parts,ty,ps,af,gg⟩ lst m b row b':=by
        intro fr xs hx eb er;subst eb;subst er
        have hch:=chunkS_at (m:=m) (H:=lst.blk) hx
        refine ⟨.row sz (chunk sz L (SV.encL m lst.blk out)) e,fun kk hm=>?_,?_,(fun h=>by cases h),(fun q pB pR hB hR _=>by
         refine List.all_eq_true.2 fun row hr=>?_
         rw [chunkS_enc] at hr;obtain ⟨r0,h1,rfl⟩:=List.mem_map.1 hr
         exact encL_nmd hB hR _ (exRows_refs hx r0 h1)),fun _=>⟨_,_,_,_,_,rfl,by rw [hsz],?_⟩⟩
        ·have hf2:=hf';rw [←evPartsS_enc (nx:=kk)] at hf2;exact opN_lit (allP_at hT.und hu) (allP_at hT.inf hI) c1 (Nat.eq_of_beq_eq_true c2) (by simpa using c3) c4 hf2 (by rw [encL_length];exact Nat.eq_of_beq_eq_true ho) hd
        ·subst hsz;exact .rows hch
        ·have:=hch.len;rw [List.length_map] at this;exact this.symm
       unfold litRow at h;split at h
       ·rename_i xs hx;simp only [Option.some.injEq,Prod.mk.injEq,MR.new.injEq] at h;exact fin _ _ hx h.1.1.symm h.1.2.symm
       ·split at h
        ·rename_i xs hx;simp only [Option.some.injEq,Prod.mk.injEq,MR.new.injEq] at h;exact fin _ _ hx h.1.1.symm h.1.2.symm
        ·cases h
     ·cases h
   ·cases h
  ·cases h
 ·rename_i y z t t'
  cases ht:Nat.beq t' t with
  | false=>rw [ht] at h;cases h
  | true =>
   rw [ht] at h;have ht:=Nat.eq_of_beq_eq_true ht;subst ht;simp only [cond_true] at h;unfold appS at h;generalize hy:lst.ev y=vy at h;split at h
   ·rename_i e hu;split at h
    ·rename_i Z sz bb hI
     cases hc:(Nat.beq Z.cells.size sz&&Nat.blt 0 sz) with
     | false=>rw [hc] at h;cases h
     | true =>
      rw [hc] at h;simp only [cond_true] at h;rw [Bool.and_eq_true] at hc;have hz:=Nat.eq_of_beq_eq_true hc.1;have h0:0<sz:=Nat.le_of_ble_eq_true hc.2;split at h
      ·split at h
       ·rename_i fr ty' xs e' v hb
        cases hc2:(Nat.beq _ v&&(Nat.beq e' e&&(Nat.beq sz ty'.size&&ty'.flat))) with
        | false=>rw [hc2] at h;cases h
        | true =>
         rw [hc2] at h;simp only [cond_true] at h;split at h
         ·rename_i fr' ys hy2
          cases hr:lst.refs (fun _=>true) (fun i w=>!(Nat.beq i _&&Nat.beq w (v+1))) with
          | false=>rw [hr] at h;cases h
          | true=>rw [hr] at h;cases h
         ·cases h
       ·cases h
      ·split at h
       ·rename_i rt hty
        cases hc2:(Nat.beq sz rt.size&&rt.flat) with
        | false=>rw [hc2] at h;cases h
        | true =>
         rw [hc2] at h;simp only [cond_true] at h;rw [Bool.and_eq_true] at hc2;have hsz:=Nat.eq_of_beq_eq_true hc2.1;subst hsz;split at h
         ·rename_i fr' ys hys;simp only [Option.some.injEq,Prod.mk.injEq,MR.new.injEq] at h;obtain ⟨⟨rfl,rfl⟩,rfl⟩:=h;have hg:=leE_den hg;have hg:(List.length ys.den:Int)*((bmul bb:Nat):Int)≤140737488355328:=hg;have h63:List.length ys.den*bmul bb≤140737488355328:=nat_of1 hg
          refine ⟨.row rt.size ((ys.den:List rt.den).map (rt.cells fr')) e,fun kk hm=>?_,.refl _,(fun h=>by cases h),(fun q pB pR hB hR _=>by
           refine List.all_eq_true.2 fun row hr=>?_
           obtain ⟨x,_,rfl⟩:=List.mem_map.1 hr
           exact nmd_go_isD fun a ha=>rt.cells_isD _ x a ha),fun _=>⟨_,_,_,_,_,rfl,rfl,rows_len _⟩⟩
          have ey:(lst.enc m kk).ev y=.nils:=by rw [enc_ev,hy,SV.enc]
          exact opN_append_nil ey rfl (srcC_ok hc2.2 hm hys) (allP_at hT.und hu) (allP_at hT.inf hI) h0 hz (by rw [rows_len];exact h63) hd
         ·cases h
       ·cases h
      ·cases h
    ·cases h
   ·cases h
 ·cases h
theorem hnew_fix {nx:Nat} {b:SB D} {b':AB} {s:ASt} (hm:MOk m nx st) (hl:LeS (st.enc m nx) s) (hf:FrOk m st.blk st.fr F) (hmx:m st.nx=nx) (hbd:b≠.dead) (hr:st.refs (nB st) (nR st)=true) (hb:LesB (b.enc m (st.hnew b).blk) b') :
  MOk m (nx+1) (st.hnew b)∧LeS ((st.hnew b).enc m (nx+1)) (s.hnew b')∧FrOk m (st.hnew b).blk (st.hnew b).fr F:=by
 have hnx:nx=s.nx:=hl.nx
 have hc:MemLe m st.blk m (st.hnew b).blk (nB st) (nR st):=by
  have hne:∀ id,(!Nat.beq id st.nx)=true→id≠st.nx:=by
   intro id h e;subst e;have h:(!Nat.beq st.nx st.nx)=true:=h;rw [Nat.beq_refl] at h;cases h
  refine ⟨fun id h=>.inr ⟨?_,rfl⟩,fun id v h=>.inr ⟨?_,rfl⟩⟩
  ·unfold isBox;rw [hnew_blk,if_neg (Ne.symm (hne id h))]
  ·unfold rowLen;rw [hnew_blk,if_neg (Ne.symm (hne id h))]
 unfold SSt.refs at hr;simp only [Bool.and_eq_true] at hr;obtain ⟨r1,r2,r3,r4,r5⟩:=hr
 have hlv:∀ k,(st.hnew b).blk k≠.dead→k≠st.nx→st.blk k≠.dead:=by
  intro k hk e;rw [hnew_blk,if_neg (Ne.symm e)] at hk;exact hk
 refine ⟨⟨fun k hk=>?_,fun k k' hk hk' e=>?_,fun p hp=>?_⟩,⟨fun d=>?_,fun k=>?_,?_⟩,hf.les' hc r5⟩
 ·by_cases e:k=st.nx
  ·rw [e,hmx];omega
  ·have:=hm.lt k (hlv k hk e);omega
 ·by_cases e1:k=st.nx
  ·by_cases e2:k'=st.nx
   ·omega
   ·rw [e1,hmx] at e;have:=hm.lt k' (hlv k' hk' e2);omega
  ·by_cases e2:k'=st.nx
   ·rw [e2,hmx] at e;have:=hm.lt k (hlv k hk e1);omega
   ·exact hm.inj k k' (hlv k hk e1) (hlv k' hk' e2) e
 ·show p.1<st.nx+1∧p.2≠.dead;rcases List.mem_cons.1 hp with rfl | hp
  ·exact ⟨Nat.lt_succ_self _,hbd⟩
  ·have:=hm.keys p hp;exact ⟨by omega,this.2⟩
 ·show Les (look .any (encR m (st.hnew b).blk (st.regs++st.kp)) d) _;exact (encR_les hc _ (by rw [refsR_append,r1,r2];rfl) d).trans (hl.regs d)
 ·show LesB (look .dead ((m st.nx,b.enc m (st.hnew b).blk)::encH m (st.hnew b).blk (st.heap++st.hk)) k) (look .dead ((s.nx,b')::s.heap) k);rw [look_cons,look_cons,hmx.trans hnx];split
  ·exact hb
  ·exact (encH_les hc _ (by rw [refsH_append,r3,r4];rfl) (fun _ _=>rfl) k).trans (hl.heap k)
 ·show nx+1=s.nx+1;omega
theorem newW_m (hL:Lay m nx0 b0 st0) (hws:∀ p ∈ ws,Good b0 st0 p.2) (hge:b0≤st.nx) (h:Dr.newW T ws i st.nx=true):Dr.newW T (mapP m ws) i (nxOf nx0 b0 st)=true:=by
 have e:nxOf nx0 b0 st=m st.nx:=(hL.new _ hge).symm;rw [e];unfold Dr.newW mapP at *
 rw [List.all_map];refine List.all_eq_true.2 fun p hp=>?_
 have:=List.all_eq_true.1 h p hp;show (bif Nat.beq (m p.2) (m st.nx) then _ else true)=true;rw [beq_m hL (hws p hp) (.inl hge)];exact this
theorem newR_ok (hC:C.ok P) (hL:Lay m nx0 b0 st0) (hws:∀ p ∈ ws,Good b0 st0 p.2) (hc:∀ p ∈ cr,b0≤p.2) (hI:RI F m nx0 b0 st0 st) (hd:dok o.dst n=true) (hnw:isNew o.op=true)
  (hg:o.guard=none∨gst ops o (Dr.lcl ops T (mapP m ws) nx0 i (mapP m cr) (st.enc m (nxOf nx0 b0 st)) o 0)=some true)
  {K:List (Nat×Nat)→SSt D→G D (KD ρ) ρ} (h:(newR C T ws b0 i cr (lclS ops T ws b0 i cr st o) st o K).den fu=some r)
  (k:∀ cr' st',RI F m nx0 b0 st0 st'→(∀ p ∈ cr',b0≤p.2)→(K cr' st').den fu=some r→AGm P n ops T ws nx0 b0 m Kt (i+1) cr' l st'):AGm P n ops T ws nx0 b0 m Kt i cr (o::l) st:=by
 unfold newR at h;split at h
 ·rename_i b row g hmem
  cases hb:(Dr.noW ws i&&Dr.newW T ws i st.nx&&b.refs (fun k=>visS T ws b0 i cr k&&!Nat.beq k st.nx) (fun k _=>visS T ws b0 i cr k&&!Nat.beq k st.nx)&&st.refs (fun id=>!Nat.beq id st.nx) (fun id _=>!Nat.beq id st.nx)) with
  | false=>rw [hb] at h;cases h
  | true =>
   rw [hb] at h;simp only [cond_true] at h;simp only [Bool.and_eq_true] at hb;obtain ⟨⟨⟨b1,b2⟩,b3⟩,b4⟩:=hb;obtain ⟨hgd,h⟩:=grdG_den h;obtain ⟨b',hN⟩:=new_ok (m:=m) hC.T hnw hmem hgd hd
   have hop:∀ k,OpN P n o (Dr.lcl ops T (mapP m ws) nx0 i (mapP m cr) (st.enc m (nxOf nx0 b0 st)) o k) b':=fun k=>⟨hd,fun K a w G r=>by
    have hk:=lt_of_rel hL hws hc hI.good hI.mok r;have hm:=lclS_mok (ops:=ops) (T:=T) (ws:=ws) (b0:=b0) (i:=i) (cr:=cr) (o:=o) hI.mok hk
    exact (hN.op k hm).out K a w G (r.les (lclS_les hL hws hc hI.good hI.mok hk))⟩
   have hmx:m st.nx=nxOf nx0 b0 st:=hL.new _ hI.ge
   have hmem2:MemLe m (lclS ops T ws b0 i cr st o).blk m (st.hnew b).blk (fun k=>visS T ws b0 i cr k&&!Nat.beq k st.nx) (fun k _=>visS T ws b0 i cr k&&!Nat.beq k st.nx):=by
    have e:∀ k,(visS T ws b0 i cr k&&!Nat.beq k st.nx)=true→(st.hnew b).blk k=(lclS ops T ws b0 i cr st o).blk k:=by
     intro k hk;rw [Bool.and_eq_true] at hk
     have hne:st.nx≠k:=fun e=>by
      subst e;have:=hk.2;rw [Nat.beq_refl] at this;cases this
     rw [hnew_blk,if_neg hne,lclS_blk,hk.1];rfl
    exact ⟨fun id h=>.inr ⟨by unfold isBox;rw [e id h],rfl⟩,fun id v h=>.inr ⟨by unfold rowLen;rw [e id h],rfl⟩⟩
   have hbd:b≠.dead:=by
    intro e;subst e
    cases row with
    | true=>obtain ⟨_,_,_,_,_,h1,_⟩:=hN.rw rfl;cases h1
    | false=>obtain ⟨_,_,_,h1,_⟩:=hN.box rfl;cases h1
   have hset:=hnew_fix (b:=b) (b':=b') hI.mok (.refl _) hI.fr hmx hbd b4 ((encB_les hmem2 b b3).trans hN.les)
   have hnx':nxOf nx0 b0 (st.hnew b)=nxOf nx0 b0 st+1:=by
    have:=hI.ge;show nx0+(st.nx+1-b0)=nx0+(st.nx-b0)+1;omega
   have hRI:RI F m nx0 b0 st0 (st.hnew b):=⟨by rw [hnx'];exact hset.1,by show b0≤st.nx+1;have:=hI.ge;omega,hset.2.2,hI.fix.trans ⟨rfl,rfl,rfl⟩,fun k hk=>by
    rw [hnew_blk] at hk;by_cases e':st.nx=k
    ·exact .inl (by have:=hI.ge;omega)
    ·rw [if_neg e'] at hk;exact hI.good k hk⟩
   have hnm:b'.nmd (vis T nx0 i (mapP m cr))=true:=by
    have key:∀ id,(visS T ws b0 i cr id&&!Nat.beq id st.nx)=true→(lclS ops T ws b0 i cr st o).blk id≠.dead→vis T nx0 i (mapP m cr) (m id)=true:=by
     intro id hv hbl;rw [Bool.and_eq_true] at hv;rw [lclS_blk,hv.1] at hbl;exact liveS hL hc hI hv.1 hbl
    refine hN.nmd _ _ _ (fun id hp hbl=>key id hp fun e=>?_) (fun id v n hp hbl=>key id hp fun e=>?_) b3
    ·unfold isBox at hbl;rw [e] at hbl;cases hbl
    ·unfold rowLen at hbl;rw [e] at hbl;cases hbl
   have hcr:∀ p ∈ (i,st.nx)::cr,b0≤p.2:=fun p hp=>by
    rcases List.mem_cons.1 hp with rfl | hp
    ·exact hI.ge
    ·exact hc p hp
   have hst:Dr.AG P n ops T (mapP m ws) nx0 Kt (i+1) (mapP m ((i,st.nx)::cr)) l (((st.enc m (nxOf nx0 b0 st)).hnew b').put o.dst (refB b' (st.enc m (nxOf nx0 b0 st)).nx)):=by
    refine .le ?_ (k _ _ (by rw [MR.app];exact hRI.put _ _) hcr h)
    have e:nxOf nx0 b0 (MR.app st o.dst (.new b row))=nxOf nx0 b0 st+1:=by
     rw [MR.app,←hnx']
     cases o.dst <;> rfl
    rw [e,MR.app,put_enc];refine hset.2.1.put ?_
    cases row with
    | true =>
     obtain ⟨fr,rt,xs,e1,rows,h1,h2,h3⟩:=hN.rw rfl;subst h1;subst h2
     have hi:rowLen (st.hnew (.row fr rt xs e1 0)).blk st.nx 0=some (List.length xs.den):=by unfold rowLen;rw [hnew_blk,if_pos rfl];rfl
     show Les (SV.enc m _ (.osl st.nx 0)) (.osl (nxOf nx0 b0 st) rows.length);rw [SV.enc,hi,hmx,h3];exact .refl _
    | false =>
     obtain ⟨cs,e1,cs',h1,h2⟩:=hN.box rfl;subst h1;subst h2
     have hi:isBox (st.hnew (.box cs e1)).blk st.nx=true:=by unfold isBox;rw [hnew_blk,if_pos rfl]
     show Les (SV.enc m _ (.box st.nx 0)) (.box (nxOf nx0 b0 st) 0);rw [SV.enc,hi,hmx];exact .refl _
   have e2:mapP m ((i,st.nx)::cr)=(i,(st.enc m (nxOf nx0 b0 st)).nx)::mapP m cr:=by
    show (i,m st.nx)::mapP m cr=_;rw [hmx];rfl
   rw [e2] at hst;exact .step (.new (by rw [noW_m];exact b1) (newW_m hL hws hI.ge b2) hg hop hnm) hst
 ·cases h
theorem EntR.up {ce:CtrE} {vs:List (SV D)} {mp:List (Nat×Nat)} {e:E D (itmsTy ce.si.items)} {kk:Nat} {lst:SSt D} (h:EntR ce lst m kk vs mp e) (hm:MOk m kk st) (hml:MOk m kk lst) (hb:∀ k,lst.blk k≠.dead→lst.blk k=st.blk k):EntR ce st m kk vs mp e:=by
 have hmem:MemLe m st.blk m lst.blk (fun _=>true) (fun _ _=>true):=by
  refine ⟨fun id _=>?_,fun id v _=>?_⟩
  ·by_cases e:lst.blk id=.dead
   ·left;unfold isBox;rw [e]
   ·right;unfold isBox;rw [hb id e];exact ⟨rfl,rfl⟩
  ·by_cases e:lst.blk id=.dead
   ·left;unfold rowLen;rw [e]
   ·right;unfold rowLen;rw [hb id e];exact ⟨rfl,rfl⟩
 refine ⟨h.mok,h.args.trans (encL_les hmem vs (svL_refs_all vs)),fun id=>(h.heap id).trans ?_,fun b hbi=>?_,h.dead,fun b=>⟨fun hk=>?_,fun hk=>?_⟩,fun b hbi hk=>?_⟩
 ·rcases heap_cases hml id with h' | ⟨b,hbl,rfl⟩
  ·rw [h'];exact .dead _
  ·rw [enc_blk hml hbl,enc_blk hm (by rw [←hb b hbl];exact hbl),hb b hbl];exact encB_les hmem _ (sb_refs_all _)
 ·obtain ⟨h1,h2⟩:=h.live b hbi;exact ⟨h1,by rw [←hb _ h2];exact h2⟩
 ·obtain ⟨cs,ty,h1⟩:=(h.kind b).1 hk;exact ⟨cs,ty,by rw [←hb _ (by rw [h1];simp)];exact h1⟩
 ·obtain ⟨fr,t,xs,ty,v,h1⟩:=(h.kind b).2 hk;exact ⟨fr,t,xs,ty,v,by rw [←hb _ (by rw [h1];simp)];exact h1⟩
 ·have h2:=(h.live b hbi).2;have e1:=hb _ h2;have:=h.len b hbi hk;unfold curVer rowLen at this ⊢;rw [←e1];exact this
theorem effOf_some {C:DC} {lst:SSt D} {op:Op} {ce:CtrE} {vs:List (SV D)} (h:effOf C lst op=some (ce,vs)):∃ cal args ats Fn caps,op=.call ⟨.value cal,args,ats⟩∧lst.ev cal=.fn Fn caps∧(∃ z,lk C.cas Fn=some z)∧lk C.effs Fn=some ce∧vs=evS lst args.toList++caps:=by
 unfold effOf at h;split at h
 ·rename_i cal args ats;split at h
  ·rename_i Fn caps hcal;split at h
   ·rename_i z hz;split at h
    ·cases h
    ·split at h
     ·rename_i ce' hce;simp only [Option.some.injEq,Prod.mk.injEq] at h;obtain ⟨h1,h2⟩:=h;subst h1;subst h2
      exact ⟨cal,args,ats,Fn,caps,rfl,hcal,⟨z,hz⟩,hce,rfl⟩
     ·cases h
   ·cases h
  ·cases h
 ·cases h
theorem effD_ok (hC:C.ok P) (hL:Lay m nx0 b0 st0) (hws:∀ p ∈ ws,Good b0 st0 p.2) (hc:∀ p ∈ cr,b0≤p.2) (hI:RI F m nx0 b0 st0 st) (hd:dok o.dst n=true)
  (hg:o.guard=none∨gst ops o (Dr.lcl ops T (mapP m ws) nx0 i (mapP m cr) (st.enc m (nxOf nx0 b0 st)) o 0)=some true) {ce:CtrE} {vs:List (SV D)} (hef:effOf C (lclS ops T ws b0 i cr st o) o.op=some (ce,vs))
  {K:List (Nat×Nat)→SSt D→G D (KD ρ) ρ} (h:(effD T ws b0 i cr (lclS ops T ws b0 i cr st o) st o ce vs K).den fu=some r)
  (k:∀ cr' st',RI F m nx0 b0 st0 st'→(∀ p ∈ cr',b0≤p.2)→(K cr' st').den fu=some r→AGm P n ops T ws nx0 b0 m Kt (i+1) cr' l st'):AGm P n ops T ws nx0 b0 m Kt i cr (o::l) st:=by
 obtain ⟨cal,args,ats,Fn,caps,hop,hcal,⟨z,hz⟩,hce,hvs⟩:=effOf_some hef;have hF:=allP_at hC.cas hz;have hceok:=allP_at hC.effs hce;unfold effD at h;generalize hmp:mapE ce.si (lclS ops T ws b0 i cr st o) vs=mp at h
 cases hb:(detOk ce.si ce.so ce.nb&&(((itemB ce.si.items).all fun b=>visS T ws b0 i cr (mpI mp b)&&(ws.any fun p=>Nat.beq p.1 i&&Nat.beq p.2 (mpI mp b))) &&
  ((ws.all fun p=>!Nat.beq p.1 i||((itemB ce.si.items).any fun b=>Nat.beq p.2 (mpI mp b)))&&(((List.range ce.so.ex).all fun j=>Dr.newW T ws i (st.nx+j))&&refE ce.si ce.so ce.nb mp st)))) with
 | false=>rw [hb] at h;cases h
 | true =>
  rw [hb] at h;simp only [cond_true] at h;simp only [Bool.and_eq_true] at hb;obtain ⟨hdet,b1,b2,b3,b4⟩:=hb;split at h
  ·rename_i e he;rw [G.den] at h;unfold bindO at h;split at h
   ·rename_i y hy;unfold arrE at he;rw [hmp] at he
    cases hca:(sigOk ce.si ce.so ce.nb&&(Nat.beq ce.na vs.length&&(refE ce.si ce.so ce.nb mp (lclS ops T ws b0 i cr st o)&&((itemB ce.si.items).all fun b=>Nat.blt (mpI mp b) (lclS ops T ws b0 i cr st o).nx)))) with
    | false=>rw [hca] at he;cases he
    | true =>
     rw [hca] at he;simp only [cond_true] at he;simp only [Bool.and_eq_true] at hca;obtain ⟨c1,c2,_,c4⟩:=hca;have hs:=sigOk_at c1;have hna:=Nat.eq_of_beq_eq_true c2;have hlt:∀ b ∈ itemB ce.si.items,mpI mp b<st.nx:=fun b hb=>Nat.le_of_ble_eq_true (List.all_eq_true.1 c4 b hb)
     rw [←hmp] at he
     have hlst:∀ j,(lclS ops T ws b0 i cr st o).blk j≠.dead→(lclS ops T ws b0 i cr st o).blk j=st.blk j:=by
      intro j hj;rw [lclS_blk] at hj ⊢
      cases hv:visS T ws b0 i cr j with
      | true=>rfl
      | false=>rw [hv] at hj;exact absurd rfl hj
     have hkb:∀ j,(lclS ops T ws b0 i cr st o).blk j≠.dead→m j<nxOf nx0 b0 st:=fun j hj=>hI.mok.lt j (by rw [←hlst j hj];exact hj)
     have hmk:∀ q,nxOf nx0 b0 st≤q→MOk m q (lclS ops T ws b0 i cr st o):=fun q hq=>lclS_mok hI.mok fun j hj=>by have:=hkb j hj;omega
     have hEq:∀ q,nxOf nx0 b0 st≤q→EntR ce (lclS ops T ws b0 i cr st o) m q vs mp e:=fun q hq=>by
      have:=entR hs (hmk q hq) hna he;rw [hmp] at this;exact this
     have hE0:=hEq _ (Nat.le_refl _);have hE:EntR ce st m (nxOf nx0 b0 st) vs mp e:=hE0.up hI.mok (hmk _ (Nat.le_refl _)) hlst;have hm0:∀ b ∈ itemB ce.si.items,mM m mp b<nxOf nx0 b0 st:=fun b hb=>hE.mok.lt b (hE.live b hb).1
     have hlen:=(hceok.2 fu e.den y hy).1;have hτ:=tau_mok (y:=y) (kk:=nxOf nx0 b0 st) hs hE.mok (fun b hb=>⟨(hE.live b hb).1,hm0 b hb⟩);have hτf:=tau_fr (kk:=nxOf nx0 b0 st) (m0:=mM m mp) (nx':=nxOf nx0 b0 st) hs hdet hlen
     let L:List Nat:=(itemB ce.si.items).map (mM m mp)
     have hLp:∀ id,hasN L id=pE ce.si (mM m mp) id:=fun id=>by
      rw [Bool.eq_iff_iff,pE_iff];constructor
      ·intro h';obtain ⟨b,h1,h2⟩:=List.mem_map.1 (hasN_mem h');exact ⟨b,h1,h2⟩
      ·rintro ⟨b,h1,h2⟩
       exact hasN_of (List.mem_map.2 ⟨b,h1,h2⟩)
     have hq:∀ id,(orQ (hasN L) (nxOf nx0 b0 st) (nxOf nx0 b0 st+ce.so.ex) id)=(pE ce.si (mM m mp) id||newQ (nxOf nx0 b0 st) (nxOf nx0 b0 st+ce.so.ex) id):=fun id=>by
      unfold orQ;rw [hLp]
     have hexk:∀ b ∈ itemB ce.so.items,orQ (hasN L) (nxOf nx0 b0 st) (nxOf nx0 b0 st+ce.so.ex) (tauE ce.nb (mM m mp) (nxOf nx0 b0 st) b)=true:=by
      intro b hb;rw [orQ_iff];have:=hs.lt b hb;unfold tauE;split
      ·rename_i c
       left
       rw [hLp,pE_iff];exact ⟨b,(hs.old b hb c).1,rfl⟩
      ·right;omega
     have hBX:∀ id,isBox (exi ce.si ce.so ce.nb (.var y:E D (itmsTy ce.so.items))).blk id=true→orQ (hasN L) (nxOf nx0 b0 st) (nxOf nx0 b0 st+ce.so.ex) (tauE ce.nb (mM m mp) (nxOf nx0 b0 st) id)=true:=fun id h=>hexk id (exiK (y:=y) hs (fun h'=>by unfold isBox at h;rw [h'] at h;cases h))
     have hRX:∀ id v q,rowLen (exi ce.si ce.so ce.nb (.var y:E D (itmsTy ce.so.items))).blk id v=some q→orQ (hasN L) (nxOf nx0 b0 st) (nxOf nx0 b0 st+ce.so.ex) (tauE ce.nb (mM m mp) (nxOf nx0 b0 st) id)=true:=fun id v q h=>hexk id (exiK (y:=y) hs (fun h'=>by unfold rowLen at h;rw [h'] at h;cases h))
     have hlook:∀ j,look .dead (Dr.onL (L++Dr.news (nxOf nx0 b0 st) (nxOf nx0 b0 st+ce.so.ex)) (look .dead ((exi ce.si ce.so ce.nb (.var y:E D (itmsTy ce.so.items))).enc (tauE ce.nb (mM m mp) (nxOf nx0 b0 st)) (nxOf nx0 b0 st+ce.so.ex)).heap) (st.enc m (nxOf nx0 b0 st)).heap) j =
       bif orQ (pE ce.si (mM m mp)) (nxOf nx0 b0 st) (nxOf nx0 b0 st+ce.so.ex) j then look .dead ((exi ce.si ce.so ce.nb (.var y:E D (itmsTy ce.so.items))).enc (tauE ce.nb (mM m mp) (nxOf nx0 b0 st)) (nxOf nx0 b0 st+ce.so.ex)).heap j else look .dead (st.enc m (nxOf nx0 b0 st)).heap j:=by
      intro j;by_cases hj:j ∈ L++Dr.news (nxOf nx0 b0 st) (nxOf nx0 b0 st+ce.so.ex)
      ·rw [Dr.onL_in hj]
       have:orQ (pE ce.si (mM m mp)) (nxOf nx0 b0 st) (nxOf nx0 b0 st+ce.so.ex) j=true:=by
        rw [orQ_iff];rcases List.mem_append.1 hj with h' | h'
        ·left;rw [←hLp];exact hasN_of h'
        ·exact .inr (Dr.news_mem.1 h')
       rw [this];rfl
      ·rw [Dr.onL_out hj]
       have:orQ (pE ce.si (mM m mp)) (nxOf nx0 b0 st) (nxOf nx0 b0 st+ce.so.ex) j=false:=by
        rw [Bool.eq_false_iff];intro h';refine hj (List.mem_append.2 ?_);rcases orQ_iff.1 h' with h' | h'
        ·left;rw [←hLp] at h';exact hasN_mem h'
        ·exact .inr (Dr.news_mem.2 h')
       rw [this];rfl
     have hκn:∀ b,¬ b<ce.nb→kapE ce.nb mp st.nx b=st.nx+(b-ce.nb):=fun b h=>by
      unfold kapE;rw [show Nat.blt b ce.nb=false by rw [←Bool.not_eq_true];simpa using h];rfl
     have hκo:∀ b,b<ce.nb→kapE ce.nb mp st.nx b=mpI mp b:=fun b h=>by
      unfold kapE;rw [show Nat.blt b ce.nb=true by simpa using h];rfl
     have hnew:∀ j,m (st.nx+j)=nxOf nx0 b0 st+j:=fun j=>by
      have:=hI.ge;rw [hL.new _ (by omega)];unfold nxOf;omega
     have hR:=effCore (Fs:=F) (m2:=m) hs hI.mok hI.fr hE hlt b4 (fun id=>pE_iff) hτ hτf (Nat.le_add_right _ _) (fun j hj=>by
       rcases heap_cases hτ j with h' | ⟨b,hb,rfl⟩
       ·exact absurd h' hj
       ·have:=hexk b (exiK hs hb);rw [hq] at this
        exact this) hlook (fun b hb=>by
       unfold tauE;split
       ·rename_i c;rw [hκo b c]
       ·rename_i c;rw [hκn b c,hnew]) (fun _ _=>rfl)
     have hnx':nxOf nx0 b0 (outE ce.si ce.so ce.nb mp st (.var y:E D (itmsTy ce.so.items)))=nxOf nx0 b0 st+ce.so.ex:=by
      have:=hI.ge;show nx0+(st.nx+ce.so.ex-b0)=nx0+(st.nx-b0)+ce.so.ex;omega
     have hRI:RI F m nx0 b0 st0 (outE ce.si ce.so ce.nb mp st (.var y:E D (itmsTy ce.so.items))):=by
      refine ⟨by rw [hnx'];exact hR.mok,by show b0≤st.nx+ce.so.ex;have:=hI.ge;omega,hR.fr,hI.fix.trans ⟨rfl,rfl,rfl⟩,fun j hj=>?_⟩;by_cases hge:b0≤j
      ·exact .inl hge
      ·refine hI.good j fun hdead=>?_
       have hj2:=hR.mok.live hj;by_cases hk:∃ b ∈ itemB ce.so.items,kapE ce.nb mp st.nx b=j
       ·obtain ⟨b,hb,rfl⟩:=hk;have:=hI.ge;by_cases c:b<ce.nb
        ·rw [hκo b c] at hdead;exact (hE.live b (hs.old b hb c).1).2 hdead
        ·rw [hκn b c] at hge;omega
       ·refine hj ?_;show look (look .dead st.hk j) (renHE ce.si ce.so ce.nb mp st (injH ce.so.items (.var y))++st.heap) j=.dead;rw [look_append,look_none (l:=renHE ce.si ce.so ce.nb mp st (injH ce.so.items (.var y))) (fun hm=>?_)]
        ·exact hdead
        ·obtain ⟨p,hp,h2⟩:=List.mem_map.1 hm;obtain ⟨p',hp',rfl⟩:=List.mem_map.1 hp;refine hk ⟨p'.1,?_,h2⟩;rw [←keyB ce.so.items (.var y:E D (itmsTy ce.so.items))];exact List.mem_map.2 ⟨p',hp',rfl⟩
     have hcr:∀ p ∈ (List.range ce.so.ex).map (fun j=>(i,st.nx+j))++cr,b0≤p.2:=fun p hp=>by
      rcases List.mem_append.1 hp with hp | hp
      ·obtain ⟨j,_,rfl⟩:=List.mem_map.1 hp;have:=hI.ge;show b0≤st.nx+j;omega
      ·exact hc p hp
     have ecr:mapP m ((List.range ce.so.ex).map (fun j=>(i,st.nx+j))++cr)=(Dr.news (nxOf nx0 b0 st) (nxOf nx0 b0 st+ce.so.ex)).map (fun id=>(i,id))++mapP m cr:=by
      unfold mapP Dr.news;rw [List.map_append,Nat.add_sub_cancel_left];congr 1;rw [List.map_map,List.range'_eq_map_range,List.map_map];refine List.map_congr_left fun j _=>?_
      show (i,m (st.nx+j))=(i,nxOf nx0 b0 st+j);rw [hnew]
     have hnext:=k _ _ (hRI.put o.dst _) hcr h
     have hst:Dr.AG P n ops T (mapP m ws) nx0 Kt (i+1) ((Dr.news (nxOf nx0 b0 st) (nxOf nx0 b0 st+ce.so.ex)).map (fun id=>(i,id))++mapP m cr) l
       ((⟨(st.enc m (nxOf nx0 b0 st)).regs,Dr.onL (L++Dr.news (nxOf nx0 b0 st) (nxOf nx0 b0 st+ce.so.ex)) (look .dead ((exi ce.si ce.so ce.nb (.var y:E D (itmsTy ce.so.items))).enc (tauE ce.nb (mM m mp) (nxOf nx0 b0 st)) (nxOf nx0 b0 st+ce.so.ex)).heap) (st.enc m (nxOf nx0 b0 st)).heap,nxOf nx0 b0 st+ce.so.ex⟩:ASt).put o.dst
        ((look SV.any (statR ce.so.stat++injR ce.so.items (.var y:E D (itmsTy ce.so.items))) 0).enc (tauE ce.nb (mM m mp) (nxOf nx0 b0 st)) (exi ce.si ce.so ce.nb (.var y:E D (itmsTy ce.so.items))).blk)):=by
      rw [←ecr];refine .le ?_ hnext
      have e2:nxOf nx0 b0 ((outE ce.si ce.so ce.nb mp st (.var y:E D (itmsTy ce.so.items))).put o.dst (resE ce.si ce.so ce.nb mp st (.var y)))=nxOf nx0 b0 st+ce.so.ex:=by
       rw [←hnx']
       cases o.dst <;> rfl
      rw [e2,put_enc];exact hR.les.put hR.res
     have hvis:∀ b ∈ itemB ce.si.items,Dr.visW T (mapP m ws) nx0 i (mapP m cr) (mM m mp b)=true:=fun b hb=>by
      have h1:=List.all_eq_true.1 b1 b hb;rw [Bool.and_eq_true] at h1;have hgk:Good b0 st0 (mpI mp b):=hI.good _ (hE.live b hb).2;unfold Dr.visW;show (vis T nx0 i (mapP m cr) (m (mpI mp b))&&Dr.okW T (mapP m ws) i (m (mpI mp b)))=true;rw [vis_m hL hc hgk,okW_m hL hws hgk];exact h1.1
     refine .step (.eff L (nxOf nx0 b0 st+ce.so.ex) _ hg (fun q hqq=>⟨hd,fun K' a w G' r'=>?_⟩) hd (Nat.le_add_right _ _) (fun id g1 g2=>?_) (fun id hid=>?_) (fun id=>⟨fun hid=>?_,fun hid=>?_⟩) (fun id=>?_) ?_) hst
     ·have hkq:nxOf nx0 b0 st≤q:=Nat.le_trans (Nat.le_add_right _ _) hqq;have r2:=r'.les (lclS_les hL hws hc hI.good hI.mok (fun j hj=>by have:=hkb j hj;omega));have hc':((lclS ops T ws b0 i cr st o).enc m q).ev cal=.fn Fn (SV.encL m (lclS ops T ws b0 i cr st o).blk caps):=by rw [enc_ev,hcal,SV.enc]
      have e1:=r2.ev cal;rw [hc'] at e1;obtain ⟨us,e2,hul,hur⟩:=e1.fn'
      have hargs:ArgsV w G' (SV.encL m (lclS ops T ws b0 i cr st o).blk vs) (args.map a.eval++us):=by
       rw [hvs,←evS_append (nx:=q)];refine ⟨by simp [hul],fun i x v hx hv=>?_⟩;by_cases hi:i<args.size
       ·rw [List.getElem?_append_left (by simpa using hi)] at hx;rw [Array.getElem?_append_left (by simpa using hi)] at hv;refine list_ev r2 args.toList i x v hx ?_;rw [List.getElem?_map,Array.getElem?_toList];rw [Array.getElem?_map] at hv;exact hv
       ·rw [List.getElem?_append_right (by simp;omega)] at hx;rw [Array.getElem?_append_right (by simp;omega)] at hv;exact hur _ x v hx (by simpa using hv)
      refine ⟨Fn,args.map a.eval++us,by simp [execOp,hop,resolve,e2,Deferred.ofValue,invoke,run_callFunc' hF],?_⟩;have hcall:=callS_ok (kk:=nxOf nx0 b0 st) hceok hdet hs (hEq q hkq) hm0 hqq hy r2.hr r2.nx hargs;refine hcall.mono ?_
      rintro en w' ⟨v,G2,g1,g2,g3,g4⟩
      refine ⟨v,G2,g1,?_,by rw [g3];exact r2.nx.symm,g4⟩;have hfun:orQ (hasN L) (nxOf nx0 b0 st) (nxOf nx0 b0 st+ce.so.ex)=fun id=>pE ce.si (mM m mp) id||newQ (nxOf nx0 b0 st) (nxOf nx0 b0 st+ce.so.ex) id:=funext hq
      show OutS (orQ (hasN L) (nxOf nx0 b0 st) (nxOf nx0 b0 st+ce.so.ex)) (nxOf nx0 b0 st) (nxOf nx0 b0 st+ce.so.ex) _ _ _ _ _ _;rw [hfun];exact g2
     ·have g1:nxOf nx0 b0 st≤id:=g1;have g2:id<nxOf nx0 b0 st+ce.so.ex:=g2;obtain ⟨j,rfl⟩:∃ j,id=nxOf nx0 b0 st+j:=⟨id-nxOf nx0 b0 st,by omega⟩;have hj:=List.all_eq_true.1 b3 j (List.mem_range.2 (by omega));rw [←hnew];unfold Dr.newW mapP at *
      rw [List.all_map];refine List.all_eq_true.2 fun p hp=>?_
      have:=List.all_eq_true.1 hj p hp;show (bif Nat.beq (m p.2) (m (st.nx+j)) then _ else true)=true;rw [beq_m hL (hws p hp) (.inl (by have:=hI.ge;omega))];exact this
     ·obtain ⟨b,hb,rfl⟩:=List.mem_map.1 hid;exact ⟨hm0 b hb,hvis b hb⟩
     ·obtain ⟨p,hp,e1⟩:=List.mem_map.1 hid;have h2:=List.all_eq_true.1 b2 p hp;simp only [Prod.mk.injEq] at e1;rw [e1.1,Nat.beq_refl] at h2;simp only [Bool.not_true,Bool.false_or] at h2;obtain ⟨b,hb,h3⟩:=List.any_eq_true.1 h2;refine List.mem_map.2 ⟨b,hb,?_⟩;rw [←e1.2,Nat.eq_of_beq_eq_true h3]
     ·obtain ⟨b,hb,rfl⟩:=List.mem_map.1 hid;have h1:=List.all_eq_true.1 b1 b hb;rw [Bool.and_eq_true] at h1;obtain ⟨p,hp,h2⟩:=List.any_eq_true.1 h1.2;rw [Bool.and_eq_true] at h2;refine List.mem_map.2 ⟨p,hp,?_⟩;rw [Nat.eq_of_beq_eq_true h2.1,Nat.eq_of_beq_eq_true h2.2]
     ·rcases heap_cases hτ id with h' | ⟨b,hb,rfl⟩
      ·exact .inl h'
      ·refine .inr ⟨hexk b (exiK hs hb),?_⟩;rw [enc_blk hτ hb];exact sb_nmd hBX hRX _
     ·exact enc_nmd (pB:=fun _=>true) (pR:=fun _ _=>true) (fun id _ h=>hBX id h) (fun id v q _ h=>hRX id v q h) _ (sv_refs_all _)
   ·cases h
  ·cases h
theorem stepR_ok' (hC:C.ok P) (hL:Lay m nx0 b0 st0) (hws:∀ p ∈ ws,Good b0 st0 p.2) (hc:∀ p ∈ cr,b0≤p.2) (hI:RI F m nx0 b0 st0 st) (hd:dok o.dst n=true)
  (hg:o.guard=none∨gst ops o (Dr.lcl ops T (mapP m ws) nx0 i (mapP m cr) (st.enc m (nxOf nx0 b0 st)) o 0)=some true)
  {K:List (Nat×Nat)→SSt D→G D (KD ρ) ρ} (h:(stepR' C T ws b0 i cr (lclS ops T ws b0 i cr st o) st o K).den fu=some r)
  (k:∀ cr' st',RI F m nx0 b0 st0 st'→(∀ p ∈ cr',b0≤p.2)→(K cr' st').den fu=some r→AGm P n ops T ws nx0 b0 m Kt (i+1) cr' l st'):AGm P n ops T ws nx0 b0 m Kt i cr (o::l) st:=by
 unfold stepR' at h;split at h
 ·rename_i x g hx
  cases hb:(Dr.noW ws i&&x.refs (visS T ws b0 i cr) (fun k _=>visS T ws b0 i cr k)) with
  | false=>rw [hb] at h;cases h
  | true =>
   rw [hb] at h;rw [Bool.and_eq_true] at hb;simp only [cond_true] at h;obtain ⟨hgd,h⟩:=grdG_den h
   have hop:∀ k,OpR P n o (Dr.lcl ops T (mapP m ws) nx0 i (mapP m cr) (st.enc m (nxOf nx0 b0 st)) o k) (x.enc m (lclS ops T ws b0 i cr st o).blk):=fun k=>⟨hd,fun K a w G r=>by
    have hk:=lt_of_rel hL hws hc hI.good hI.mok r;have hm:=lclS_mok (ops:=ops) (T:=T) (ws:=ws) (b0:=b0) (i:=i) (cr:=cr) (o:=o) hI.mok hk
    exact (OpR.le (lclS_les hL hws hc hI.good hI.mok hk) (rd_ok (n:=n) hC.T hm hx hgd hd)).out K a w G r⟩
   have hnm:=nmdS (ops:=ops) (o:=o) hL hc hI hb.2;have hles:Les (x.enc m st.blk) (x.enc m (lclS ops T ws b0 i cr st o).blk):=enc_les lclS_memS x hb.2
   cases hl:lets o.op with
   | true =>
    rw [hl] at h;simp only [cond_true] at h;obtain ⟨y,hy,h⟩:=letV_den h;exact .step (.read (by rw [noW_m];exact hb.1) hg hop hnm) (AGm.put (by rw [hy];exact hles) (k cr _ (hI.put _ _) hc h))
   | false =>
    rw [hl] at h;exact .step (.read (by rw [noW_m];exact hb.1) hg hop hnm) (AGm.put hles (k cr _ (hI.put _ _) hc h))
 ·cases hnw:(isNew o.op&&Dr.noW ws i) with
  | true =>
   rw [hnw] at h;rw [Bool.and_eq_true] at hnw;exact newR_ok hC hL hws hc hI hd hnw.1 hg h k
  | false =>
  rw [hnw] at h;simp only [cond_false] at h;split at h
  ·rename_i ce vs hef;exact effD_ok hC hL hws hc hI hd hg hef h k
  rename_i hnone;clear hnone
  cases hb:Dr.noW ws i with
  | false =>
   rw [hb] at h;exact writeR_ok hC hL hws hc hI hd hg h k
  | true =>
   rw [hb] at h;simp only [cond_true] at h;obtain ⟨d,op,ty,ps,af,gg⟩:=o;have hd:dok d n=true:=hd;simp only at h;unfold callR at h;split at h
   ·rename_i cal args ats _;split at h
    ·rename_i Fn caps hcal;split at h
     ·rename_i hF;have hcal':=allP_at hC.cas hF;split at h
      ·rename_i c hctr;split at h
       ·rename_i e hargs;rw [G.den] at h;unfold bindO at h;split at h
        ·rename_i y hy;have hAF:=allP_at hC.ctrs hctr fu e.den y hy
         have hop:∀ k,OpF P n ⟨d,.call ⟨.value cal,args,ats⟩,ty,ps,af,gg⟩ (Dr.lcl ops T (mapP m ws) nx0 i (mapP m cr) (st.enc m (nxOf nx0 b0 st)) ⟨d,.call ⟨.value cal,args,ats⟩,ty,ps,af,gg⟩ k) (oneOf (c.r.avs true y)):=fun k=>⟨hd,fun K a w G r=>by
          have hk:=lt_of_rel hL hws hc hI.good hI.mok r;have hm:=lclS_mok (ops:=ops) (T:=T) (ws:=ws) (b0:=b0) (i:=i) (cr:=cr) (o:=⟨d,.call ⟨.value cal,args,ats⟩,ty,ps,af,gg⟩) hI.mok hk;have hc':((lclS ops T ws b0 i cr st ⟨d,.call ⟨.value cal,args,ats⟩,ty,ps,af,gg⟩).enc m k).ev cal=.fn Fn (SV.encL m (lclS ops T ws b0 i cr st ⟨d,.call ⟨.value cal,args,ats⟩,ty,ps,af,gg⟩).blk caps):=by rw [enc_ev,hcal,SV.enc]
          exact (OpF.le (lclS_les hL hws hc hI.good hI.mok hk) (OpF.of hc' (evS_append _ args.toList caps) hcal' hd hAF (exArgs_ok hm _ _ _ hargs))).out K a w G r⟩
         refine .step (.call (by rw [noW_m];exact hb) hg hop ?_) (AGm.put ?_ (k cr _ (hI.put _ _) hc h))
         ·have e1:(oneOfS (svsE true c.r (.var y:E D c.r))).enc m (fun _=>SB.dead)=oneOf (c.r.avs true y):=by rw [oneOfS_enc,svsE_enc];rfl
          rw [←e1];exact enc_nmd (pB:=fun _=>false) (pR:=fun _ _=>false) (fun id h=>by cases h) (fun id v n h=>by cases h) _ (one_nmd (datas_nmd c.r _))
         ·rw [oneOfS_enc,svsE_enc];exact .refl _
        ·cases h
       ·cases h
      ·cases h
     ·cases h
    ·cases h
   ·cases h
theorem sR_ok (hC:C.ok P) (hL:Lay m nx0 b0 st0) (hws:∀ p ∈ ws,Good b0 st0 p.2) {K:SSt D→G D (KD ρ) ρ} (hK:∀ st',RI F m nx0 b0 st0 st'→(K st').den fu=some r→Kt (st'.enc m (nxOf nx0 b0 st'))):∀ (l:List Oper) (i:Nat) (cr:List (Nat×Nat)) (st:SSt D),(sR C n ops T ws b0 K i cr l st).den fu=some r→RI F m nx0 b0 st0 st→(∀ p ∈ cr,b0≤p.2) →
  AGm P n ops T ws nx0 b0 m Kt i cr l st
 | [],i,cr,st,h,hI,hc=>.nil (hK st hI h)
 | o::l,i,cr,st,h,hI,hc=>by
  rw [sR] at h
  cases hd:dok o.dst n with
  | false=>rw [hd] at h;cases h
  | true =>
   rw [hd] at h;simp only [cond_true] at h
   have ihr:∀ cr' st',RI F m nx0 b0 st0 st'→(∀ p ∈ cr',b0≤p.2)→(sR C n ops T ws b0 K (i+1) cr' l st').den fu=some r→AGm P n ops T ws nx0 b0 m Kt (i+1) cr' l st' :=
    fun cr' st' h1 h2 h3=>sR_ok hC hL hws hK l (i+1) cr' st' h3 h1 h2
   have sk:∀ st1,RI F m nx0 b0 st0 st1→gst ops o (Dr.lcl ops T (mapP m ws) nx0 i (mapP m cr) (st1.enc m (nxOf nx0 b0 st1)) o 0)=some false→(bif Dr.noW ws i then sR C n ops T ws b0 K (i+1) cr l (st1.put o.dst .und) else .fail).den fu=some r→AGm P n ops T ws nx0 b0 m Kt i cr (o::l) st1:=by
    intro st1 hI hg h
    cases hb:Dr.noW ws i with
    | false=>rw [hb] at h;cases h
    | true =>
     rw [hb] at h;exact skipR_ok hd hb hg (ihr cr _ (hI.put _ _) hc h)
   split at h
   ·rename_i hw;exact stepR_ok' hC hL hws hc hI hd (gst_yesS hw) h ihr
   ·rename_i hw;exact sk st hI (gst_noS hw) h
   ·rename_i c d want hw;obtain ⟨hg,hx⟩:=wantS_ask hw;rw [G.den] at h
    have know:∀ b,c.den=b→AGm P n ops T ws nx0 b0 m Kt i cr (o::l) (st.put (some d) (.bool (.bL b)))→AGm P n ops T ws nx0 b0 m Kt i cr (o::l) st:=by
     intro b hb k;refine .le ?_ k;have e:nxOf nx0 b0 (st.put (some d) (.bool (.bL b)))=nxOf nx0 b0 st:=rfl;rw [e,put_enc];refine ⟨fun k=>?_,fun k=>.refl _,rfl⟩;show Les (look .any ((d,SV.enc m st.blk (.bool (.bL b)))::(st.enc m (nxOf nx0 b0 st)).regs) k) _;rw [look_cons];split
     ·rename_i e;subst e;rw [enc_get,hx,SV.enc,SV.enc];exact .of (congrArg AV.bool hb.symm)
     ·exact .refl _
    cases hcd:(c.den:Bool) with
    | true =>
     rw [hcd] at h;simp only [cond_true] at h;refine know true hcd ?_
     cases want with
     | true=>exact stepR_ok' hC hL hws hc (hI.put _ _) hd (.inr (gst_put hg)) h ihr
     | false=>exact sk _ (hI.put _ _) (gst_put hg) h
    | false =>
     rw [hcd] at h;simp only [cond_false] at h;refine know false hcd ?_
     cases want with
     | true=>exact sk _ (hI.put _ _) (gst_put hg) h
     | false=>exact stepR_ok' hC hL hws hc (hI.put _ _) hd (.inr (gst_put hg)) h ihr
   ·cases h
theorem drR_ok (hC:C.ok P) {self:SelfG D (KD ρ) ρ} (hS:SelfOkG P fu self):DrawOk (ρ:=ρ) P fu n (drR C self):=by
 intro an l st K r F s id h hs;unfold drR at h;generalize wsD C 0 (l.take (tailN (ancs l []) l.length)) st=ws at h;unfold drW at h
 cases hb:(Dr.planR l (ancs l [])&&(ws.all fun p=>isLive (st.blk p.2)||Nat.ble st.nx p.2)&&Dr.tailR l (ancs l []) (tailN (ancs l []) l.length)) with
 | false=>rw [hb] at h;cases h
 | true =>
  rw [hb] at h;rw [Bool.and_eq_true,Bool.and_eq_true] at hb;simp only [cond_true] at h;obtain ⟨m0,nx0,hm,hr,hf⟩:=hs
  let m:Nat→Nat:=fun k=>if k<st.nx then m0 k else nx0+(k-st.nx)
  have hlv:∀ k,st.blk k≠.dead→k<st.nx:=fun k hk=>hm.live hk
  have hmk:∀ k,k<st.nx→m k=m0 k:=fun k hk=>if_pos hk
  have hmn:∀ k,st.nx≤k→m k=nx0+(k-st.nx):=fun k hk=>if_neg (by omega)
  have hmem:MemLe m0 st.blk m st.blk (fun _=>true) (fun _ _=>true):=by
   refine ⟨fun id _=>?_,fun id v _=>?_⟩
   ·by_cases e:st.blk id=.dead
    ·left;unfold isBox;rw [e]
    ·exact .inr ⟨rfl,hmk id (hlv id e)⟩
   ·by_cases e:st.blk id=.dead
    ·left;unfold rowLen;rw [e]
    ·exact .inr ⟨rfl,hmk id (hlv id e)⟩
  have hall:=refs_all st;unfold SSt.refs at hall;simp only [Bool.and_eq_true] at hall;obtain ⟨r1,r2,r3,r4,r5⟩:=hall;have hmok:MOk m nx0 st:=⟨fun k hk=>by rw [hmk k (hlv k hk)];exact hm.lt k hk,fun k k' hk hk' e=>by rw [hmk k (hlv k hk),hmk k' (hlv k' hk')] at e;exact hm.inj k k' hk hk' e,hm.keys⟩
  have hles:LeS (st.enc m nx0) (st.enc m0 nx0):=by
   refine ⟨fun d=>?_,fun k=>?_,rfl⟩
   ·exact encR_les hmem (st.regs++st.kp) (by rw [refsR_append,r1,r2];rfl) d
   ·exact encH_les hmem (st.heap++st.hk) (by rw [refsH_append,r3,r4];rfl) (fun p hp=>hmk p.1 (hm.keys p hp).1) k
  have hL:Lay m nx0 st.nx st:=⟨hmn,fun k hk hb=>by rw [hmk k hk];exact hm.lt k hb,fun k k' h1 h2 e=>hmok.inj k k' h1 h2 e,hlv⟩
  have hws:∀ p ∈ ws,Good st.nx st p.2:=by
   intro p hp;have:=List.all_eq_true.1 hb.1.2 p hp;rw [Bool.or_eq_true] at this;rcases this with h | h
   ·right
    intro e;rw [e] at h;cases h
   ·exact .inl (Nat.le_of_ble_eq_true h)
  have hnx:nxOf nx0 st.nx st=nx0:=by unfold nxOf;omega
  have hI:RI F m nx0 st.nx st st:=⟨by rw [hnx];exact hmok,Nat.le_refl _,hf.les' hmem r5,.refl st,fun k hk=>.inr hk⟩;have:=sR_ok (ops:=⟨l⟩) (T:=ancs l []) (ws:=ws) (Kt:=fun s=>AL P n l.toArray (PostL F st fun st'=>(K st').den fu=some r) (l.drop (tailN (ancs l []) l.length)) s) hC hL hws (fun st' hI' h'=>sL_ok hC hS an _ _ st' _ h' ⟨m,_,hI'.mok,.refl _,hI'.fr⟩ hI'.fix) (l.take (tailN (ancs l []) l.length)) 0 [] st h hI (fun p hp=>by cases hp);unfold AGm at this;rw [hnx] at this;exact AW.rle (hr.trans hles.rle) (Dr.AW.drawR (mapP m ws) (tailN (ancs l []) l.length) hC.mixed rfl hb.1.1 hb.2 this)
end
end Go.Proofs.Ytelpkjellakigaa
/- Decompiling: a function that works on its caller's blocks: its residual program is a contract. No program in sight. -/
namespace Go.Proofs.Ytelpkjellakigaa
open Go Go.RowKit

theorem AC.out {P:Program} {F:FuncId} {xs:List AV} {hp:List (Nat×AB)} {nx:Nat} {post post':AV→List (Nat×AB)→Nat→Prop} (h:AC P F xs hp nx post) (hq:∀ y hp' nx',post y hp' nx'→∃ s:ASt,RLe ⟨[(0,y)],hp',nx'⟩ s∧post' (look .any s.regs 0) s.heap s.nx):AC P F xs hp nx post':=fun w0 w G vs h1 h2 h3 =>
 (h w0 w G vs h1 h2 h3).mono fun e w' ⟨v,y,hp',nx',G',e1,e2,e3,e4,e5,e6⟩=>by
  obtain ⟨s,g1,g2⟩:=hq y hp' nx' e2
  have hr:Rel ⟨w0,w,G⟩ 1 ⟨[(0,y)],hp',nx'⟩ {tmps:=#[v],defers:=[] } w':=by
   refine ⟨G',e3,e4,e6,rfl,rfl,fun d=>?_⟩;show RelV w' G' (look .any [(0,y)] d) _;rw [look_cons];split
   ·rename_i h;subst h;exact e5
   ·exact .dat (.any _)
  obtain ⟨G2,r⟩:=g1.ok hr;exact ⟨v,_,_,_,G2,e1,g2,r.nx,r.hr,r.regs 0,r.ext⟩
section
variable {V W:Ty→Type}
def retS (si:Sig) (y:SV V) (st':SSt V):SSt V:=⟨[(0,y)],[],st'.heap,st'.hk,[refsI si.items],st'.nx⟩
def topE (C:DC) (so:Sig) (dr:DrawG V W (itmsTy so.items)) (f:Nat) (an:An) (F:FuncId) (si:Sig) (nb na:Nat) (x:E V (itmsTy si.items)):G V W (itmsTy so.items) :=
 bif sigOk si so nb then sF C dr f an F (argsI si na x) (ent si nb x) (fun y st'=>match arr (baseE si nb) so (mapOf (matF so (retS si y st')) so) (matF so (retS si y st')) with
  | some e=>.ret e
  | none=>.fail) else .fail
end
def lenB (si so:Sig) (nb:Nat) (x:(itmsTy si.items).den) (y:(itmsTy so.items).den):Bool:=(itemB so.items).all fun b=>!(Nat.blt b nb&&((itemK so.items b==some false)&&Nat.beq (verI so.items b) (verI si.items b))) ||
 (rowLen (exi si so nb (.var y:E D (itmsTy so.items))).blk b (verI so.items b)==rowLen (ent si nb (.var x:E D (itmsTy si.items))).blk b (verI si.items b))
theorem lenB_ok {si so:Sig} {nb:Nat} {x:(itmsTy si.items).den} {y:(itmsTy so.items).den} (h:lenB si so nb x y=true):LenOk si so nb x y:=by
 intro b hb hbn hk hv;have:=List.all_eq_true.1 h b hb;rw [show Nat.blt b nb=true by simpa using hbn,hk,hv,Nat.beq_refl] at this;simpa [hv] using this
def chkE (si so:Sig) (nb:Nat) (g:Nat→(itmsTy si.items).den→Option (itmsTy so.items).den) (fu:Nat) (x:(itmsTy si.items).den):Option (itmsTy so.items).den:=match g fu x with
 | some y=>bif lenB si so nb x y then some y else none
 | none=>none
theorem chkE_some {si so:Sig} {nb:Nat} {g:Nat→(itmsTy si.items).den→Option (itmsTy so.items).den} {fu:Nat} {x:(itmsTy si.items).den} {y:(itmsTy so.items).den} (h:chkE si so nb g fu x=some y):g fu x=some y∧LenOk si so nb x y:=by
 unfold chkE at h;split at h
 ·rename_i y' hy
  cases hb:lenB si so nb x y' with
  | false=>rw [hb] at h;cases h
  | true =>
   rw [hb] at h;injection h with h
   subst h;exact ⟨hy,lenB_ok hb⟩
 ·cases h
theorem topE_ok {P:Program} {C:DC} {so si:Sig} {dr:DrawG D (KD (itmsTy so.items)) (itmsTy so.items)} {fu f nb na:Nat} {an:An} {Fn:FuncId} {x:(itmsTy si.items).den} {y:(itmsTy so.items).den} (hC:C.ok P) (hD:∀ self n,SelfOkG (ρ:=itmsTy so.items) P fu self→DrawOk P fu n (dr self))
  (h:(topE C so dr f an Fn si nb na (.var x)).den fu=some y) {m:Nat→Nat} {nx:Nat} (hm:MOk m nx (ent si nb (.var x:E D (itmsTy si.items)))) :
  AC P Fn (SV.encL m (ent si nb (.var x:E D (itmsTy si.items))).blk (argsI si na (.var x))) ((ent si nb (.var x:E D (itmsTy si.items))).enc m nx).heap nx
  (fun v hp' nx'=>∃ m2,MOk m2 nx' (exi si so nb (.var y:E D (itmsTy so.items)))∧hp'=((exi si so nb (.var y:E D (itmsTy so.items))).enc m2 nx').heap ∧
   v=(look SV.any (statR so.stat++injR so.items (.var y:E D (itmsTy so.items))) 0).enc m2 (exi si so nb (.var y:E D (itmsTy so.items))).blk ∧
   FrOk m2 (exi si so nb (.var y:E D (itmsTy so.items))).blk [refsI si.items] [fun d=>look .any ((ent si nb (.var x:E D (itmsTy si.items))).enc m nx).regs d]):=by
 unfold topE at h
 cases hs:sigOk si so nb with
 | false=>rw [hs] at h;cases h
 | true =>
  rw [hs] at h;simp only [cond_true] at h;have hS:=sigOk_at hs;refine (sF_ok hC hD f an Fn _ _ _ y [] m nx h hm ⟨rfl,fun i l g h=>by simp [ent] at h⟩).out ?_
  rintro v hp' nx' ⟨y',st',m',g1,g2,g3,g4,g5,g6,g7⟩
  subst g4;subst g6
  split at g7
  ·rename_i e he;rw [G.den] at g7;injection g7 with g7
   have hhk:st'.hk=[]:=g2.hk;have hblk:(retS si y' st').blk=st'.blk:=rfl
   have hst:StL [fun d=>look .any ((ent si nb (.var x:E D (itmsTy si.items))).enc m nx).regs d] (retS si y' st') ⟨[(0,y'.enc m' st'.blk)],(st'.enc m' nx').heap,nx'⟩:=by
    refine ⟨m',nx',⟨g3.lt,g3.inj,fun p hp=>g3.keys p hp⟩,LeS.rle ⟨fun d=>.refl _,fun k=>.refl _,rfl⟩,?_⟩;have e0:(ent si nb (.var x:E D (itmsTy si.items))).regs++(ent si nb (.var x:E D (itmsTy si.items))).kp=refsI si.items:=List.append_nil _;rw [e0] at g5;exact g5
   have hfix:Fix (lay (baseE si nb) so) (matF so (retS si y' st')):=by
    refine Fix.trans (b:=retS si y' st') ⟨?_,?_,rfl⟩ (matF_fix so (retS si y' st'))
    ·show []=keepR (baseE si nb) so.keep++[];rw [hS.k3];rfl
    ·show st'.hk=keepH (baseE si nb) so.keepB++[];rw [hS.k4,hhk];rfl
   have hcut:=cut_ok (e':=.var y) he g7.symm hfix (matF_ok so (retS si y' st') hst);obtain ⟨m2,nx2,k1,k2,k3⟩:=hcut;refine ⟨_,k2,m2,k1,rfl,?_,k3⟩;have:=enc_get (exi si so nb (.var y:E D (itmsTy so.items))) m2 nx2 0;show look .any ((exi si so nb (.var y:E D (itmsTy so.items))).enc m2 nx2).regs 0=_;rw [this];congr 1;show look (look .any (keepR (baseE si nb) so.keep++[]) 0) (statR so.stat++injR so.items (.var y)) 0=_;rw [hS.k3];rfl
  ·cases g7
end Go.Proofs.Ytelpkjellakigaa
/- Facts on the types and functions that the symbolic walks ask for (printed by a program). -/
set_option maxRecDepth 1000000
namespace Go.Proofs.Ytelpkjellakigaa
open Go
def fd (n : String) (t o : Nat) (e : Bool) (p : String) (b : Nat) : Field := { name := n, type := t, offset := o, embedded := e, tag := "", pkgPath := p, byteOffset := b }
def tab:Tab:={
 und:=[(0,.tuple #[]),
  (1,.func #[] #[] false),
  (2,.int .i64),
  (3,.int .i64),
  (4,.bool),
  (5,.int .u8),
  (6,.int .u8),
  (7, .struct #[fd "x" 2 0 false "runtime" 0, fd "y" 3 1 false "runtime" 8, fd "signed" 4 2 false "runtime" 16, fd "code" 6 3 false "runtime" 17]),
  (8, .struct #[fd "x" 2 0 false "runtime" 0, fd "y" 3 1 false "runtime" 8, fd "signed" 4 2 false "runtime" 16, fd "code" 6 3 false "runtime" 17]),
  (9,.string),
  (10,.string),
  (11,.string),
  (12,.int .u64),
  (13, .struct #[fd "msg" 9 0 false "runtime" 0, fd "addr" 12 1 false "runtime" 16]),
  (14, .struct #[fd "msg" 9 0 false "runtime" 0, fd "addr" 12 1 false "runtime" 16]),
  (15,.pointer 285),
  (16,.pointer 288),
  (17,.pointer 297),
  (18, .struct #[fd "typ" 17 0 false "internal/runtime/maps" 0]),
  (19, .struct #[fd "typ" 17 0 false "internal/runtime/maps" 0]),
  (20,.interface #[]),
  (21,.int .i32),
  (22, .struct #[fd "A" 3 0 false "" 0, fd "B" 3 1 false "" 8, fd "Kind" 3 2 false "" 16]),
  (23, .struct #[fd "A" 3 0 false "" 0, fd "B" 3 1 false "" 8, fd "Kind" 3 2 false "" 16]),
  (24,.func #[] #[4] false),
  (25,.slice 3),
  (26,.int .i64),
  (27,.tuple #[25,26]),
  (28,.func #[23] #[25,26] false),
  (29,.tuple #[3,26]),
  (30,.func #[23,3] #[3,26] false),
  (31,.func #[23] #[26] false),
  (32,.func #[4,26,26] #[4] false),
  (33,.func #[25,25] #[4] false),
  (34,.func #[23] #[25] false),
  (35,.func #[3,3,3] #[4] false),
  (36,.func #[3,3] #[3] false),
  (37,.func #[23,3] #[4] false),
  (38, .struct #[fd "W" 3 0 false "" 0, fd "S" 3 1 false "" 8, fd "H" 3 2 false "" 16]),
  (39, .struct #[fd "W" 3 0 false "" 0, fd "S" 3 1 false "" 8, fd "H" 3 2 false "" 16]),
  (40,.tuple #[39,26]),
  (41,.func #[23,23] #[39,26] false),
  (42,.tuple #[3,3,26]),
  (43,.func #[23,23] #[3,3,26] false),
  (44,.func #[23,23] #[39] false),
  (45,.array 2 3),
  (46,.array 4 45),
  (47,.func #[23,23] #[4] false),
  (48,.func #[23] #[3,26] false),
  (49,.func #[23,3,3] #[3,26] false),
  (50,.func #[23,3,3] #[3] false),
  (51,.func #[23,3,3] #[4] false),
  (52,.slice 5),
  (53, .struct #[fd "W" 3 0 false "" 0, fd "H" 3 1 false "" 8, fd "Data" 52 2 false "" 16]),
  (54, .struct #[fd "W" 3 0 false "" 0, fd "H" 3 1 false "" 8, fd "Data" 52 2 false "" 16]),
  (55,.func #[54,23] #[25,26] false),
  (56,.func #[54] #[26] false),
  (57,.func #[54] #[4] false),
  (58,.func #[54,3,3] #[4] false),
  (59,.func #[54,23] #[4] false),
  (60, .struct #[fd "W" 3 0 false "" 0, fd "H" 3 1 false "" 8, fd "Pix" 52 2 false "" 16]),
  (61, .struct #[fd "W" 3 0 false "" 0, fd "H" 3 1 false "" 8, fd "Pix" 52 2 false "" 16]),
  (62,.tuple #[54,26]),
  (63,.func #[61,23] #[54,26] false),
  (64,.slice 54),
  (65,.tuple #[64,26]),
  (66,.func #[67,68] #[64,26] false),
  (67,.slice 61),
  (68,.slice 23),
  (69,.func #[61] #[26] false),
  (70,.func #[54,26,26] #[4] false),
  (71,.func #[3,3,72] #[54] false),
  (72,.slice 4),
  (73,.func #[61,23] #[72] false),
  (74,.func #[54,54] #[4] false),
  (75,.func #[61,23] #[4] false),
  (76,.tuple #[54,3,26]),
  (77,.func #[61,4] #[54,3,26] false),
  (78,.tuple #[72,3]),
  (79,.func #[61,4] #[72,3] false),
  (80,.func #[61,4] #[4] false),
  (81,.tuple #[52,26]),
  (82,.func #[54,3] #[52,26] false),
  (83,.func #[54] #[52,26] false),
  (84,.func #[52,52] #[4] false),
  (85,.func #[54] #[52] false),
  (86,.func #[52,3,3] #[52] false),
  (87,.func #[54,3,3] #[54] false),
  (88,.func #[54,3] #[4] false),
  (89,.func #[52] #[3,26] false),
  (90,.func #[52] #[54,26] false),
  (91,.func #[52,3] #[54,26] false),
  (92,.func #[3,3,3,25,52] #[4] false),
  (93, .struct #[fd "Scale" 3 0 false "" 0, fd "X" 3 1 false "" 8, fd "Y" 3 2 false "" 16, fd "Turn" 3 3 false "" 24, fd "Blur" 3 4 false "" 32, fd "Light" 3 5 false "" 40, fd "Dark" 3 6 false "" 48, fd "Noise" 25 7 false "" 56]),
  (94, .struct #[fd "Scale" 3 0 false "" 0, fd "X" 3 1 false "" 8, fd "Y" 3 2 false "" 16, fd "Turn" 3 3 false "" 24, fd "Blur" 3 4 false "" 32, fd "Light" 3 5 false "" 40, fd "Dark" 3 6 false "" 48, fd "Noise" 25 7 false "" 56]),
  (95, .struct #[fd "W" 3 0 false "" 0, fd "H" 3 1 false "" 8, fd "Pix" 52 2 false "" 16]),
  (96,.tuple #[95,26]),
  (97,.func #[54,94] #[95,26] false),
  (98,.func #[94] #[26] false),
  (99,.func #[54,94] #[95] false),
  (100,.func #[95] #[26] false),
  (101,.func #[95] #[54,26] false),
  (102,.func #[54,94] #[4] false),
  (103,.func #[95,3,3] #[54,26] false),
  (104,.func #[95,3,3] #[4] false),
  (105,.tuple #[3,3,3,26]),
  (106,.func #[3] #[3,3,3,26] false),
  (107,.func #[52,3] #[52] false),
  (108,.func #[3,3,3] #[3] false),
  (109,.func #[52,3] #[4] false),
  (110,.func #[23,3,3] #[45] false),
  (111, .struct #[fd "N" 3 0 false "" 0, fd "S" 3 1 false "" 8, fd "G" 3 2 false "" 16]),
  (112, .struct #[fd "N" 3 0 false "" 0, fd "S" 3 1 false "" 8, fd "G" 3 2 false "" 16]),
  (113,.func #[23] #[112] false),
  (114,.tuple #[3,3,3]),
  (115,.func #[3,3] #[3,3,3] false),
  (116,.func #[3,3] #[4] false),
  (117,.func #[118,3,3] #[4] false),
  (118,.pointer 54),
  (119,.func #[120,23] #[26] false),
  (120,.pointer 61),
  (121,.func #[3,3] #[54] false),
  (122,.func #[3,52] #[] false),
  (123,.func #[120,23] #[122] false),
  (124,.func #[61,3] #[54,3,26] false),
  (125,.func #[120,118,25,25,3,3,126,126] #[3] false),
  (126,.func #[3] #[] false),
  (127,.func #[52,3,3] #[54,26] false),
  (128,.func #[118,3,3] #[54] false),
  (129,.func #[118] #[52,26] false),
  (130,.int .u64),
  (131,.func #[54,3,3] #[3] false),
  (132,.func #[3,25,25] #[52] false),
  (133,.slice 52),
  (134, .struct #[fd "w" 3 0 false "printworks/bilevel" 0, fd "h" 3 1 false "printworks/bilevel" 8, fd "rows" 3 2 false "printworks/bilevel" 16, fd "parts" 133 3 false "printworks/bilevel" 24]),
  (135, .struct #[fd "w" 3 0 false "printworks/bilevel" 0, fd "h" 3 1 false "printworks/bilevel" 8, fd "rows" 3 2 false "printworks/bilevel" 16, fd "parts" 133 3 false "printworks/bilevel" 24]),
  (136,.tuple #[135,26]),
  (137,.func #[52] #[135,26] false),
  (138,.func #[3] #[54,26] false),
  (139,.tuple #[9,26]),
  (140,.func #[95] #[9,26] false),
  (141,.func #[118,3] #[54] false),
  (142,.tuple #[3,3]),
  (143,.func #[144,3,3,3] #[3,3] false),
  (144,.pointer 95),
  (145,.func #[54,3] #[54] false),
  (146,.func #[144] #[54] false),
  (147,.func #[118,3,3] #[] false),
  (148,.tuple #[52,3,3,26]),
  (149,.func #[54] #[52,3,3,26] false),
  (150,.func #[52,3] #[52,26] false),
  (151,.tuple #[4,4]),
  (152,.func #[3,3,3] #[4,4] false),
  (153,.func #[3] #[4] false),
  (154,.tuple #[52,4]),
  (155,.func #[52,3,25] #[52,4] false),
  (156,.func #[23,112,3] #[3,3] false),
  (157,.func #[3] #[3,3] false),
  (158,.func #[23,112] #[25] false),
  (159,.func #[25,36] #[] false),
  (160,.func #[3] #[3] false),
  (161,.array 256 3),
  (162,.slice 25),
  (163,.slice 164),
  (164,.chan (Go.ChanDir.both) 165),
  (165,.struct #[]),
  (166,.struct #[]),
  (167,.struct #[]),
  (168,.struct #[]),
  (169,.int .u64),
  (170, .struct #[fd "_" 167 0 false "sync/atomic" 0, fd "_" 168 0 false "sync/atomic" 0, fd "v" 169 0 false "sync/atomic" 0]),
  (171, .struct #[fd "_" 167 0 false "sync/atomic" 0, fd "_" 168 0 false "sync/atomic" 0, fd "v" 169 0 false "sync/atomic" 0]),
  (172,.int .u32),
  (173, .struct #[fd "noCopy" 166 0 false "sync" 0, fd "state" 171 0 false "sync" 0, fd "sema" 172 1 false "sync" 8]),
  (174, .struct #[fd "noCopy" 166 0 false "sync" 0, fd "state" 171 0 false "sync" 0, fd "sema" 172 1 false "sync" 8]),
  (175,.func #[1] #[] false),
  (176,.func #[25,3,3] #[] false),
  (177,.tuple #[3,3,3,3]),
  (178,.func #[3] #[3,3,3,3] false),
  (179,.pointer 220),
  (180,.tuple #[179,26]),
  (181,.func #[52,3] #[179,26] false),
  (182,.func #[118,222,4] #[] false),
  (183,.func #[3] #[3,26] false),
  (184,.pointer 228),
  (185,.tuple #[184,26]),
  (186,.func #[3] #[184,26] false),
  (187,.func #[3,3] #[26] false),
  (188,.func #[] #[52,26] false),
  (189,.array 11 45),
  (190,.func #[52] #[3] false),
  (191,.pointer 135),
  (192,.func #[118] #[9,26] false),
  (193,.func #[3,3,116] #[54] false),
  (194,.func #[118] #[3,3] false),
  (195,.tuple #[52,3,26]),
  (196,.func #[52,3,25] #[52,3,26] false),
  (197,.slice 5),
  (198,.func #[197,3] #[197] false),
  (199,.func #[5,3] #[5] false),
  (200,.func #[5,5] #[5] false),
  (201,.func #[3] #[5] false),
  (202,.func #[133,52,3] #[52,4] false),
  (203,.func #[25,3,3,3,36] #[] false),
  (204,.func #[130] #[3] false),
  (205,.pointer 174),
  (206,.func #[] #[169] false),
  (207,.func #[208] #[] false),
  (208,.unsafePointer),
  (209,.func #[205] #[4] false),
  (210,.func #[169,169] #[4] false),
  (211,.func #[205] #[] false),
  (212,.pointer 172),
  (213,.func #[212,4] #[] false),
  (214,.slice 260),
  (215, .struct #[fd "contexts" 214 0 false "printworks/rangecoder" 0, fd "wide" 172 1 false "printworks/rangecoder" 24, fd "bits" 3 2 false "printworks/rangecoder" 32]),
  (216, .struct #[fd "contexts" 214 0 false "printworks/rangecoder" 0, fd "wide" 172 1 false "printworks/rangecoder" 24, fd "bits" 3 2 false "printworks/rangecoder" 32]),
  (217,.tuple #[216,26]),
  (218,.func #[3] #[216,26] false),
  (219, .struct #[fd "model" 216 0 true "printworks/rangecoder" 0, fd "code" 172 3 false "printworks/rangecoder" 40, fd "rest" 52 4 false "printworks/rangecoder" 48]),
  (220, .struct #[fd "model" 216 0 true "printworks/rangecoder" 0, fd "code" 172 3 false "printworks/rangecoder" 40, fd "rest" 52 4 false "printworks/rangecoder" 48]),
  (221,.func #[] #[172] false),
  (222,.func #[3,3] #[3] false),
  (223,.func #[118,3,3] #[3] false),
  (224,.func #[3] #[26] false),
  (225,.func #[3] #[172] false),
  (226,.func #[3,3] #[] false),
  (227, .struct #[fd "model" 216 0 true "printworks/rangecoder" 0, fd "low" 172 3 false "printworks/rangecoder" 40, fd "out" 52 4 false "printworks/rangecoder" 48, fd "closed" 4 5 false "printworks/rangecoder" 72]),
  (228, .struct #[fd "model" 216 0 true "printworks/rangecoder" 0, fd "low" 172 3 false "printworks/rangecoder" 40, fd "out" 52 4 false "printworks/rangecoder" 48, fd "closed" 4 5 false "printworks/rangecoder" 72]),
  (229,.func #[25] #[9,26] false),
  (230,.func #[118,3] #[25] false),
  (231,.func #[52,3] #[26] false),
  (232,.tuple #[197,4]),
  (233,.func #[52,3] #[197,4] false),
  (234,.func #[52,197,197] #[] false),
  (235,.func #[197,197,3] #[197] false),
  (236,.func #[5] #[5] false),
  (237,.func #[25,3,3,36] #[] false),
  (238,.int .i64),
  (239,.tuple #[3,238]),
  (240,.func #[25,3,3,36] #[3,238] false),
  (241,.func #[25,3,3,36] #[4] false),
  (242,.func #[25,3,3,3,36] #[3] false),
  (243,.tuple #[3,4]),
  (244,.func #[25,3,3,3,36] #[3,4] false),
  (245,.func #[172] #[3] false),
  (246,.func #[169] #[3] false),
  (247,.int .i64),
  (248,.func #[205] #[247] false),
  (249,.func #[9] #[] false),
  (250,.func #[169] #[169] false),
  (251,.func #[169] #[] false),
  (252,.func #[212,4,3] #[] false),
  (253,.pointer 171),
  (254,.func #[255] #[169] false),
  (255,.pointer 169),
  (256,.func #[255,169,169] #[4] false),
  (257,.func #[3,3,3] #[] false),
  (258,.pointer 216),
  (259, .struct #[fd "zeros" 172 0 false "printworks/rangecoder" 0, fd "all" 172 1 false "printworks/rangecoder" 4]),
  (260, .struct #[fd "zeros" 172 0 false "printworks/rangecoder" 0, fd "all" 172 1 false "printworks/rangecoder" 4]),
  (261,.pointer 260),
  (262,.slice 278),
  (263,.func #[] #[262] false),
  (264,.func #[262,25] #[3] false),
  (265,.func #[25] #[3] false),
  (266,.func #[280] #[] false),
  (267,.func #[280] #[] false),
  (268,.func #[118,3] #[267] false),
  (269, .struct #[fd "Y" 3 0 false "" 0, fd "X0" 3 1 false "" 8, fd "X1" 3 2 false "" 16]),
  (270, .struct #[fd "Y" 3 0 false "" 0, fd "X0" 3 1 false "" 8, fd "X1" 3 2 false "" 16]),
  (271,.int .u64),
  (272,.func #[3] #[130] false),
  (273,.func #[25,3,274,36] #[3] false),
  (274,.pointer 3),
  (275,.func #[25,3,3,3,274,36] #[3] false),
  (276,.func #[255,169] #[169] false),
  (277,.func #[255,169] #[] false),
  (278,.array 6 3),
  (279,.array 4 3),
  (280,.func #[270] #[4] false),
  (281,.pointer 271),
  (282,.func #[25,3,3,274,36] #[3,3] false),
  (283,.func #[] #[9] false),
  (284, .struct #[fd "_interface" 17 0 false "runtime" 0, fd "concrete" 17 1 false "runtime" 8, fd "asserted" 17 2 false "runtime" 16, fd "missingMethod" 9 3 false "runtime" 24]),
  (285, .struct #[fd "_interface" 17 0 false "runtime" 0, fd "concrete" 17 1 false "runtime" 8, fd "asserted" 17 2 false "runtime" 16, fd "missingMethod" 9 3 false "runtime" 24]),
  (286,.array 0 16),
  (287, .struct #[fd "_" 286 0 false "runtime" 0]),
  (288, .struct #[fd "_" 286 0 false "runtime" 0]),
  (289,.func #[] #[3] false),
  (290,.int .u8),
  (291,.int .u8),
  (292,.func #[208,208] #[4] false),
  (293,.pointer 5),
  (294,.int .i32),
  (295,.int .i32),
  (296, .struct #[fd "Size_" 12 0 false "" 0, fd "PtrBytes" 12 1 false "" 8, fd "Hash" 172 2 false "" 16, fd "TFlag" 290 3 false "" 20, fd "Align_" 5 4 false "" 21, fd "FieldAlign_" 5 5 false "" 22, fd "Kind_" 291 6 false "" 23, fd "Equal" 292 7 false "" 24, fd "GCData" 293 8 false "" 32, fd "Str" 294 9 false "" 40, fd "PtrToThis" 295 10 false "" 44]),
  (297, .struct #[fd "Size_" 12 0 false "" 0, fd "PtrBytes" 12 1 false "" 8, fd "Hash" 172 2 false "" 16, fd "TFlag" 290 3 false "" 20, fd "Align_" 5 4 false "" 21, fd "FieldAlign_" 5 5 false "" 22, fd "Kind_" 291 6 false "" 23, fd "Equal" 292 7 false "" 24, fd "GCData" 293 8 false "" 32, fd "Str" 294 9 false "" 40, fd "PtrToThis" 295 10 false "" 44])],
 inf:=[(1,(some (.nilFunc),1,8)),
  (2,(some (.int .i64 0),1,8)),
  (3,(some (.int .i64 0),1,8)),
  (4,(some (.bool false),1,1)),
  (5,(some (.int .u8 0),1,1)),
  (6,(some (.int .u8 0),1,1)),
  (7,(some (.agg #[.int .i64 0,.int .i64 0,.bool false,.int .u8 0]),4,24)),
  (8,(some (.agg #[.int .i64 0,.int .i64 0,.bool false,.int .u8 0]),4,24)),
  (9,(some (.string ByteArray.empty),1,16)),
  (10,(some (.string ByteArray.empty),1,16)),
  (11,(some (.string ByteArray.empty),1,16)),
  (12,(some (.int .u64 0),1,8)),
  (13,(some (.agg #[.string ByteArray.empty,.int .u64 0]),2,24)),
  (14,(some (.agg #[.string ByteArray.empty,.int .u64 0]),2,24)),
  (15,(some (.pointer none),1,8)),
  (16,(some (.pointer none),1,8)),
  (17,(some (.pointer none),1,8)),
  (18,(some (.agg #[.pointer none]),1,8)),
  (19,(some (.agg #[.pointer none]),1,8)),
  (20,(some (.nilIface),1,16)),
  (21,(some (.int .i32 0),1,4)),
  (22,(some (.agg #[.int .i64 0,.int .i64 0,.int .i64 0]),3,24)),
  (23,(some (.agg #[.int .i64 0,.int .i64 0,.int .i64 0]),3,24)),
  (24,(some (.nilFunc),1,8)),
  (25,(some (.slice none 0 0),1,24)),
  (26,(some (.int .i64 0),1,8)),
  (28,(some (.nilFunc),1,8)),
  (30,(some (.nilFunc),1,8)),
  (31,(some (.nilFunc),1,8)),
  (32,(some (.nilFunc),1,8)),
  (33,(some (.nilFunc),1,8)),
  (34,(some (.nilFunc),1,8)),
  (35,(some (.nilFunc),1,8)),
  (36,(some (.nilFunc),1,8)),
  (37,(some (.nilFunc),1,8)),
  (38,(some (.agg #[.int .i64 0,.int .i64 0,.int .i64 0]),3,24)),
  (39,(some (.agg #[.int .i64 0,.int .i64 0,.int .i64 0]),3,24)),
  (41,(some (.nilFunc),1,8)),
  (43,(some (.nilFunc),1,8)),
  (44,(some (.nilFunc),1,8)),
  (45,(some (.agg #[.int .i64 0,.int .i64 0]),2,16)),
  (46,(some (.agg #[.int .i64 0,.int .i64 0,.int .i64 0,.int .i64 0,.int .i64 0,.int .i64 0,.int .i64 0,.int .i64 0]),8,64)),
  (47,(some (.nilFunc),1,8)),
  (48,(some (.nilFunc),1,8)),
  (49,(some (.nilFunc),1,8)),
  (50,(some (.nilFunc),1,8)),
  (51,(some (.nilFunc),1,8)),
  (52,(some (.slice none 0 0),1,24)),
  (53,(some (.agg #[.int .i64 0,.int .i64 0,.slice none 0 0]),3,40)),
  (54,(some (.agg #[.int .i64 0,.int .i64 0,.slice none 0 0]),3,40)),
  (55,(some (.nilFunc),1,8)),
  (56,(some (.nilFunc),1,8)),
  (57,(some (.nilFunc),1,8)),
  (58,(some (.nilFunc),1,8)),
  (59,(some (.nilFunc),1,8)),
  (60,(some (.agg #[.int .i64 0,.int .i64 0,.slice none 0 0]),3,40)),
  (61,(some (.agg #[.int .i64 0,.int .i64 0,.slice none 0 0]),3,40)),
  (63,(some (.nilFunc),1,8)),
  (64,(some (.slice none 0 0),1,24)),
  (66,(some (.nilFunc),1,8)),
  (67,(some (.slice none 0 0),1,24)),
  (68,(some (.slice none 0 0),1,24)),
  (69,(some (.nilFunc),1,8)),
  (70,(some (.nilFunc),1,8)),
  (71,(some (.nilFunc),1,8)),
  (72,(some (.slice none 0 0),1,24)),
  (73,(some (.nilFunc),1,8)),
  (74,(some (.nilFunc),1,8)),
  (75,(some (.nilFunc),1,8)),
  (77,(some (.nilFunc),1,8)),
  (79,(some (.nilFunc),1,8)),
  (80,(some (.nilFunc),1,8)),
  (82,(some (.nilFunc),1,8)),
  (83,(some (.nilFunc),1,8)),
  (84,(some (.nilFunc),1,8)),
  (85,(some (.nilFunc),1,8)),
  (86,(some (.nilFunc),1,8)),
  (87,(some (.nilFunc),1,8)),
  (88,(some (.nilFunc),1,8)),
  (89,(some (.nilFunc),1,8)),
  (90,(some (.nilFunc),1,8)),
  (91,(some (.nilFunc),1,8)),
  (92,(some (.nilFunc),1,8)),
  (93,(some (.agg #[.int .i64 0,.int .i64 0,.int .i64 0,.int .i64 0,.int .i64 0,.int .i64 0,.int .i64 0,.slice none 0 0]),8,80)),
  (94,(some (.agg #[.int .i64 0,.int .i64 0,.int .i64 0,.int .i64 0,.int .i64 0,.int .i64 0,.int .i64 0,.slice none 0 0]),8,80)),
  (95,(some (.agg #[.int .i64 0,.int .i64 0,.slice none 0 0]),3,40)),
  (97,(some (.nilFunc),1,8)),
  (98,(some (.nilFunc),1,8)),
  (99,(some (.nilFunc),1,8)),
  (100,(some (.nilFunc),1,8)),
  (101,(some (.nilFunc),1,8)),
  (102,(some (.nilFunc),1,8)),
  (103,(some (.nilFunc),1,8)),
  (104,(some (.nilFunc),1,8)),
  (106,(some (.nilFunc),1,8)),
  (107,(some (.nilFunc),1,8)),
  (108,(some (.nilFunc),1,8)),
  (109,(some (.nilFunc),1,8)),
  (110,(some (.nilFunc),1,8)),
  (111,(some (.agg #[.int .i64 0,.int .i64 0,.int .i64 0]),3,24)),
  (112,(some (.agg #[.int .i64 0,.int .i64 0,.int .i64 0]),3,24)),
  (113,(some (.nilFunc),1,8)),
  (115,(some (.nilFunc),1,8)),
  (116,(some (.nilFunc),1,8)),
  (117,(some (.nilFunc),1,8)),
  (118,(some (.pointer none),1,8)),
  (119,(some (.nilFunc),1,8)),
  (120,(some (.pointer none),1,8)),
  (121,(some (.nilFunc),1,8)),
  (122,(some (.nilFunc),1,8)),
  (123,(some (.nilFunc),1,8)),
  (124,(some (.nilFunc),1,8)),
  (125,(some (.nilFunc),1,8)),
  (126,(some (.nilFunc),1,8)),
  (127,(some (.nilFunc),1,8)),
  (128,(some (.nilFunc),1,8)),
  (129,(some (.nilFunc),1,8)),
  (130,(some (.int .u64 0),1,8)),
  (131,(some (.nilFunc),1,8)),
  (132,(some (.nilFunc),1,8)),
  (133,(some (.slice none 0 0),1,24)),
  (134,(some (.agg #[.int .i64 0,.int .i64 0,.int .i64 0,.slice none 0 0]),4,48)),
  (135,(some (.agg #[.int .i64 0,.int .i64 0,.int .i64 0,.slice none 0 0]),4,48)),
  (137,(some (.nilFunc),1,8)),
  (138,(some (.nilFunc),1,8)),
  (140,(some (.nilFunc),1,8)),
  (141,(some (.nilFunc),1,8)),
  (143,(some (.nilFunc),1,8)),
  (144,(some (.pointer none),1,8)),
  (145,(some (.nilFunc),1,8)),
  (146,(some (.nilFunc),1,8)),
  (147,(some (.nilFunc),1,8)),
  (149,(some (.nilFunc),1,8)),
  (150,(some (.nilFunc),1,8)),
  (152,(some (.nilFunc),1,8)),
  (153,(some (.nilFunc),1,8)),
  (155,(some (.nilFunc),1,8)),
  (156,(some (.nilFunc),1,8)),
  (157,(some (.nilFunc),1,8)),
  (158,(some (.nilFunc),1,8)),
  (159,(some (.nilFunc),1,8)),
  (160,(some (.nilFunc),1,8)),
  (161,(some (.agg (Array.replicate 256 (.int .i64 0))),256,2048)),
  (162,(some (.slice none 0 0),1,24)),
  (163,(some (.slice none 0 0),1,24)),
  (165,(some (.agg #[]),0,0)),
  (166,(some (.agg #[]),0,0)),
  (167,(some (.agg #[]),0,0)),
  (168,(some (.agg #[]),0,0)),
  (169,(some (.int .u64 0),1,8)),
  (170,(some (.agg #[.int .u64 0]),1,8)),
  (171,(some (.agg #[.int .u64 0]),1,8)),
  (172,(some (.int .u32 0),1,4)),
  (173,(some (.agg #[.int .u64 0,.int .u32 0]),2,16)),
  (174,(some (.agg #[.int .u64 0,.int .u32 0]),2,16)),
  (175,(some (.nilFunc),1,8)),
  (176,(some (.nilFunc),1,8)),
  (178,(some (.nilFunc),1,8)),
  (179,(some (.pointer none),1,8)),
  (181,(some (.nilFunc),1,8)),
  (182,(some (.nilFunc),1,8)),
  (183,(some (.nilFunc),1,8)),
  (184,(some (.pointer none),1,8)),
  (186,(some (.nilFunc),1,8)),
  (187,(some (.nilFunc),1,8)),
  (188,(some (.nilFunc),1,8)),
  (189,(some (.agg #[.int .i64 0,.int .i64 0,.int .i64 0,.int .i64 0,.int .i64 0,.int .i64 0,.int .i64 0,.int .i64 0,.int .i64 0,.int .i64 0,.int .i64 0,.int .i64 0,.int .i64 0,.int .i64 0,.int .i64 0,.int .i64 0,.int .i64 0,.int .i64 0,.int .i64 0,.int .i64 0,.int .i64 0,.int .i64 0]),22,176)),
  (190,(some (.nilFunc),1,8)),
  (191,(some (.pointer none),1,8)),
  (192,(some (.nilFunc),1,8)),
  (193,(some (.nilFunc),1,8)),
  (194,(some (.nilFunc),1,8)),
  (196,(some (.nilFunc),1,8)),
  (197,(some (.slice none 0 0),1,24)),
  (198,(some (.nilFunc),1,8)),
  (199,(some (.nilFunc),1,8)),
  (200,(some (.nilFunc),1,8)),
  (201,(some (.nilFunc),1,8)),
  (202,(some (.nilFunc),1,8)),
  (203,(some (.nilFunc),1,8)),
  (204,(some (.nilFunc),1,8)),
  (205,(some (.pointer none),1,8)),
  (206,(some (.nilFunc),1,8)),
  (207,(some (.nilFunc),1,8)),
  (208,(some (.pointer none),1,8)),
  (209,(some (.nilFunc),1,8)),
  (210,(some (.nilFunc),1,8)),
  (211,(some (.nilFunc),1,8)),
  (212,(some (.pointer none),1,8)),
  (213,(some (.nilFunc),1,8)),
  (214,(some (.slice none 0 0),1,24)),
  (215,(some (.agg #[.slice none 0 0,.int .u32 0,.int .i64 0]),3,40)),
  (216,(some (.agg #[.slice none 0 0,.int .u32 0,.int .i64 0]),3,40)),
  (218,(some (.nilFunc),1,8)),
  (219,(some (.agg #[.slice none 0 0,.int .u32 0,.int .i64 0,.int .u32 0,.slice none 0 0]),5,72)),
  (220,(some (.agg #[.slice none 0 0,.int .u32 0,.int .i64 0,.int .u32 0,.slice none 0 0]),5,72)),
  (221,(some (.nilFunc),1,8)),
  (222,(some (.nilFunc),1,8)),
  (223,(some (.nilFunc),1,8)),
  (224,(some (.nilFunc),1,8)),
  (225,(some (.nilFunc),1,8)),
  (226,(some (.nilFunc),1,8)),
  (227,(some (.agg #[.slice none 0 0,.int .u32 0,.int .i64 0,.int .u32 0,.slice none 0 0,.bool false]),6,80)),
  (228,(some (.agg #[.slice none 0 0,.int .u32 0,.int .i64 0,.int .u32 0,.slice none 0 0,.bool false]),6,80)),
  (229,(some (.nilFunc),1,8)),
  (230,(some (.nilFunc),1,8)),
  (231,(some (.nilFunc),1,8)),
  (233,(some (.nilFunc),1,8)),
  (234,(some (.nilFunc),1,8)),
  (235,(some (.nilFunc),1,8)),
  (236,(some (.nilFunc),1,8)),
  (237,(some (.nilFunc),1,8)),
  (238,(some (.int .i64 0),1,8)),
  (240,(some (.nilFunc),1,8)),
  (241,(some (.nilFunc),1,8)),
  (242,(some (.nilFunc),1,8)),
  (244,(some (.nilFunc),1,8)),
  (245,(some (.nilFunc),1,8)),
  (246,(some (.nilFunc),1,8)),
  (247,(some (.int .i64 0),1,8)),
  (248,(some (.nilFunc),1,8)),
  (249,(some (.nilFunc),1,8)),
  (250,(some (.nilFunc),1,8)),
  (251,(some (.nilFunc),1,8)),
  (252,(some (.nilFunc),1,8)),
  (253,(some (.pointer none),1,8)),
  (254,(some (.nilFunc),1,8)),
  (255,(some (.pointer none),1,8)),
  (256,(some (.nilFunc),1,8)),
  (257,(some (.nilFunc),1,8)),
  (258,(some (.pointer none),1,8)),
  (259,(some (.agg #[.int .u32 0,.int .u32 0]),2,8)),
  (260,(some (.agg #[.int .u32 0,.int .u32 0]),2,8)),
  (261,(some (.pointer none),1,8)),
  (262,(some (.slice none 0 0),1,24)),
  (263,(some (.nilFunc),1,8)),
  (264,(some (.nilFunc),1,8)),
  (265,(some (.nilFunc),1,8)),
  (266,(some (.nilFunc),1,8)),
  (267,(some (.nilFunc),1,8)),
  (268,(some (.nilFunc),1,8)),
  (269,(some (.agg #[.int .i64 0,.int .i64 0,.int .i64 0]),3,24)),
  (270,(some (.agg #[.int .i64 0,.int .i64 0,.int .i64 0]),3,24)),
  (271,(some (.int .u64 0),1,8)),
  (272,(some (.nilFunc),1,8)),
  (273,(some (.nilFunc),1,8)),
  (274,(some (.pointer none),1,8)),
  (275,(some (.nilFunc),1,8)),
  (276,(some (.nilFunc),1,8)),
  (277,(some (.nilFunc),1,8)),
  (278,(some (.agg #[.int .i64 0,.int .i64 0,.int .i64 0,.int .i64 0,.int .i64 0,.int .i64 0]),6,48)),
  (279,(some (.agg #[.int .i64 0,.int .i64 0,.int .i64 0,.int .i64 0]),4,32)),
  (280,(some (.nilFunc),1,8)),
  (281,(some (.pointer none),1,8)),
  (282,(some (.nilFunc),1,8)),
  (283,(some (.nilFunc),1,8)),
  (284,(some (.agg #[.pointer none,.pointer none,.pointer none,.string ByteArray.empty]),4,40)),
  (285,(some (.agg #[.pointer none,.pointer none,.pointer none,.string ByteArray.empty]),4,40)),
  (286,(some (.agg #[]),0,0)),
  (287,(some (.agg #[]),0,0)),
  (288,(some (.agg #[]),0,0)),
  (289,(some (.nilFunc),1,8)),
  (290,(some (.int .u8 0),1,1)),
  (291,(some (.int .u8 0),1,1)),
  (292,(some (.nilFunc),1,8)),
  (293,(some (.pointer none),1,8)),
  (294,(some (.int .i32 0),1,4)),
  (295,(some (.int .i32 0),1,4)),
  (296,(some (.agg #[.int .u64 0,.int .u64 0,.int .u32 0,.int .u8 0,.int .u8 0,.int .u8 0,.int .u8 0,.nilFunc,.pointer none,.int .i32 0,.int .i32 0]),11,48)),
  (297,(some (.agg #[.int .u64 0,.int .u64 0,.int .u32 0,.int .u8 0,.int .u8 0,.int .u8 0,.int .u8 0,.nilFunc,.pointer none,.int .i32 0,.int .i32 0]),11,48))],
 fld:=[(7,[(0,(1,false)),(1,(1,false)),(2,(1,false)),(3,(1,false))]),
  (8,[(0,(1,false)),(1,(1,false)),(2,(1,false)),(3,(1,false))]),
  (13,[(0,(1,false)),(1,(1,false))]),
  (14,[(0,(1,false)),(1,(1,false))]),
  (18,[(0,(1,false))]),
  (19,[(0,(1,false))]),
  (22,[(0,(1,false)),(1,(1,false)),(2,(1,false))]),
  (23,[(0,(1,false)),(1,(1,false)),(2,(1,false))]),
  (38,[(0,(1,false)),(1,(1,false)),(2,(1,false))]),
  (39,[(0,(1,false)),(1,(1,false)),(2,(1,false))]),
  (53,[(0,(1,false)),(1,(1,false)),(2,(1,false))]),
  (54,[(0,(1,false)),(1,(1,false)),(2,(1,false))]),
  (60,[(0,(1,false)),(1,(1,false)),(2,(1,false))]),
  (61,[(0,(1,false)),(1,(1,false)),(2,(1,false))]),
  (93,[(0,(1,false)),(1,(1,false)),(2,(1,false)),(3,(1,false)),(4,(1,false)),(5,(1,false)),(6,(1,false)),(7,(1,false))]),
  (94,[(0,(1,false)),(1,(1,false)),(2,(1,false)),(3,(1,false)),(4,(1,false)),(5,(1,false)),(6,(1,false)),(7,(1,false))]),
  (95,[(0,(1,false)),(1,(1,false)),(2,(1,false))]),
  (111,[(0,(1,false)),(1,(1,false)),(2,(1,false))]),
  (112,[(0,(1,false)),(1,(1,false)),(2,(1,false))]),
  (134,[(0,(1,false)),(1,(1,false)),(2,(1,false)),(3,(1,false))]),
  (135,[(0,(1,false)),(1,(1,false)),(2,(1,false)),(3,(1,false))]),
  (165,[]),
  (166,[]),
  (167,[]),
  (168,[]),
  (170,[(0,(0,true)),(0,(0,true)),(0,(1,false))]),
  (171,[(0,(0,true)),(0,(0,true)),(0,(1,false))]),
  (173,[(0,(0,true)),(0,(1,true)),(1,(1,false))]),
  (174,[(0,(0,true)),(0,(1,true)),(1,(1,false))]),
  (215,[(0,(1,false)),(1,(1,false)),(2,(1,false))]),
  (216,[(0,(1,false)),(1,(1,false)),(2,(1,false))]),
  (219,[(0,(3,true)),(3,(1,false)),(4,(1,false))]),
  (220,[(0,(3,true)),(3,(1,false)),(4,(1,false))]),
  (227,[(0,(3,true)),(3,(1,false)),(4,(1,false)),(5,(1,false))]),
  (228,[(0,(3,true)),(3,(1,false)),(4,(1,false)),(5,(1,false))]),
  (259,[(0,(1,false)),(1,(1,false))]),
  (260,[(0,(1,false)),(1,(1,false))]),
  (269,[(0,(1,false)),(1,(1,false)),(2,(1,false))]),
  (270,[(0,(1,false)),(1,(1,false)),(2,(1,false))]),
  (284,[(0,(1,false)),(1,(1,false)),(2,(1,false)),(3,(1,false))]),
  (285,[(0,(1,false)),(1,(1,false)),(2,(1,false)),(3,(1,false))]),
  (287,[(0,(0,true))]),
  (288,[(0,(0,true))]),
  (296,[(0,(1,false)),(1,(1,false)),(2,(1,false)),(3,(1,false)),(4,(1,false)),(5,(1,false)),(6,(1,false)),(7,(1,false)),(8,(1,false)),(9,(1,false)),(10,(1,false))]),
  (297,[(0,(1,false)),(1,(1,false)),(2,(1,false)),(3,(1,false)),(4,(1,false)),(5,(1,false)),(6,(1,false)),(7,(1,false)),(8,(1,false)),(9,(1,false)),(10,(1,false))])],
 eqs:=[(22,3),(23,3),(38,3),(39,3),(45,2),(111,3),(112,3),(161,256),(165,0),(166,0),(167,0),(168,0),(259,2),(260,2),(269,3),(270,3),(278,6),(279,4)] }
theorem alP1 {α:Type} {R:Nat→α→Prop} {k:Nat} {x:α} {l:List (Nat×α)} (h:R k x) (h2:allP R l):allP R ((k,x)::l):=⟨h,h2⟩
theorem tab_und:allP (fun k D=>Try.prog.underlying k=some D) tab.und:=by
 unfold tab
 repeat (refine alP1 (by kernel_rfl) ?_)
 exact trivial
theorem tab_inf:allP (fun k x=>tyI Try.prog k=some x) tab.inf:=by
 unfold tab
 repeat (refine alP1 (by kernel_rfl) ?_)
 exact trivial
theorem tab_fld:allP (fun k x=>fieldsP Try.prog k=some x) tab.fld:=by
 unfold tab
 repeat (refine alP1 (by kernel_rfl) ?_)
 exact trivial
theorem tab_eqs:allP (fun k L=>eqInts Try.prog k=true∧eqLen Try.prog k=L) tab.eqs:=by
 unfold tab
 repeat (refine alP1 ⟨by kernel_rfl,by kernel_rfl⟩ ?_)
 exact trivial
theorem tab_ok:tab.ok Try.prog:=⟨tab_und,tab_inf,tab_fld,tab_eqs⟩
def cas:List (Nat×Nat):=[(2,0),(3,0),(4,0),(5,0),(6,0),(7,0),(8,0),(9,0),(10,0),(11,0),(12,0),(13,0),(14,0),(15,0),(16,0),(17,0),(18,0),(19,0),(20,0),(21,0),(22,0),(23,0),(24,0),(25,0),(26,0),(27,0),(28,0),(29,0),(30,0),(31,0),(32,0),(33,0),(34,0),(35,0),(36,0),(37,0),(38,0),(39,0),(40,0),(41,0),(42,0),(43,0),(44,0),(45,0),(46,0),(47,0),(48,0),(49,0),(50,0),(51,0),(52,0),(53,0),(54,0),(55,0),(56,0),(57,0),(58,0),(59,0),(60,0),(61,0),(62,0),(63,0),(64,0),(65,0),(66,0),(67,0),(68,0),(69,0),(70,0),(71,0),(72,0),(73,0),(74,0),(75,0),(76,0),(77,0),(78,0),(79,0),(80,0),(81,0),(82,0),(83,0),(84,0),(85,0),(86,0),(87,0),(88,0),(89,0),(90,0),(91,0),(92,0),(93,0),(94,0),(95,0),(96,0),(97,0),(98,0),(99,0),(100,0),(101,0),(102,0),(103,0),(104,0),(105,0),(106,0),(107,0),(108,0),(109,0),(110,0),(111,0),(112,0),(113,0),(114,0),(115,0),(116,0),(117,0),(118,0),(119,0),(120,0),(121,0),(122,0),(123,0),(124,0),(125,0),(126,0),(127,0),(128,0),(129,0),(130,0),(131,0),(132,0),(133,0),(134,0),(135,0),(136,0),(137,0),(138,0),(139,0),(140,0),(141,0),(142,0),(143,0),(144,0),(145,0),(146,0),(147,0),(148,0),(149,0),(150,0),(152,0),(156,0),(161,0),(162,0),(163,0),(164,0),(165,0),(166,0),(167,0),(168,0),(169,0),(170,0),(171,0),(172,0),(173,0),(174,0),(175,0),(176,0),(177,0),(178,0),(179,0),(180,0),(181,0),(182,0),(183,0),(184,0),(185,0),(186,0),(190,0),(191,0),(193,0),(197,0),(198,0),(199,0),(200,0),(201,0),(202,0),(203,0),(204,0),(205,0),(206,0),(207,0),(208,0),(212,0),(213,0),(214,0)]
theorem cas_ok:allP (fun k _=>callable Try.prog k=true) cas:=by
 unfold cas
 repeat (refine alP1 (by kernel_rfl) ?_)
 exact trivial
end Go.Proofs.Ytelpkjellakigaa
/- What a run of the abstract machine asks of the program (printed by a program). -/
set_option maxRecDepth 1000000
namespace Go.Proofs.Ytelpkjellakigaa
open Go
noncomputable def ctx:Ctx:=⟨tab,[(2,Try.f2),(3,Try.f3),(4,Try.f4),(5,Try.f5),(6,Try.f6),(7,Try.f7),(8,Try.f8),(9,Try.f9),(10,Try.f10),(11,Try.f11),(12,Try.f12),(13,Try.f13),(14,Try.f14),(15,Try.f15),(16,Try.f16),(17,Try.f17),(18,Try.f18),(19,Try.f19),(20,Try.f20),(21,Try.f21),(22,Try.f22),(23,Try.f23),(24,Try.f24),(25,Try.f25),(26,Try.f26),(27,Try.f27),(28,Try.f28),(29,Try.f29),(30,Try.f30),(31,Try.f31),(32,Try.f32),(33,Try.f33),(34,Try.f34),(35,Try.f35),(36,Try.f36),(37,Try.f37),(38,Try.f38),(39,Try.f39),(40,Try.f40),(41,Try.f41),(42,Try.f42),(43,Try.f43),(44,Try.f44),(45,Try.f45),(46,Try.f46),(47,Try.f47),(48,Try.f48),(49,Try.f49),(50,Try.f50),(51,Try.f51),(52,Try.f52),(53,Try.f53),(54,Try.f54),(55,Try.f55),(56,Try.f56),(57,Try.f57),(58,Try.f58),(59,Try.f59),(60,Try.f60),(61,Try.f61),(62,Try.f62),(63,Try.f63),(64,Try.f64),(65,Try.f65),(66,Try.f66),(67,Try.f67),(68,Try.f68),(69,Try.f69),(70,Try.f70),(71,Try.f71),(72,Try.f72),(73,Try.f73),(74,Try.f74),(75,Try.f75),(76,Try.f76),(77,Try.f77),(78,Try.f78),(79,Try.f79),(80,Try.f80),(81,Try.f81),(82,Try.f82),(83,Try.f83),(84,Try.f84),(85,Try.f85),(86,Try.f86),(87,Try.f87),(88,Try.f88),(89,Try.f89),(90,Try.f90),(91,Try.f91),(92,Try.f92),(93,Try.f93),(94,Try.f94),(95,Try.f95),(96,Try.f96),(97,Try.f97),(98,Try.f98),(99,Try.f99),(100,Try.f100),(101,Try.f101),(102,Try.f102),(103,Try.f103),(104,Try.f104),(105,Try.f105),(106,Try.f106),(107,Try.f107),(108,Try.f108),(109,Try.f109),(110,Try.f110),(111,Try.f111),(112,Try.f112),(113,Try.f113),(114,Try.f114),(115,Try.f115),(116,Try.f116),(117,Try.f117),(118,Try.f118),(119,Try.f119),(120,Try.f120),(121,Try.f121),(122,Try.f122),(123,Try.f123),(124,Try.f124),(125,Try.f125),(126,Try.f126),(127,Try.f127),(128,Try.f128),(129,Try.f129),(130,Try.f130),(131,Try.f131),(132,Try.f132),(133,Try.f133),(134,Try.f134),(135,Try.f135),(136,Try.f136),(137,Try.f137),(138,Try.f138),(139,Try.f139),(140,Try.f140),(141,Try.f141),(142,Try.f142),(143,Try.f143),(144,Try.f144),(145,Try.f145),(146,Try.f146),(147,Try.f147),(148,Try.f148),(149,Try.f149),(150,Try.f150),(152,Try.f152),(156,Try.f156),(161,Try.f161),(162,Try.f162),(163,Try.f163),(164,Try.f164),(165,Try.f165),(166,Try.f166),(167,Try.f167),(168,Try.f168),(169,Try.f169),(170,Try.f170),(171,Try.f171),(172,Try.f172),(173,Try.f173),(174,Try.f174),(175,Try.f175),(176,Try.f176),(177,Try.f177),(178,Try.f178),(179,Try.f179),(180,Try.f180),(181,Try.f181),(182,Try.f182),(183,Try.f183),(184,Try.f184),(185,Try.f185),(186,Try.f186),(190,Try.f190),(191,Try.f191),(193,Try.f193),(197,Try.f197),(198,Try.f198),(199,Try.f199),(200,Try.f200),(201,Try.f201),(202,Try.f202),(203,Try.f203),(204,Try.f204),(205,Try.f205),(206,Try.f206),(207,Try.f207),(208,Try.f208),(212,Try.f212),(213,Try.f213),(214,Try.f214)],cas⟩
set_option maxRecDepth 100000 in
theorem fns_ok:allP (fun k f=>Try.prog.funcs[k]?=some f) ctx.fns:=⟨Try.func2,⟨Try.func3,⟨Try.func4,⟨Try.func5,⟨Try.func6,⟨Try.func7,⟨Try.func8,⟨Try.func9,⟨Try.func10,⟨Try.func11,⟨Try.func12,⟨Try.func13,⟨Try.func14,⟨Try.func15,⟨Try.func16,⟨Try.func17,⟨Try.func18,⟨Try.func19,⟨Try.func20,⟨Try.func21,⟨Try.func22,⟨Try.func23,⟨Try.func24,⟨Try.func25,⟨Try.func26,⟨Try.func27,⟨Try.func28,⟨Try.func29,⟨Try.func30,⟨Try.func31,⟨Try.func32,⟨Try.func33,⟨Try.func34,⟨Try.func35,⟨Try.func36,⟨Try.func37,⟨Try.func38,⟨Try.func39,⟨Try.func40,⟨Try.func41,⟨Try.func42,⟨Try.func43,⟨Try.func44,⟨Try.func45,⟨Try.func46,⟨Try.func47,⟨Try.func48,⟨Try.func49,⟨Try.func50,⟨Try.func51,⟨Try.func52,⟨Try.func53,⟨Try.func54,⟨Try.func55,⟨Try.func56,⟨Try.func57,⟨Try.func58,⟨Try.func59,⟨Try.func60,⟨Try.func61,⟨Try.func62,⟨Try.func63,⟨Try.func64,⟨Try.func65,⟨Try.func66,⟨Try.func67,⟨Try.func68,⟨Try.func69,⟨Try.func70,⟨Try.func71,⟨Try.func72,⟨Try.func73,⟨Try.func74,⟨Try.func75,⟨Try.func76,⟨Try.func77,⟨Try.func78,⟨Try.func79,⟨Try.func80,⟨Try.func81,⟨Try.func82,⟨Try.func83,⟨Try.func84,⟨Try.func85,⟨Try.func86,⟨Try.func87,⟨Try.func88,⟨Try.func89,⟨Try.func90,⟨Try.func91,⟨Try.func92,⟨Try.func93,⟨Try.func94,⟨Try.func95,⟨Try.func96,⟨Try.func97,⟨Try.func98,⟨Try.func99,⟨Try.func100,⟨Try.func101,⟨Try.func102,⟨Try.func103,⟨Try.func104,⟨Try.func105,⟨Try.func106,⟨Try.func107,⟨Try.func108,⟨Try.func109,⟨Try.func110,⟨Try.func111,⟨Try.func112,⟨Try.func113,⟨Try.func114,⟨Try.func115,⟨Try.func116,⟨Try.func117,⟨Try.func118,⟨Try.func119,⟨Try.func120,⟨Try.func121,⟨Try.func122,⟨Try.func123,⟨Try.func124,⟨Try.func125,⟨Try.func126,⟨Try.func127,⟨Try.func128,⟨Try.func129,⟨Try.func130,⟨Try.func131,⟨Try.func132,⟨Try.func133,⟨Try.func134,⟨Try.func135,⟨Try.func136,⟨Try.func137,⟨Try.func138,⟨Try.func139,⟨Try.func140,⟨Try.func141,⟨Try.func142,⟨Try.func143,⟨Try.func144,⟨Try.func145,⟨Try.func146,⟨Try.func147,⟨Try.func148,⟨Try.func149,⟨Try.func150,⟨Try.func152,⟨Try.func156,⟨Try.func161,⟨Try.func162,⟨Try.func163,⟨Try.func164,⟨Try.func165,⟨Try.func166,⟨Try.func167,⟨Try.func168,⟨Try.func169,⟨Try.func170,⟨Try.func171,⟨Try.func172,⟨Try.func173,⟨Try.func174,⟨Try.func175,⟨Try.func176,⟨Try.func177,⟨Try.func178,⟨Try.func179,⟨Try.func180,⟨Try.func181,⟨Try.func182,⟨Try.func183,⟨Try.func184,⟨Try.func185,⟨Try.func186,⟨Try.func190,⟨Try.func191,⟨Try.func193,⟨Try.func197,⟨Try.func198,⟨Try.func199,⟨Try.func200,⟨Try.func201,⟨Try.func202,⟨Try.func203,⟨Try.func204,⟨Try.func205,⟨Try.func206,⟨Try.func207,⟨Try.func208,⟨Try.func212,⟨Try.func213,⟨Try.func214,trivial⟩⟩⟩⟩⟩⟩⟩⟩⟩⟩⟩⟩⟩⟩⟩⟩⟩⟩⟩⟩⟩⟩⟩⟩⟩⟩⟩⟩⟩⟩⟩⟩⟩⟩⟩⟩⟩⟩⟩⟩⟩⟩⟩⟩⟩⟩⟩⟩⟩⟩⟩⟩⟩⟩⟩⟩⟩⟩⟩⟩⟩⟩⟩⟩⟩⟩⟩⟩⟩⟩⟩⟩⟩⟩⟩⟩⟩⟩⟩⟩⟩⟩⟩⟩⟩⟩⟩⟩⟩⟩⟩⟩⟩⟩⟩⟩⟩⟩⟩⟩⟩⟩⟩⟩⟩⟩⟩⟩⟩⟩⟩⟩⟩⟩⟩⟩⟩⟩⟩⟩⟩⟩⟩⟩⟩⟩⟩⟩⟩⟩⟩⟩⟩⟩⟩⟩⟩⟩⟩⟩⟩⟩⟩⟩⟩⟩⟩⟩⟩⟩⟩⟩⟩⟩⟩⟩⟩⟩⟩⟩⟩⟩⟩⟩⟩⟩⟩⟩⟩⟩⟩⟩⟩⟩⟩⟩⟩⟩⟩⟩⟩⟩⟩⟩⟩⟩⟩⟩⟩⟩⟩⟩⟩⟩⟩
theorem ctx_ok:ctx.ok Try.prog:=⟨tab_ok,fns_ok,cas_ok,by kernel_rfl⟩
end Go.Proofs.Ytelpkjellakigaa
/- Decompiling: the program's functions as the machine over terms takes them. -/
namespace Go.Proofs.Ytelpkjellakigaa
open Go Go.RowKit
noncomputable def dcE (l:List (Nat×Ctr)) (le:List (Nat×CtrE)):DC:=⟨tab,ctx.fns,ctx.cas,l,le⟩
noncomputable def dc (l:List (Nat×Ctr)):DC:=dcE l []
theorem dcE_ok {l:List (Nat×Ctr)} {le:List (Nat×CtrE)} (h:allP (CtrOk Try.prog) l) (he:allP (CtrEOk Try.prog) le):(dcE l le).ok Try.prog:=⟨ctx_ok.T,ctx_ok.fns,ctx_ok.cas,ctx_ok.mixed,h,he⟩
theorem ctr_okE {l:List (Nat×Ctr)} {le:List (Nat×CtrE)} (hl:allP (CtrOk Try.prog) l) (hle:allP (CtrEOk Try.prog) le) {f:Nat} {an:An} {Fn:Nat} {σ ρ:Ty} {g:Nat→σ.den→Option ρ.den} (h:∀ fu x,(topG (ρ:=ρ) (dcE l le) (drR (dcE l le)) f an Fn σ (.var x)).den fu=g fu x):CtrOk Try.prog Fn ⟨σ,ρ,g,Fn⟩ :=
 fun fu x _ hy=>topG_ok (dcE_ok hl hle) (fun _ _ hS=>drR_ok (dcE_ok hl hle) hS) ((h fu x).trans hy)
theorem ctr_ok {l:List (Nat×Ctr)} (hl:allP (CtrOk Try.prog) l) {f:Nat} {an:An} {Fn:Nat} {σ ρ:Ty} {g:Nat→σ.den→Option ρ.den} (h:∀ fu x,(topG (ρ:=ρ) (dc l) (drR (dc l)) f an Fn σ (.var x)).den fu=g fu x):CtrOk Try.prog Fn ⟨σ,ρ,g,Fn⟩:=ctr_okE hl (le:=[]) trivial h
theorem ctrE_ok {l:List (Nat×Ctr)} {le:List (Nat×CtrE)} (hl:allP (CtrOk Try.prog) l) (hle:allP (CtrEOk Try.prog) le) {f:Nat} {an:An} {Fn:Nat} {si so:Sig} {nb na:Nat} {g:Nat→(itmsTy si.items).den→Option (itmsTy so.items).den} (hs:sigOk si so nb=true)
  (h:∀ fu x,(topE (dcE l le) so (drR (dcE l le)) f an Fn si nb na (.var x)).den fu=g fu x):CtrEOk Try.prog Fn ⟨si,so,nb,na,chkE si so nb g,Fn⟩ :=
 ⟨hs,fun fu x y hy=>by
  obtain ⟨h1,h2⟩:=chkE_some hy
  exact ⟨h2,fun m nx hm=>topE_ok (dcE_ok hl hle) (fun _ _ hS=>drR_ok (dcE_ok hl hle) hS) ((h fu x).trans h1) hm⟩⟩
end Go.Proofs.Ytelpkjellakigaa
/- An operation or a call that touches few blocks: all others stay. No program in sight. -/
namespace Go.Proofs.Ytelpkjellakigaa.Rn
open Go Go.RowKit Go.Proofs.Ytelpkjellakigaa

def pf (p:Nat→Bool):AV→Bool
 | .box id _ | .elt id _ _ _ | .osl id _ | .vsl id _ _ _=>p id
 | .agg cs | .tup cs | .fn _ cs=>go p cs
 | .ro ..=>false
 | .peek ..=>false
 | _=>true
where go (p:Nat→Bool):List AV→Bool
 | []=>true
 | a::l=>pf p a&&go p l
theorem pf_at {p:Nat→Bool}:∀ {cs:List AV} {i:Nat} {a:AV},pf.go p cs=true→cs[i]?=some a→pf p a=true
 | [],i,a,_,h=>by simp at h
 | b::l,i,a,h0,h=>by
  rw [pf.go,Bool.and_eq_true] at h0
  cases i with
  | zero=>simp at h;subst h;exact h0.1
  | succ i=>exact pf_at h0.2 (by simpa using h)
def pfB (p:Nat→Bool):AB→Bool
 | .dead=>true
 | .box cs _=>pf.go p cs
 | .row _ rows _=>rows.all (pf.go p)
def SameP (p:Nat→Bool) (G G':Gh):Prop:=∀ id,p id=true→id<G.nx→id<G'.nx∧G'.ρ id=G.ρ id∧G'.ln id=G.ln id∧G'.sz id=G.sz id
theorem lift {p:Nat→Bool} {w:World} {G G':Gh} (h:SameP p G G') {a:AV} {v:Value} (r:RelV w G a v) (hp:pf p a=true):RelV w G' a v:=by
 induction r with
 | dat r =>
  cases r with
  | ro=>simp [pf] at hp
  | any=>exact .dat (.any _)
  | und=>exact .dat .und
  | int=>exact .dat (.int _ _)
  | bool=>exact .dat (.bool _)
  | str=>exact .dat (.str _)
  | nilp=>exact .dat .nilp
  | nils=>exact .dat .nils
  | nilf=>exact .dat .nilf
 | box id off g hid hs hr =>
  obtain ⟨a1,a2,a3,a4⟩:=h id (by simpa only [pf] using hp) hid;exact .box id off g a1 (a4 ▸ hs) (by rw [a2];exact hr)
 | elt id n i j v hid hin hs hn hv hr =>
  obtain ⟨a1,a2,a3,a4⟩:=h id (by simpa only [pf] using hp) hid;refine .elt id n i j v a1 hin (by omega) (by omega) hv (fun e=>?_);obtain ⟨g,c,e1,e2⟩:=hr (by omega);exact ⟨g,c,by rw [a2];exact e1,by rw [a4];exact e2⟩
 | osl id n v hid hs hn hv hr =>
  obtain ⟨a1,a2,a3,a4⟩:=h id (by simpa only [pf] using hp) hid;exact .osl id n v a1 (by omega) (by omega) hv (fun e=>by rw [a2];exact hr (by omega))
 | vsl id n lo len v hid hs hn hle hv hr =>
  obtain ⟨a1,a2,a3,a4⟩:=h id (by simpa only [pf] using hp) hid;refine .vsl id n lo len v a1 (by omega) (by omega) hle hv (fun e=>?_);obtain ⟨A,c,e1,e2,e3,e4⟩:=hr (by omega);refine ⟨A,c,e1,e2,e3,fun hl=>?_⟩;obtain ⟨g,c',e5,e6⟩:=e4 hl;exact ⟨g,c',by rw [a2];exact e5,by rw [a4];exact e6⟩
 | peek row j b o f hr hb h1 h2=>simp [pf] at hp
 | agg cs vs hl _ ih=>exact .agg cs vs hl fun i a v g1 g2=>ih i a v g1 g2 (pf_at (by simpa only [pf] using hp) g1)
 | tup cs vs hl _ ih=>exact .tup cs vs hl fun i a v g1 g2=>ih i a v g1 g2 (pf_at (by simpa only [pf] using hp) g1)
 | fn f cs fs vs hf hl _ ih=>exact .fn f cs fs vs hf hl fun i a v g1 g2=>ih i a v g1 g2 (pf_at (by simpa only [pf] using hp) g1)
theorem liftB {p:Nat→Bool} {w0 w:World} {G G':Gh} {id:Nat} {b:AB} (h:SameP p G G') (r:ABok w0 w G id b) (hp:pfB p b=true) (hid:b=.dead∨p id=true):ABok w0 w G' id b:=by
 cases b with
 | dead=>trivial
 | box cs e =>
  obtain ⟨h1,h2,g,vs,h3,h4,h5,h6⟩:=r;obtain ⟨p1,p2,p3,p4⟩:=h id (hid.resolve_left (by simp)) h1;refine ⟨p1,by rw [p4];exact h2,g,vs,by rw [p2];exact h3,h4,h5,fun i a hi=>?_⟩;obtain ⟨v,g1,g2,g3⟩:=h6 i a hi;exact ⟨v,g1,g2,lift h g3 (pf_at hp hi)⟩
 | row sz rows e =>
  obtain ⟨h1,h2,h3,h4,flat,h5,h6,h7⟩:=r;obtain ⟨p1,p2,p3,p4⟩:=h id (hid.resolve_left (by simp)) h1;refine ⟨p1,h2,by rw [p4];exact h3,by rw [p3];exact h4,flat,by rw [p2];exact h5,h6,fun i row hi=>?_⟩;obtain ⟨g1,g2⟩:=h7 i row hi;refine ⟨g1,fun j a hj=>?_⟩;obtain ⟨v,g3,g4⟩:=g2 j a hj;exact ⟨v,g3,lift h g4 (pf_at (List.all_eq_true.1 hp row (List.mem_of_getElem? hi)) hj)⟩
def cut (G:Gh) (p:Nat→Bool) (k:Nat):Gh:=⟨fun id=>if p id=true∧id<G.nx then G.ρ id else undef,fun b=>∃ id,p id=true∧id<G.nx∧ownBlk (G.ρ id)=some b,G.ln,G.sz,k,G.bs,fun _=>False⟩
def join (G G1:Gh) (p:Nat→Bool):Gh:=⟨fun id=>if p id=true∧id<G.nx then G1.ρ id else G.ρ id,fun b=>G.own b∨G1.own b,fun id=>if p id=true∧id<G.nx then G1.ln id else G.ln id,fun id=>if p id=true∧id<G.nx then G1.sz id else G.sz id,G.nx,G.bs,G.far⟩
section
variable {p:Nat→Bool} {w0 w w':World} {G G1:Gh} {k:Nat} {hp hp2:List (Nat×AB)}
theorem cut_mv {hp:List (Nat×AB)} (h:HR w0 w G hp) (hk:∀ id,p id=true→id<k):Mv p w G w (cut G p k):=by
 refine ⟨fun _ _ _=>rfl,fun b ⟨id,h1,h2,h3⟩=>.inl (h.ownhas id b h2 h3),rfl,fun id h1 h2=>⟨hk id h1,?_,rfl,rfl⟩⟩;show (if p id=true∧id<G.nx then G.ρ id else undef)=_;rw [if_pos ⟨h1,h2⟩]
theorem cut_hr (h:HR w0 w G hp) (hk:∀ id,p id=true→id<k) (h2:∀ id,look .dead hp2 id=.dead∨(p id=true∧look .dead hp2 id=look .dead hp id∧(look .dead hp2 id).nmd p=true)):HR w0 w (cut G p k) hp2:=by
 have hm:=cut_mv h hk;refine ⟨h.bs,h.below,fun b=>⟨fun ⟨id,h1,h2,h3⟩=>h.ownlt b (h.ownhas id b h2 h3),fun hf=>hf.elim⟩,fun id=>?_,fun id id' g h1 h2 hne e1 e2=>?_,fun id g h1 h2=>?_⟩
 ·rcases h2 id with e | ⟨e1,e2,e3⟩
  ·rw [e];trivial
  ·exact ABok.mv (e2 ▸ h.blk id) hm e3 (.inr e1) (fun g _=>rfl)
 ·have e1:ownBlk (if p id=true∧id<G.nx then G.ρ id else undef)=some g:=e1;have e2:ownBlk (if p id'=true∧id'<G.nx then G.ρ id' else undef)=some g:=e2;by_cases c1:p id=true∧id<G.nx
  ·by_cases c2:p id'=true∧id'<G.nx
   ·rw [if_pos c1] at e1;rw [if_pos c2] at e2;exact h.dist id id' g c1.2 c2.2 hne e1 e2
   ·rw [if_neg c2] at e2;cases e2
  ·rw [if_neg c1] at e1;cases e1
 ·have h2:ownBlk (if p id=true∧id<G.nx then G.ρ id else undef)=some g:=h2;by_cases c1:p id=true∧id<G.nx
  ·rw [if_pos c1] at h2;exact ⟨⟨id,c1.1,c1.2,h2⟩,fun hf=>hf⟩
  ·rw [if_neg c1] at h2;cases h2
def patch (G G':Gh) (N:Nat→Bool):Gh:=⟨fun id=>if N id=true then G'.ρ id else G.ρ id,G.own,fun id=>if N id=true then G'.ln id else G.ln id,fun id=>if N id=true then G'.sz id else G.sz id,G.nx,G.bs,G.far⟩
theorem patch_mv {lv N:Nat→Bool} {w:World} {G G':Gh} (h:∀ id,lv id=true→N id=false):Mv lv w G w (patch G G' N):=by
 refine ⟨fun _ _ _=>rfl,fun _ hb=>.inl hb,rfl,fun id hl hid=>?_⟩;have hn:¬ (N id=true):=by rw [h id hl];decide
 exact ⟨hid,if_neg hn,if_neg hn,if_neg hn⟩
def newN (k k2:Nat) (id:Nat):Bool:=Nat.ble k id&&Nat.blt id k2
theorem newN_iff {k k2 id:Nat}:newN k k2 id=true↔k≤id∧id<k2:=by
 unfold newN;rw [Bool.and_eq_true];simp
def orN (p:Nat→Bool) (k k2:Nat) (id:Nat):Bool:=p id||newN k k2 id
theorem orN_iff {p:Nat→Bool} {k k2 id:Nat}:orN p k k2 id=true↔p id=true∨(k≤id∧id<k2):=by
 unfold orN;rw [Bool.or_eq_true,newN_iff]
structure Out (p:Nat→Bool) (k k2:Nat) (w0 w:World) (G:Gh) (hp2:List (Nat×AB)) (w':World) (G':Gh):Prop where
 hr:HR w0 w' G' hp2
 ext:Ext w (patch G G' (newN k k2)) w' G'
 nx:G'.nx=G.nx
 same:∀ j,orN p k k2 j=false→G'.ρ j=G.ρ j∧G'.ln j=G.ln j∧(j<G.nx→∀ g,ownBlk (G.ρ j)=some g→w'.heap[g]?=w.heap[g]?)
theorem join_out {k2:Nat} (h:HR w0 w G hp) (hk:∀ id,p id=true→id<k) (hkn:k2≤G.nx) (h1:HR w0 w' G1 hp2) (hx:Ext w (cut G p k) w' G1) (hn:G1.nx=k2)
  (h2:∀ id,look .dead hp2 id=.dead∨(orN p k k2 id=true∧pfB (orN p k k2) (look .dead hp2 id)=true)):Out p k k2 w0 w G hp2 w' (join G G1 (orN p k k2))∧SameP (orN p k k2) G1 (join G G1 (orN p k k2)):=by
 have hkk:k≤k2:=by rw [←hn];exact hx.nx
 have hlt2:∀ id,orN p k k2 id=true→id<k2:=fun id c=>by
  rcases orN_iff.1 c with c | c
  ·have:=hk id c;omega
  ·exact c.2
 have hs:SameP (orN p k k2) G1 (join G G1 (orN p k k2)):=by
  intro id c1 c2;have hlt:id<G.nx:=by have:=hlt2 id c1;omega
  refine ⟨hlt,?_,?_,?_⟩
  ·show (if orN p k k2 id=true∧id<G.nx then G1.ρ id else G.ρ id)=_;rw [if_pos ⟨c1,hlt⟩]
  ·show (if orN p k k2 id=true∧id<G.nx then G1.ln id else G.ln id)=_;rw [if_pos ⟨c1,hlt⟩]
  ·show (if orN p k k2 id=true∧id<G.nx then G1.sz id else G.sz id)=_;rw [if_pos ⟨c1,hlt⟩]
 have own1:∀ b,G1.own b→G.own b∨w.heap.size≤b:=by
  intro b hb;rcases hx.own2 b hb with ⟨id,c1,c2,c3⟩ | h'
  ·exact .inl (h.ownhas id b c2 c3)
  ·exact .inr h'
 have ext:Ext w (patch G (join G G1 (orN p k k2)) (newN k k2)) w' (join G G1 (orN p k k2)):=by
  refine ⟨hx.size,fun b hb hl=>hx.keep b (fun ⟨id,c1,c2,c3⟩=>hb.elim (fun hb=>hb (h.ownhas id b c2 c3)) (fun hf=>h.nofar id b c2 c3 hf)) hl,fun b hb=>hb.elim .inl (own1 b),Nat.le_refl _,⟨rfl,rfl⟩,fun id hid=>?_⟩;have hid:id<G.nx:=hid;by_cases cn:newN k k2 id=true
  ·have e1:(patch G (join G G1 (orN p k k2)) (newN k k2)).ρ id=(join G G1 (orN p k k2)).ρ id:=if_pos cn;have e2:(patch G (join G G1 (orN p k k2)) (newN k k2)).ln id=(join G G1 (orN p k k2)).ln id:=if_pos cn;have e3:(patch G (join G G1 (orN p k k2)) (newN k k2)).sz id=(join G G1 (orN p k k2)).sz id:=if_pos cn;rw [e1,e2,e3];exact ⟨Nat.le_refl _,rfl,fun _=>rfl,fun _=>rfl⟩
  ·have e1:(patch G (join G G1 (orN p k k2)) (newN k k2)).ρ id=G.ρ id:=if_neg cn;have e2:(patch G (join G G1 (orN p k k2)) (newN k k2)).ln id=G.ln id:=if_neg cn;have e3:(patch G (join G G1 (orN p k k2)) (newN k k2)).sz id=G.sz id:=if_neg cn;rw [e1,e2,e3];show G.ln id≤(if orN p k k2 id=true∧id<G.nx then G1.ln id else G.ln id)∧G.sz id=(if orN p k k2 id=true∧id<G.nx then G1.sz id else G.sz id)∧((if orN p k k2 id=true∧id<G.nx then G1.ln id else G.ln id)=G.ln id→(if orN p k k2 id=true∧id<G.nx then G1.ρ id else G.ρ id)=G.ρ id)∧(G.sz id=0→(if orN p k k2 id=true∧id<G.nx then G1.ln id else G.ln id)=G.ln id);by_cases c:orN p k k2 id=true∧id<G.nx
   ·have cp:p id=true:=(orN_iff.1 c.1).resolve_right fun h=>cn (newN_iff.2 h)
    have hidk:id<(cut G p k).nx:=hk id cp;obtain ⟨a1,a2,a3,a4⟩:=hx.gh id hidk;have e0:(cut G p k).ρ id=G.ρ id:=by show (if p id=true∧id<G.nx then G.ρ id else undef)=_;rw [if_pos ⟨cp,hid⟩]
    have a1:G.ln id≤G1.ln id:=a1;have a2:G.sz id=G1.sz id:=a2;have a3:G1.ln id=G.ln id→G1.ρ id=G.ρ id:=fun e=>(a3 e).trans e0
    have a4:G.sz id=0→G1.ln id=G.ln id:=a4;rw [if_pos c,if_pos c,if_pos c];exact ⟨a1,a2,a3,a4⟩
   ·rw [if_neg c,if_neg c,if_neg c];exact ⟨Nat.le_refl _,rfl,fun _=>rfl,fun _=>rfl⟩
 have jρ:∀ id,orN p k k2 id=true→id<G.nx→(join G G1 (orN p k k2)).ρ id=G1.ρ id:=fun id c1 c2=>if_pos ⟨c1,c2⟩
 have jρ':∀ id,¬ (orN p k k2 id=true∧id<G.nx)→(join G G1 (orN p k k2)).ρ id=G.ρ id:=fun id c=>if_neg c
 have mix:∀ id id' g,orN p k k2 id=true→id<G.nx→¬ (orN p k k2 id'=true∧id'<G.nx)→id'<G.nx→ownBlk (G1.ρ id)=some g→ownBlk (G.ρ id')=some g→False:=by
  intro id id' g c1 c2 c3 c4 e1 e2;have hg1:G1.own g:=h1.ownhas id g (by rw [hn];exact hlt2 id c1) e1;have hg:=h.ownhas id' g c4 e2;rcases hx.own2 g hg1 with ⟨q,d1,d2,d3⟩ | h'
  ·exact h.dist q id' g d2 c4 (fun e=>c3 (by rw [←e];exact ⟨orN_iff.2 (.inl d1),d2⟩)) d3 e2
  ·have:=(h.ownlt g hg).2;omega
 refine ⟨⟨⟨h.bs,h1.below,fun b=>⟨fun hb=>?_,fun hf=>.inl (h.farown b hf)⟩,fun id=>?_,fun id id' g c1 c2 hne e1 e2=>?_,fun id g c1 c2=>?_⟩,ext,rfl,fun j hj=>?_⟩,hs⟩
 ·rcases hb with hb | hb
  ·have:=h.ownlt b hb;have:=hx.size;omega
  ·exact h1.ownlt b hb
 ·rcases h2 id with e | ⟨e1,e2⟩
  ·rw [e];trivial
  ·exact liftB hs (h1.blk id) e2 (.inr e1)
 ·have c1:id<G.nx:=c1;have c2:id'<G.nx:=c2;by_cases d1:orN p k k2 id=true∧id<G.nx
  ·rw [jρ id d1.1 d1.2] at e1;by_cases d2:orN p k k2 id'=true∧id'<G.nx
   ·rw [jρ id' d2.1 d2.2] at e2;exact h1.dist id id' g (by rw [hn];exact hlt2 id d1.1) (by rw [hn];exact hlt2 id' d2.1) hne e1 e2
   ·rw [jρ' id' d2] at e2;exact mix id id' g d1.1 d1.2 d2 c2 e1 e2
  ·rw [jρ' id d1] at e1;by_cases d2:orN p k k2 id'=true∧id'<G.nx
   ·rw [jρ id' d2.1 d2.2] at e2;exact mix id' id g d2.1 d2.2 d1 c1 e2 e1
   ·rw [jρ' id' d2] at e2;exact h.dist id id' g c1 c2 hne e1 e2
 ·have c1:id<G.nx:=c1;by_cases d1:orN p k k2 id=true∧id<G.nx
  ·rw [jρ id d1.1 d1.2] at c2;refine ⟨.inr (h1.ownhas id g (by rw [hn];exact hlt2 id d1.1) c2),fun hf=>?_⟩;rcases hx.own2 g (h1.ownhas id g (by rw [hn];exact hlt2 id d1.1) c2) with ⟨q,b1,b2,b3⟩ | h'
   ·exact h.nofar q g b2 b3 hf
   ·have:=h.farlt g hf;omega
  ·rw [jρ' id d1] at c2;exact ⟨.inl (h.ownhas id g c1 c2),h.nofar id g c1 c2⟩
 ·have c:¬ (orN p k k2 j=true∧j<G.nx):=fun c=>by rw [c.1] at hj;cases hj
  refine ⟨jρ' j c,if_neg c,fun hlt g e=>?_⟩;have hg:=h.ownhas j g hlt e;refine hx.keep g (fun ⟨q,d1,d2,d3⟩=>?_) (h.ownlt g hg).2;exact h.dist q j g d2 hlt (fun e=>c (by rw [←e];exact ⟨orN_iff.2 (.inl d1),d2⟩)) d3 e
end
end Go.Proofs.Ytelpkjellakigaa.Rn
/- An operation or a call that touches few blocks,inside a greater memory. No program in sight. -/
namespace Go.Proofs.Ytelpkjellakigaa.Rn
open Go Go.RowKit Go.Proofs.Ytelpkjellakigaa

structure OpY (P:Program) (n:Nat) (o:Oper) (st st':ASt):Prop where
 out:∀ K a w (Φ:Act→World→Prop) (Q:Exit→Act→World→Prop),Rel K n st a w→(∀ v w',Rel K n st' (a.put o.dst v) w'→Φ (a.put o.dst v) w')→o.wp P a w Φ Q
section
variable {P:Program} {n:Nat} {o:Oper} {st st':ASt}
theorem OpY.ofV (h:OpV P n o st st'):OpY P n o st st':=⟨fun K a w Φ Q r k=>by
 obtain ⟨v,w',h1,h2⟩:=h K a w r
 exact oper_of_run h1 (k v w' h2)⟩
theorem OpY.call {cal:Operand} {args:Array Operand} {ats:Array TypeId} {F:FuncId} {caps xs:List AV} {x:AV} {hp:List (Nat×AB)} {nx:Nat}
  (ho:o.op=.call {callee:=.value cal,args:=args,argTypes:=ats }) (hc:st.ev cal=.fn F caps) (hxs:args.toList.map st.ev++caps=xs) (hF:callable P F=true) (hd:dok o.dst n=true)
  (h:AC P F xs st.heap st.nx (fun x1 hp1 nx1=>x1=x∧hp1=hp∧nx1=nx)):OpY P n o st (callSt st o.dst x hp nx):=⟨fun K a w Φ Q ⟨G,r⟩ k=>by
 subst hxs;have e1:=r.ev cal;rw [hc] at e1;obtain ⟨us,e2,hl,hr⟩:=e1.fn'
 have hargs:ArgsV w G (args.toList.map st.ev++caps) (args.map a.eval++us):=by
  refine ⟨by simp [hl],fun i x v hx hv=>?_⟩;by_cases hi:i<args.size
  ·rw [List.getElem?_append_left (by simpa using hi)] at hx;rw [Array.getElem?_append_left (by simpa using hi)] at hv;refine list_ev r args.toList i x v hx ?_;rw [List.getElem?_map,Array.getElem?_toList];rw [Array.getElem?_map] at hv;exact hv
  ·rw [List.getElem?_append_right (by simp;omega)] at hx;rw [Array.getElem?_append_right (by simp;omega)] at hv;exact hr _ x v hx (by simpa using hv)
 have hcall:=h K.w0 w G _ r.hr r.nx hargs
 have hrun:(execOp a.eval o).run P w=.ok (.enter F (args.map a.eval++us)) w:=by
  simp [execOp,ho,resolve,e2,Deferred.ofValue,invoke,run_callFunc' hF]
 unfold Oper.wp;rw [hrun];refine hcall.mono fun e w' ⟨v,x',hp',nx',G',he,⟨e3,e4,e5⟩,hnx,hHR,hRV,hExt⟩=>?_
 subst he;subst e3;subst e4;subst e5
 exact k v w' ⟨G',(r.turn nx' hnx hHR hExt).put (dok_lt hd) hRV⟩⟩
theorem memC_Y {C:Ctx} {self:SelfT} (hC:C.ok P) (hS:SelfOk P self) (hd:dok o.dst n=true) (h:memC C self st o=some st'):OpY P n o st st':=by
 unfold memC at h;split at h
 ·rename_i s p h1
  cases hb:obM C.T st o.op with
  | false=>rw [hb] at h;cases h
  | true =>
   rw [hb] at h;simp only [cond_true] at h;injection h with h
   subst h;exact .ofV (stepM_ok hC.T h1 (obM_ok h1 hb) hd)
 ·split at h
  ·rename_i s h1;injection h with h
   subst h;exact .ofV (stepXN_ok hC.T h1 hd)
  ·obtain ⟨d,op,ty,ps,af,g⟩:=o;simp only at h;unfold callC at h;split at h
   ·rename_i cal args ats _ _;split at h
    ·rename_i F caps h1;split at h
     ·rename_i q h2;split at h
      ·rename_i x hp nx h3;injection h with h
       subst h;exact .call rfl h1 (evL_eq (st:=st) args.toList caps).symm (allP_at hC.cas h2) hd (hS _ _ _ _ _ _ _ h3)
      ·cases h
     ·cases h
    ·cases h
   ·cases h
end
def dstV (st:ASt) (d:Option Nat):AV:=match d with
 | some t=>look .any st.regs t
 | none=>.any
theorem OpY.run {P:Program} {n:Nat} {o:Oper} {p:Nat→Bool} {k k2:Nat} {rg:List (Nat×AV)} {hp Hp:List (Nat×AB)} {st':ASt} {w0 w:World} {G:Gh} {a:Act}
  (h:OpY P n o ⟨rg,hp,k⟩ st') (hd:dok o.dst n=true) (hk:∀ id,p id=true→id<k) (hn:st'.nx=k2)
  (hs:∀ id,look .dead hp id=.dead∨(p id=true∧look .dead hp id=look .dead Hp id∧(look .dead hp id).nmd p=true))
  (ht:∀ id,look .dead st'.heap id=.dead∨(orN p k k2 id=true∧pfB (orN p k k2) (look .dead st'.heap id)=true))
  (hr:∀ t,(look .any rg t).nmd p=true) (hx:pf (orN p k k2) (dstV st' o.dst)=true)
  (hHR:HR w0 w G Hp) (hkn:k2≤G.nx) (hsz:a.tmps.size=n) (hdf:a.defers=[]) (hrg:∀ t,RelV w G (look .any rg t) (a.tmps.getD t undef))
  {Φ:Act→World→Prop} {Q:Exit→Act→World→Prop} (hΦ:∀ v w' G',Out p k k2 w0 w G st'.heap w' G'→RelV w' G' (dstV st' o.dst) v→Φ (a.put o.dst v) w'):o.wp P a w Φ Q:=by
 have hm:=cut_mv hHR hk;have hHR1:=cut_hr (k:=k) hHR hk hs;have hR:RelG ⟨w0,w,cut G p k⟩ n ⟨rg,hp,k⟩ a w (cut G p k):=⟨rfl,hHR1,Ext.refl _ _,hsz,hdf,fun t=>(hrg t).mv hm (hr t)⟩;refine h.out ⟨w0,w,cut G p k⟩ a w Φ Q ⟨_,hR⟩ fun v w' ⟨G1,r1⟩=>?_
 obtain ⟨ho,hsm⟩:=join_out (hp:=Hp) hHR hk hkn r1.hr r1.ext (r1.nx.trans hn) ht;refine hΦ v w' _ ho ?_
 cases hdd:o.dst with
 | none=>exact .dat (.any v)
 | some t =>
  rw [hdd] at hx r1 hd;have hlt:t<n:=dok_lt hd t rfl;have e:=r1.regs t
  have e2:(a.put (some t) v).tmps.getD t undef=v:=by
   show (a.tmps.setIfInBounds t v).getD t undef=v;rw [getD_set (by rw [hsz];exact hlt),if_pos rfl]
  rw [e2] at e;exact lift hsm e hx
end Go.Proofs.Ytelpkjellakigaa.Rn
/- Regions that draw their order: operations and calls that write,in any order that the edges allow;blocks that are written beside an operation are seen by the cells that stay. No program in sight. -/
namespace Go.Proofs.Ytelpkjellakigaa.Rn
open Go Go.RowKit Go.Proofs.Ytelpkjellakigaa Go.Proofs.Ytelpkjellakigaa.Dr

theorem pf_nmd {p:Nat→Bool}:∀ (a:AV),pf p a=true→a.nmd p=true
 | .box ..,h=>by simpa only [pf,AV.nmd] using h
 | .elt ..,h=>by simpa only [pf,AV.nmd] using h
 | .osl ..,h=>by simpa only [pf,AV.nmd] using h
 | .vsl ..,h=>by simpa only [pf,AV.nmd] using h
 | .agg cs,h=>by simp only [pf,AV.nmd] at h ⊢;exact pf_nmdL cs h
 | .tup cs,h=>by simp only [pf,AV.nmd] at h ⊢;exact pf_nmdL cs h
 | .fn _ cs,h=>by simp only [pf,AV.nmd] at h ⊢;exact pf_nmdL cs h
 | .any,_=>rfl
 | .und,_=>rfl
 | .int ..,_=>rfl
 | .bool ..,_=>rfl
 | .str ..,_=>rfl
 | .nilp,_=>rfl
 | .nils,_=>rfl
 | .nilf,_=>rfl
 | .peek ..,_=>rfl
 | .ro ..,_=>rfl
where pf_nmdL {p:Nat→Bool}:∀ (cs:List AV),pf.go p cs=true→AV.nmd.go p cs=true
 | [],_=>rfl
 | a::l,h=>by
  rw [pf.go,Bool.and_eq_true] at h;rw [AV.nmd.go,pf_nmd a h.1,pf_nmdL l h.2];rfl
theorem pfB_nmd {p:Nat→Bool} {b:AB} (h:pfB p b=true):b.nmd p=true:=by
 cases b with
 | dead=>rfl
 | box cs e=>exact pf_nmd.pf_nmdL cs h
 | row sz rows e=>exact List.all_eq_true.2 fun row hr=>pf_nmd.pf_nmdL row (List.all_eq_true.1 h row hr)
def onL (L:List Nat) (f:Nat→AB) (hp:List (Nat×AB)):List (Nat×AB):=L.map (fun j=>(j,f j))++hp
theorem onL_in {L:List Nat} {f:Nat→AB} {hp:List (Nat×AB)} {j:Nat} (hj:j ∈ L):look .dead (onL L f hp) j=f j:=by
 unfold onL;rw [look_append]
 induction L with
 | nil=>cases hj
 | cons c L ih =>
  rw [List.map_cons,look_cons];by_cases e:c=j
  ·subst e;rw [if_pos rfl]
  ·rw [if_neg e];exact ih ((List.mem_cons.1 hj).resolve_left fun e'=>e e'.symm)
theorem onL_out {L:List Nat} {f:Nat→AB} {hp:List (Nat×AB)} {j:Nat} (hj:j ∉ L):look .dead (onL L f hp) j=look .dead hp j:=by
 unfold onL;rw [look_append]
 induction L with
 | nil=>rfl
 | cons c L ih =>
  rw [List.map_cons,look_cons,if_neg (fun e=>hj (by simp [e]))];exact ih fun h=>hj (List.mem_cons_of_mem _ h)
def lcl (ops:Array Oper) (T:List (List Nat)) (W:List (Nat×Nat)) (M:List (Nat×AB)) (nx0 i:Nat) (cr:List (Nat×Nat)) (st:ASt) (o:Oper) (k:Nat):ASt :=
 ⟨lregs ops st o,M.filter (fun p=>!visW T W nx0 i cr p.1)++st.heap.filter (fun p=>visW T W nx0 i cr p.1),k⟩
theorem lcl_heap {ops:Array Oper} {T:List (List Nat)} {W:List (Nat×Nat)} {M:List (Nat×AB)} {nx0 i:Nat} {cr:List (Nat×Nat)} {st:ASt} {o:Oper} {k:Nat} (id:Nat) :
  look .dead (lcl ops T W M nx0 i cr st o k).heap id=bif visW T W nx0 i cr id then look .dead st.heap id else look .dead M id:=by
 show look .dead (M.filter (fun p=>!visW T W nx0 i cr p.1)++st.heap.filter (fun p=>visW T W nx0 i cr p.1)) id=_;rw [look_append,look_filt (f:=fun id=>visW T W nx0 i cr id),look_filt (f:=fun id=>!visW T W nx0 i cr id)]
 cases hv:visW T W nx0 i cr id with
 | true=>rfl
 | false =>
  simp only [Bool.not_false,cond_true,cond_false]
def news (k k2:Nat):List Nat:=List.range' k (k2-k)
theorem news_mem {k k2 id:Nat}:id ∈ news k k2↔k≤id∧id<k2:=by
 unfold news;rw [List.mem_range'_1];omega
def lvD (S:Nat→ASt) (m nx0:Nat) (d:Nat→Bool) (id:Nat):Bool:=Nat.blt id nx0||(List.range m).any fun j=>d j&&(Nat.ble (S j).nx id&&Nat.blt id (S (j+1)).nx)
theorem lvD_iff {S:Nat→ASt} {m nx0:Nat} {d:Nat→Bool} {id:Nat}:lvD S m nx0 d id=true↔id<nx0∨∃ j,j<m∧d j=true∧(S j).nx≤id∧id<(S (j+1)).nx:=by
 unfold lvD;rw [Bool.or_eq_true,List.any_eq_true];constructor
 ·rintro (h | ⟨j,h1,h2⟩)
  ·exact .inl (by simpa using h)
  ·simp only [Bool.and_eq_true] at h2;exact .inr ⟨j,List.mem_range.1 h1,h2.1,by simpa using h2.2.1,by simpa using h2.2.2⟩
 ·rintro (h | ⟨j,h1,h2,h3,h4⟩)
  ·exact .inl (by simpa using h)
  ·refine .inr ⟨j,List.mem_range.2 h1,?_⟩;simp [h2,h3,h4]
def InvG (K:Kn) (n:Nat) (l:List Oper) (W:List (Nat×Nat)) (S:Nat→ASt) (m nx0:Nat) (d:Nat→Bool) (a:Act) (w:World):Prop:=∃ R hp G,RelP K n R hp (S m).nx (lvD S m nx0 d) a w G ∧
 (∀ j o t,j<m→l[j]?=some o→d j=true→o.dst=some t→Les (look .any (S (j+1)).regs t) (R t)) ∧
 (∀ t,(∀ j o,j<m→l[j]?=some o→d j=true→o.dst≠some t)→Les (look .any (S 0).regs t) (R t)) ∧
 (∀ id,lvD S m nx0 d id=true→∃ p,p≤m∧id<(S p).nx∧LesB (look .dead (S p).heap id) (look .dead hp id)∧(∀ j,(j,id) ∈ W→j<p→d j=true)∧(∀ j,(j,id) ∈ W→p≤j→d j=false)∧(p=0∨∃ q,p=q+1∧d q=true∧((q,id) ∈ W∨(S q).nx≤id)))
inductive Loc (P:Program) (n:Nat) (ops:Array Oper) (T:List (List Nat)) (W:List (Nat×Nat)) (M:List (Nat×AB)) (nx0 i:Nat) (cr:List (Nat×Nat)) (o:Oper) (st:ASt):ASt→List (Nat×Nat)→Prop
 | read {x:AV} (hW:noW W i=true) (hw:o.guard=none∨gst ops o (lcl ops T W M nx0 i cr st o 0)=some true) (h:∀ k,OpR P n o (lcl ops T W M nx0 i cr st o k) x) (hn:x.nmd (vis T nx0 i cr)=true):Loc P n ops T W M nx0 i cr o st (st.put o.dst x) cr
 | call {x:AV} (hW:noW W i=true) (hw:o.guard=none∨gst ops o (lcl ops T W M nx0 i cr st o 0)=some true) (h:∀ k,OpF P n o (lcl ops T W M nx0 i cr st o k) x) (hn:x.nmd (vis T nx0 i cr)=true):Loc P n ops T W M nx0 i cr o st (st.put o.dst x) cr
 | new {b:AB} (hW:noW W i=true) (hN:newW T W i st.nx=true) (hw:o.guard=none∨gst ops o (lcl ops T W M nx0 i cr st o 0)=some true) (h:∀ k,OpN P n o (lcl ops T W M nx0 i cr st o k) b) (hn:b.nmd (vis T nx0 i cr)=true):Loc P n ops T W M nx0 i cr o st ((st.hnew b).put o.dst (refB b st.nx)) ((i,st.nx)::cr)
 | skip (hW:noW W i=true) (hw:gst ops o (lcl ops T W M nx0 i cr st o 0)=some false) (hd:dok o.dst n=true):Loc P n ops T W M nx0 i cr o st (st.put o.dst .und) cr
 | write {id:Nat} {b:AB} {x:AV} (L:List Nat) (hL:∀ j ∈ L,visW T W nx0 i cr j=true∧(look .dead st.heap j).nmd (vis T nx0 i cr)=true) (hw:o.guard=none∨gst ops o (lcl ops T W M nx0 i cr st o 0)=some true) (hv:visW T W nx0 i cr id=true) (hm:(i,id) ∈ W) (hu:onlyW W i id=true)
   (h:∀ hp k,(∀ j ∈ L,look .dead hp j=look .dead st.heap j)→OpWr P n o ⟨lregs ops st o,hp,k⟩ id b x) (hb:b.nmd (vis T nx0 i cr)=true) (hn:x.nmd (vis T nx0 i cr)=true) (hM:LesB (look .dead M id) b):Loc P n ops T W M nx0 i cr o st ((st.hset id b).put o.dst x) cr
 | op {st2:ASt} (L:List Nat) (hp:List (Nat×AB)) (hw:o.guard=none∨gst ops o (lcl ops T W M nx0 i cr st o 0)=some true) (h:OpY P n o ⟨lregs ops st o,hp,st.nx⟩ st2) (hd:dok o.dst n=true) (hn:st.nx≤st2.nx) (hN:∀ id,st.nx≤id→id<st2.nx→newW T W i id=true)
   (hv:∀ id ∈ L,id<st.nx∧visW T W nx0 i cr id=true) (hs:∀ id,look .dead hp id=.dead∨(id ∈ L∧look .dead hp id=look .dead st.heap id∧(look .dead hp id).nmd (hasN L)=true))
   (ht:∀ id,look .dead st2.heap id=.dead∨(orN (hasN L) st.nx st2.nx id=true∧pfB (orN (hasN L) st.nx st2.nx) (look .dead st2.heap id)=true)) (hr:∀ t,(look .any (lregs ops st o) t).nmd (hasN L)=true) (hx:pf (orN (hasN L) st.nx st2.nx) (dstV st2 o.dst)=true)
   (hW:∀ id,(i,id) ∈ W→id ∈ L) (hu:∀ id ∈ L,(i,id) ∈ W∨look .dead st2.heap id=look .dead st.heap id) (hM:∀ id,(i,id) ∈ W→LesB (look .dead M id) (look .dead st2.heap id)) :
   Loc P n ops T W M nx0 i cr o st ((⟨st.regs,onL (L++news st.nx st2.nx) (look .dead st2.heap) st.heap,st2.nx⟩:ASt).put o.dst (dstV st2 o.dst)) ((news st.nx st2.nx).map (fun id=>(i,id))++cr)
inductive AG (P:Program) (n:Nat) (ops:Array Oper) (T:List (List Nat)) (W:List (Nat×Nat)) (M:List (Nat×AB)) (nx0:Nat) (Kt:ASt→Prop):Nat→List (Nat×Nat)→List Oper→ASt→Prop
 | nil {i:Nat} {cr:List (Nat×Nat)} {st:ASt} (h:Kt st):AG P n ops T W M nx0 Kt i cr [] st
 | step {i:Nat} {cr cr':List (Nat×Nat)} {o:Oper} {l:List Oper} {st st':ASt} (h:Loc P n ops T W M nx0 i cr o st st' cr') (k:AG P n ops T W M nx0 Kt (i+1) cr' l st'):AG P n ops T W M nx0 Kt i cr (o::l) st
 | same {i:Nat} {cr:List (Nat×Nat)} {l:List Oper} {st st':ASt} (h:Eqv st st') (k:AG P n ops T W M nx0 Kt i cr l st'):AG P n ops T W M nx0 Kt i cr l st
theorem AG.facts {P:Program} {n:Nat} {ops:Array Oper} {T:List (List Nat)} {W:List (Nat×Nat)} {M:List (Nat×AB)} {nx0:Nat} {Kt:ASt→Prop} {i:Nat} {cr:List (Nat×Nat)} {l:List Oper} {st:ASt} (h:AG P n ops T W M nx0 Kt i cr l st) :
  ∃ (S:Nat→ASt) (C:Nat→List (Nat×Nat)),Eqv st (S 0)∧C 0=cr∧Kt (S l.length)∧∀ j o,l[j]?=some o→∃ s',Loc P n ops T W M nx0 (i+j) (C j) o (S j) s' (C (j+1))∧Eqv s' (S (j+1)):=by
 induction h with
 | @nil i cr st h=>exact ⟨fun _=>st,fun _=>cr,Eqv.refl _,rfl,h,fun j o hj=>by simp at hj⟩
 | @step i cr cr' o l st st' h k ih =>
  obtain ⟨S,C,h1,h2,h3,h4⟩:=ih;refine ⟨fun j=>match j with | 0=>st | j+1=>S j,fun j=>match j with | 0=>cr | j+1=>C j,Eqv.refl _,rfl,h3,fun j o' hj=>?_⟩
  cases j with
  | zero =>
   simp at hj;subst hj;exact ⟨st',by show Loc P n ops T W M nx0 i cr o st st' (C 0);rw [h2];exact h,h1⟩
  | succ j =>
   obtain ⟨s',g1,g2⟩:=h4 j o' (by simpa using hj);exact ⟨s',by rw [show i+(j+1)=i+1+j by omega];exact g1,g2⟩
 | @same i cr l st st' h k ih =>
  obtain ⟨S,C,h1,h2,h3,h4⟩:=ih;exact ⟨S,C,h.trans h1,h2,h3,h4⟩
section
variable {P:Program} {n:Nat} {ops:Array Oper} {T:List (List Nat)} {W:List (Nat×Nat)} {M:List (Nat×AB)} {nx0 i:Nat} {cr cr':List (Nat×Nat)} {o:Oper} {st st':ASt}
theorem Loc.nx_le (h:Loc P n ops T W M nx0 i cr o st st' cr'):st.nx≤st'.nx:=by
 cases h with
 | read=>rw [put_nx];exact Nat.le_refl _
 | call=>rw [put_nx];exact Nat.le_refl _
 | new=>rw [put_nx];exact Nat.le_succ _
 | skip=>rw [put_nx];exact Nat.le_refl _
 | write=>rw [put_nx];exact Nat.le_refl _
 | op _ _ _ _ _ hn=>rw [put_nx];exact hn
theorem Loc.regs (h:Loc P n ops T W M nx0 i cr o st st' cr') {t:Nat} (ht:o.dst≠some t):look .any st'.regs t=look .any st.regs t:=by
 cases h with
 | read=>exact put_regs _ _ _ _ ht
 | call=>exact put_regs _ _ _ _ ht
 | new=>rw [put_regs _ _ _ _ ht];rfl
 | skip=>exact put_regs _ _ _ _ ht
 | write=>rw [put_regs _ _ _ _ ht];rfl
 | op=>rw [put_regs _ _ _ _ ht]
theorem Loc.heap (h:Loc P n ops T W M nx0 i cr o st st' cr') {id:Nat} (hid:id<st.nx∨st'.nx≤id) (hw:(i,id) ∉ W):look .dead st'.heap id=look .dead st.heap id:=by
 cases h with
 | read=>rw [put_heap']
 | call=>rw [put_heap']
 | @new b =>
  rw [put_nx] at hid;have hid:id<st.nx∨st.nx+1≤id:=hid;rw [put_heap'];exact look_ne _ (fun e=>by omega) _ _
 | skip=>rw [put_heap']
 | @write id' b x L hL _ hv hm=>rw [put_heap'];exact look_ne _ (fun e=>hw (by rw [←e];exact hm)) _ _
 | @op st2 L hp hwa h hd hn hN hv hs htt hr hx hW hu =>
  rw [put_nx] at hid;have hid:id<st.nx∨st2.nx≤id:=hid;rw [put_heap'];show look .dead (onL (L++news st.nx st2.nx) _ _) id=_;by_cases e:id ∈ L++news st.nx st2.nx
  ·rw [onL_in e];rcases List.mem_append.1 e with e | e
   ·exact (hu id e).resolve_left hw
   ·have:=news_mem.1 e;omega
  ·exact onL_out e
theorem Loc.heap2 (h:Loc P n ops T W M nx0 i cr o st st' cr') (id:Nat):look .dead st'.heap id=look .dead st.heap id∨(st.nx≤id∧id<st'.nx)∨vis T nx0 i cr id=true:=by
 cases h with
 | read=>left;rw [put_heap']
 | call=>left;rw [put_heap']
 | skip=>left;rw [put_heap']
 | @new b =>
  by_cases e:id=st.nx
  ·exact .inr (.inl ⟨by omega,by rw [put_nx];show id<st.nx+1;omega⟩)
  ·left;rw [put_heap'];exact look_ne _ (fun e'=>e e'.symm) _ _
 | @write id' b x L hL _ hv hm =>
  by_cases e:id'=id
  ·subst e;unfold visW at hv;rw [Bool.and_eq_true] at hv;exact .inr (.inr hv.1)
  ·left;rw [put_heap'];exact look_ne _ e _ _
 | @op st2 L hp hwa h hd hn hN hv hs htt hr hx hW hu =>
  by_cases e:id ∈ L++news st.nx st2.nx
  ·rcases List.mem_append.1 e with e | e
   ·have:=(hv id e).2;unfold visW at this;rw [Bool.and_eq_true] at this;exact .inr (.inr this.1)
   ·exact .inr (.inl ⟨(news_mem.1 e).1,by rw [put_nx];exact (news_mem.1 e).2⟩)
  ·left
   rw [put_heap'];exact onL_out e
theorem Loc.crm (h:Loc P n ops T W M nx0 i cr o st st' cr'):∀ c ∈ cr',c ∈ cr∨(c.1=i∧st.nx≤c.2∧c.2<st'.nx):=by
 cases h with
 | read=>intro c hc;exact .inl hc
 | call=>intro c hc;exact .inl hc
 | new =>
  intro c hc;rcases List.mem_cons.1 hc with h | h
  ·subst h;exact .inr ⟨rfl,Nat.le_refl _,by rw [put_nx];exact Nat.lt_succ_self _⟩
  ·exact .inl h
 | skip=>intro c hc;exact .inl hc
 | write=>intro c hc;exact .inl hc
 | op =>
  intro c hc;rcases List.mem_append.1 hc with h | h
  ·obtain ⟨id,h1,rfl⟩:=List.mem_map.1 h;exact .inr ⟨rfl,(news_mem.1 h1).1,by rw [put_nx];exact (news_mem.1 h1).2⟩
  ·exact .inl h
theorem Loc.mask (h:Loc P n ops T W M nx0 i cr o st st' cr') (hnx:nx0≤st.nx) (h0:∀ id,nx0≤id→look .dead M id=.dead) (hM:∀ id,LesB (look .dead M id) (look .dead st.heap id)):∀ id,LesB (look .dead M id) (look .dead st'.heap id):=by
 intro id;by_cases hw:(i,id) ∈ W
 ·cases h with
  | read hW=>exact absurd hw (noW_at hW id)
  | call hW=>exact absurd hw (noW_at hW id)
  | new hW=>exact absurd hw (noW_at hW id)
  | skip hW=>exact absurd hw (noW_at hW id)
  | @write id' b x L hL _ hv hm hu _ hb hn hMb =>
   have:=onlyW_at hu hw;subst this;rw [put_heap'];have e1:look AB.dead (st.hset id b).heap id=b:=look_self _ _ _ _;rw [e1];exact hMb
  | op L hp hwa h hd hn hN hv hs htt hr hx hW hu hMb =>
   rw [put_heap'];show LesB _ (look .dead (onL (L++news st.nx _) _ _) id);rw [onL_in (List.mem_append.2 (.inl (hW id hw)))];exact hMb id hw
 ·by_cases e:id<st.nx
  ·rw [h.heap (.inl e) hw];exact hM id
  ·rw [h0 id (by omega)];exact .dead _
end
theorem eqv_les {s s':ASt} (h:Eqv s s'):LeS s' s:=⟨fun d=>by rw [h.regs d];exact .refl _,fun d=>by rw [h.heap d];exact .refl _,h.nx.symm⟩
section
variable {P:Program} {n:Nat} {l:List Oper} {T:List (List Nat)} {W:List (Nat×Nat)} {M:List (Nat×AB)} {S:Nat→ASt} {C:Nat→List (Nat×Nat)} {m:Nat}
theorem AG.step' (hp:∀ i o,l[i]?=some o→PlanR l n i o) (hT:AncOk l T) (hml:m≤l.length) (hC0:C 0=[])
  (hE:∀ j o,j<m→l[j]?=some o→∃ s',Loc P n l.toArray T W M (S 0).nx j (C j) o (S j) s' (C (j+1))∧Eqv s' (S (j+1))) (hM0:∀ id,(S 0).nx≤id→look .dead M id=.dead) (hM1:∀ id,LesB (look .dead M id) (look .dead (S 0).heap id))
  {K:Kn} {Q:Exit→Act→World→Prop} {i:Nat} {o:Oper} {d:Nat→Bool} {a:Act} {w:World} (hi:i<m) (ho:l[i]?=some o) (hd0:d i=false) (hcl:ClosedD l d) (hdep:∀ e ∈ o.after,Region.binds .any e=true→d e.on=true)
  (h:InvG K n l W S m (S 0).nx d a w):if Region.wanted o (yielded l.toArray a.tmps) then o.wp P a w (fun a' w'=>InvG K n l W S m (S 0).nx (upd d i) a' w') Q else InvG K n l W S m (S 0).nx (upd d i) (a.put o.dst undef) w:=by
 have hL:∀ j o,j<m→l[j]?=some o→∃ s',Loc P n l.toArray T W M (S 0).nx j (C j) o (S j) s' (C (j+1))∧LeS (S (j+1)) s':=fun j o hj ho=>by
  obtain ⟨s',h1,h2⟩:=hE j o hj ho;exact ⟨s',h1,eqv_les h2⟩
 obtain ⟨R,hpp,G,hR,I1,I2,I3⟩:=h;have hop:∀ j,j<m→∃ o,l[j]?=some o:=fun j hj=>⟨l[j],List.getElem?_eq_getElem (by omega)⟩
 have nxS:∀ j,j<m→(S j).nx≤(S (j+1)).nx:=fun j hj=>by
  obtain ⟨o,ho⟩:=hop j hj;obtain ⟨s',h1,h2⟩:=hL j o hj ho;rw [h2.nx];exact h1.nx_le
 have nxM:∀ q,q≤m→∀ p,p≤q→(S p).nx≤(S q).nx:=by
  intro q
  induction q with
  | zero=>intro _ p hp;obtain rfl:p=0:=(by omega);exact Nat.le_refl _
  | succ q ih =>
   intro hq p hp;rcases Nat.lt_or_ge p (q+1) with h | h
   ·exact Nat.le_trans (ih (by omega) p (by omega)) (nxS q (by omega))
   ·obtain rfl:p=q+1:=by omega
    exact Nat.le_refl _
 have regM:∀ t q,q≤m→∀ p,p≤q→(∀ j o,p≤j→j<q→l[j]?=some o→o.dst≠some t)→Les (look AV.any (S q).regs t) (look .any (S p).regs t):=by
  intro t q
  induction q with
  | zero=>intro _ p hp _;obtain rfl:p=0:=(by omega);exact .refl _
  | succ q ih =>
   intro hq p hp hno;rcases Nat.lt_or_ge p (q+1) with h | h
   ·obtain ⟨o,ho⟩:=hop q (by omega);obtain ⟨s',h1,h2⟩:=hL q o (by omega) ho;have e1:=h2.regs t;rw [h1.regs (hno q o (by omega) (by omega) ho)] at e1;exact e1.trans (ih (by omega) p (by omega) fun j o hj1 hj2=>hno j o hj1 (by omega))
   ·obtain rfl:p=q+1:=by omega
    exact .refl _
 have heapM:∀ id q,q≤m→∀ p,p≤q→id<(S p).nx→(∀ j,p≤j→j<q→(j,id) ∉ W)→LesB (look AB.dead (S q).heap id) (look .dead (S p).heap id):=by
  intro id q
  induction q with
  | zero=>intro _ p hp _ _;obtain rfl:p=0:=(by omega);exact .refl _
  | succ q ih =>
   intro hq p hp hlt hno;rcases Nat.lt_or_ge p (q+1) with h | h
   ·obtain ⟨o,ho⟩:=hop q (by omega);obtain ⟨s',h1,h2⟩:=hL q o (by omega) ho;have:=nxM q (by omega) p (by omega);have e1:=h2.heap id;rw [h1.heap (by omega) (hno q (by omega) (by omega))] at e1;exact e1.trans (ih (by omega) p (by omega) hlt fun j j1 j2=>hno j j1 (by omega))
   ·obtain rfl:p=q+1:=by omega
    exact .refl _
 have heapE:∀ id q,q≤m→∀ p,p≤q→id<(S p).nx→(∀ j,p≤j→j<q→(j,id) ∉ W)→look AB.dead (S q).heap id=look .dead (S p).heap id:=by
  intro id q
  induction q with
  | zero=>intro _ p hp _ _;obtain rfl:p=0:=(by omega);rfl
  | succ q ih =>
   intro hq p hp hlt hno;rcases Nat.lt_or_ge p (q+1) with h | h
   ·obtain ⟨o,ho⟩:=hop q (by omega);obtain ⟨s',h1,h2⟩:=hE q o (by omega) ho;have:=nxM q (by omega) p (by omega);have e1:=h2.heap id;rw [h1.heap (by omega) (hno q (by omega) (by omega))] at e1;exact e1.symm.trans (ih (by omega) p (by omega) hlt fun j j1 j2=>hno j j1 (by omega))
   ·obtain rfl:p=q+1:=by omega
    rfl
 have hMall:∀ q,q≤m→∀ id,LesB (look AB.dead M id) (look .dead (S q).heap id):=by
  intro q
  induction q with
  | zero=>intro _;exact hM1
  | succ q ih =>
   intro hq id;obtain ⟨o,ho⟩:=hop q (by omega);obtain ⟨s',h1,h2⟩:=hE q o (by omega) ho;rw [←h2.heap id];exact h1.mask (nxM q (by omega) 0 (Nat.zero_le _)) hM0 (ih (by omega)) id
 have crM:∀ q,q≤m→∀ c ∈ C q,c.1<q∧(S c.1).nx≤c.2∧c.2<(S (c.1+1)).nx:=by
  intro q
  induction q with
  | zero=>intro _ c hc;rw [hC0] at hc;cases hc
  | succ q ih =>
   intro hq c hc;obtain ⟨o,ho⟩:=hop q (by omega);obtain ⟨s',h1,h2⟩:=hL q o (by omega) ho;rcases h1.crm c hc with h | ⟨h,h',h''⟩
   ·obtain ⟨g1,g2⟩:=ih (by omega) c h;exact ⟨by omega,g2⟩
   ·rw [h];exact ⟨by omega,h',by rw [h2.nx];exact h''⟩
 have pa:=hp i o ho
 have hlook:∀ t,t ∈ o.looksAt l.toArray→Les (look .any (S i).regs t) (R t):=by
  intro t ht;by_cases hw:∃ (j:Nat) (o':Oper),l[j]?=some o'∧o'.dst=some t
  ·obtain ⟨j,o',ho',hdst⟩:=hw;rcases pa.look j o' t ho' hdst ht with ⟨hj,hr⟩ | ⟨hj,hr⟩
   ·have hdj:=hr.done hcl ho hdep;exact (regM t i (by omega) (j+1) (by omega) fun j2 o2 h1 h2 ho2=>(hp j2 o2 ho2).one j o' t ho' hdst (by omega)).trans (I1 j o' t (by omega) ho' hdj hdst)
   ·have hnj:d j=false:=by
     cases hdj:d j with
     | false=>rfl
     | true=>have:=hr.done' hcl hdj;rw [hd0] at this;cases this
    have honly:∀ j2 o2,l[j2]?=some o2→j2≠j→o2.dst≠some t:=fun j2 o2 ho2 hne=>(hp j2 o2 ho2).one j o' t ho' hdst hne
    refine (regM t i (by omega) 0 (Nat.zero_le _) fun j2 o2 _ h2 ho2=>honly j2 o2 ho2 (by omega)).trans (I2 t fun j2 o2 _ ho2 hd2=>honly j2 o2 ho2 fun e=>?_);subst e;rw [hnj] at hd2;cases hd2
  ·exact (regM t i (by omega) 0 (Nat.zero_le _) fun j o' _ _ ho' hdst=>hw ⟨j,o',ho',hdst⟩).trans (I2 t fun j o' _ ho' _ hdst=>hw ⟨j,o',ho',hdst⟩)
 have hvis:∀ id,vis T (S 0).nx i (C i) id=true→lvD S m (S 0).nx d id=true∧id<(S i).nx:=by
  intro id h;unfold vis at h;rw [Bool.or_eq_true,List.any_eq_true] at h;rcases h with h | ⟨c,hc,h⟩
  ·have h:id<(S 0).nx:=by simpa using h
   have:=nxM i (by omega) 0 (Nat.zero_le _);exact ⟨lvD_iff.2 (.inl h),by omega⟩
  ·rw [Bool.and_eq_true] at h;obtain ⟨g1,g2,g3⟩:=crM i (by omega) c hc;have hid:=Nat.eq_of_beq_eq_true h.1;have hdc:=(reachT hT h.2).done hcl ho hdep;have:=nxM i (by omega) (c.1+1) (by omega);exact ⟨lvD_iff.2 (.inr ⟨c.1,by omega,hdc,by omega,by omega⟩),by omega⟩
 have hcont:∀ id,visW T W (S 0).nx i (C i) id=true→LesB (look .dead (S i).heap id) (look AB.dead hpp id):=by
  intro id hv;unfold visW at hv;rw [Bool.and_eq_true] at hv;obtain ⟨h1,h2⟩:=hvis id hv.1;obtain ⟨p,p1,p2,p3,p4,p5,p6⟩:=I3 id h1
  have hpi:p≤i:=by
   rcases p6 with rfl | ⟨q,rfl,hdq,hq⟩
   ·exact Nat.zero_le _
   ·rcases Nat.lt_or_ge q i with h | h
    ·omega
    ·exfalso
     rcases hq with hq | hq
     ·by_cases e:q=i
      ·subst e;rw [hd0] at hdq;cases hdq
      ·have:=(reachT hT ((okW_at hv.2 hq).2 (by omega))).done' hcl hdq;rw [hd0] at this;cases this
     ·have:=nxM q (by omega) i h;omega
  refine (heapM id i (by omega) p hpi p2 fun j j1 j2 hj=>?_).trans p3;have hdj:=(reachT hT ((okW_at hv.2 hj).1 j2)).done hcl ho hdep;rw [p5 j hj j1] at hdj;cases hdj
 have hver:∀ id,visW T W (S 0).nx i (C i) id=true→∀ p,p≤m→id<(S p).nx→(∀ j,(j,id) ∈ W→p≤j→d j=false)→(p=0∨∃ q,p=q+1∧d q=true∧((q,id) ∈ W∨(S q).nx≤id))→look .dead (S i).heap id=look AB.dead (S p).heap id:=by
  intro id hv p p1 p2 p5 p6;unfold visW at hv;rw [Bool.and_eq_true] at hv;obtain ⟨h1,h2⟩:=hvis id hv.1
  have hpi:p≤i:=by
   rcases p6 with rfl | ⟨q,rfl,hdq,hq⟩
   ·exact Nat.zero_le _
   ·rcases Nat.lt_or_ge q i with h | h
    ·omega
    ·exfalso
     rcases hq with hq | hq
     ·by_cases e:q=i
      ·subst e;rw [hd0] at hdq;cases hdq
      ·have:=(reachT hT ((okW_at hv.2 hq).2 (by omega))).done' hcl hdq;rw [hd0] at this;cases this
     ·have:=nxM q (by omega) i h;omega
  refine heapE id i (by omega) p hpi p2 fun j j1 j2 hj=>?_
  have hdj:=(reachT hT ((okW_at hv.2 hj).1 j2)).done hcl ho hdep;rw [p5 j hj j1] at hdj;cases hdj
 have hregs:∀ t,Les (look AV.any (lregs l.toArray (S i) o) t) (R t):=by
  intro t;by_cases ht:t ∈ o.looksAt l.toArray
  ·rcases (look_pick (f:=fun t=>look AV.any (S i).regs t) (l:=o.looksAt l.toArray) (dd:=AV.any) (t:=t)) with e | e
   ·show Les (look AV.any ((o.looksAt l.toArray).map fun t=>(t,look AV.any (S i).regs t)) t) _;rw [e];exact hlook t ht
   ·show Les (look AV.any ((o.looksAt l.toArray).map fun t=>(t,look AV.any (S i).regs t)) t) _;rw [e];exact .any _
  ·show Les (look AV.any ((o.looksAt l.toArray).map fun t=>(t,look AV.any (S i).regs t)) t) _;rw [look_pick_in ht];exact .any _
 have hrel:RelG K n (lcl l.toArray T W M (S 0).nx i (C i) (S i) o (S m).nx) a w G:=by
  refine RelP.rel' hR hregs (fun id=>?_) rfl;rw [lcl_heap]
  cases hv:visW T W (S 0).nx i (C i) id with
  | false =>
   simp only [cond_false];rcases Nat.lt_or_ge id (S 0).nx with hlt | hge
   ·obtain ⟨p,p1,p2,p3,_⟩:=I3 id (lvD_iff.2 (.inl hlt));exact (hMall p p1 id).trans p3
   ·rw [hM0 id hge];exact .dead _
  | true=>exact hcont id hv
 have keep:∀ id,(i,id) ∉ W→lvD S m (S 0).nx d id=true→∃ p,p≤m∧id<(S p).nx∧LesB (look .dead (S p).heap id) (look .dead hpp id)∧(∀ j,(j,id) ∈ W→j<p→upd d i j=true)∧(∀ j,(j,id) ∈ W→p≤j→upd d i j=false)∧(p=0∨∃ q,p=q+1∧upd d i q=true∧((q,id) ∈ W∨(S q).nx≤id)):=by
  intro id hni hlv;obtain ⟨p,p1,p2,p3,p4,p5,p6⟩:=I3 id hlv;refine ⟨p,p1,p2,p3,fun j hj h=>?_,fun j hj h=>?_,p6.imp (fun h=>h) fun ⟨q,e,hq,hw⟩=>⟨q,e,by simp [upd,hq],hw⟩⟩
  ·rw [upd_ne (fun e=>hni (by rw [←e];exact hj))];exact p4 j hj h
  ·rw [upd_ne (fun e=>hni (by rw [←e];exact hj))];exact p5 j hj h
 have ho0:=ho;obtain ⟨s',hloc,heq⟩:=hL i o hi ho;have hdone:∀ j,upd d i j=true↔d j=true∨j=i:=fun j=>by simp [upd]
 have J1:∀ (x:AV),(∀ t,o.dst=some t→Les (look .any (S (i+1)).regs t) x)→∀ j o' t,j<m→l[j]?=some o'→upd d i j=true→o'.dst=some t→Les (look .any (S (j+1)).regs t) (updR R o.dst x t):=by
  intro x hx j o' t hj ho' hdj hdst;by_cases hji:j=i
  ·subst hji;rw [ho] at ho';cases ho';rw [hdst];show Les _ (if t=t then x else R t);rw [if_pos rfl];exact hx t hdst
  ·have hdj:d j=true:=((hdone j).1 hdj).resolve_right hji;have hne:o.dst≠some t:=pa.one j o' t ho' hdst (fun e=>hji e.symm)
   have:updR R o.dst x t=R t:=by
    cases hdd:o.dst with
    | none=>rfl
    | some dd=>exact if_neg (fun e=>hne (by rw [hdd,e]))
   rw [this];exact I1 j o' t hj ho' hdj hdst
 have J2:∀ (x:AV) t,(∀ j o',j<m→l[j]?=some o'→upd d i j=true→o'.dst≠some t)→Les (look .any (S 0).regs t) (updR R o.dst x t):=by
  intro x t hno;have hne:o.dst≠some t:=hno i o hi ho ((hdone i).2 (.inr rfl))
  have:updR R o.dst x t=R t:=by
   cases hdd:o.dst with
   | none=>rfl
   | some dd=>exact if_neg (fun e=>hne (by rw [hdd,e]))
  rw [this];exact I2 t fun j o' hj ho' hdj=>hno j o' hj ho' ((hdone j).2 (.inl hdj))
 have lvSame:(S (i+1)).nx=(S i).nx→lvD S m (S 0).nx (upd d i)=lvD S m (S 0).nx d:=by
  intro hn
  funext id
  rw [Bool.eq_iff_iff,lvD_iff,lvD_iff];constructor
  ·rintro (h | ⟨j,h1,h2,h3,h4⟩)
   ·exact .inl h
   ·rcases (hdone j).1 h2 with h2 | h2
    ·exact .inr ⟨j,h1,h2,h3,h4⟩
    ·subst h2;omega
  ·rintro (h | ⟨j,h1,h2,h3,h4⟩)
   ·exact .inl h
   ·exact .inr ⟨j,h1,(hdone j).2 (.inl h2),h3,h4⟩
 have hwant:o.guard=none∨gst l.toArray o (lcl l.toArray T W M (S 0).nx i (C i) (S i) o 0)=some true→Region.wanted o (yielded l.toArray a.tmps)=true:=by
  rintro (hg | hg)
  ·exact wanted_none hg a
  ·obtain ⟨dd,want,g1,g2⟩:=gst_yes hg;exact wanted_of (st:=lcl l.toArray T W M (S 0).nx i (C i) (S i) o (S m).nx) g1 g2 K a w G hrel
 have lvmono:∀ id,vis T (S 0).nx i (C i) id=true→lvD S m (S 0).nx d id=true:=fun id h=>(hvis id h).1
 have putSelf:∀ (st:ASt) (x:AV),s'=st.put o.dst x→∀ t,o.dst=some t→Les (look .any (S (i+1)).regs t) x:=by
  intro st x e t ht;have:=heq.regs t;rw [e,ht,put_self] at this;exact this
 generalize C (i+1)=cr' at hloc
 cases hloc with
 | @read x hW hw h hn =>
  rw [if_pos (hwant hw)];obtain ⟨v,h1,h2⟩:=(h (S m).nx).out K a w G hrel;have hnx:(S (i+1)).nx=(S i).nx:=by rw [heq.nx,put_nx]
  unfold Oper.wp;rw [h1 w (Below.refl _ _)];exact ⟨_,hpp,G,by rw [lvSame hnx];exact hR.put (h 0).dst h2 (nmd_mono lvmono _ hn),J1 x (putSelf _ x rfl),J2 x,by rw [lvSame hnx];exact fun id=>keep id (noW_at hW id)⟩
 | @call x hW hw h hn =>
  rw [if_pos (hwant hw)];obtain ⟨F,args,h1,h2⟩:=(h (S m).nx).out K a w G hrel;have hnx:(S (i+1)).nx=(S i).nx:=by rw [heq.nx,put_nx]
  unfold Oper.wp;rw [h1];refine h2.mono fun e w' ⟨v,e1,e2,e3⟩=>?_
  subst e1;exact ⟨_,hpp,G,by rw [lvSame hnx];exact (hR.same e2).put (h 0).dst e3 (nmd_mono lvmono _ hn),J1 x (putSelf _ x rfl),J2 x,by rw [lvSame hnx];exact fun id=>keep id (noW_at hW id)⟩
 | @skip hW hw hd =>
  obtain ⟨dd,want,g1,g2⟩:=gst_no hw;rw [if_neg (by rw [unwanted_of (st:=lcl l.toArray T W M (S 0).nx i (C i) (S i) o (S m).nx) g1 g2 hrel];decide)];have hnx:(S (i+1)).nx=(S i).nx:=by rw [heq.nx,put_nx]
  exact ⟨_,hpp,G,by rw [lvSame hnx];exact hR.put hd (.dat .und) rfl,J1 .und (putSelf _ .und rfl),J2 .und,by rw [lvSame hnx];exact fun id=>keep id (noW_at hW id)⟩
 | @new b hW hN hw h hn =>
  rw [if_pos (hwant hw)];obtain ⟨v,w',h1,h2⟩:=(h (S m).nx).out K a w G hrel;have hnx:(S (i+1)).nx=(S i).nx+1:=by rw [heq.nx,put_nx];rfl
  have hge:(S 0).nx≤(S i).nx:=nxM i (by omega) 0 (Nat.zero_le _)
  have hfree:lvD S m (S 0).nx d (S i).nx=false:=by
   rw [Bool.eq_false_iff];intro hlv;rcases lvD_iff.1 hlv with h | ⟨j,g1,g2,g3,g4⟩
   ·omega
   ·rcases Nat.lt_trichotomy j i with hlt | e | hlt
    ·have:=nxM i (by omega) (j+1) (by omega);omega
    ·subst e;rw [hd0] at g2;cases g2
    ·have:=nxM j (by omega) (i+1) (by omega);omega
  have hlt:(S i).nx<(S m).nx:=by have:=nxM m (Nat.le_refl _) (i+1) (by omega);omega
  have hlv':lvD S m (S 0).nx (upd d i)=fun id=>lvD S m (S 0).nx d id||Nat.beq id (S i).nx:=by
   funext id
   rw [Bool.eq_iff_iff,lvD_iff,Bool.or_eq_true,lvD_iff];constructor
   ·rintro (h | ⟨j,h1,h2,h3,h4⟩)
    ·exact .inl (.inl h)
    ·rcases (hdone j).1 h2 with h2 | h2
     ·exact .inl (.inr ⟨j,h1,h2,h3,h4⟩)
     ·subst h2
      right
      have e:id=(S j).nx:=by omega
      rw [e];exact Nat.beq_refl _
   ·rintro ((h | ⟨j,h1,h2,h3,h4⟩) | h)
    ·exact .inl h
    ·exact .inr ⟨j,h1,(hdone j).2 (.inl h2),h3,h4⟩
    ·have:=Nat.eq_of_beq_eq_true h;exact .inr ⟨i,hi,(hdone i).2 (.inr rfl),by omega,by omega⟩
  obtain ⟨hR2,hv⟩:=hR.newAt hfree hlt h2 (abnmd_mono lvmono hn);unfold Oper.wp;rw [h1]
  have hb:LesB (look AB.dead (S (i+1)).heap (S i).nx) b:=by
   have:=heq.heap (S i).nx;rw [put_heap'] at this;have e1:look AB.dead ((S i).hnew b).heap (S i).nx=b:=look_self _ _ _ _;rw [e1] at this;exact this
  refine ⟨_,((S i).nx,b)::hpp,G.at (S i).nx v (lnB b) (szB b),?_,J1 (refB b (S i).nx) (putSelf _ _ rfl),J2 _,fun id hid=>?_⟩
  ·rw [hlv'];refine hR2.put (h 0).dst hv ?_
   cases b with
   | dead=>rfl
   | box cs e=>simp [refB,AV.nmd]
   | row sz rows e=>simp [refB,AV.nmd]
  ·rw [hlv'] at hid;by_cases e:(S i).nx=id
   ·subst e;refine ⟨i+1,by omega,by omega,by rw [look_cons,if_pos rfl];exact hb,fun j hj hlt2=>?_,fun j hj hge2=>?_,.inr ⟨i,rfl,(hdone i).2 (.inr rfl),.inr (Nat.le_refl _)⟩⟩
    ·have:=(newW_at hN hj).1;omega
    ·rw [upd_ne (by omega)]
     cases hdj:d j with
     | false=>rfl
     | true =>
      have:=(reachT hT (newW_at hN hj).2).done' hcl hdj;rw [hd0] at this;cases this
   ·rw [Bool.or_eq_true] at hid;obtain ⟨p,p1,p2,p3,p4,p5,p6⟩:=keep id (noW_at hW id) (hid.resolve_right fun h=>e (Nat.eq_of_beq_eq_true h).symm);exact ⟨p,p1,p2,by rw [look_cons,if_neg e];exact p3,p4,p5,p6⟩
 | @write id b x L hLL hw hv hm hu h hb hn =>
  rw [if_pos (hwant hw)];have hnx:(S (i+1)).nx=(S i).nx:=by rw [heq.nx,put_nx];rfl
  have hv1:vis T (S 0).nx i (C i) id=true:=by unfold visW at hv;rw [Bool.and_eq_true] at hv;exact hv.1
  have hv2:okW T W i id=true:=by unfold visW at hv;rw [Bool.and_eq_true] at hv;exact hv.2

  let hp2:List (Nat×AB):=L.map (fun j=>(j,look .dead (S i).heap j))++hpp
  have hlk:∀ j,(j ∈ L∧look AB.dead hp2 j=look .dead (S i).heap j)∨(look AB.dead hp2 j=look .dead hpp j):=by
   intro j;show (_∧look AB.dead (L.map (fun j=>(j,look .dead (S i).heap j))++hpp) j=_)∨look AB.dead (L.map (fun j=>(j,look .dead (S i).heap j))++hpp) j=_;rw [look_append];clear hLL h
   induction L with
   | nil=>exact .inr rfl
   | cons c L ih =>
    rw [List.map_cons,look_cons];by_cases e:c=j
    ·subst e;rw [if_pos rfl];exact .inl ⟨by simp,rfl⟩
    ·rw [if_neg e];exact ih.imp (fun ⟨g1,g2⟩=>⟨List.mem_cons_of_mem _ g1,g2⟩) (fun g=>g)
  have hlkL:∀ j ∈ L,look AB.dead hp2 j=look .dead (S i).heap j:=by
   intro j hj;show look AB.dead (L.map (fun j=>(j,look .dead (S i).heap j))++hpp) j=_;rw [look_append];clear hLL h hlk
   induction L with
   | nil=>cases hj
   | cons c L ih =>
    rw [List.map_cons,look_cons];by_cases e:c=j
    ·subst e;rw [if_pos rfl]
    ·rw [if_neg e];exact ih ((List.mem_cons.1 hj).resolve_left fun e'=>e e'.symm)
  have hRP:RelP K n R hp2 (S m).nx (lvD S m (S 0).nx d) a w G:=by
   refine RelP.lesH hR (fun j=>?_) (fun j=>?_) (fun j hj=>?_)
   ·rcases hlk j with ⟨g1,g2⟩ | g2
    ·rw [g2];exact hcont j (hLL j g1).1
    ·rw [g2];exact .refl _
   ·rcases hlk j with ⟨g1,g2⟩ | g2
    ·rw [g2];exact abnmd_mono lvmono (hLL j g1).2
    ·rw [g2];exact hR.bnm j
   ·rcases hlk j with ⟨g1,g2⟩ | g2
    ·have:=(hLL j g1).1;unfold visW at this;rw [Bool.and_eq_true] at this;rw [lvmono j this.1] at hj;cases hj
    ·rw [g2];exact (hR.free j hj).1
  have hRG:RelG ⟨K.w0,w,G⟩ n ⟨lregs l.toArray (S i) o,hp2,(S m).nx⟩ a w G:=by
   have r:=RelP.rel' hRP (st:=⟨lregs l.toArray (S i) o,hp2,(S m).nx⟩) hregs (fun _=>.refl _) rfl;exact ⟨r.nx,r.hr,Ext.refl _ _,r.size,r.defers,r.regs⟩
  have hop':=h hp2 (S m).nx hlkL;obtain ⟨v,w',G',h1,h2,h3,h4,h5,h6⟩:=hop'.out _ a w G hRG;have hxm:x.nmd (lvD S m (S 0).nx d)=true:=nmd_mono lvmono _ hn;have hbm:b.nmd (lvD S m (S 0).nx d)=true:=abnmd_mono lvmono hb
  have hRP2:RelP K n (updR R o.dst x) ((id,b)::hpp) (S m).nx (lvD S m (S 0).nx d) (a.put o.dst v) w' G':=by
   have hHR:HR K.w0 w' G' ((id,b)::hpp):=by
    refine ⟨h2.bs,h2.below,h2.ownlt',fun j=>?_,h2.dist,h2.ownhas'⟩;rw [look_cons];split
    ·rename_i e;subst e;have:=h2.blk id;rw [look_self] at this;exact this
    ·rename_i e;obtain ⟨g1,g2,g3⟩:=h5 j (Ne.symm e);exact (hR.hr.blk j).step h3 fun hj=>⟨g1,g2,g3 hj⟩
   have base:RelP K n R ((id,b)::hpp) (S m).nx (lvD S m (S 0).nx d) a w' G':=by
    refine ⟨h4.trans hR.nx,hHR,hR.ext.trans h3,hR.size,hR.defers,fun t=>(hR.regs t).ext h3,hR.rnm,fun j=>?_,fun j hj=>?_,hR.old⟩
    ·rw [look_cons];split
     ·exact hbm
     ·exact hR.bnm j
    ·have hne:id≠j:=fun e=>by subst e;rw [lvmono _ hv1] at hj;cases hj
     rw [look_cons,if_neg hne];obtain ⟨g1,g2⟩:=hR.free j hj;exact ⟨g1,fun hlt=>by rw [(h5 j (Ne.symm hne)).1];exact g2 hlt⟩
   exact base.put hop'.dst h6 hxm
  have fin:InvG K n l W S m (S 0).nx (upd d i) (a.put o.dst v) w':=by
   refine ⟨_,(id,b)::hpp,G',by rw [lvSame hnx];exact hRP2,J1 x (putSelf _ x rfl),J2 x,fun id' hid'=>?_⟩;rw [lvSame hnx] at hid';by_cases e:id=id'
   ·subst e;refine ⟨i+1,by omega,by have:=(hvis id hv1).2;omega,?_,fun j hj hlt2=>?_,fun j hj hge2=>?_,.inr ⟨i,rfl,(hdone i).2 (.inr rfl),.inl hm⟩⟩
    ·rw [look_cons,if_pos rfl];have:=heq.heap id;rw [put_heap'] at this;have e1:look AB.dead ((S i).hset id b).heap id=b:=look_self _ _ _ _;rw [e1] at this;exact this
    ·rcases Nat.lt_or_ge j i with g | g
     ·exact (hdone j).2 (.inl ((reachT hT ((okW_at hv2 hj).1 g)).done hcl ho hdep))
     ·exact (hdone j).2 (.inr (by omega))
    ·rw [upd_ne (by omega)]
     cases hdj:d j with
     | false=>rfl
     | true =>
      have:=(reachT hT ((okW_at hv2 hj).2 (by omega))).done' hcl hdj;rw [hd0] at this;cases this
   ·obtain ⟨p,p1,p2,p3,p4,p5,p6⟩:=keep id' (fun hj=>e (onlyW_at hu hj).symm) hid';exact ⟨p,p1,p2,by rw [look_cons,if_neg e];exact p3,p4,p5,p6⟩
  unfold Oper.wp;rcases h1 with h1 | ⟨h1,hvu⟩
  ·rw [h1];exact fin
  ·subst hvu;rw [h1];exact fin
 | @op st2 L hp0 hw h hd hn hN hv hs ht hr hx hW hu hM =>
  rw [if_pos (hwant hw)];have hnx:(S (i+1)).nx=st2.nx:=by rw [heq.nx,put_nx]
  have hge:(S 0).nx≤(S i).nx:=nxM i (by omega) 0 (Nat.zero_le _)
  have hvis1:∀ id ∈ L,vis T (S 0).nx i (C i) id=true:=fun id hid=>by
   have:=(hv id hid).2;unfold visW at this;rw [Bool.and_eq_true] at this;exact this.1
  have hlvL:∀ id,hasN L id=true→lvD S m (S 0).nx d id=true:=fun id hid=>lvmono id (hvis1 id (hasN_mem hid))
  have hdis:∀ id,lvD S m (S 0).nx d id=true→newN (S i).nx st2.nx id=false:=fun id hlv=>by
   rw [Bool.eq_false_iff];intro hnw;have hnw:=newN_iff.1 hnw;rcases lvD_iff.1 hlv with h | ⟨j,g1,g2,g3,g4⟩
   ·omega
   ·rcases Nat.lt_trichotomy j i with hlt | e | hlt
    ·have:=nxM i (by omega) (j+1) (by omega);omega
    ·subst e;rw [hd0] at g2;cases g2
    ·have:=nxM j (by omega) (i+1) (by omega);omega
  have hlv':∀ id,lvD S m (S 0).nx (upd d i) id=true↔lvD S m (S 0).nx d id=true∨newN (S i).nx st2.nx id=true:=fun id=>by
   rw [lvD_iff,lvD_iff,newN_iff];constructor
   ·rintro (h | ⟨j,h1,h2,h3,h4⟩)
    ·exact .inl (.inl h)
    ·rcases (hdone j).1 h2 with h2 | h2
     ·exact .inl (.inr ⟨j,h1,h2,h3,h4⟩)
     ·subst h2;right;omega
   ·rintro ((h | ⟨j,h1,h2,h3,h4⟩) | h)
    ·exact .inl h
    ·exact .inr ⟨j,h1,(hdone j).2 (.inl h2),h3,h4⟩
    ·exact .inr ⟨i,hi,(hdone i).2 (.inr rfl),by omega,by omega⟩
  have lvUp:∀ id,lvD S m (S 0).nx d id=true→lvD S m (S 0).nx (upd d i) id=true:=fun id h=>(hlv' id).2 (.inl h)
  have hqL:∀ id,orN (hasN L) (S i).nx st2.nx id=true→lvD S m (S 0).nx (upd d i) id=true:=fun id hid=>by
   rcases orN_iff.1 hid with h | h
   ·exact lvUp id (hlvL id h)
   ·exact (hlv' id).2 (.inr (newN_iff.2 h))
  have hRP:RelP K n R (onL L (look .dead hp0) hpp) (S m).nx (lvD S m (S 0).nx d) a w G:=by
   refine RelP.lesH hR (fun j=>?_) (fun j=>?_) (fun j hj=>?_)
   ·by_cases e:j ∈ L
    ·rw [onL_in e];rcases hs j with h' | ⟨_,h',_⟩
     ·rw [h'];exact .dead _
     ·rw [h'];exact hcont j (hv j e).2
    ·rw [onL_out e];exact .refl _
   ·by_cases e:j ∈ L
    ·rw [onL_in e];rcases hs j with h' | ⟨_,_,h'⟩
     ·rw [h'];rfl
     ·exact abnmd_mono hlvL h'
    ·rw [onL_out e];exact hR.bnm j
   ·by_cases e:j ∈ L
    ·rw [lvmono j (hvis1 j e)] at hj;cases hj
    ·rw [onL_out e];exact (hR.free j hj).1
  have hmi:st2.nx≤(S m).nx:=by rw [←hnx];exact nxM m (Nat.le_refl _) (i+1) (by omega)
  refine OpY.run (Hp:=onL L (look .dead hp0) hpp) (p:=hasN L) (k2:=st2.nx) h hd (fun id hid=>(hv id (hasN_mem hid)).1) rfl (fun id=>?_) (fun id=>?_) hr hx hRP.hr (by rw [hR.nx];exact hmi) hR.size hR.defers (fun t=>(hregs t).rel (hR.regs t)) (fun v w' G' ho hvv=>?_)
  ·rcases hs id with h' | ⟨h1,h2,h3⟩
   ·exact .inl h'
   ·exact .inr ⟨hasN_of' h1,by rw [onL_in h1],h3⟩
  ·exact ht id
  have memLL:∀ j,j ∈ L++news (S i).nx st2.nx↔orN (hasN L) (S i).nx st2.nx j=true:=fun j=>by
   rw [List.mem_append,orN_iff,news_mem];constructor
   ·rintro (h | h)
    ·exact .inl (hasN_of' h)
    ·exact .inr h
   ·rintro (h | h)
    ·exact .inl (hasN_mem h)
    ·exact .inr h
  have hno:∀ j,j ∉ L++news (S i).nx st2.nx→orN (hasN L) (S i).nx st2.nx j=false:=fun j hj=>by
   rw [Bool.eq_false_iff];intro h';exact hj ((memLL j).2 h')
  have hmv:Mv (lvD S m (S 0).nx d) w G w (patch G G' (newN (S i).nx st2.nx)):=patch_mv hdis
  have hextP:Ext K.w1 K.G1 w (patch G G' (newN (S i).nx st2.nx)):=by
   refine ⟨hR.ext.size,hR.ext.keep',hR.ext.own2,hR.ext.nx,hR.ext.bs',fun id hid=>?_⟩;have hn':¬ (newN (S i).nx st2.nx id=true):=by rw [hdis id (hR.old id hid)];decide
   have e1:(patch G G' (newN (S i).nx st2.nx)).ρ id=G.ρ id:=if_neg hn';have e2:(patch G G' (newN (S i).nx st2.nx)).ln id=G.ln id:=if_neg hn';have e3:(patch G G' (newN (S i).nx st2.nx)).sz id=G.sz id:=if_neg hn';rw [e1,e2,e3];exact hR.ext.gh id hid
  have hRP2:RelP K n (updR R o.dst (dstV st2 o.dst)) (onL (L++news (S i).nx st2.nx) (look .dead st2.heap) hpp) (S m).nx (lvD S m (S 0).nx (upd d i)) (a.put o.dst v) w' G':=by
   have hHR:HR K.w0 w' G' (onL (L++news (S i).nx st2.nx) (look .dead st2.heap) hpp):=by
    refine ⟨ho.hr.bs,ho.hr.below,ho.hr.ownlt',fun j=>?_,ho.hr.dist,ho.hr.ownhas'⟩;by_cases e:j ∈ L++news (S i).nx st2.nx
    ·rw [onL_in e];exact ho.hr.blk j
    ·rw [onL_out e]
     cases hlj:lvD S m (S 0).nx d j with
     | false=>rw [(hR.free j hlj).1];trivial
     | true =>
      obtain ⟨g1,g2,g3⟩:=ho.same j (hno j e);have hn':¬ (newN (S i).nx st2.nx j=true):=by rw [hdis j hlj];decide
      have e1:(patch G G' (newN (S i).nx st2.nx)).ρ j=G.ρ j:=if_neg hn';have e2:(patch G G' (newN (S i).nx st2.nx)).ln j=G.ln j:=if_neg hn';exact ((hR.hr.blk j).mv hmv (hR.bnm j) (.inr hlj) (fun g _=>rfl)).step ho.ext fun hj=>⟨by rw [e1];exact g1,by rw [e2];exact g2,by rw [e1];exact g3 hj⟩
   have base:RelP K n R (onL (L++news (S i).nx st2.nx) (look .dead st2.heap) hpp) (S m).nx (lvD S m (S 0).nx (upd d i)) a w' G':=by
    refine ⟨ho.nx.trans hR.nx,hHR,hextP.trans ho.ext,hR.size,hR.defers,fun t=>((hR.regs t).mv hmv (hR.rnm t)).ext ho.ext,fun t=>nmd_mono lvUp _ (hR.rnm t),fun j=>?_,fun j hj=>?_,fun j hj=>lvUp j (hR.old j hj)⟩
    ·by_cases e:j ∈ L++news (S i).nx st2.nx
     ·rw [onL_in e];rcases ht j with h' | ⟨_,h'⟩
      ·rw [h'];rfl
      ·exact abnmd_mono hqL (pfB_nmd h')
     ·rw [onL_out e];exact abnmd_mono lvUp (hR.bnm j)
    ·have e:j ∉ L++news (S i).nx st2.nx:=fun e=>by rw [hqL j ((memLL j).1 e)] at hj;cases hj
     have hj':lvD S m (S 0).nx d j=false:=by
      rw [Bool.eq_false_iff];intro h';rw [lvUp j h'] at hj;cases hj
     rw [onL_out e];obtain ⟨g1,g2⟩:=hR.free j hj';exact ⟨g1,fun hlt=>by rw [(ho.same j (hno j e)).1];exact g2 hlt⟩
   exact base.put hd hvv (nmd_mono hqL _ (pf_nmd _ hx))
  refine ⟨_,onL (L++news (S i).nx st2.nx) (look .dead st2.heap) hpp,G',hRP2,J1 (dstV st2 o.dst) (putSelf _ _ rfl),J2 _,fun id' hid'=>?_⟩
  have hheap:∀ id',id' ∈ L++news (S i).nx st2.nx→LesB (look AB.dead (S (i+1)).heap id') (look .dead (onL (L++news (S i).nx st2.nx) (look .dead st2.heap) hpp) id'):=fun id' e=>by
   rw [onL_in e];have:=heq.heap id';rw [put_heap'] at this;have e1:look AB.dead (onL (L++news (S i).nx st2.nx) (look .dead st2.heap) (S i).heap) id'=look .dead st2.heap id':=onL_in e;exact e1 ▸ this
  by_cases hw':(i,id') ∈ W
  ·have e:=hW id' hw'
   have hv2:okW T W i id'=true:=by
    have:=(hv id' e).2;unfold visW at this;rw [Bool.and_eq_true] at this;exact this.2
   refine ⟨i+1,by omega,by have:=(hv id' e).1;omega,hheap id' (List.mem_append.2 (.inl e)),fun j hj hlt2=>?_,fun j hj hge2=>?_,.inr ⟨i,rfl,(hdone i).2 (.inr rfl),.inl hw'⟩⟩
   ·rcases Nat.lt_or_ge j i with g | g
    ·exact (hdone j).2 (.inl ((reachT hT ((okW_at hv2 hj).1 g)).done hcl ho0 hdep))
    ·exact (hdone j).2 (.inr (by omega))
   ·rw [upd_ne (by omega)]
    cases hdj:d j with
    | false=>rfl
    | true =>
     have:=(reachT hT ((okW_at hv2 hj).2 (by omega))).done' hcl hdj;rw [hd0] at this;cases this
  ·rcases (hlv' id').1 hid' with hid2 | hnw
   ·obtain ⟨p,p1,p2,p3,p4,p5,p6⟩:=I3 id' hid2;obtain ⟨p',q1,q2,q3,q4,q5,q6⟩:=keep id' hw' hid2;by_cases e:id' ∈ L
    ·refine ⟨p,p1,p2,?_,fun j hj hlt=>?_,fun j hj hge=>?_,p6.imp (fun h=>h) fun ⟨q,e,hq,hw⟩=>⟨q,e,by simp [upd,hq],hw⟩⟩
     ·rw [onL_in (List.mem_append.2 (.inl e)),(hu id' e).resolve_left hw',hver id' (hv id' e).2 p p1 p2 p5 p6];exact .refl _
     ·rw [upd_ne (fun e=>hw' (by rw [←e];exact hj))];exact p4 j hj hlt
     ·rw [upd_ne (fun e=>hw' (by rw [←e];exact hj))];exact p5 j hj hge
    ·have e2:id' ∉ L++news (S i).nx st2.nx:=fun h'=>by
      rcases List.mem_append.1 h' with h' | h'
      ·exact e h'
      ·have:=hdis id' hid2;rw [newN_iff.2 (news_mem.1 h')] at this;cases this
     exact ⟨p',q1,q2,by rw [onL_out e2];exact q3,q4,q5,q6⟩
   ·have hnw2:=newN_iff.1 hnw;have hNi:=hN id' hnw2.1 hnw2.2;refine ⟨i+1,by omega,by omega,hheap id' (List.mem_append.2 (.inr (news_mem.2 hnw2))),fun j hj hlt2=>?_,fun j hj hge2=>?_,.inr ⟨i,rfl,(hdone i).2 (.inr rfl),.inr hnw2.1⟩⟩
    ·have:=(newW_at hNi hj).1;omega
    ·rw [upd_ne (by omega)]
     cases hdj:d j with
     | false=>rfl
     | true =>
      have:=(reachT hT (newW_at hNi hj).2).done' hcl hdj;rw [hd0] at this;cases this
theorem AG.last (hp:∀ i o,l[i]?=some o→PlanR l n i o) (hml:m≤l.length)
  (hC0:C 0=[]) (hL:∀ j o,j<m→l[j]?=some o→∃ s',Loc P n l.toArray T W M (S 0).nx j (C j) o (S j) s' (C (j+1))∧LeS (S (j+1)) s') (hdead:∀ id,(S 0).nx≤id→look .dead (S 0).heap id=.dead)
  {K:Kn} {d:Nat→Bool} {a:Act} {w:World} (hall:∀ i,i<m→d i=true) (h:InvG K n l W S m (S 0).nx d a w):∃ G,RelG K n (S m) a w G:=by
 obtain ⟨R,hpp,G,hR,I1,I2,I3⟩:=h;have hop:∀ j,j<m→∃ o,l[j]?=some o:=fun j hj=>⟨l[j],List.getElem?_eq_getElem (by omega)⟩
 have regM:∀ t q,q≤m→∀ p,p≤q→(∀ j o,p≤j→j<q→l[j]?=some o→o.dst≠some t)→Les (look AV.any (S q).regs t) (look .any (S p).regs t):=by
  intro t q
  induction q with
  | zero=>intro _ p hp _;obtain rfl:p=0:=(by omega);exact .refl _
  | succ q ih =>
   intro hq p hp hno;rcases Nat.lt_or_ge p (q+1) with h | h
   ·obtain ⟨o,ho⟩:=hop q (by omega);obtain ⟨s',h1,h2⟩:=hL q o (by omega) ho;have e1:=h2.regs t;rw [h1.regs (hno q o (by omega) (by omega) ho)] at e1;exact e1.trans (ih (by omega) p (by omega) fun j o hj1 hj2=>hno j o hj1 (by omega))
   ·obtain rfl:p=q+1:=by omega
    exact .refl _
 have heapM:∀ id q,q≤m→∀ p,p≤q→(∀ j,p≤j→j<q→(id<(S j).nx∨(S (j+1)).nx≤id)∧(j,id) ∉ W)→LesB (look AB.dead (S q).heap id) (look .dead (S p).heap id):=by
  intro id q
  induction q with
  | zero=>intro _ p hp _;obtain rfl:p=0:=(by omega);exact .refl _
  | succ q ih =>
   intro hq p hp hno;rcases Nat.lt_or_ge p (q+1) with h | h
   ·obtain ⟨o,ho⟩:=hop q (by omega);obtain ⟨s',h1,h2⟩:=hL q o (by omega) ho;obtain ⟨g1,g2⟩:=hno q (by omega) (by omega);refine (h2.heap id).trans ?_;have e1:look AB.dead s'.heap id=look .dead (S q).heap id:=h1.heap (by rw [←h2.nx];exact g1) g2;rw [e1];exact ih (by omega) p (by omega) fun j j1 j2=>hno j j1 (by omega)
   ·obtain rfl:p=q+1:=by omega
    exact .refl _
 have nxM:∀ q,q≤m→∀ p,p≤q→(S p).nx≤(S q).nx:=by
  intro q
  induction q with
  | zero=>intro _ p hp;obtain rfl:p=0:=(by omega);exact Nat.le_refl _
  | succ q ih =>
   intro hq p hp;rcases Nat.lt_or_ge p (q+1) with h | h
   ·obtain ⟨o,ho⟩:=hop q (by omega);obtain ⟨s',h1,h2⟩:=hL q o (by omega) ho;have:=h1.nx_le;have:=h2.nx;have:=ih (by omega) p (by omega);omega
   ·obtain rfl:p=q+1:=by omega
    exact Nat.le_refl _
 have crM:∀ q,q≤m→∀ c ∈ C q,c.1<q∧(S c.1).nx≤c.2∧c.2<(S (c.1+1)).nx:=by
  intro q
  induction q with
  | zero=>intro _ c hc;rw [hC0] at hc;cases hc
  | succ q ih =>
   intro hq c hc;obtain ⟨o,ho⟩:=hop q (by omega);obtain ⟨s',h1,h2⟩:=hL q o (by omega) ho;rcases h1.crm c hc with h | ⟨h,h',h''⟩
   ·obtain ⟨g1,g2⟩:=ih (by omega) c h;exact ⟨by omega,g2⟩
   ·rw [h];exact ⟨by omega,h',by rw [h2.nx];exact h''⟩
 refine ⟨G,RelP.rel' hR (fun t=>?_) (fun id=>?_) rfl⟩
 ·by_cases hw:∃ (j:Nat) (o':Oper),j<m∧l[j]?=some o'∧o'.dst=some t
  ·obtain ⟨j,o',hj,ho',hdst⟩:=hw;exact (regM t m (Nat.le_refl _) (j+1) (by omega) fun j2 o2 h1 h2 ho2=>(hp j2 o2 ho2).one j o' t ho' hdst (by omega)).trans (I1 j o' t hj ho' (hall j hj) hdst)
  ·exact (regM t m (Nat.le_refl _) 0 (Nat.zero_le _) fun j o' _ hj ho' hdst=>hw ⟨j,o',hj,ho',hdst⟩).trans (I2 t fun j o' hj ho' _ hdst=>hw ⟨j,o',hj,ho',hdst⟩)
 ·cases hlv:lvD S m (S 0).nx d id with
  | true =>
   obtain ⟨p,p1,p2,p3,p4,p5,_⟩:=I3 id hlv;exact (heapM id m (Nat.le_refl _) p p1 fun j j1 j2=>⟨.inl (by have:=nxM j (by omega) p j1;omega),fun hj=>by have:=p5 j hj j1;rw [hall j j2] at this;cases this⟩).trans p3
  | false =>
   have hno:¬ (id<(S 0).nx∨∃ j,j<m∧d j=true∧(S j).nx≤id∧id<(S (j+1)).nx):=fun h=>by rw [lvD_iff.2 h] at hlv;cases hlv
   have hnl:∀ j,j<m→(S j).nx≤id→id<(S (j+1)).nx→False:=fun j hj e h=>hno (.inr ⟨j,hj,hall j hj,e,h⟩)
   have hdd:look AB.dead (S 0).heap id=.dead:=hdead id (by omega)
   have hz:∀ q,q≤m→LesB (look AB.dead (S q).heap id) .dead:=by
    intro q
    induction q with
    | zero=>intro _;rw [hdd];exact .refl _
    | succ q ih =>
     intro hq;obtain ⟨o,ho⟩:=hop q (by omega);obtain ⟨s',h1,h2⟩:=hL q o (by omega) ho;refine (h2.heap id).trans ?_;rcases h1.heap2 id with g | ⟨g1,g2⟩ | g
     ·rw [g];exact ih (by omega)
     ·exact (hnl q (by omega) g1 (by rw [h2.nx];exact g2)).elim
     ·unfold vis at g;rw [Bool.or_eq_true,List.any_eq_true] at g;rcases g with g | ⟨c,hc,g⟩
      ·exact absurd (.inl (by simpa using g)) hno
      ·rw [Bool.and_eq_true] at g;obtain ⟨c1,c2,c3⟩:=crM q (by omega) c hc;have e:=Nat.eq_of_beq_eq_true g.1;exact (hnl c.1 (by omega) (by rw [←e];exact c2) (by rw [←e];exact c3)).elim
   exact (hz m (Nat.le_refl _)).trans (.dead _)
end
theorem AW.drawR {P:Program} {n:Nat} {Q:Exit→ASt→Prop} {st:ASt} {id:Nat} {l:List Oper} {T:List (List Nat)} (W:List (Nat×Nat)) (M:List (Nat×AB)) (m:Nat) (hm:P.follows .mixedOrders=true) (hT:ancs l []=T) (hk:planR l T=true) (htl:tailR l T m=true) (hM0:∀ id,st.nx≤id→look .dead M id=.dead) (hM1:∀ id,LesB (look .dead M id) (look .dead st.heap id))
  (h:AG P n l.toArray T W M st.nx (fun s=>AL P n l.toArray Q (l.drop m) s) 0 [] (l.take m) st):AW P n (.region id l.toArray true) Q st:=.mk fun K a w ⟨G,r⟩=>by
 have hT':AncOk l T:=by
  rw [←hT];exact ancs_ok l [] (fun i A hA=>by simp at hA) rfl
 have hpl:=planR_at n hT' hk;obtain ⟨S,C,e0',hC0,hK,hS⟩:=h.facts;have e0:=eqv_les e0';have hm':(l.take m).length=min m l.length:=by simp
 have r2:RelG K n (S 0) a w.drew G:=(r.same (below_drew' w)).les e0
 have hE:∀ j o,j<(l.take m).length→l[j]?=some o→∃ s',Loc P n l.toArray T W M (S 0).nx j (C j) o (S j) s' (C (j+1))∧Eqv s' (S (j+1)):=by
  intro j o hj ho;have:=hS j o (by rw [List.getElem?_take,if_pos (by omega)];exact ho);rw [Nat.zero_add,←e0.nx] at this;exact this
 have hL:∀ j o,j<(l.take m).length→l[j]?=some o→∃ s',Loc P n l.toArray T W M (S 0).nx j (C j) o (S j) s' (C (j+1))∧LeS (S (j+1)) s':=fun j o hj ho=>by
  obtain ⟨s',h1,h2⟩:=hE j o hj ho;exact ⟨s',h1,eqv_les h2⟩
 have hM0':∀ id,(S 0).nx≤id→look .dead M id=.dead:=fun id hid=>hM0 id (by rw [←e0.nx];exact hid)
 have hM1':∀ id,LesB (look .dead M id) (look .dead (S 0).heap id):=fun id=>by rw [←e0'.heap id];exact hM1 id
 have hdead:∀ id,(S 0).nx≤id→look .dead (S 0).heap id=.dead:=by
  intro id hid;have hkk:=r2.hr.blk id;have hn:=r2.nx
  cases hb:look AB.dead (S 0).heap id with
  | dead=>rfl
  | box cs e=>rw [hb] at hkk;have:=hkk.1;omega
  | row sz rows e=>rw [hb] at hkk;have:=hkk.1;omega
 have hnxM:(S 0).nx≤(S (l.take m).length).nx:=by
  have:∀ q,q≤(l.take m).length→(S 0).nx≤(S q).nx:=by
   intro q
   induction q with
   | zero=>intro _;exact Nat.le_refl _
   | succ q ih =>
    intro hq;have hql:q<l.length:=by omega
    obtain ⟨s',g1,g2⟩:=hL q l[q] (by omega) (List.getElem?_eq_getElem hql);have:=g1.nx_le;have:=g2.nx;have:=ih (by omega);omega
  exact this _ (Nat.le_refl _)
 have hdr:l.drop (l.take m).length=l.drop m:=by
  rw [hm'];rcases Nat.lt_or_ge m l.length with h | h
  ·rw [Nat.min_eq_left (by omega)]
  ·rw [Nat.min_eq_right h,List.drop_length,List.drop_eq_nil_of_le h]
 refine wp_region_inv (Inv:=InvG K n l W S (l.take m).length (S 0).nx) hm (fun i o ho=>(hpl i o (by simpa using ho)).after) (l.take m).length (by omega) ?_ (fun i o d a w hi ho hd0 hcl hdep hI=>AG.step' hpl hT' (by omega) hC0 hE hM0' hM1' hi ho hd0 hcl hdep hI) (fun d a w hall hI=>?_) (fun i hi hil j hj=>?_)
 ·obtain ⟨G',hR⟩:=r2.reserve (Nat.le_trans r.ext.size (below_drew' w).size) (S (l.take m).length).nx hnxM
  have hlv:lvD S (l.take m).length (S 0).nx (fun _=>false)=fun id=>Nat.blt id (S 0).nx:=by
   funext id
   rw [Bool.eq_iff_iff,lvD_iff];constructor
   ·rintro (h | ⟨j,_,h,_⟩)
    ·simpa using h
    ·cases h
   ·intro h;exact .inl (by simpa using h)
  refine ⟨_,_,G',by rw [hlv];exact hR,fun j o t _ _ h=>absurd h (by simp),fun t _=>.refl _,fun id hid=>?_⟩;rw [hlv] at hid;have hid:id<(S 0).nx:=by simpa using hid
  exact ⟨0,Nat.zero_le _,hid,.refl _,fun j _ h=>absurd h (Nat.not_lt_zero _),fun _ _ _=>rfl,.inl rfl⟩
 ·obtain ⟨G',hr⟩:=AG.last hpl (by omega) hC0 hL hdead hall hI;rw [hdr];exact AL.out hK K a w ⟨G',hr⟩
 ·have hge:m≤i:=by rw [hm'] at hi;omega
  have:=List.all_eq_true.1 htl i (List.mem_range.2 hil);rw [Bool.or_eq_true] at this;rcases this with h | h
  ·have h:i<m:=by simpa using h
   omega
  ·exact reachT hT' (List.all_eq_true.1 h j (List.mem_range.2 hj))
end Go.Proofs.Ytelpkjellakigaa.Rn
/- A run of the abstract machine by one computed function,with regions that draw as RnR has them. No program in sight. -/
namespace Go.Proofs.Ytelpkjellakigaa.Rn
open Go Go.RowKit Go.Proofs.Ytelpkjellakigaa Go.Proofs.Ytelpkjellakigaa.Dr

def strE (s t:ByteArray):Bool:=decide (s.data.toList=t.data.toList)
theorem strE_eq {s t:ByteArray} (h:strE s t=true):s=t:=by
 have:=of_decide_eq_true h;obtain ⟨⟨a⟩⟩:=s;obtain ⟨⟨b⟩⟩:=t;have this:a=b:=this;rw [this]
def avE:AV→AV→Bool
 | .any,.any=>true
 | .und,.und=>true
 | .int k n,.int k' n'=>decide (k=k')&&decide (n=n')
 | .bool b,.bool b'=>b==b'
 | .str s,.str s'=>strE s s'
 | .nilp,.nilp=>true
 | .nils,.nils=>true
 | .nilf,.nilf=>true
 | .box i o,.box i' o'=>Nat.beq i i'&&Nat.beq o o'
 | .elt i n j o,.elt i' n' j' o'=>Nat.beq i i'&&Nat.beq n n'&&Nat.beq j j'&&Nat.beq o o'
 | .osl i n,.osl i' n'=>Nat.beq i i'&&Nat.beq n n'
 | .vsl i n l k,.vsl i' n' l' k'=>Nat.beq i i'&&Nat.beq n n'&&Nat.beq l l'&&Nat.beq k k'
 | .agg cs,.agg cs'=>go cs cs'
 | .tup cs,.tup cs'=>go cs cs'
 | .fn f cs,.fn f' cs'=>Nat.beq f f'&&go cs cs'
 | _,_=>false
where go:List AV→List AV→Bool
 | [],[]=>true
 | a::l,b::m=>avE a b&&go l m
 | _,_=>false
theorem avE_eq:∀ (a b:AV),avE a b=true→a=b
 | .any,b,h=>by cases b <;> first | rfl | (simp [avE] at h)
 | .und,b,h=>by cases b <;> first | rfl | (simp [avE] at h)
 | .nilp,b,h=>by cases b <;> first | rfl | (simp [avE] at h)
 | .nils,b,h=>by cases b <;> first | rfl | (simp [avE] at h)
 | .nilf,b,h=>by cases b <;> first | rfl | (simp [avE] at h)
 | .int k n,b,h=>by
  cases b <;> simp [avE] at h
  rw [h.1,h.2]
 | .bool k,b,h=>by
  cases b <;> simp [avE] at h
  rw [h]
 | .str s,b,h=>by
  cases b <;> simp [avE] at h
  rw [strE_eq h]
 | .box ..,b,h=>by
  cases b <;> simp [avE] at h
  rw [h.1,h.2]
 | .elt ..,b,h=>by
  cases b <;> simp [avE] at h
  obtain ⟨⟨⟨h1,h2⟩,h3⟩,h4⟩:=h;rw [h1,h2,h3,h4]
 | .osl ..,b,h=>by
  cases b <;> simp [avE] at h
  rw [h.1,h.2]
 | .vsl ..,b,h=>by
  cases b <;> simp [avE] at h
  obtain ⟨⟨⟨h1,h2⟩,h3⟩,h4⟩:=h;rw [h1,h2,h3,h4]
 | .agg cs,b,h=>by
  cases b <;> simp [avE] at h
  rw [avE_go cs _ h]
 | .tup cs,b,h=>by
  cases b <;> simp [avE] at h
  rw [avE_go cs _ h]
 | .fn f cs,b,h=>by
  cases b <;> simp [avE] at h
  rw [h.1,avE_go cs _ h.2]
 | .peek ..,b,h=>by cases b <;> simp [avE] at h
 | .ro ..,b,h=>by cases b <;> simp [avE] at h
where avE_go:∀ (l m:List AV),avE.go l m=true→l=m
 | [],[],_=>rfl
 | a::l,b::m,h=>by
  rw [avE.go,Bool.and_eq_true] at h;rw [avE_eq a b h.1,avE_go l m h.2]
 | [],_::_,h=>by simp [avE.go] at h
 | _::_,[],h=>by simp [avE.go] at h
def rowsE:List (List AV)→List (List AV)→Bool
 | [],[]=>true
 | a::l,b::m=>avE.go a b&&rowsE l m
 | _,_=>false
theorem rowsE_eq:∀ (l m:List (List AV)),rowsE l m=true→l=m
 | [],[],_=>rfl
 | a::l,b::m,h=>by
  rw [rowsE,Bool.and_eq_true] at h;rw [avE_eq.avE_go a b h.1,rowsE_eq l m h.2]
 | [],_::_,h=>by simp [rowsE] at h
 | _::_,[],h=>by simp [rowsE] at h
def abE:AB→AB→Bool
 | .dead,.dead=>true
 | .box cs e,.box cs' e'=>Nat.beq e e'&&avE.go cs cs'
 | .row sz rows e,.row sz' rows' e'=>Nat.beq e e'&&Nat.beq sz sz'&&rowsE rows rows'
 | _,_=>false
theorem abE_eq {a b:AB} (h:abE a b=true):a=b:=by
 cases a with
 | dead=>cases b <;> first | rfl | (simp [abE] at h)
 | box cs e =>
  cases b <;> simp [abE] at h
  rw [h.1,avE_eq.avE_go _ _ h.2]
 | row sz rows e =>
  cases b <;> simp [abE] at h
  rw [h.1.1,h.1.2,rowsE_eq _ _ h.2]
def idsV:AV→List Nat
 | .box id _ | .elt id _ _ _ | .osl id _ | .vsl id _ _ _=>[id]
 | .agg cs | .tup cs | .fn _ cs=>go cs
 | _=>[]
where go:List AV→List Nat
 | []=>[]
 | a::l=>idsV a++go l
def idsAB:AB→List Nat
 | .dead=>[]
 | .box cs _=>idsV.go cs
 | .row _ rows _=>rows.flatMap idsV.go
def clo (h:Nat→AB):Nat→List Nat→List Nat→List Nat
 | 0,_,d=>d
 | _+1,[],d=>d
 | f+1,x::t,d=>bif hasN d x then clo h f t d else clo h f (idsAB (h x)++t) (x::d)
end Go.Proofs.Ytelpkjellakigaa.Rn
/- Symbolic walks: strings turned into bytes,rows marked,a string's bytes appended. No program in sight. -/
namespace Go.Proofs.Ytelpkjellakigaa
open Go Go.RowKit Go.Lib
set_option linter.unusedSimpArgs false
set_option linter.unusedSectionVars false
set_option linter.unusedVariables false
def strRows (s:ByteArray):List (List AV):=s.data.toList.map fun b=>[.int .u8 b.toNat]
theorem strRows_len (s:ByteArray):(strRows s).length=s.size:=by
 rw [strRows,List.length_map,Array.length_toList];rfl
theorem strRows_ok (w:World) (G:Gh) (s:ByteArray):RowsV w G 1 (strRows s) (strCells s):=by
 refine ⟨by rw [strCells_length,strRows_len,Nat.mul_one],strCells_oneCell s,fun i row hi=>?_⟩;unfold strRows at hi;rw [List.getElem?_map] at hi
 cases hb:s.data.toList[i]? with
 | none=>rw [hb] at hi;cases hi
 | some b =>
  rw [hb] at hi;injection hi with hi
  subst hi;refine ⟨rfl,fun j a hj=>?_⟩;obtain rfl:j=0:=by have:=(List.getElem?_eq_some_iff.1 hj).1;simp at this;omega
  injection hj with hj
  subst hj;refine ⟨.int .u8 b.toNat,?_,.dat (.int _ _)⟩;rw [Nat.mul_one,Nat.add_zero,strCells,List.getElem?_map,hb];rfl
theorem bytesCells_size (w:World) (e:TypeId) (s:ByteArray):(Lib.bytesCells w e s).size=grownCap w s.size 0 e:=by
 have:=grownCap_ge w s.size 0 e;unfold Lib.bytesCells;rw [Array.size_append,Array.size_map,Array.size_replicate];show s.size+_=_;omega
section
variable {P:Program} {n:Nat} {st:ASt} {d:Option Nat} {ty:TypeId} {ps:String} {af:Array Edge} {g:Option (Nat×Bool)} {x y:Operand} {t t':TypeId}
theorem op_conv_str {e:TypeId} {s:ByteArray} {u:TypeDesc} (hx:st.ev x=.str s) (hs:P.underlying t=some u) (hT:P.underlying t'=some (.slice e)) (hE:P.underlying e=some (.int .u8)) (hm:s.size≤1000000) (hd:dok d n=true) :
  OpV P n ⟨d,.convert t t' x,ty,ps,af,g⟩ st ((st.hnew (.row 1 (strRows s) e)).put d (.osl st.nx (strRows s).length)):=.mk fun K a w ⟨G,r⟩=>by
 have e1:=r.ev x;rw [hx] at e1;have e1:=e1.str';have hr:=Lib.run_convert_string_bytes (P:=P) w t t' e s hs hT hE;have hge:=grownCap_ge w s.size 0 e;have hcm:grownCap w s.size 0 e≤maxLen:=grownCap_le_maxLen w s.size 0 e (by simp only [maxLen];omega);have hb:Below w.heap.size w (Lib.bytesWorld w e s):=⟨rfl,rfl,rfl,by rw [Lib.bytesWorld_size];omega,fun i hi=>Lib.bytesWorld_at_old w e s i hi⟩
 have ho:ownsM (Lib.bytesWorld w e s) w.heap.size e 1 (.slice (some ⟨w.heap.size,0,none⟩) s.size (grownCap w s.size 0 e)) s.size (strCells s):=by
  refine ⟨by rw [strCells_length,Nat.mul_one],.inr ⟨w.heap.size,_,_,rfl,Nat.le_refl _,⟨_,.inr (Nat.le_refl _),Lib.bytesWorld_at_new w e s⟩,hge,hcm,by rw [bytesCells_size,Nat.mul_one],?_⟩⟩;rw [Nat.mul_one];unfold Lib.bytesCells;rw [Array.toList_append,Array.toList_map];show (strCells s++_).take s.size=strCells s;rw [←strCells_length s];exact List.take_left
 obtain ⟨r2,hv⟩:=r.newRow hb (rows:=strRows s) (sz:=1) (e:=e) (by omega) (by rw [strRows_len];exact ho) (strRows_ok w G s);exact ⟨_,_,.inl (by simp [execOp,e1,hr]),_,r2.put (dok_lt hd) hv⟩
theorem op_conv_mark {e:TypeId} {id m sz:Nat} {rows:List (List AV)} {e':TypeId} (hx:st.ev x=.osl id m) (hb:look .dead st.heap id=.row sz rows e') (hm:m=rows.length) (h0:0<m) (hT:P.underlying t=some (.slice e)) (hE:P.underlying e=some (.int .u8)) (hd:dok d n=true) :
  OpV P n ⟨d,.convert t t x,ty,ps,af,g⟩ st ((st.hset id (.row sz rows e')).put d (.osl id m)):=.mk fun K a w ⟨G,r⟩=>by
 subst hm;have e1:=r.ev x;rw [hx] at e1;have hk:=r.hr.blk id;rw [hb] at hk;obtain ⟨q1,q2,q3,q4,flat,q5,q6,q7⟩:=hk
 have ev:a.eval x=G.ρ id:=by
  cases e1 with
  | dat h=>cases h
  | osl _ _ _ _ _ _ _ hh=>exact hh q4.symm
 rcases q5.2 with ⟨_,h⟩ | ⟨gg,cap,cur,e2,hbase,hh,hcap,hcm,hcs,hct⟩
 ·omega
 have hog:G.own gg:=r.hr.ownhas id gg q1 (by rw [e2];rfl);have hlt:=r.hr.ownlt gg hog
 have hold:∀ k,k≠gg→(w.freeze ⟨gg,cur.size,none⟩ 1).heap[k]?=w.heap[k]?:=fun k hk=>by
  simp [World.freeze,Array.getElem?_modify,Ne.symm hk]
 have hnew:HasC (w.freeze ⟨gg,cur.size,none⟩ 1) gg cur e':=by
  obtain ⟨fz,f1,f2⟩:=hh;have hl:=(Array.getElem?_eq_some_iff.1 f2).1;have hv:=(Array.getElem?_eq_some_iff.1 f2).2;obtain ⟨lo,hi⟩:=fz;refine ⟨if lo==hi then (cur.size,cur.size+1) else (min lo cur.size,max hi (cur.size+1)),?_,?_⟩
  ·rcases f1 with f1 | f1
   ·injection f1 with f1 f3
    subst f1;subst f3
    exact .inr (Nat.le_refl _)
   ·simp only at f1
    right
    split
    ·exact Nat.le_refl _
    ·show cur.size≤min lo cur.size;omega
  ·simp [World.freeze,Array.getElem?_modify,f2]
 have hsz:(w.freeze ⟨gg,cur.size,none⟩ 1).heap.size=w.heap.size:=by simp [World.freeze]
 have hrun:(convert t t (.slice (some ⟨gg,0,none⟩) rows.length cap)).run P w=.ok (.slice (some ⟨gg,0,none⟩) rows.length cap) (w.freeze ⟨gg,cur.size,none⟩ 1):=by
  have hs:=hh.shape;simp [convert,run_underlying hT,run_underlying hE,markStringish,freeze,hs];rfl
 have hbw:Below K.w0.heap.size w (w.freeze ⟨gg,cur.size,none⟩ 1):=⟨rfl,rfl,rfl,by rw [hsz];exact Nat.le_refl _,fun i hi=>hold i (by omega)⟩
 have hx2:Ext w G (w.freeze ⟨gg,cur.size,none⟩ 1) G:=by
  refine ⟨by rw [hsz];exact Nat.le_refl _,fun b hb hl=>hold b (fun e=>hb.elim (fun hb=>hb (by rw [e];exact hog)) (fun hf=>r.hr.nofar id gg q1 (by rw [e2];rfl) (by rw [←e];exact hf))),fun b h=>.inl h,Nat.le_refl _,⟨rfl,rfl⟩,fun j hj=>⟨Nat.le_refl _,rfl,fun _=>rfl,fun _=>rfl⟩⟩
 have hRV:RowsV w G sz rows flat:=⟨q5.1,q6,q7⟩;have hRV2:=hRV.ext hx2;have ho:ownsM (w.freeze ⟨gg,cur.size,none⟩ 1) K.w0.heap.size e' sz (G.ρ id) rows.length flat:=⟨q5.1,.inr ⟨gg,cap,cur,e2,hbase,hnew,hcap,hcm,hcs,hct⟩⟩
 have hHR:HR K.w0 (w.freeze ⟨gg,cur.size,none⟩ 1) G ((id,.row sz rows e')::st.heap):=by
  refine r.hr.update hx2 (fun _ h=>h) hbw id _ (fun id' hne hid'=>⟨rfl,rfl,fun g' hg'=>hold g' (fun e1=>?_)⟩) (fun id' h _=>h) (fun b hb=>?_) ⟨q1,q2,q3,q4,flat,ho,hRV2.one,hRV2.rel⟩ (fun id' g' hid' hne hg'=>?_) (fun g' _ hg'=>?_)
  ·subst e1;exact r.hr.dist id' id g' hid' q1 hne hg' (by rw [e2];rfl)
  ·rw [hsz];exact r.hr.ownlt b hb
  ·intro h2;exact r.hr.dist id' id g' hid' q1 hne h2 hg'
  ·exact r.hr.ownhas' id g' q1 hg'
 refine ⟨.slice (some ⟨gg,0,none⟩) rows.length cap,_,.inl ?_,G,(r.turn st.nx r.nx hHR hx2).put (dok_lt hd) ?_⟩
 ·simp [execOp,ev,e2,hrun]
 ·have:=e1.ext hx2;rw [ev,e2] at this;exact this
theorem run_append_room_strM (w:World) (t u ty e:TypeId) (i:TypeInfo) (ht:P.underlying t=some (.slice e)) (hu:P.underlying u=some .string) (hi:P.info? e=some i) (hs1:i.size=1)
  (g sLen sCap:Nat) (cur:Array Value) (hg:HasC w g cur e) (s:ByteArray) (hroom:sLen+s.size≤sCap) (hfit:sLen+s.size≤cur.size) :
  (Builtin.append_ #[t,u] ty #[.slice (some ⟨g,0,none⟩) sLen sCap,.string s]).run P w =
   .ok (.slice (some ⟨g,0,none⟩) (sLen+s.size) sCap) (w.setRow g (cur.toList.take sLen++strCells s++cur.toList.drop (sLen+s.size)).toArray):=by
 have hf:=run_firstCells_string (P:=P) w 1 s;have hst:=run_storeCells_M (P:=P) g sLen e (strCells s) 0 cur w hg (by simpa [strCells_length] using hfit) (strCells_oneCell s);simp only [Nat.add_zero,strCells_length] at hst;simp [Builtin.append_,run_underlying ht,run_underlying hu,sizeOf,typeInfo,hi,hs1,Builtin.lenOf,hroom,hf,Addr.add_lit,hst]
theorem run_append_str (w:World) (base:Nat) (t u ty e:TypeId) (i:TypeInfo) (z:Value) (ht:P.underlying t=some (.slice e)) (hu:P.underlying u=some .string) (hi:P.info? e=some i) (hz:i.zero=some z)
  (hsize:i.size=1) (hby:i.bytes=1) (hzs:z.cells.size=1) (v:Value) (n:Nat) (xs:List Value) (hown:ownsM w base e 1 v n xs) (s:ByteArray) (hpos:0<s.size)
  (h63:n+s.size≤maxLen) (hbytes:n+s.size≤140737488355328) (hbase:base≤w.heap.size) :
  ∃ v' w',(Builtin.append_ #[t,u] ty #[v,.string s]).run P w=.ok v' w'∧ownsM w' base e 1 v' (n+s.size) (xs++strCells s)∧w.grownBy w' v.ownBlock∧(∀ g,ownBlk v'=some g→ownBlk v=some g∨w.heap.size≤g):=by
 have hsmall:n+s.size≤9223372036854775807:=by simp only [maxLen] at h63;omega
 have hxl:xs.length=n:=by simpa using hown.1
 have hlen:(xs++strCells s).length=(n+s.size)*1:=by rw [List.length_append,hxl,strCells_length,Nat.mul_one]
 have grown:∀ (old:Nat),old<n+s.size→∀ (row:Option Nat),
   ownsM (w.drew.alloc (.cells (xs.toArray++(strCells s).toArray++Builtin.zeroCells z.cells (grownCap w (n+s.size) old e-(n+s.size))) e)) base e 1
    (.slice (some ⟨w.heap.size,0,none⟩) (n+s.size) (grownCap w (n+s.size) old e)) (n+s.size) (xs++strCells s) ∧
   w.grownBy (w.drew.alloc (.cells (xs.toArray++(strCells s).toArray++Builtin.zeroCells z.cells (grownCap w (n+s.size) old e-(n+s.size))) e)) row:=by
  intro old ho row;have hge:=grownCap_ge w (n+s.size) old e;have hcm:grownCap w (n+s.size) old e≤maxLen:=grownCap_le_maxLen w (n+s.size) old e h63;refine ⟨⟨hlen,.inr ⟨w.heap.size,_,_,rfl,hbase,.of (heap_alloc_new w.drew _),hge,hcm,?_,?_⟩⟩,⟨rfl,rfl,rfl,by simp,fun k hk _=>Below.heap_alloc w.drew _ k hk⟩⟩
  ·simp only [Array.size_append,List.size_toArray,size_zeroCells,hzs,hxl,strCells_length];omega
  ·simp only [Array.toList_append,List.append_assoc];rw [←List.append_assoc,←hlen];exact List.take_left
 rcases hown.2 with ⟨rfl,rfl⟩ | ⟨g,cap,cur,rfl,hbg,hg,hnc,hcm,hcs,htake⟩
 ·have hx:xs=[]:=List.eq_nil_of_length_eq_zero hxl;subst hx;have hr:=run_append_nil_string (P:=P) w t u ty e i z ht hu hi hz s (by omega) (by omega) (by rw [hby];omega);have hgr:=grown 0 (by omega) (Value.ownBlock (.slice none 0 0));simp only [Nat.zero_add,List.nil_append,Array.empty_append] at hgr ⊢
  have e1:(s.data.map fun b=>Value.int .u8 b.toNat)=(strCells s).toArray:=by
   apply Array.ext';simp [strCells]
  rw [e1] at hr;exact ⟨_,_,hr,hgr.1,hgr.2,fun g hg=>(by simp [ownBlk] at hg;right;omega)⟩
 ·by_cases hroom:n+s.size≤cap
  ·have hcs':cur.size=cap:=by simpa using hcs
   have hr:=run_append_room_strM (P:=P) w t u ty e i ht hu hi hsize g n cap cur hg s hroom (by omega);refine ⟨_,_,hr,⟨hlen,.inr ⟨g,cap,_,rfl,hbg,hg.setRow ?_,hroom,hcm,?_,?_⟩⟩,⟨rfl,rfl,rfl,by simp,fun k _ hk=>setRow_other w g k _ (fun e=>hk (by simp [Value.ownBlock,e]))⟩,fun g' hg'=>.inl hg'⟩
   ·simp only [List.size_toArray,List.length_append,List.length_take,List.length_drop,Array.length_toList,strCells_length];omega
   ·simp only [List.size_toArray,List.length_append,List.length_take,List.length_drop,Array.length_toList,strCells_length];omega
   ·have ht':cur.toList.take n=xs:=by simpa using htake
    rw [ht',←hlen];exact List.take_left
  ·have holds:∀ j u,xs[j]?=some u→w.cell? ((⟨g,0,none⟩:Addr).add j)=some u:=hown.cells (g:=g) rfl;have hr:=run_append_grow_string (P:=P) w t u ty e i z ht hu hi hz ⟨g,0,none⟩ n cap xs (by rw [hsize];simpa using hxl) holds s (by omega) (by omega) (by rw [hby];exact growslice_fits (by omega) (by omega));have hgr:=grown cap (by omega) (Value.ownBlock (.slice (some ⟨g,0,none⟩) n cap));exact ⟨_,_,hr,hgr.1,hgr.2,fun g' hg'=>(by simp [ownBlk] at hg';right;omega)⟩
theorem op_append_str {e:TypeId} {z:Value} {id m:Nat} {rows:List (List AV)} {s:ByteArray} (hx:st.ev x=.osl id m) (hb:look .dead st.heap id=.row 1 rows e) (hm:m=rows.length) (hy:st.ev y=.str s) (hpos:0<s.size)
  (hT:P.underlying t=some (.slice e)) (hU:P.underlying t'=some .string) (hI:tyI P e=some (some z,1,1)) (hz:z.cells.size=1) (h63:rows.length+s.size≤1000000) (hd:dok d n=true) :
  OpV P n ⟨d,.call {callee:=.builtin .append,args:=#[x,y],argTypes:=#[t,t'] },ty,ps,af,g⟩ st ((st.hset id (.row 1 (rows++strRows s) e)).put d (.osl id (rows.length+s.size))):=.mk fun K a w ⟨G,r⟩=>by
 have e1:=r.ev x;rw [hx] at e1;have e2:=r.ev y;rw [hy] at e2;have e2:=e2.str';have hk:=r.hr.blk id;rw [hb] at hk;obtain ⟨q1,q2,q3,q4,flat,q5,q6,q7⟩:=hk
 have ev:a.eval x=G.ρ id:=by
  cases e1 with
  | dat h=>cases h
  | osl _ _ _ _ _ _ _ hh=>exact hh (by rw [q4,hm])
 obtain ⟨i,hi,hz0,hz1,hz2⟩:=tyI_info hI;obtain ⟨v',w',p1,p2,p3,p4⟩:=run_append_str (P:=P) w K.w0.heap.size t t' ty e i z hT hU hi hz0 hz1 hz2 hz (G.ρ id) rows.length flat q5 s hpos (by simp only [maxLen];omega) (by omega) r.hr.below.size;have hob:=ownBlock_eq q5;rw [hob] at p3;have hoo:∀ g,ownBlk (G.ρ id)=some g→G.own g:=fun g hg=>r.hr.ownhas id g q1 hg
 let G':Gh:=⟨fun j=>if j=id then v' else G.ρ j,fun b=>G.own b∨ownBlk v'=some b,fun j=>if j=id then rows.length+s.size else G.ln j,G.sz,G.nx,G.bs,G.far⟩
 have hρ:G'.ρ id=v':=if_pos rfl;have hln:G'.ln id=rows.length+s.size:=if_pos rfl
 have hsl:∃ A c,v'=.slice A (rows.length+s.size) c:=by
  rcases p2.2 with ⟨h1,h2⟩ | ⟨gg,cap,cur,h1,_⟩
  ·rw [h1,h2];exact ⟨_,_,rfl⟩
  ·rw [h1];exact ⟨_,_,rfl⟩
 have hext:Ext w G w' G':=by
  refine ⟨p3.size,fun b hb hl=>p3.block b hl (fun e=>hb.elim (fun hb=>hb (hoo b e.symm)) (fun hf=>r.hr.nofar id b q1 e.symm hf)),fun b h=>?_,Nat.le_refl _,⟨rfl,rfl⟩,fun j hj=>?_⟩
  ·rcases h with h | h
   ·exact .inl h
   ·exact (p4 b h).imp (hoo b) (fun h=>h)
  ·by_cases e:j=id
   ·subst e;exact ⟨by rw [hln,q4];omega,rfl,fun h=>by rw [hln,q4] at h;omega,fun h=>by omega⟩
   ·have h1:G'.ln j=G.ln j:=if_neg e;have h2:G'.ρ j=G.ρ j:=if_neg e;exact ⟨by omega,rfl,fun _=>h2,fun _=>h1⟩
 have hRV:RowsV w G 1 rows flat:=⟨q5.1,q6,q7⟩;have hRV2:=(hRV.append (strRows_ok w G s)).ext hext;have hlr:(rows++strRows s).length=rows.length+s.size:=by rw [List.length_append,strRows_len]
 have hHR:HR K.w0 w' G' ((id,.row 1 (rows++strRows s) e)::st.heap):=by
  refine r.hr.update hext (fun b h=>.inl h) (grown_below p3 r.hr.below.size (fun g hg=>(r.hr.ownlt g (hoo g hg)).1)) id _ (fun j hne hj=>⟨if_neg hne,if_neg hne,fun g hg=>p3.block g (r.hr.ownlt g (r.hr.ownhas j g hj hg)).2 (fun e=>?_)⟩) (fun j h _=>h) (fun b hb=>?_)
   ⟨q1,q2,q3,by rw [hln,hlr],flat++strCells s,by rw [hρ,hlr];exact p2,hRV2.one,hRV2.rel⟩ (fun j g hj hne hg he=>?_) (fun g _ hg=>?_)
  ·exact r.hr.dist j id g hj q1 hne hg e.symm
  ·rcases hb with hb | hb
   ·have:=r.hr.ownlt b hb;have:=p3.size;omega
   ·rcases p4 b hb with h | h
    ·have:=r.hr.ownlt b (hoo b h);have:=p3.size;omega
    ·have h2:b<w'.heap.size:=by
      rcases p2.2 with ⟨h1,_⟩ | ⟨gg,cap,cur,h1,_,h3,_⟩
      ·rw [h1] at hb;simp [ownBlk] at hb
      ·rw [h1] at hb;simp [ownBlk] at hb;subst hb;exact h3.lt
     have:=r.hr.below.size;omega
  ·rw [hρ] at hg;rcases p4 g hg with h | h
   ·exact r.hr.dist j id g hj q1 hne he h
   ·have:=(r.hr.ownlt g (r.hr.ownhas j g hj he)).2;omega
  ·rw [hρ] at hg;refine ⟨.inr hg,?_⟩;rcases p4 g hg with h | h
   ·exact r.hr.nofar id g q1 h
   ·exact r.hr.newFar h
 have hnx:G'.nx=st.nx:=r.nx;refine ⟨v',w',.inl ?_,G',(r.turn st.nx hnx hHR hext).put (dok_lt hd) (RelV.osl (w:=w') (G:=G') id _ v' q1 (by show 0<G.sz id;omega) (by rw [hln];exact Nat.le_refl _) hsl (fun _=>hρ.symm))⟩;simp [execOp,resolve,invoke,builtin,ev,e2,p1]
end
end Go.Proofs.Ytelpkjellakigaa
/- Symbolic walks: an append of zeros (append of a made slice). No program in sight. -/
namespace Go.Proofs.Ytelpkjellakigaa
open Go Go.RowKit Go.Lib
set_option linter.unusedSimpArgs false
set_option linter.unusedSectionVars false
set_option linter.unusedVariables false
theorem zeroCells_one {z:Array Value} {c:Value} (hz:z=#[c]) (k:Nat):Builtin.zeroCells z k=(List.replicate k c).toArray:=by
 subst hz;apply Array.ext';unfold Builtin.zeroCells;simp only [Array.toList_map,Array.toList_range];apply List.ext_getElem
 ·simp
 ·intro i h1 h2;simp [Nat.mod_one]
section
variable {P:Program} {n:Nat} {st:ASt} {d:Option Nat} {ty:TypeId} {ps:String} {af:Array Edge} {g:Option (Nat×Bool)} {x y:Operand} {t t':TypeId}
theorem run_append_room_zerosM (w:World) (t u ty e:TypeId) (i:TypeInfo) (z c:Value) (kq kn:IntKind) (ht:P.underlying t=some (.slice e)) (hu:P.underlying u=some (.int kn)) (hi:P.info? e=some i) (hz:i.zero=some z) (hs1:i.size=1) (hby:i.bytes=1)
  (hc:z.cells=#[c]) (h1:c.oneCell'=true) (g sLen sCap:Nat) (cur:Array Value) (hg:HasC w g cur e) (k:Nat) (hk:0<k) (hk2:k≤1000000) (hroom:sLen+k≤sCap) (hfit:sLen+k≤cur.size) :
  (Builtin.append_ #[t,u] ty #[.slice (some ⟨g,0,none⟩) sLen sCap,.int kq k]).run P w =
   .ok (.slice (some ⟨g,0,none⟩) (sLen+k) sCap) (w.setRow g (cur.toList.take sLen++List.replicate k c++cur.toList.drop (sLen+k)).toArray):=by
 have hst:=run_storeCells_M (P:=P) g sLen e (List.replicate k c) 0 cur w hg (by simpa using hfit) (fun v hv=>by rw [(List.mem_replicate.1 hv).2];exact h1);simp only [Nat.add_zero,List.length_replicate] at hst;have hw:IntKind.i64.wrap (k:Int)=k:=by rw [IntKind.wrap_i64];omega
 have hneg:¬ ((k:Int)<0):=by omega
 have h48i:¬ (281474976710656<(k:Int)):=by omega
 have hk0:¬ (k=0):=by omega
 simp [Builtin.append_,run_underlying ht,run_underlying hu,sizeOf,typeInfo,zeroValue,hi,hz,hs1,hby,asInt,asIntOf,hw,hneg,h48i,hk0,hroom,zeroCells_one hc,Addr.add_lit,hst]
theorem run_append_zeros (w:World) (base:Nat) (t u ty e:TypeId) (i:TypeInfo) (z c:Value) (kq kn:IntKind) (ht:P.underlying t=some (.slice e)) (hu:P.underlying u=some (.int kn)) (hi:P.info? e=some i) (hz:i.zero=some z)
  (hsize:i.size=1) (hby:i.bytes=1) (hc:z.cells=#[c]) (h1:c.oneCell'=true) (v:Value) (n:Nat) (xs:List Value) (hown:ownsM w base e 1 v n xs) (k:Nat) (hk:0<k) (hk2:n+k≤1000000)
  (hbase:base≤w.heap.size) :
  ∃ v' w',(Builtin.append_ #[t,u] ty #[v,.int kq k]).run P w=.ok v' w'∧ownsM w' base e 1 v' (n+k) (xs++List.replicate k c)∧w.grownBy w' v.ownBlock∧(∀ g,ownBlk v'=some g→ownBlk v=some g∨w.heap.size≤g):=by
 have hxl:xs.length=n:=by simpa using hown.1
 have hzs:z.cells.size=1:=by rw [hc];rfl
 have hlen:(xs++List.replicate k c).length=(n+k)*1:=by rw [List.length_append,hxl,List.length_replicate,Nat.mul_one]
 have grown:∀ (old:Nat),old<n+k→∀ (row:Option Nat),
   ownsM (w.drew.alloc (.cells (xs.toArray++(List.replicate k c).toArray++Builtin.zeroCells z.cells (grownCap w (n+k) old e-(n+k))) e)) base e 1
    (.slice (some ⟨w.heap.size,0,none⟩) (n+k) (grownCap w (n+k) old e)) (n+k) (xs++List.replicate k c) ∧
   w.grownBy (w.drew.alloc (.cells (xs.toArray++(List.replicate k c).toArray++Builtin.zeroCells z.cells (grownCap w (n+k) old e-(n+k))) e)) row:=by
  intro old ho row;have hge:=grownCap_ge w (n+k) old e;have hcm:grownCap w (n+k) old e≤maxLen:=grownCap_le_maxLen w (n+k) old e (by simp only [maxLen];omega);refine ⟨⟨hlen,.inr ⟨w.heap.size,_,_,rfl,hbase,.of (heap_alloc_new w.drew _),hge,hcm,?_,?_⟩⟩,⟨rfl,rfl,rfl,by simp,fun k hk _=>Below.heap_alloc w.drew _ k hk⟩⟩
  ·simp only [Array.size_append,List.size_toArray,size_zeroCells,hzs,hxl,List.length_replicate];omega
  ·simp only [Array.toList_append,List.append_assoc];rw [←List.append_assoc,←hlen];exact List.take_left
 rcases hown.2 with ⟨rfl,rfl⟩ | ⟨g,cap,cur,rfl,hbg,hg,hnc,hcm,hcs,htake⟩
 ·have hx:xs=[]:=List.eq_nil_of_length_eq_zero hxl;subst hx;have hr:=run_append_nil_zeros (P:=P) w t u ty e i z kq kn ht hu hi hz k hk (by omega) (by omega) (by rw [hby];omega);have hgr:=grown 0 (by omega) (Value.ownBlock (.slice none 0 0));simp only [Nat.zero_add,List.nil_append,Array.empty_append] at hgr ⊢;rw [zeroCells_one hc k] at hr;exact ⟨_,_,hr,hgr.1,hgr.2,fun g hg=>(by simp [ownBlk] at hg;right;omega)⟩
 ·by_cases hroom:n+k≤cap
  ·have hcs':cur.size=cap:=by simpa using hcs
   have hr:=run_append_room_zerosM (P:=P) w t u ty e i z c kq kn ht hu hi hz hsize hby hc h1 g n cap cur hg k hk (by omega) hroom (by omega);refine ⟨_,_,hr,⟨hlen,.inr ⟨g,cap,_,rfl,hbg,hg.setRow ?_,hroom,hcm,?_,?_⟩⟩,⟨rfl,rfl,rfl,by simp,fun k _ hk=>setRow_other w g k _ (fun e=>hk (by simp [Value.ownBlock,e]))⟩,fun g' hg'=>.inl hg'⟩
   ·simp only [List.size_toArray,List.length_append,List.length_take,List.length_drop,Array.length_toList,List.length_replicate];omega
   ·simp only [List.size_toArray,List.length_append,List.length_take,List.length_drop,Array.length_toList,List.length_replicate];omega
   ·have ht':cur.toList.take n=xs:=by simpa using htake
    rw [ht',←hlen];exact List.take_left
  ·have holds:∀ j u,xs[j]?=some u→w.cell? ((⟨g,0,none⟩:Addr).add j)=some u:=hown.cells (g:=g) rfl;have hfo:=run_firstCells_some (P:=P) w.drew i.size n ⟨g,0,none⟩ n cap xs (by rw [hsize];simpa using hxl) (by simpa using holds);have hr:=run_append_grow_zeros (P:=P) w t u ty e i z kq kn ht hu hi hz (some ⟨g,0,none⟩) n cap xs hfo k hk (by omega) (by omega) (by omega) (by rw [hby];omega) (by rw [hby];exact growslice_fits (by omega) (by omega));rw [zeroCells_one hc k] at hr;have hgr:=grown cap (by omega) (Value.ownBlock (.slice (some ⟨g,0,none⟩) n cap));exact ⟨_,_,hr,hgr.1,hgr.2,fun g' hg'=>(by simp [ownBlk] at hg';right;omega)⟩
theorem zeros_ok (w:World) (G:Gh) {c:Value} {a:AV} (ha:avOf c=a) (h1:c.oneCell'=true) (k:Nat):RowsV w G 1 (List.replicate k [a]) (List.replicate k c):=by
 refine ⟨by simp,fun v hv=>by rw [(List.mem_replicate.1 hv).2];exact h1,fun i row hi=>?_⟩;rw [List.getElem?_replicate] at hi;split at hi
 ·rename_i hik;injection hi with hi
  subst hi;refine ⟨rfl,fun j b hj=>?_⟩;obtain rfl:j=0:=by have:=(List.getElem?_eq_some_iff.1 hj).1;simp at this;omega
  injection hj with hj
  subst hj;refine ⟨c,by rw [List.getElem?_replicate,if_pos (by omega)],?_⟩;rw [←ha];exact avOf_rel w G c
 ·cases hi
theorem op_append_zeros {e:TypeId} {z c:Value} {ca:AV} {kn kq:IntKind} {id m:Nat} {L:Int} {rows:List (List AV)} (hx:st.ev x=.osl id m) (hb:look .dead st.heap id=.row 1 rows e) (hm:m=rows.length) (hy:st.ev y=.int kq L) (hpos:0<L)
  (hT:P.underlying t=some (.slice e)) (hU:P.underlying t'=some (.int kn)) (hI:tyI P e=some (some z,1,1)) (hc:z.cells.toList=[c]) (hca:avOf c=ca) (h1c:c.oneCell'=true) (h63:rows.length+L.toNat≤1000000) (hd:dok d n=true) :
  OpV P n ⟨d,.call {callee:=.builtin .append,args:=#[x,y],argTypes:=#[t,t'] },ty,ps,af,g⟩ st ((st.hset id (.row 1 (rows++List.replicate L.toNat [ca]) e)).put d (.osl id (rows.length+L.toNat))):=.mk fun K a w ⟨G,r⟩=>by
 have e1:=r.ev x;rw [hx] at e1;have e2:=r.ev y;rw [hy] at e2;have e2:=e2.int';obtain ⟨k,rfl⟩:∃ k:Nat,L=k:=⟨L.toNat,by omega⟩;rw [Int.toNat_natCast] at h63 ⊢;have hzc:z.cells=#[c]:=Array.ext' hc;have hk:=r.hr.blk id;rw [hb] at hk;obtain ⟨q1,q2,q3,q4,flat,q5,q6,q7⟩:=hk
 have ev:a.eval x=G.ρ id:=by
  cases e1 with
  | dat h=>cases h
  | osl _ _ _ _ _ _ _ hh=>exact hh (by rw [q4,hm])
 obtain ⟨i,hi,hz0,hz1,hz2⟩:=tyI_info hI;obtain ⟨v',w',p1,p2,p3,p4⟩:=run_append_zeros (P:=P) w K.w0.heap.size t t' ty e i z c kq kn hT hU hi hz0 hz1 hz2 hzc h1c (G.ρ id) rows.length flat q5 k (by omega) h63 r.hr.below.size;have hob:=ownBlock_eq q5;rw [hob] at p3;have hoo:∀ g,ownBlk (G.ρ id)=some g→G.own g:=fun g hg=>r.hr.ownhas id g q1 hg
 let G':Gh:=⟨fun j=>if j=id then v' else G.ρ j,fun b=>G.own b∨ownBlk v'=some b,fun j=>if j=id then rows.length+k else G.ln j,G.sz,G.nx,G.bs,G.far⟩
 have hρ:G'.ρ id=v':=if_pos rfl;have hln:G'.ln id=rows.length+k:=if_pos rfl
 have hsl:∃ A c,v'=.slice A (rows.length+k) c:=by
  rcases p2.2 with ⟨h1,h2⟩ | ⟨gg,cap,cur,h1,_⟩
  ·rw [h1,h2];exact ⟨_,_,rfl⟩
  ·rw [h1];exact ⟨_,_,rfl⟩
 have hext:Ext w G w' G':=by
  refine ⟨p3.size,fun b hb hl=>p3.block b hl (fun e=>hb.elim (fun hb=>hb (hoo b e.symm)) (fun hf=>r.hr.nofar id b q1 e.symm hf)),fun b h=>?_,Nat.le_refl _,⟨rfl,rfl⟩,fun j hj=>?_⟩
  ·rcases h with h | h
   ·exact .inl h
   ·exact (p4 b h).imp (hoo b) (fun h=>h)
  ·by_cases e:j=id
   ·subst e;exact ⟨by rw [hln,q4];omega,rfl,fun h=>by rw [hln,q4] at h;omega,fun h=>by omega⟩
   ·have h1:G'.ln j=G.ln j:=if_neg e;have h2:G'.ρ j=G.ρ j:=if_neg e;exact ⟨by omega,rfl,fun _=>h2,fun _=>h1⟩
 have hRV:RowsV w G 1 rows flat:=⟨q5.1,q6,q7⟩;have hRV2:=(hRV.append (zeros_ok w G hca h1c k)).ext hext;have hlr:(rows++List.replicate k [ca]).length=rows.length+k:=by rw [List.length_append,List.length_replicate]
 have hHR:HR K.w0 w' G' ((id,.row 1 (rows++List.replicate k [ca]) e)::st.heap):=by
  refine r.hr.update hext (fun b h=>.inl h) (grown_below p3 r.hr.below.size (fun g hg=>(r.hr.ownlt g (hoo g hg)).1)) id _ (fun j hne hj=>⟨if_neg hne,if_neg hne,fun g hg=>p3.block g (r.hr.ownlt g (r.hr.ownhas j g hj hg)).2 (fun e=>?_)⟩) (fun j h _=>h) (fun b hb=>?_)
   ⟨q1,q2,q3,by rw [hln,hlr],flat++List.replicate k c,by rw [hρ,hlr];exact p2,hRV2.one,hRV2.rel⟩ (fun j g hj hne hg he=>?_) (fun g _ hg=>?_)
  ·exact r.hr.dist j id g hj q1 hne hg e.symm
  ·rcases hb with hb | hb
   ·have:=r.hr.ownlt b hb;have:=p3.size;omega
   ·rcases p4 b hb with h | h
    ·have:=r.hr.ownlt b (hoo b h);have:=p3.size;omega
    ·have h2:b<w'.heap.size:=by
      rcases p2.2 with ⟨h1,_⟩ | ⟨gg,cap,cur,h1,_,h3,_⟩
      ·rw [h1] at hb;simp [ownBlk] at hb
      ·rw [h1] at hb;simp [ownBlk] at hb;subst hb;exact h3.lt
     have:=r.hr.below.size;omega
  ·rw [hρ] at hg;rcases p4 g hg with h | h
   ·exact r.hr.dist j id g hj q1 hne he h
   ·have:=(r.hr.ownlt g (r.hr.ownhas j g hj he)).2;omega
  ·rw [hρ] at hg;refine ⟨.inr hg,?_⟩;rcases p4 g hg with h | h
   ·exact r.hr.nofar id g q1 h
   ·exact r.hr.newFar h
 have hnx:G'.nx=st.nx:=r.nx;refine ⟨v',w',.inl ?_,G',(r.turn st.nx hnx hHR hext).put (dok_lt hd) (RelV.osl (w:=w') (G:=G') id _ v' q1 (by show 0<G.sz id;omega) (by rw [hln];exact Nat.le_refl _) hsl (fun _=>hρ.symm))⟩;simp [execOp,resolve,invoke,builtin,ev,e2,p1]
end
end Go.Proofs.Ytelpkjellakigaa
