/- Decompiling: the operations that make or write memory: what is computed is what they do. No program in sight. -/
import Derived.Test.YtljebnobajmjnaaZDM2
/- Decompiling: the operations that make or write memory: what is computed is what they do. No program in sight. -/
namespace Go.Proofs.Ytljebnobajmjnaa
open Go Go.RowKit

structure LesRs (rows rows':List (List AV)):Prop where
 len:rows.length=rows'.length
 at':∀ (i:Nat) (row row':List AV),rows[i]?=some row→rows'[i]?=some row'→LesL row row'
theorem LesRs.append {a b c d:List (List AV)} (h:LesRs a b) (k:LesRs c d):LesRs (a++c) (b++d):=⟨by simp [h.len,k.len],fun i x y hx hy=>by
 by_cases hi:i<a.length
 ·rw [List.getElem?_append_left hi] at hx;rw [List.getElem?_append_left (by rw [←h.len];exact hi)] at hy;exact h.at' i x y hx hy
 ·rw [List.getElem?_append_right (by omega)] at hx;rw [List.getElem?_append_right (by rw [←h.len];omega),←h.len] at hy
  exact k.at' _ x y hx hy⟩
theorem set_les {l m:List AV} {a b:AV} (h:LesL l m) (k:Les a b) (i:Nat):LesL (l.set i a) (m.set i b):=⟨by simp [h.len],fun j x y hx hy=>by
 rw [List.getElem?_set] at hx hy;by_cases e:i=j
 ·subst e;rw [if_pos rfl] at hx hy;split at hx
  ·split at hy
   ·injection hx with hx
    injection hy with hy
    subst hx;subst hy;exact k
   ·cases hy
  ·cases hx
 ·rw [if_neg e] at hx hy
  exact h.at' j x y hx hy⟩
theorem setR_les:∀ {l m c d:List AV},LesL c d→LesL l m→∀ (o:Nat),LesL (setR c o l) (setR d o m)
 | [],[],c,d,h,_,o=>h
 | [],_::_,_,_,_,k,_=>by have:=k.len;simp at this
 | _::_,[],_,_,_,k,_=>by have:=k.len;simp at this
 | a::l,b::m,c,d,h,k,o=>by
  rw [setR,setR];exact setR_les (set_les h (k.at' 0 a b rfl rfl) o) ⟨by have:=k.len;simpa using this,fun i x y hx hy=>k.at' (i+1) x y (by simpa using hx) (by simpa using hy)⟩ (o+1)
theorem LesB.rows {sz:Nat} {rows rows':List (List AV)} {e:TypeId} (h:LesRs rows rows'):LesB (.row sz rows e) (.row sz rows' e):=.row sz e h.len h.at'
theorem cells_le {fr fr':Bool} (h:(!fr'||fr)=true) (t:Ty) (x:t.den):LesL (t.cells fr' x) (t.cells fr x):=by
 cases fr <;> cases fr' <;> first | exact .refl _ | (cases h;done) | exact t.cells_unfr x
theorem rows_le {fr fr':Bool} (h:(!fr'||fr)=true) (t:Ty) (xs:List t.den):LesRs (xs.map (t.cells fr')) (xs.map (t.cells fr)):=⟨by simp,fun i row row' h1 h2=>by
 rw [List.getElem?_map] at h1 h2;obtain ⟨x,hx,e⟩:=Option.map_eq_some_iff.1 h1;rw [hx] at h2;have h2:t.cells fr x=row':=by injection h2
 subst e;subst h2
 exact cells_le h t x⟩
theorem rows_set {fr fr':Bool} (h:(!fr'||fr)=true) {t:Ty} {xs:List t.den} {i:Nat} {x:t.den} {row:List AV} (hr:LesL (t.cells fr' x) row):LesRs ((xs.set i x).map (t.cells fr')) ((xs.map (t.cells fr)).set i row):=⟨by simp,fun j a b h1 h2=>by
 rw [List.map_set,List.getElem?_set] at h1;rw [List.getElem?_set] at h2;by_cases e:i=j
 ·subst e;rw [if_pos rfl] at h1 h2;split at h1
  ·rw [if_pos (by simp_all)] at h2;injection h1 with h1
   injection h2 with h2
   subst h1;subst h2
   exact hr
  ·cases h1
 ·rw [if_neg e] at h1 h2
  exact (rows_le h t xs).at' j a b h1 h2⟩
theorem chunkS_enc {m:Nat→Nat} {H:Nat→SB D} (sz:Nat):∀ (k:Nat) (cs:List (SV D)),chunk sz k (SV.encL m H cs)=(chunkS sz k cs).map (SV.encL m H)
 | 0,_=>rfl
 | k+1,cs=>by
  rw [chunk,chunkS,List.map_cons,←chunkS_enc sz k,encL_map,encL_map,encL_map,List.map_take,List.map_drop]
theorem zerosS_enc {m:Nat→Nat} {H:Nat→SB D} (zs:List (SV D)):∀ k,SV.encL m H (zerosS zs k)=zerosA (SV.encL m H zs) k
 | 0=>by rw [zerosS,zerosA,SV.encL]
 | k+1=>by rw [zerosS,zerosA,←zerosS_enc zs k,encL_map,encL_map,encL_map,List.map_append]
theorem sameOp_eq {x y:Operand} {k k':IntKind} {st:SSt D} {L C:Int} {m:Nat→Nat} {nx:Nat} (h:sameOp x y=true) (hx:(st.enc m nx).ev x=.int k L) (hy:(st.enc m nx).ev y=.int k' C):C=L:=by
 unfold sameOp at h;split at h
 ·rename_i a b;have:=Nat.eq_of_beq_eq_true h;subst this;rw [hx] at hy;injection hy with _ h;exact h.symm
 ·rename_i k1 a k2 b;have:=of_decide_eq_true h;subst this;have hx:AV.int k1 a=AV.int k L:=hx;have hy:AV.int k2 a=AV.int k' C:=hy;injection hx with _ h1
  injection hy with _ h2
  omega
 ·cases h
theorem lit_den {k:IntKind} {a:E D (.int k)} {x:Int} (h:a.lit?=some x):(a.den:Int)=x:=by
 unfold E.lit? at h;split at h
 ·injection h
 ·cases h
theorem leE_den {k k':IntKind} {a:E D (.int k)} {b:E D (.int k')} (h:(leE a b).den=true):(a.den:Int)≤(b.den:Int):=by
 unfold leE at h;split at h
 ·rename_i x y h1 h2;rw [lit_den h1,lit_den h2];exact of_decide_eq_true h
 ·exact of_decide_eq_true h
theorem mulL_den {k:IntKind} {b:Nat} {a:E D (.int k)}:((mulL b a).den:Int)=b*(a.den:Int):=by
 unfold mulL;split
 ·rename_i x h;rw [lit_den h];rfl
 ·rfl
section
variable {P:Program} {n:Nat} {T:Tab} {F:List (Nat→AV)} {st st':SSt D} {s:ASt} {m:Nat→Nat} {nx:Nat} {r:MR D} {gd:E D .bool} {d:Option Nat} {ty:TypeId} {ps:String} {af:Array Edge} {g:Option (Nat×Bool)} {t t':TypeId} {y z:Operand}
structure MemOk (P:Program) (n:Nat) (F:List (Nat→AV)) (o:Oper) (st st':SSt D) (m:Nat→Nat) (nx:Nat):Prop where
 ex:∃ s',OpV P n o (st.enc m nx) s'∧StL F st' s'
abbrev nB (st:SSt D) (id:Nat):Bool:=!Nat.beq id st.nx
abbrev nR (st:SSt D) (id _ver:Nat):Bool:=!Nat.beq id st.nx
theorem StL.of3 {s:ASt} (h:MOk m nx st∧LeS (st.enc m nx) s∧FrOk m st.blk st.fr F):StL F st s:=⟨m,nx,h.1,h.2.1.rle,h.2.2⟩
theorem newBox_ok (hm:MOk m nx st) (hf:FrOk m st.blk st.fr F) {cs:List (SV D)} {e:TypeId} {cs':List AV} (hr:st.refs (nB st) (nR st)=true) (hb:∀ m' H',MemLe m st.blk m' H' (nB st) (nR st)→LesL (SV.encL m' H' cs) cs') (d:Option Nat) :
  StL F (MR.app st d (.new (.box cs e) false)) (((st.enc m nx).hnew (.box cs' e)).put d (.box (st.enc m nx).nx 0)):=by
 obtain ⟨m',nx',h1,h2,h3,h4⟩:=hnew_les (b:=.box cs e) (b':=.box cs' e) hm (.refl _) hf (SB.norm_box _ _) hr (fun m' hc=>.box e (hb m' _ hc));refine ⟨m',nx',put_mok h1 d _,LeS.rle ?_,?_⟩
 ·rw [MR.app,put_enc];refine h2.put ?_;have hi:isBox (st.hnew (.box cs e)).blk st.nx=true:=by unfold isBox;rw [hnew_blk,if_pos rfl]
  show Les (SV.enc m' _ (.box st.nx 0)) _;rw [SV.enc,hi,h4];exact .refl _
 ·rw [MR.app,put_blk]
  cases d <;> exact h3
theorem newRow_ok (hm:MOk m nx st) (hf:FrOk m st.blk st.fr F) {fr:Bool} {rt:Ty} {xs:E D (.list rt)} {e:TypeId} {rows:List (List AV)} {sz:Nat} (hsz:rt.size=sz) (hr:st.refs (nB st) (nR st)=true) (hb:LesRs ((xs.den:List rt.den).map (rt.cells fr)) rows) (d:Option Nat) {L:Nat} (hL:rows.length=L) :
  StL F (MR.app st d (.new (.row fr rt xs e 0) true)) (((st.enc m nx).hnew (.row sz rows e)).put d (.osl (st.enc m nx).nx L)):=by
 subst hsz;obtain ⟨m',nx',h1,h2,h3,h4⟩:=hnew_les (b:=.row fr rt xs e 0) (b':=.row rt.size rows e) hm (.refl _) hf (SB.norm_row _ _ _ _ _) hr (fun m' hc=>.rows hb);refine ⟨m',nx',put_mok h1 d _,LeS.rle ?_,?_⟩
 ·rw [MR.app,put_enc];refine h2.put ?_;have hi:rowLen (st.hnew (.row fr rt xs e 0)).blk st.nx 0=some (List.length xs.den):=by unfold rowLen;rw [hnew_blk,if_pos rfl];rfl
  show Les (SV.enc m' _ (.osl st.nx 0)) _;rw [SV.enc,hi,h4,←hL,←hb.len,rows_len];exact .refl _
 ·rw [MR.app,put_blk]
  cases d <;> exact h3
theorem allocS_ok {e:TypeId} (hT:T.ok P) (hm:MOk m nx st) (hf:FrOk m st.blk st.fr F) (h:allocS T e=some (r,gd)) (hs:memSt st d r=some st') (hd:dok d n=true):MemOk P n F ⟨d,.alloc e,ty,ps,af,g⟩ st st' m nx:=by
 unfold allocS at h;split at h
 ·rename_i Z s b h1
  cases hc:allOne (Z.cells.toList.map avOf) with
  | false=>rw [hc] at h;cases h
  | true =>
   rw [hc] at h;simp only [cond_true,Option.some.injEq,Prod.mk.injEq] at h;obtain ⟨rfl,rfl⟩:=h;rw [memSt] at hs
   cases hr:st.refs (nB st) (nR st) with
   | false=>rw [hr] at hs;cases hs
   | true =>
    rw [hr] at hs;injection hs with hs
    subst hs;exact ⟨_,op_alloc (allP_at hT.inf h1) rfl hc hd,newBox_ok hm hf hr (fun m' H' _=>by rw [zeroS_enc];exact .refl _) d⟩
 ·cases h
theorem boxS_ok {e:TypeId} (hm:MOk m nx st) (hf:FrOk m st.blk st.fr F) (h:boxS st e (st.ev y)=some (r,gd)) (hs:memSt st d r=some st') (hd:dok d n=true):MemOk P n F ⟨d,.box e y,ty,ps,af,g⟩ st st' m nx:=by
 unfold boxS at h
 cases hc:allOneS st (st.ev y).cells with
 | false=>rw [hc] at h;cases h
 | true =>
  rw [hc] at h;simp only [cond_true,Option.some.injEq,Prod.mk.injEq] at h;obtain ⟨rfl,rfl⟩:=h;rw [memSt] at hs
  cases hr:st.refs (nB st) (nR st) with
  | false=>rw [hr] at hs;cases hs
  | true =>
   rw [hr] at hs;injection hs with hs
   subst hs;refine ⟨_,op_box (c:=SV.encL m st.blk (st.ev y).cells) (by rw [enc_ev,enc_cells]) (allOneS_enc hc) hd,newBox_ok hm hf hr (fun m' H' hc'=>encL_les hc' _ (cells_refs (ev_refs hr y))) d⟩
theorem le_of_mul {b:Nat} {q:Int} (hb:0<b) (h0:0≤q) (h:(b:Int)*q≤281474976710656):q≤9223372036854775807:=by
 have h1:q*1≤q*(b:Int):=Int.mul_le_mul_of_nonneg_left (by omega) h0;rw [Int.mul_comm q (b:Int)] at h1;omega
theorem makeS_ok {ff:Ty→Ty} (hT:T.ok P) (hm:MOk m nx st) (hf:FrOk m st.blk st.fr F) (h:makeS T ff t y z (st.ev y) (st.ev z)=some (r,gd)) (hg:gd.den=true) (hs:memSt st d r=some st') (hd:dok d n=true):MemOk P n F ⟨d,.makeSlice t y z,ty,ps,af,g⟩ st st' m nx:=by
 have ey:=enc_ev st m nx y;have ez:=enc_ev st m nx z;generalize st.ev y=v at h ey;generalize st.ev z=u at h ez;unfold makeS at h;split at h
 ·rename_i e k L k' C hu;rw [SV.enc] at ey;rw [SV.enc] at ez;split at h
  ·rename_i Z sz b rt hI hty
   cases hc:(allOne (Z.cells.toList.map avOf)&&Nat.beq (Z.cells.toList.map avOf).length sz&&Nat.blt 0 sz&&Nat.blt 0 b) with
   | false=>rw [hc] at h;cases h
   | true =>
    rw [hc] at h;simp only [cond_true] at h;simp only [Bool.and_eq_true] at hc;obtain ⟨⟨⟨c1,c2⟩,c3⟩,c4⟩:=hc;split at h
    ·rename_i x0 hx0;simp only [Option.some.injEq,Prod.mk.injEq] at h;obtain ⟨rfl,rfl⟩:=h;rw [andE_den,andE_den] at hg;obtain ⟨g1,g2⟩:=andB hg;obtain ⟨g2,g3⟩:=andB g2;have g2:=leE_den g2;have hb0:0<b:=by simpa using c4
     have g2:(0:Int)≤(L.den:Int):=g2
     obtain ⟨hLC,g3⟩:(L.den:Int)≤(C.den:Int)∧(b:Int)*(C.den:Int)≤281474976710656:=by
      cases hso:sameOp y z with
      | true =>
       have hCL:(C.den:Int)=(L.den:Int):=sameOp_eq hso ey ez;rw [hso] at g3;have g3:=leE_den g3;rw [mulL_den] at g3;rw [hCL];exact ⟨Int.le_refl _,g3⟩
      | false =>
       rw [hso] at g1 g3;have g3:=leE_den g3;rw [mulL_den] at g3;exact ⟨leE_den g1,g3⟩
     have g4:(C.den:Int)≤9223372036854775807:=le_of_mul hb0 (Int.le_trans g2 hLC) g3;rw [memSt] at hs
     cases hr:st.refs (nB st) (nR st) with
     | false=>rw [hr] at hs;cases hs
     | true =>
      rw [hr] at hs;injection hs with hs
      subst hs;have hz:(Z.cells.toList.map avOf).length=sz:=Nat.eq_of_beq_eq_true c2;have hcell:=exA_ok (m:=m) (H:=st.blk) hx0;rw [zeroS_enc] at hcell;refine ⟨_,op_makeC (L:=(L.den:Int)) (C:=(C.den:Int)) (allP_at hT.und hu) (allP_at hT.inf hI) rfl hz (by simpa using c3) c1 ey ez g2 hLC g3 g4 hd,?_⟩;refine newRow_ok hm hf (by rw [←rt.cells_length true x0.den,hcell.len,hz]) hr ⟨?_,fun i row row' h1 h2=>?_⟩ d (by rw [List.length_replicate])
      ·show (List.map _ (List.replicate _ _)).length=_;rw [List.length_map,List.length_replicate,List.length_replicate]
      ·have h1:((List.replicate (Int.toNat L.den) (x0.den:rt.den)).map (rt.cells true))[i]?=some row:=h1;rw [List.map_replicate,List.getElem?_replicate] at h1;rw [List.getElem?_replicate] at h2;split at h1
       ·rename_i hi;rw [if_pos hi] at h2;injection h1 with h1
        injection h2 with h2
        subst h1;subst h2
        exact hcell
       ·cases h1
    ·cases h
  ·cases h
 ·cases h
theorem chunkS_at {m:Nat→Nat} {H:Nat→SB D} {sz L:Nat} {cs:List (SV D)} {fr:Bool} {rt:Ty} {xs:E D (.list rt)} (h:exRows fr rt (chunkS sz L cs)=some xs):LesRs ((xs.den:List rt.den).map (rt.cells fr)) (chunk sz L (SV.encL m H cs)):=by
 obtain ⟨h1,h2⟩:=exRows_ok (m:=m) (H:=H) h;rw [chunkS_enc];refine ⟨by rw [List.length_map,List.length_map];exact h1,fun i row row' g1 g2=>?_⟩;rw [List.getElem?_map] at g1 g2;obtain ⟨x,hx,e1⟩:=Option.map_eq_some_iff.1 g1;obtain ⟨y,hy,e2⟩:=Option.map_eq_some_iff.1 g2;subst e1;subst e2
 exact h2 i y x hy hx
theorem litS_ok {ff:Ty→Ty} {L:Nat} {parts:Array (Nat×Operand)} (hT:T.ok P) (hm:MOk m nx st) (hf:FrOk m st.blk st.fr F) (h:litS T ff st t L parts=some (r,gd)) (hs:memSt st d r=some st') (hd:dok d n=true):MemOk P n F ⟨d,.buildSlice t L parts,ty,ps,af,g⟩ st st' m nx:=by
 unfold litS at h;split at h
 ·rename_i e hu;split at h
  ·rename_i Z sz b rt hI hty
   cases hc:(allOne (Z.cells.toList.map avOf)&&Nat.beq (Z.cells.toList.map avOf).length sz&&Nat.blt 0 sz&&Nat.ble (L*sz) 16777216&&Nat.beq rt.size sz) with
   | false=>rw [hc] at h;cases h
   | true =>
    rw [hc] at h;simp only [cond_true] at h;simp only [Bool.and_eq_true] at hc;obtain ⟨⟨⟨⟨c1,c2⟩,c3⟩,c4⟩,c5⟩:=hc;split at h
    ·rename_i out hf'
     cases ho:Nat.beq out.length (L*sz) with
     | false=>rw [ho] at h;cases h
     | true =>
      rw [ho] at h;simp only [cond_true] at h;have hf':=fillS_enc (m:=m) hf';rw [zerosS_enc,zeroS_enc,←evPartsS_enc (nx:=nx)] at hf';have hsz:=Nat.eq_of_beq_eq_true c5;have key:=op_buildSlice (st:=st.enc m nx) (d:=d) (ty:=ty) (ps:=ps) (af:=af) (g:=g) (allP_at hT.und hu) (allP_at hT.inf hI) rfl c1 (Nat.eq_of_beq_eq_true c2) (by simpa using c3) c4 hf' (by rw [encL_length];exact Nat.eq_of_beq_eq_true ho) rfl hd
      have fin:∀ fr xs,exRows fr rt (chunkS sz L out)=some xs→r=.new (.row fr rt xs e 0) true→MemOk P n F ⟨d,.buildSlice t L parts,ty,ps,af,g⟩ st st' m nx:=by
       intro fr xs hx er;subst er;rw [memSt] at hs
       cases hr:st.refs (nB st) (nR st) with
       | false=>rw [hr] at hs;cases hs
       | true =>
        rw [hr] at hs;injection hs with hs
        subst hs;exact ⟨_,key,newRow_ok hm hf hsz hr (chunkS_at hx) d (chunk_length _ _ _)⟩
      unfold litRow at h;split at h
      ·rename_i xs hx;simp only [Option.some.injEq,Prod.mk.injEq] at h;exact fin _ _ hx h.1.symm
      ·split at h
       ·rename_i xs hx;simp only [Option.some.injEq,Prod.mk.injEq] at h;exact fin _ _ hx h.1.symm
       ·cases h
    ·cases h
  ·cases h
 ·cases h
theorem op_store_elt' {s:ASt} {Z:Option Value} {sl b:Nat} {id q i o sz:Nat} {rows:List (List AV)} {e:TypeId} {row vs:List AV} (hx:s.ev y=.elt id q i o) (hb:look .dead s.heap id=.row sz rows e) (hm:q=rows.length) (hr:∀ row',rows[i]?=some row'→row'=row) (hy:(s.ev z).cells=vs) (h1:allOne vs=true) (hI:tyI P t=some (Z,sl,b)) (hs:vs.length=sl) (hle:o+sl≤sz) :
  OpV P n ⟨none,.store t y z,ty,ps,af,g⟩ s (s.hset id (.row sz (rows.set i (setR row o vs)) e)):=.mk fun K A w ⟨G,rr⟩=>by
 have e1:=rr.ev y;rw [hx] at e1
 have hi:i<rows.length:=by
  cases e1 with
  | dat h=>cases h
  | elt _ _ _ _ _ _ hin=>omega
 have hrow:rows[i]?=some row:=by
  rw [List.getElem?_eq_getElem hi,hr _ (List.getElem?_eq_getElem hi)]
 exact (op_store_elt hx hb hm hrow hy h1 hI hs hle).out K A w ⟨G,rr⟩
theorem memLe_box {id:Nat} {cs cs':List (SV D)} {e:TypeId} {pB:Nat→Bool} {pR:Nat→Nat→Bool} (h:st.blk id=.box cs e):MemLe m st.blk m (st.hset id (.box cs' e)).blk pB pR:=by
 refine ⟨fun k _=>.inr ⟨?_,rfl⟩,fun k v _=>.inr ⟨?_,rfl⟩⟩
 ·unfold isBox;rw [hset_blk];by_cases e':id=k
  ·subst e';rw [if_pos rfl,h]
  ·rw [if_neg e']
 ·unfold rowLen;rw [hset_blk];by_cases e':id=k
  ·subst e';rw [if_pos rfl,h]
  ·rw [if_neg e']
theorem memLe_set {id:Nat} {fr fr':Bool} {rt:Ty} {xs xs':E D (.list rt)} {e ver:Nat} {pB:Nat→Bool} {pR:Nat→Nat→Bool} (h:st.blk id=.row fr rt xs e ver) (hl:List.length xs'.den=List.length xs.den):MemLe m st.blk m (st.hset id (.row fr' rt xs' e ver)).blk pB pR:=by
 refine ⟨fun k _=>.inr ⟨?_,rfl⟩,fun k v _=>.inr ⟨?_,rfl⟩⟩
 ·unfold isBox;rw [hset_blk];by_cases e':id=k
  ·subst e';rw [if_pos rfl,h]
  ·rw [if_neg e']
 ·unfold rowLen;rw [hset_blk];by_cases e':id=k
  ·subst e';rw [if_pos rfl,h];simp only [hl]
  ·rw [if_neg e']
theorem refs_all (st:SSt D):st.refs (fun _=>true) (fun _ _=>true)=true:=refs_all0 st
theorem storeS_ok (hT:T.ok P) (hm:MOk m nx st) (hf:FrOk m st.blk st.fr F) (h:storeS T st t (st.ev y) (st.ev z)=some (r,gd)) (hs:memSt st none r=some st'):MemOk P n F ⟨none,.store t y z,ty,ps,af,g⟩ st st' m nx:=by
 have ey:=enc_ev st m nx y;have ez:=enc_ev st m nx z;have hzc:=enc_cells (m:=m) (H:=st.blk) (st.ev z);rw [←ez] at hzc;have hone:allOneS st (st.ev z).cells=true→allOne ((st.enc m nx).ev z).cells=true:=fun h=>by rw [hzc];exact allOneS_enc h
 generalize st.ev y=v at h ey;unfold storeS at h;generalize (st.ev z).cells=vs at h hzc hone;split at h
 ·rename_i Z s b hI
  cases hc:(allOneS st vs&&Nat.beq vs.length s) with
  | false=>rw [hc] at h;cases h
  | true =>
   rw [hc] at h;simp only [cond_true] at h;rw [Bool.and_eq_true] at hc;have hls:=Nat.eq_of_beq_eq_true hc.2;have h1:=hone hc.1;rw [hzc] at h1;split at h
   ·rename_i id o;split at h
    ·rename_i cs e hb
     cases hl:Nat.ble (o+s) cs.length with
     | false=>rw [hl] at h;cases h
     | true =>
      rw [hl] at h;simp only [cond_true,Option.some.injEq,Prod.mk.injEq] at h;obtain ⟨rfl,rfl⟩:=h;simp only [memSt,Option.some.injEq] at hs;subst hs;have hi:isBox st.blk id=true:=by unfold isBox;rw [hb]
      rw [SV.enc,hi] at ey;have hlive:st.blk id≠.dead:=by rw [hb];simp
      have hbb:=enc_blk hm hlive;rw [hb,SB.enc] at hbb;refine ⟨_,op_store_box ey hbb hzc h1 (allP_at hT.inf hI) (by rw [encL_length];exact hls) (by rw [encL_length];exact Nat.le_of_ble_eq_true hl),?_⟩;refine StL.of3 (hset_les hm (.refl _) (by rw [hb];exact SB.norm_box _ _) (SB.norm_box _ _) (memLe_box hb) (refs_all st) ?_ hf);rw [SB.enc,setRS_enc]
      have hH:∀ l:List (SV D),LesL (SV.encL m (st.hset id (.box (setRS cs o vs) e)).blk l) (SV.encL m st.blk l):=fun l=>encL_les (memLe_box (pB:=fun _=>true) (pR:=fun _ _=>true) hb) l (by
       induction l with
       | nil=>rw [SV.refsL]
       | cons c l ih =>
        have:=refs_all (⟨[(0,c)],[],[],[],[],0⟩:SSt D);unfold SSt.refs at this;simp only [refsR,Bool.and_eq_true] at this
        rw [SV.refsL,this.1.1,ih];rfl)
      exact .box e (setR_les (hH cs) (hH vs) o)
    ·cases h
   ·rename_i id ver k i o;split at h
    ·rename_i fr rt xs e ver' hb
     cases hl:(Nat.beq ver ver'&&Nat.ble (o+s) rt.size) with
     | false=>rw [hl] at h;cases h
     | true =>
      rw [hl] at h;simp only [cond_true] at h;rw [Bool.and_eq_true] at hl;have hlive:st.blk id≠.dead:=by rw [hb];simp
      have hbb:=enc_blk hm hlive;rw [hb,SB.enc] at hbb;rw [SV.enc,rowLen_eq hb hl.1] at ey
      have key:∀ (fr':Bool) (x:E D rt),(!fr'||fr)=true→exA fr' rt (setRS (cellsE fr rt (.at xs i)) o vs)=some x→st'=st.hset id (.row fr' rt (.set xs i x) e ver')→MemOk P n F ⟨none,.store t y z,ty,ps,af,g⟩ st st' m nx:=by
       intro fr' x hfr hx e';subst e';have hcell:=exA_ok (m:=m) (H:=st.blk) hx;rw [setRS_enc,cellsE_enc] at hcell;refine ⟨_,op_store_elt' ey hbb (rows_len _).symm (fun row' hr=>at_row hr) hzc h1 (allP_at hT.inf hI) (by rw [encL_length];exact hls) (Nat.le_of_ble_eq_true hl.2),?_⟩;refine StL.of3 (hset_les hm (.refl _) (by rw [hb];exact SB.norm_row _ _ _ _ _) (SB.norm_row _ _ _ _ _) (memLe_set hb ?_) (refs_all st) ?_ hf)
       ·show List.length (List.set _ _ _)=_;rw [List.length_set]
       ·exact .rows (rows_set hfr hcell)
      split at h
      ·rename_i x hx;simp only [Option.some.injEq,Prod.mk.injEq] at h;obtain ⟨rfl,rfl⟩:=h;simp only [memSt,Option.some.injEq] at hs;exact key fr x (by cases fr <;> rfl) hx hs.symm
      ·split at h
       ·rename_i x hx;simp only [Option.some.injEq,Prod.mk.injEq] at h;obtain ⟨rfl,rfl⟩:=h;simp only [memSt,Option.some.injEq] at hs;exact key false x rfl hx hs.symm
       ·cases h
    ·cases h
   ·cases h
 ·cases h
theorem nat_of1 {a c:Nat} (h:(a:Int)*((c:Nat):Int)≤140737488355328):a*c≤140737488355328:=by
 rw [←Int.natCast_mul] at h;omega
theorem nat_of2 {a b c:Nat} (h:((a:Int)+(b:Int))*((c:Nat):Int)≤140737488355328):(a+b)*c≤140737488355328:=by
 rw [←Int.natCast_add,←Int.natCast_mul] at h;omega
theorem srcS_ok {rt:Ty} {fr:Bool} {ys:E D (.list rt)} (hfl:rt.flatA=true) (hm:MOk m nx st) (h:srcS st rt (st.ev y)=some (fr,ys)):SrcA (st.enc m nx).heap rt.size ((st.enc m nx).ev y) ((ys.den:List rt.den).map (rt.cells fr)):=by
 have ey:=enc_ev st m nx y;generalize st.ev y=v at h ey;rw [ey];unfold srcS at h;split at h
 ·rename_i fr' t' xs;split at h
  ·rename_i ht _;subst ht;simp only [Option.some.injEq,Prod.mk.injEq] at h;obtain ⟨rfl,rfl⟩:=h;rw [SV.enc];refine .ro _ _ fun row hr=>?_
   obtain ⟨x,_,rfl⟩:=List.mem_map.1 hr;exact ⟨t'.cells_length _ x,t'.cells_one _ x hfl⟩
  ·cases h
 ·rename_i id ver;split at h
  ·rename_i fr' t' xs e v hb
   cases hv:Nat.beq ver v with
   | false=>rw [hv] at h;cases h
   | true =>
    rw [hv] at h;simp only [cond_true] at h;split at h
    ·rename_i ht _;subst ht;simp only [Option.some.injEq,Prod.mk.injEq] at h;obtain ⟨rfl,rfl⟩:=h;rw [SV.enc,rowLen_eq hb hv];have hbb:=enc_blk hm (k:=id) (by rw [hb];simp);rw [hb,SB.enc] at hbb;exact .osl _ _ _ _ hbb (rows_len _).symm
    ·cases h
  ·cases h
 ·simp only [Option.some.injEq,Prod.mk.injEq] at h;obtain ⟨rfl,rfl⟩:=h;rw [SV.enc];exact .nils
 ·cases h
theorem srcC_ok {rt:Ty} {fr:Bool} {ys:E D (.list rt)} (hfl:rt.flatA=true) (hm:MOk m nx st) (hG:(srcG st (st.ev y)).den=true) (h:srcC st rt (st.ev y)=some (fr,ys)):SrcA (st.enc m nx).heap rt.size ((st.enc m nx).ev y) ((ys.den:List rt.den).map (rt.cells fr)):=by
 unfold srcC at h;split at h
 ·rename_i id ver lo hi hev;split at h
  ·rename_i fr' t' xs e v hb
   cases hv:Nat.beq ver v with
   | false=>rw [hv] at h;cases h
   | true =>
    rw [hv] at h;simp only [cond_true] at h;split at h
    ·rename_i ht _;subst ht;simp only [Option.some.injEq,Prod.mk.injEq] at h;obtain ⟨rfl,rfl⟩:=h;rw [enc_ev,hev,SV.enc,rowLen_eq hb hv];have hbb:=enc_blk hm (k:=id) (by rw [hb];simp);rw [hb,SB.enc] at hbb;refine .vsl _ _ _ _ _ _ _ hbb (rows_len _).symm ?_;rw [←List.map_drop,←List.map_take];show _=((((xs.den:List t'.den).take (hi.den:Int).toNat).drop (lo.den:Int).toNat)).map (t'.cells fr');rw [List.drop_take]
    ·cases h
  ·cases h
 ·rename_i e hev;split at h
  ·rename_i t' xs ha;obtain ⟨e0,hb⟩:=arnOf_blk ha;split at h
   ·rename_i ht _;subst ht;simp only [Option.some.injEq,Prod.mk.injEq] at h;obtain ⟨rfl,rfl⟩:=h
    have hG:(arnN xs e).den=true:=by
     unfold srcG at hG;rw [hev] at hG;simp only [ha] at hG;exact hG
    rcases arnN_den hG with ⟨hc,hG⟩ | ⟨hc,hn⟩
    ·obtain ⟨a1,a2,a3,a4,a5⟩:=arn_at hm hb hG;rw [enc_ev,hev,SV.enc,a1];show SrcA _ _ _ (((bif (leF (.iL .i64 0) e.aixK').den then (E.at xs e.aixK').den else []):List t'.den).map (t'.cells false));rw [hc];exact .osl _ _ _ _ a2 (rows_len _).symm
    ·rw [enc_ev,hev,SV.enc,arn_nil hn];show SrcA _ _ _ (((bif (leF (.iL .i64 0) e.aixK').den then (E.at xs e.aixK').den else []):List t'.den).map (t'.cells false));rw [hc];exact .nils
   ·cases h
  ·cases h
 ·exact srcS_ok hfl hm h
theorem appS_ok {ff:Ty→Ty} (hT:T.ok P) (hm:MOk m nx st) (hf:FrOk m st.blk st.fr F) (h:appS T ff st t (st.ev y) (st.ev z)=some (r,gd)) (hg:gd.den=true) (hs:memSt st d r=some st') (hd:dok d n=true):MemOk P n F ⟨d,.call ⟨.builtin .append,⟨[y,z]⟩,⟨[t,t]⟩⟩,ty,ps,af,g⟩ st st' m nx:=by
 have ey:=enc_ev st m nx y;generalize st.ev y=v at h ey;unfold appS at h;split at h
 ·rename_i e hu;split at h
  ·rename_i Z sz b hI
   cases hc:(Nat.beq Z.cells.size sz&&Nat.blt 0 sz) with
   | false=>rw [hc] at h;cases h
   | true =>
    rw [hc] at h;simp only [cond_true] at h;rw [Bool.and_eq_true] at hc;have hz:=Nat.eq_of_beq_eq_true hc.1;have h0:0<sz:=Nat.le_of_ble_eq_true hc.2;split at h
    ·rename_i id ver;split at h
     ·rename_i fr rt xs e' v hb
      cases hc2:(Nat.beq ver v&&(Nat.beq e' e&&(Nat.beq sz rt.size&&rt.flatA))) with
      | false=>rw [hc2] at h;cases h
      | true =>
       rw [hc2] at h;simp only [cond_true] at h;simp only [Bool.and_eq_true] at hc2;obtain ⟨hv,he,hsz,hfl⟩:=hc2;have he:=Nat.eq_of_beq_eq_true he;have hsz:=Nat.eq_of_beq_eq_true hsz;subst he;subst hsz;split at h
       ·rename_i fr' ys hy
        cases hr:st.refs (fun _=>true) (fun i w=>!(Nat.beq i id&&Nat.beq w (v+1))) with
        | false=>rw [hr] at h;cases h
        | true =>
         rw [hr] at h;simp only [cond_true,Option.some.injEq,Prod.mk.injEq] at h;obtain ⟨rfl,rfl⟩:=h;simp only [memSt,Option.some.injEq] at hs;subst hs;have hlive:st.blk id≠.dead:=by rw [hb];simp
         have hbb:=enc_blk hm hlive;rw [hb,SB.enc] at hbb;rw [SV.enc,rowLen_eq hb hv] at ey;obtain ⟨hG,hg⟩:=andE_b hg;have hsrc:=srcC_ok (nx:=nx) hfl hm hG hy;have hg:=leE_den hg;have hg:((List.length xs.den:Int)+(List.length ys.den:Int))*((bmul b:Nat):Int)≤140737488355328:=hg;have h63:(List.length xs.den+List.length ys.den)*bmul b≤140737488355328:=nat_of2 hg;refine ⟨_,op_append ey hbb rfl (rows_len _).symm rfl hsrc (allP_at hT.und hu) (allP_at hT.inf hI) hz (by rw [rows_len,rows_len];exact h63) hd,?_⟩
         have hnew:rowLen (st.hset id (.row (fr&&fr') rt (.app xs ys) e' (v+1))).blk id (v+1)=some (List.length xs.den+List.length ys.den):=by
          unfold rowLen;rw [hset_blk,if_pos rfl];simp only [Nat.beq_refl,cond_true];show some (List.length (List.append _ _))=_;rw [List.append_eq,List.length_append]
         have hle:MemLe m st.blk m (st.hset id (.row (fr&&fr') rt (.app xs ys) e' (v+1))).blk (fun _=>true) (fun i w=>!(Nat.beq i id&&Nat.beq w (v+1))):=by
          refine ⟨fun k _=>.inr ⟨?_,rfl⟩,fun k w hw=>?_⟩
          ·unfold isBox;rw [hset_blk];by_cases e1:id=k
           ·subst e1;rw [if_pos rfl,hb]
           ·rw [if_neg e1]
          ·by_cases e1:id=k
           ·subst e1;have hw:(!(Nat.beq id id&&Nat.beq w (v+1)))=true:=hw;rw [Nat.beq_refl,Bool.true_and] at hw;refine .inl ?_;unfold rowLen;rw [hset_blk,if_pos rfl]
            cases hq:Nat.beq w (v+1) with
            | true=>rw [hq] at hw;cases hw
            | false=>simp only [hq];rfl
           ·refine .inr ⟨?_,rfl⟩;unfold rowLen;rw [hset_blk,if_neg e1]
         have hst:=hset_les (b:=.row (fr&&fr') rt (.app xs ys) e' (v+1)) (b':=.row rt.size ((xs.den:List rt.den).map (rt.cells fr)++(ys.den:List rt.den).map (rt.cells fr')) e') hm (.refl _) (by rw [hb];exact SB.norm_row _ _ _ _ _) (SB.norm_row _ _ _ _ _) hle hr (by
          rw [SB.enc];refine .rows ?_;show LesRs (((xs.den:List rt.den)++(ys.den:List rt.den)).map (rt.cells (fr&&fr'))) _;rw [List.map_append]
          exact (rows_le (by cases fr <;> cases fr' <;> rfl) rt _).append (rows_le (by cases fr <;> cases fr' <;> rfl) rt _)) hf
         refine ⟨m,nx,put_mok hst.1 d _,LeS.rle ?_,?_⟩
         ·show LeS (((st.hset id _).put d (.osl id (v+1))).enc m nx) _;rw [put_enc];refine hst.2.1.put ?_;rw [SV.enc,hnew,rows_len,rows_len];exact .refl _
         ·show FrOk m ((st.hset id _).put d (.osl id (v+1))).blk _ _;rw [put_blk];have:=hst.2.2
          cases d <;> exact this
       ·cases h
     ·cases h
    ·split at h
     ·rename_i rt hty
      cases hc2:(Nat.beq sz rt.size&&rt.flatA) with
      | false=>rw [hc2] at h;cases h
      | true =>
       rw [hc2] at h;simp only [cond_true] at h;rw [Bool.and_eq_true] at hc2;have hsz:=Nat.eq_of_beq_eq_true hc2.1;subst hsz;split at h
       ·rename_i fr' ys hy;simp only [Option.some.injEq,Prod.mk.injEq] at h;obtain ⟨rfl,rfl⟩:=h;rw [memSt] at hs
        cases hr:st.refs (nB st) (nR st) with
        | false=>rw [hr] at hs;cases hs
        | true =>
         rw [hr] at hs;injection hs with hs
         subst hs;rw [SV.enc] at ey;obtain ⟨hG,hg⟩:=andE_b hg;have hsrc:=srcC_ok (nx:=nx) hc2.2 hm hG hy;have hg:=leE_den hg;have hg:(List.length ys.den:Int)*((bmul b:Nat):Int)≤140737488355328:=hg;have h63:List.length ys.den*bmul b≤140737488355328:=nat_of1 hg;exact ⟨_,op_append_nil ey rfl hsrc (allP_at hT.und hu) (allP_at hT.inf hI) h0 hz (by rw [rows_len];exact h63) hd,newRow_ok hm hf rfl hr ⟨rfl,fun i a b h1 h2=>by rw [h1] at h2;injection h2 with h2;subst h2;exact .refl _⟩ d rfl⟩
       ·cases h
     ·cases h
    ·cases h
  ·cases h
 ·cases h
theorem mem0_ok {o:Oper} (hT:T.ok P) (hm:MOk m nx st) (hf:FrOk m st.blk st.fr F) (h:mem0 T st o.dst o.op=some (r,gd)) (hg:gd.den=true) (hs:memSt st o.dst r=some st') (hd:dok o.dst n=true):MemOk P n F o st st' m nx:=by
 obtain ⟨d,op,ty,ps,af,g⟩:=o;simp only at h hs;have hd:dok d n=true:=hd;unfold mem0 at h;split at h
 ·exact allocS_ok hT hm hf h hs hd
 ·exact boxS_ok hm hf h hs hd
 ·split at h
  ·exact storeS_ok hT hm hf h hs
  ·cases h
 ·exact makeS_ok hT hm hf h hg hs hd
 ·exact litS_ok hT hm hf h hs hd
 ·rename_i x y t t'
  cases ht:Nat.beq t' t with
  | false=>rw [ht] at h;cases h
  | true =>
   rw [ht] at h;have:=Nat.eq_of_beq_eq_true ht;subst this;exact appS_ok hT hm hf h hg hs hd
 ·cases h
theorem encH_tr {m m':Nat→Nat} {H H':Nat→SB D} {pB:Nat→Bool} {pR:Nat→Nat→Bool} (h:MemLe m H m' H' pB pR) {id k nx:Nat} (hid:m' id=nx) (hk:k≠nx) (hm':∀ j,j≠id→m' j=m j) :
  ∀ (l:List (Nat×SB D)),refsH pB pR l=true→(∀ p ∈ l,m p.1=m id→p.1=id)→(k=m id→look .dead (encH m' H' l) k=.dead)∧(k≠m id→LesB (look .dead (encH m' H' l) k) (look .dead (encH m H l) k))
 | [],_,_=>⟨fun _=>rfl,fun _=>.refl _⟩
 |(j,b)::l,hr,hinj=>by
  rw [refsH,Bool.and_eq_true] at hr;obtain ⟨i1,i2⟩:=encH_tr h hid hk hm' l hr.2 (fun p hp=>hinj p (List.mem_cons_of_mem _ hp));show (k=m id→look .dead ((m' j,b.enc m' H')::encH m' H' l) k=.dead)∧(k≠m id→LesB (look .dead ((m' j,b.enc m' H')::encH m' H' l) k) (look .dead ((m j,b.enc m H)::encH m H l) k));rw [look_cons,look_cons];by_cases e:j=id
  ·subst e;rw [hid,if_neg (Ne.symm hk)];exact ⟨i1,fun hne=>by rw [if_neg (Ne.symm hne)];exact i2 hne⟩
  ·rw [hm' j e];refine ⟨fun ek=>?_,fun hne=>?_⟩
   ·rw [if_neg (fun e'=>e (hinj (j,b) (List.mem_cons_self ..) (by rw [←ek];exact e')))];exact i1 ek
   ·split
    ·exact encB_les h b hr.1
    ·exact i2 hne
theorem trunc_stl {id fr' e v k:Nat} (d:Option Nat) {fr:Bool} {rt:Ty} {xs xs':E D (.list rt)} (hm:MOk m nx st) (hf:FrOk m st.blk st.fr F) (hb:st.blk id=.row fr rt xs e v) (hr:st.refs (fun _=>true) (fun i w=>!(Nat.beq i id&&Nat.beq w (v+1)))=true)
  (hxs:(xs'.den:List rt.den)=(xs.den:List rt.den).take k) (hk:k≤List.length xs.den) (_hfr:fr'=0) :
  StL F ((st.hset id (.row fr rt xs' e (v+1))).put d (.osl id (v+1))) ((⟨(st.enc m nx).regs,(nx,.row rt.size (((xs.den:List rt.den).map (rt.cells fr)).take k) e)::(m id,.dead)::(st.enc m nx).heap,nx+1⟩:ASt).put d (.osl nx k)):=by
 let b:SB D:=.row fr rt xs' e (v+1)
 let m':Nat→Nat:=fun j=>if j=id then nx else m j
 have hid:m' id=nx:=if_pos rfl;have hm':∀ j,j≠id→m' j=m j:=fun j h=>if_neg h
 have hlid:st.blk id≠.dead:=by rw [hb];simp
 have hbl:∀ j,(st.hset id b).blk j=if id=j then b else st.blk j:=fun j=>hset_blk st id b j
 have hc:MemLe m st.blk m' (st.hset id b).blk (fun _=>true) (fun i w=>!(Nat.beq i id&&Nat.beq w (v+1))):=by
  refine ⟨fun j _=>?_,fun j w hp=>?_⟩
  ·by_cases e1:j=id
   ·subst e1
    left
    unfold isBox;rw [hbl,if_pos rfl]
   ·right
    refine ⟨?_,hm' j e1⟩;unfold isBox;rw [hbl,if_neg (Ne.symm e1)]
  ·by_cases e1:j=id
   ·subst e1
    left
    have hw:Nat.beq w (v+1)=false:=by
     have hp:(!(Nat.beq j j&&Nat.beq w (v+1)))=true:=hp;rw [Nat.beq_refl,Bool.true_and] at hp;simpa using hp
    unfold rowLen;rw [hbl,if_pos rfl];show (bif Nat.beq w (v+1) then _ else none)=none;rw [hw];rfl
   ·right
    refine ⟨?_,hm' j e1⟩;unfold rowLen;rw [hbl,if_neg (Ne.symm e1)]
 unfold SSt.refs at hr;simp only [Bool.and_eq_true] at hr;obtain ⟨r1,r2,r3,r4,r5⟩:=hr
 have hlv:∀ j,(st.hset id b).blk j≠.dead→st.blk j≠.dead:=by
  intro j hj;rw [hbl] at hj;by_cases e1:id=j
  ·subst e1;exact hlid
  ·rw [if_neg e1] at hj;exact hj
 have hidA:(st.blk id).isA=false:=by rw [hb];rfl
 have hA:=hset_arn (st:=st) (id:=id) (b:=b) hidA rfl;have h0:(st.blk 0).isA=true→m' 0=m 0:=fun h=>hm' 0 (fun e=>by subst e;rw [hb] at h;cases h)
 have hmok:MOk m' (nx+1) (st.hset id b):=by
  refine ⟨fun j hj=>?_,fun j j' hj hj' e1=>?_,fun p hp=>?_,fun h=>?_,?_⟩
  ·by_cases e2:j=id
   ·rw [e2,hid];omega
   ·rw [hm' j e2];have:=hm.lt j (hlv j hj);omega
  ·by_cases e2:j=id
   ·by_cases e3:j'=id
    ·omega
    ·rw [hm' j' e3,e2,hid] at e1;have:=hm.lt j' (hlv j' hj');omega
   ·by_cases e3:j'=id
    ·rw [hm' j e2,e3,hid] at e1;have:=hm.lt j (hlv j hj);omega
    ·rw [hm' j e2,hm' j' e3] at e1;exact hm.inj j j' (hlv j hj) (hlv j' hj') e1
  ·rcases List.mem_cons.1 hp with rfl | hp
   ·exact ⟨hm.live hlid,by simp [b]⟩
   ·exact hm.keys p hp
  ·rw [hA.1] at h;rw [h0 h];exact hm.ar' h
  ·have:=hm.ge.1;refine ⟨by omega,fun k hk=>?_⟩;by_cases e2:k=id
   ·rw [e2,hid];exact this
   ·rw [hm' k e2];exact hm.ge.2 k (hlv k hk)
 have hle:LeS ((st.hset id b).enc m' (nx+1)) ⟨(st.enc m nx).regs,(nx,.row rt.size (((xs.den:List rt.den).map (rt.cells fr)).take k) e)::(m id,.dead)::(st.enc m nx).heap,nx+1⟩:=by
  refine ⟨fun j=>?_,fun j=>?_,rfl⟩
  ·show Les (look .any (encR m' (st.hset id b).blk (st.regs++st.kp)) j) (look .any (encR m st.blk (st.regs++st.kp)) j);exact encR_les hc _ (by rw [refsR_append,r1,r2];rfl) j
  ·show LesB _ (look .dead ((nx,.row rt.size (((xs.den:List rt.den).map (rt.cells fr)).take k) e)::(m id,.dead)::(st.enc m nx).heap) j)
   have hin:∀ B B',((st.blk 0).isA=true→B'=B)→((st.hset id b).blk 0).rows B'=(st.blk 0).rows B:=fun B B' hB=>by
    rw [hA.2]
    cases hh:(st.blk 0).isA with
    | true=>rw [hB hh]
    | false=>rw [isA_rows hh,isA_rows hh]
   rw [enc_look hmok,hA.1,hin (m 0) (m' 0) h0]
   cases hc2:((st.blk 0).isA&&Nat.blt j (m' 0)) with
   | true =>
    rw [Bool.and_eq_true] at hc2;have h1:j<m 0:=by rw [←h0 hc2.1,←Nat.blt_eq];exact hc2.2
    have h2:=hm.lt 0 (fun e=>by rw [e] at hc2;cases hc2.1);have h3:=(hm.ar hc2.1).2 id hlid;rw [cond_true,look_cons,if_neg (by omega),look_cons,if_neg (by omega),enc_look hm,hc2.1,show Nat.blt j (m 0)=true by rw [Nat.blt_eq];exact h1];exact .refl _
   | false =>
   rw [cond_false]
   have hold:look .dead (st.enc m nx).heap j=look .dead (encH m st.blk (st.heap++st.hk)) j:=by
    rw [enc_look hm]
    cases hh:(st.blk 0).isA with
    | false=>rfl
    | true=>rw [hh,h0 hh] at hc2;rw [hc2];rfl
   have hold:look .dead ((nx,.row rt.size (((xs.den:List rt.den).map (rt.cells fr)).take k) e)::(m id,.dead)::(st.enc m nx).heap) j=look .dead ((nx,.row rt.size (((xs.den:List rt.den).map (rt.cells fr)).take k) e)::(m id,.dead)::encH m st.blk (st.heap++st.hk)) j:=by
    rw [look_cons,look_cons,look_cons,look_cons,hold]
   rw [hold];show LesB (look .dead ((m' id,b.enc m' (st.hset id b).blk)::encH m' (st.hset id b).blk (st.heap++st.hk)) j) _;rw [look_cons,look_cons,hid];by_cases e1:nx=j
   ·rw [if_pos e1,if_pos e1];show LesB (.row rt.size ((xs'.den:List rt.den).map (rt.cells fr)) e) _;rw [hxs,List.map_take];exact .refl _
   ·rw [if_neg e1,if_neg e1,look_cons];obtain ⟨t1,t2⟩:=encH_tr hc hid (k:=j) (Ne.symm e1) hm' (st.heap++st.hk) (by rw [refsH_append,r3,r4];rfl) (fun p hp e2=>hm.inj _ _ (hm.key_live hp) hlid e2);by_cases e2:m id=j
    ·rw [if_pos e2,t1 e2.symm];exact .refl _
    ·rw [if_neg e2];exact t2 (Ne.symm e2)
 refine ⟨m',nx+1,put_mok hmok d _,LeS.rle ?_,?_⟩
 ·rw [put_enc];refine hle.put ?_
  have hi:rowLen (st.hset id b).blk id (v+1)=some k:=by
   unfold rowLen;rw [hbl,if_pos rfl];show (bif Nat.beq (v+1) (v+1) then some (List.length xs'.den) else none)=some k;rw [Nat.beq_refl,cond_true,hxs,List.length_take];congr 1;omega
  rw [SV.enc,hi,hid];exact .refl _
 ·rw [put_blk];have:=hf.les' hc r5
  cases d <;> exact this
theorem op_box_pk {s:ASt} {e:TypeId} {c c':List AV} (hc:(s.ev y).cells=c) (h1:allOne c=true) (hl:LesL c' c) (hD:∀ a ∈ c',isD a=true) (hne:c'≠[]) (hd:dok d n=true) :
  OpV P n ⟨d,.box e y,ty,ps,af,g⟩ s (s.put d (.peek c' 0)):=.mk fun K a w ⟨G,r⟩=>by
 subst hc;have hcv:=(r.ev y).cellsV h1;have hb:=below_alloc' w (.cells (a.eval y).cells e);have r2:=r.same hb;have hx:=(r.hr.same hb).2;have hnb:¬ G.own w.heap.size:=fun ho=>by have:=(r.hr.ownlt _ ho).2;omega
 have key:∀ (t:Nat) (x:AV),c'[t]?=some x→∃ u,(a.eval y).cells[t]?=some u∧RelD (w.alloc (.cells (a.eval y).cells e)) G.own G.bs x u:=by
  intro t x hx';have hlt:t<c'.length:=(List.getElem?_eq_some_iff.1 hx').1;have hlt2:t<(s.ev y).cells.length:=by rw [←hl.len];exact hlt
  have hlt3:t<(a.eval y).cells.size:=by rw [hcv.size];exact hlt2
  refine ⟨_,Array.getElem?_eq_getElem hlt3,?_⟩;have hr:=hcv.rel t _ _ (List.getElem?_eq_getElem hlt2) (Array.getElem?_eq_getElem hlt3);exact (((hl.at' t x _ hx' (List.getElem?_eq_getElem hlt2)).rel hr).ext hx).isD (hD x (List.mem_of_getElem? hx'))
 refine ⟨_,_,.inl ?_,G,r2.put (dok_lt hd) (x:=.peek c' 0) (v:=.pointer (some ⟨w.heap.size,0+0,none⟩)) (.peek c' 0 w.heap.size 0 (fun t=>((a.eval y).cells[t]?).getD undef) hne hnb (fun t x hx'=>?_) (fun t x hx'=>?_))⟩
 ·simp [execOp,Instr.box,newVar,newRow]
 ·obtain ⟨u,hu,_⟩:=key t x hx';simp only [hu,Option.getD_some];have:=heap_alloc_new w (.cells (a.eval y).cells e);rw [Nat.zero_add,←hu]
  show (match (w.alloc (.cells (a.eval y).cells e)).heap[w.heap.size]? with
   | some (.cells c _ _)=>c[t]?
   | _=>none)=_
  rw [this]
 ·obtain ⟨u,hu,hr⟩:=key t x hx';simp only [hu,Option.getD_some];exact hr
theorem boxPk_ok {e:TypeId} (hm:MOk m nx st) (hf:FrOk m st.blk st.fr F) (h:boxPk T st e (st.ev y)=some (r,gd)) (hs:memSt st d r=some st') (hd:dok d n=true):MemOk P n F ⟨d,.box e y,ty,ps,af,g⟩ st st' m nx:=by
 unfold boxPk at h;split at h
 ·rename_i t _
  cases hc:(allOneS st (st.ev y).cells&&t.dat&&!(st.ev y).cells.isEmpty) with
  | false=>rw [hc] at h;cases h
  | true =>
   rw [hc] at h;simp only [cond_true] at h;split at h
   ·rename_i x hx;simp only [Option.some.injEq,Prod.mk.injEq] at h;obtain ⟨rfl,rfl⟩:=h;rw [Bool.and_eq_true,Bool.and_eq_true] at hc;have hs:some (st.put d (.pk false t x 0))=some st':=hs;injection hs with hs
    subst hs;have hl:=exA_ok (m:=m) (H:=st.blk) hx;refine ⟨_,op_box_pk (c:=SV.encL m st.blk (st.ev y).cells) (by rw [enc_ev,enc_cells]) (allOneS_enc hc.1.1) hl (Ty.cells_isD _ t _ hc.1.2) (fun e0=>?_) hd,?_⟩
    ·have hl':=hl.len;rw [e0,encL_map,List.length_map] at hl';have h2:=hc.2;rw [List.eq_nil_of_length_eq_zero hl'.symm] at h2;cases h2
    ·refine ⟨m,nx,put_mok hm d _,LeS.rle ?_,?_⟩
     ·rw [put_enc];exact (LeS.refl _).put (.of (by rw [SV.enc]))
     ·rw [put_blk]
      cases d <;> exact hf
   ·cases h
 ·cases h
theorem truncS_ok {o:Oper} (hT:T.ok P) (hm:MOk m nx st) (hf:FrOk m st.blk st.fr F) (h:truncS T st o.op=some (r,gd)) (hg:gd.den=true) (hs:memSt st o.dst r=some st') (hd:dok o.dst n=true):MemOk P n F o st st' m nx:=by
 obtain ⟨d,op,ty,ps,af,g⟩:=o;unfold truncS at h;split at h
 ·rename_i e x heq;have heq:op=.box e x:=heq;subst heq;exact boxPk_ok hm hf h hs hd
 ·rename_i t x y heq;have heq:op=.makeSlice t x y:=heq;subst heq;exact makeS_ok hT hm hf h hg hs hd
 ·rename_i t L parts heq;have heq:op=.buildSlice t L parts:=heq;subst heq;exact litS_ok hT hm hf h hs hd
 ·rename_i x y t t' heq;have heq:op=.call ⟨.builtin .append,⟨[x,y]⟩,⟨[t,t']⟩⟩:=heq;subst heq
  cases ht:Nat.beq t' t with
  | false=>rw [ht] at h;cases h
  | true =>
   rw [ht] at h;have:=Nat.eq_of_beq_eq_true ht;subst this;exact appS_ok hT hm hf h hg hs hd
 ·rename_i t x lo hi heq;have heq:op=.slice t x lo hi none:=heq;subst heq;have ey:=enc_ev st m nx x
  have hn:(hi.map st.ev).isNone=hi.isNone:=by cases hi <;> rfl
  split at h
  ·rename_i e hu;split at h
   ·rename_i id ver Z sz b hx hI;split at h
    ·rename_i fr rt xs e' v hb;split at h
     ·rename_i l hh h1 h2
      cases hc:(Nat.beq ver v&&(Nat.beq sz rt.size&&(l.zero?&&st.refs (fun _=>true) (fun i w=>!(Nat.beq i id&&Nat.beq w (v+1)))))) with
      | false=>rw [hc] at h;cases h
      | true =>
       rw [hc] at h;simp only [cond_true,Option.some.injEq,Prod.mk.injEq] at h;obtain ⟨rfl,rfl⟩:=h;simp only [Bool.and_eq_true] at hc;obtain ⟨c1,c2,c3,c4⟩:=hc;have hsz:=Nat.eq_of_beq_eq_true c2;subst hsz;obtain ⟨b1,_⟩:=bndI_ok (m:=m) (nx:=nx) h1;obtain ⟨b2,b3⟩:=bndI_ok (m:=m) (nx:=nx) h2;rw [zero_den c3] at b1;obtain ⟨g1,g2,g3⟩:=bndG_den hg (fun ha=>by rw [b3 ha];exact Int.le_refl _);rw [hx,SV.enc,rowLen_eq hb c1] at ey;have hbb:=enc_blk hm (k:=id) (by rw [hb];simp);rw [hb,SB.enc] at hbb
       have hs:st'=(st.hset id (.row fr rt (.sub xs (.iL .i64 0) hh) e' (v+1))).put d (.osl id (v+1)):=by
        have hs:some (MR.app st d (.upd id (.row fr rt (.sub xs (.iL .i64 0) hh) e' (v+1)) (some (.osl id (v+1)))))=some st':=hs;injection hs with hs
        exact hs.symm
       rw [hs];have g2':(0:Int)≤hh.den:=g2;have g3':(hh.den:Int)≤(List.length xs.den:Int):=g3;refine ⟨_,op_trunc ey hbb (rows_len _).symm b1 b2 (allP_at hT.und hu) (allP_at hT.inf hI) g2' g3' hd,?_⟩;exact trunc_stl d hm hf hb c4 (xs':=.sub xs (.iL .i64 0) hh) (k:=(hh.den:Int).toNat) rfl (Int.toNat_le.2 g3') rfl
     ·cases h
    ·cases h
   ·cases h
  ·cases h
 ·cases h
theorem newArr_ok (hm:MOk m nx st) (hf:FrOk m st.blk st.fr F) {fr:Bool} {rt:Ty} {xs:E D (.list rt)} {e:TypeId} {rows:List (List AV)} {sz:Nat} (hsz:rt.size=sz) (hr:st.refs (nB st) (nR st)=true) (hb:LesRs ((xs.den:List rt.den).map (rt.cells fr)) rows) (d:Option Nat) {L:Nat} (hL:rows.length=L) :
  StL F (MR.app st d (.newA (.row fr rt xs e 0))) (((st.enc m nx).hnew (.row sz rows e)).put d (.elt (st.enc m nx).nx L 0 0)):=by
 subst hsz;obtain ⟨m',nx',h1,h2,h3,h4⟩:=hnew_les (b:=.row fr rt xs e 0) (b':=.row rt.size rows e) hm (.refl _) hf (SB.norm_row _ _ _ _ _) hr (fun m' hc=>.rows hb);refine ⟨m',nx',put_mok h1 d _,LeS.rle ?_,?_⟩
 ·rw [MR.app,put_enc];refine h2.put ?_;have hi:rowLen (st.hnew (.row fr rt xs e 0)).blk st.nx 0=some (List.length xs.den):=by unfold rowLen;rw [hnew_blk,if_pos rfl];rfl
  show Les (SV.enc m' _ (.elt st.nx 0 (.iL .i64 0) 0)) _;rw [SV.enc,hi,h4,←hL,←hb.len,rows_len];exact .refl _
 ·rw [MR.app,put_blk]
  cases d <;> exact h3
theorem chunk_flat (sz:Nat):∀ (k:Nat) (cs:List AV),cs.length=k*sz→(chunk sz k cs).flatten=cs
 | 0,cs,h=>by
  have:cs=[]:=List.eq_nil_of_length_eq_zero (by omega);subst this;rfl
 | k+1,cs,h=>by
  rw [Nat.add_mul,Nat.one_mul] at h;rw [chunk,List.flatten_cons,chunk_flat sz k _ (by rw [List.length_drop];omega),List.take_append_drop]
theorem chunk_row (sz:Nat):∀ (k:Nat) (cs:List AV),cs.length=k*sz→∀ r ∈ chunk sz k cs,r.length=sz
 | 0,cs,h=>by intro r hr;simp [chunk] at hr
 | k+1,cs,h=>by
  rw [Nat.add_mul,Nat.one_mul] at h;intro r hr;rw [chunk] at hr;rcases List.mem_cons.1 hr with rfl | hr
  ·rw [List.length_take];omega
  ·exact chunk_row sz k _ (by rw [List.length_drop];omega) r hr
theorem arrRow_ok {o:Oper} {e:TypeId} {cs:List (SV D)} (hm:MOk m nx st) (hf:FrOk m st.blk st.fr F) (h:arrRow T e cs=some (r,gd)) (hs:memSt st o.dst r=some st')
  (op:∀ (sz:Nat) (rows:List (List AV)),SV.encL m st.blk cs=rows.flatten→0<sz→0<rows.length→rows.length≤maxLen→(∀ r ∈ rows,r.length=sz)→OpV P n o (st.enc m nx) (((st.enc m nx).hnew (.row sz rows e)).put o.dst (.elt (st.enc m nx).nx rows.length 0 0))):MemOk P n F o st st' m nx:=by
 unfold arrRow at h;split at h
 ·rename_i L el hu;split at h
  ·rename_i Z sz b rt hI hty
   cases hc:(Nat.beq rt.size sz&&Nat.blt 0 sz&&Nat.blt 0 L&&Nat.ble L 65536&&Nat.beq cs.length (L*sz)) with
   | false=>rw [hc] at h;cases h
   | true =>
    rw [hc] at h;simp only [cond_true] at h;simp only [Bool.and_eq_true] at hc;obtain ⟨⟨⟨⟨c1,c2⟩,c3⟩,c4⟩,c5⟩:=hc;have c1:=Nat.eq_of_beq_eq_true c1;have c2:0<sz:=by simpa using c2
    have c3:0<L:=by simpa using c3
    have c4:=Nat.le_of_ble_eq_true c4;have c5:=Nat.eq_of_beq_eq_true c5;have hlen:(SV.encL m st.blk cs).length=L*sz:=by rw [encL_length];exact c5
    have key:=op sz (chunk sz L (SV.encL m st.blk cs)) (chunk_flat sz L _ hlen).symm c2 (by rw [chunk_length];exact c3) (by rw [chunk_length];unfold maxLen;omega) (chunk_row sz L _ hlen)
    have fin:∀ fr xs,exRows fr rt (chunkS sz L cs)=some xs→r=.newA (.row fr rt xs e 0)→MemOk P n F o st st' m nx:=by
     intro fr xs hx er;subst er;rw [memSt] at hs
     cases hr:st.refs (nB st) (nR st) with
     | false=>rw [hr] at hs;cases hs
     | true =>
      rw [hr] at hs;injection hs with hs
      subst hs;exact ⟨_,key,newArr_ok hm hf c1 hr (chunkS_at hx) o.dst rfl⟩
    split at h
    ·rename_i xs hx;simp only [Option.some.injEq,Prod.mk.injEq] at h;exact fin _ _ hx h.1.symm
    ·split at h
     ·rename_i xs hx;simp only [Option.some.injEq,Prod.mk.injEq] at h;exact fin _ _ hx h.1.symm
     ·cases h
  ·cases h
 ·cases h
theorem allocA_ok {e:TypeId} (hT:T.ok P) (hm:MOk m nx st) (hf:FrOk m st.blk st.fr F) (h:allocA T e=some (r,gd)) (hs:memSt st d r=some st') (hd:dok d n=true):MemOk P n F ⟨d,.alloc e,ty,ps,af,g⟩ st st' m nx:=by
 unfold allocA at h;split at h
 ·rename_i Z s b h1
  cases hc:allOne (Z.cells.toList.map avOf) with
  | false=>rw [hc] at h;cases h
  | true =>
   rw [hc] at h;simp only [cond_true] at h;refine arrRow_ok hm hf h hs fun sz rows e1 e2 e3 e4 e5=>?_
   rw [zeroS_enc] at e1;exact op_alloc_arr (allP_at hT.inf h1) e1 (by rw [←e1];exact hc) e2 e3 e4 e5 hd
 ·cases h
theorem boxA_ok {e:TypeId} (hm:MOk m nx st) (hf:FrOk m st.blk st.fr F) (h:boxA T st e (st.ev y)=some (r,gd)) (hs:memSt st d r=some st') (hd:dok d n=true):MemOk P n F ⟨d,.box e y,ty,ps,af,g⟩ st st' m nx:=by
 unfold boxA at h
 cases hc:allOneS st (st.ev y).cells with
 | false=>rw [hc] at h;cases h
 | true =>
  rw [hc] at h;simp only [cond_true] at h;refine arrRow_ok hm hf h hs fun sz rows e1 e2 e3 e4 e5=>?_
  exact op_box_arr (by rw [enc_ev,enc_cells,e1]) (by rw [←e1];exact allOneS_enc hc) e2 e3 e4 e5 hd
theorem storeA_ok (hT:T.ok P) (hm:MOk m nx st) (hf:FrOk m st.blk st.fr F) (h:storeA T st t (st.ev y) (st.ev z)=some (r,gd)) (hg:gd.den=true) (hs:memSt st none r=some st'):MemOk P n F ⟨none,.store t y z,ty,ps,af,g⟩ st st' m nx:=by
 have ey:=enc_ev st m nx y;have ez:=enc_ev st m nx z;have hzc:=enc_cells (m:=m) (H:=st.blk) (st.ev z);rw [←ez] at hzc;generalize st.ev y=v at h ey;unfold storeA at h;split at h
 ·rename_i L el Z s b id ver k2 i o hu hI;split at h
  ·rename_i fr rt xs e ver' hb
   cases hc:(Nat.beq ver ver'&&i.zero?&&Nat.beq o 0&&Nat.blt 0 L&&Nat.beq s (L*rt.size)&&allOneS st (st.ev z).cells&&Nat.beq (st.ev z).cells.length s) with
   | false=>rw [hc] at h;cases h
   | true =>
    rw [hc] at h;simp only [cond_true] at h;simp only [Bool.and_eq_true] at hc;obtain ⟨⟨⟨⟨⟨⟨c1,c2⟩,c3⟩,c4⟩,c5⟩,c6⟩,c7⟩:=hc;split at h
    ·rename_i xs' hx;simp only [Option.some.injEq,Prod.mk.injEq] at h;obtain ⟨rfl,rfl⟩:=h;simp only [memSt,Option.some.injEq] at hs;subst hs;have h3:=Nat.eq_of_beq_eq_true c3;subst h3;have c4:0<L:=by simpa using c4
     have c5:=Nat.eq_of_beq_eq_true c5;have c7:=Nat.eq_of_beq_eq_true c7;have hl:(List.length xs.den:Int)=(L:Int):=of_decide_eq_true hg;have hlive:st.blk id≠.dead:=by rw [hb];simp
     have hbb:=enc_blk hm hlive;rw [hb,SB.enc] at hbb;rw [SV.enc,rowLen_eq hb c1,zero_den c2] at ey;have hch:=chunkS_at (m:=m) (H:=st.blk) hx;have hlen:(SV.encL m st.blk (st.ev z).cells).length=L*rt.size:=by rw [encL_length,c7,c5]
     have hfl:=chunk_flat rt.size L _ hlen;have hone:=allOneS_enc (m:=m) c6;refine ⟨_,op_store_arr (rows':=chunk rt.size L (SV.encL m st.blk (st.ev z).cells)) ey hbb (rows_len _).symm (by omega) (by rw [hfl];exact hzc) (by rw [hfl];exact hone) (allP_at hT.inf hI) (by rw [hfl,hlen,c5]) (by rw [chunk_length];omega) (chunk_row rt.size L _ hlen),?_⟩;refine StL.of3 (hset_les hm (.refl _) (by rw [hb];exact SB.norm_row _ _ _ _ _) (SB.norm_row _ _ _ _ _) (memLe_set hb ?_) (refs_all st) ?_ hf)
     ·have h1:=hch.len;rw [chunk_length,List.length_map] at h1;omega
     ·exact .rows hch
    ·cases h
  ·cases h
 ·cases h
theorem copyS_ok {t':TypeId} (hT:T.ok P) (hm:MOk m nx st) (hf:FrOk m st.blk st.fr F) (h:copyS T st t (st.ev y) (st.ev z)=some (r,gd)) (hg:gd.den=true) (hs:memSt st d r=some st') (hd:dok d n=true):MemOk P n F ⟨d,.call ⟨.builtin .copy,⟨[y,z]⟩,⟨[t,t']⟩⟩,ty,ps,af,g⟩ st st' m nx:=by
 have ey:=enc_ev st m nx y;generalize st.ev y=v at h ey;unfold copyS at h;split at h
 ·rename_i e hu;split at h
  ·rename_i Z sz b id ver hI;split at h
   ·rename_i fr rt xs e' v' hb
    cases hc:(Nat.beq ver v'&&(Nat.beq sz rt.size&&rt.flatA)) with
    | false=>rw [hc] at h;cases h
    | true =>
     rw [hc] at h;simp only [cond_true] at h;simp only [Bool.and_eq_true] at hc;obtain ⟨hv,hsz,hfl⟩:=hc;have hsz:=Nat.eq_of_beq_eq_true hsz;subst hsz;split at h
     ·rename_i fr' ys hy;simp only [Option.some.injEq,Prod.mk.injEq] at h;obtain ⟨rfl,rfl⟩:=h;simp only [memSt,Option.some.injEq] at hs;subst hs;have hlive:st.blk id≠.dead:=by rw [hb];simp
      have hbb:=enc_blk hm hlive;rw [hb,SB.enc] at hbb;rw [SV.enc,rowLen_eq hb hv] at ey;have hsrc:=srcC_ok (nx:=nx) hfl hm hg hy;obtain ⟨k,hk⟩:∃ k,k=Nat.min (List.length ys.den) (List.length xs.den):=⟨_,rfl⟩;have hk1:k≤List.length ys.den:=by rw [hk];exact Nat.min_le_left _ _
      have hk2:k≤List.length xs.den:=by rw [hk];exact Nat.min_le_right _ _
      have hkI:(Min.min (List.length ys.den:Int) (List.length xs.den:Int))=(k:Int):=by
       rw [hk];show (Min.min (List.length ys.den:Int) (List.length xs.den:Int))=((Min.min (List.length ys.den) (List.length xs.den):Nat):Int);omega
      have hden:(E.app (.sub ys (.iL .i64 0) (.ib .min (.len ys) (.len xs))) (.sub xs (.ib .min (.len ys) (.len xs)) (.len xs))).den=(ys.den:List rt.den).take k++(xs.den:List rt.den).drop k:=by
       show (((ys.den:List rt.den).take (Min.min (List.length ys.den:Int) (List.length xs.den:Int)).toNat).drop (0:Int).toNat)++(((xs.den:List rt.den).take ((List.length xs.den:Int)).toNat).drop (Min.min (List.length ys.den:Int) (List.length xs.den:Int)).toNat)=_;rw [hkI,Int.toNat_natCast,Int.toNat_natCast,List.take_length];rfl
      have hlen:List.length (E.app (.sub ys (.iL .i64 0) (.ib .min (.len ys) (.len xs))) (.sub xs (.ib .min (.len ys) (.len xs)) (.len xs))).den=List.length xs.den:=by
       rw [hden];show List.length (List.append _ _)=_;rw [List.append_eq,List.length_append,List.length_take,List.length_drop];omega
      have hop:=op_copy (P:=P) (n:=n) (d:=d) (t':=t') (ty:=ty) (ps:=ps) (af:=af) (g:=g) ey hbb (rows_len _).symm rfl hsrc (allP_at hT.und hu) (allP_at hT.inf hI) hd;rw [rows_len,←hk] at hop;refine ⟨_,hop,?_⟩
      have hst:=hset_les (b:=.row (fr&&fr') rt (.app (.sub ys (.iL .i64 0) (.ib .min (.len ys) (.len xs))) (.sub xs (.ib .min (.len ys) (.len xs)) (.len xs))) e' v') (b':=.row rt.size (((ys.den:List rt.den).map (rt.cells fr')).take k++((xs.den:List rt.den).map (rt.cells fr)).drop k) e') hm (.refl _) (by rw [hb];exact SB.norm_row _ _ _ _ _) (SB.norm_row _ _ _ _ _) (memLe_set hb hlen) (refs_all st) (by
       rw [SB.enc];refine .rows ?_;rw [hden,List.map_append,←List.map_take,←List.map_drop]
       exact (rows_le (by cases fr <;> cases fr' <;> rfl) rt _).append (rows_le (by cases fr <;> cases fr' <;> rfl) rt _)) hf
      refine ⟨m,nx,put_mok hst.1 d _,LeS.rle ?_,?_⟩
      ·show LeS (((st.hset id _).put d (.int .i64 (.ib .min (.len ys) (.len xs)))).enc m nx) _;rw [put_enc];refine hst.2.1.put ?_;rw [SV.enc];have:((E.ib IB.min (E.len ys) (E.len xs)).den:Int)=(k:Int):=hkI;rw [this];exact .refl _
      ·show FrOk m ((st.hset id _).put d (.int .i64 (.ib .min (.len ys) (.len xs)))).blk _ _;rw [put_blk];have:=hst.2.2
       cases d <;> exact this
     ·cases h
   ·cases h
  ·cases h
 ·cases h
theorem copyVS_ok {t':TypeId} (hT:T.ok P) (hm:MOk m nx st) (hf:FrOk m st.blk st.fr F) (h:copyVS T st t (st.ev y) (st.ev z)=some (r,gd)) (hg:gd.den=true) (hs:memSt st d r=some st') (hd:dok d n=true):MemOk P n F ⟨d,.call ⟨.builtin .copy,⟨[y,z]⟩,⟨[t,t']⟩⟩,ty,ps,af,g⟩ st st' m nx:=by
 have ey:=enc_ev st m nx y;generalize st.ev y=v at h ey;unfold copyVS at h;split at h
 ·rename_i e hu;split at h
  ·rename_i Z sz b id ver lo hi hI;split at h
   ·rename_i fr rt xs e' v' hb
    cases hc:(Nat.beq ver v'&&(Nat.beq sz rt.size&&rt.flatA)) with
    | false=>rw [hc] at h;cases h
    | true =>
     rw [hc] at h;simp only [cond_true] at h;simp only [Bool.and_eq_true] at hc;obtain ⟨hv,hsz,hfl⟩:=hc;have hsz:=Nat.eq_of_beq_eq_true hsz;subst hsz;split at h
     ·rename_i fr' ys hy;simp only [Option.some.injEq,Prod.mk.injEq] at h;obtain ⟨rfl,rfl⟩:=h;simp only [memSt,Option.some.injEq] at hs;subst hs;obtain ⟨hG,hg⟩:=andE_b hg;obtain ⟨g1,hg⟩:=andE_b hg;obtain ⟨g2,g3⟩:=andE_b hg;have g1:(0:Int)≤(lo.den:Int):=leE_den g1;have g2:(lo.den:Int)≤(hi.den:Int):=leE_den g2;have g3:(hi.den:Int)≤(List.length xs.den:Int):=leE_den g3;have hlive:st.blk id≠.dead:=by rw [hb];simp
      have hbb:=enc_blk hm hlive;rw [hb,SB.enc] at hbb;rw [SV.enc,rowLen_eq hb hv] at ey;have hsrc:=srcC_ok (nx:=nx) hfl hm hG hy;obtain ⟨lo',hlo⟩:∃ l:Nat,(lo.den:Int)=l:=Int.eq_ofNat_of_zero_le g1;obtain ⟨hi',hhi⟩:∃ l:Nat,(hi.den:Int)=l:=Int.eq_ofNat_of_zero_le (Int.le_trans g1 g2);have hlt:(lo.den:Int).toNat=lo':=by rw [hlo];exact Int.toNat_natCast _
      have hht:(hi.den:Int).toNat=hi':=by rw [hhi];exact Int.toNat_natCast _
      have g2:lo'≤hi':=by rw [hlo,hhi] at g2;exact Int.ofNat_le.1 g2
      have g3:hi'≤List.length xs.den:=by rw [hhi] at g3;exact Int.ofNat_le.1 g3
      simp only [hlt,hht] at ey;obtain ⟨k,hk⟩:∃ k,k=Nat.min (List.length ys.den) (hi'-lo'):=⟨_,rfl⟩;have hk1:k≤List.length ys.den:=by rw [hk];exact Nat.min_le_left _ _
      have hk2:k≤hi'-lo':=by rw [hk];exact Nat.min_le_right _ _
      have hkI:(Min.min (List.length ys.den:Int) ((hi.den:Int)-(lo.den:Int)))=(k:Int):=by
       rw [hk,hlo,hhi];show (Min.min (List.length ys.den:Int) ((hi':Int)-(lo':Int)))=((Min.min (List.length ys.den) (hi'-lo'):Nat):Int);omega
      let xs':E D (.list rt):=.app (.sub xs (.iL .i64 0) lo) (.app (.sub ys (.iL .i64 0) (.ib .min (.len ys) (.ib .sub hi lo))) (.sub xs (.ib .add lo (.ib .min (.len ys) (.ib .sub hi lo))) (.len xs)))
      have hden:(xs'.den:List rt.den)=(xs.den:List rt.den).take lo'++((ys.den:List rt.den).take k++(xs.den:List rt.den).drop (lo'+k)):=by
       show (((xs.den:List rt.den).take (lo.den:Int).toNat).drop (0:Int).toNat)++((((ys.den:List rt.den).take (Min.min (List.length ys.den:Int) ((hi.den:Int)-(lo.den:Int))).toNat).drop (0:Int).toNat)++(((xs.den:List rt.den).take ((List.length xs.den:Int)).toNat).drop ((lo.den:Int)+(Min.min (List.length ys.den:Int) ((hi.den:Int)-(lo.den:Int)))).toNat))=_;have e3:((lo':Int)+(k:Int)).toNat=lo'+k:=by omega
       rw [hkI,hlt,hlo,e3,Int.toNat_natCast,Int.toNat_natCast,List.take_length];rfl
      have hlen:List.length xs'.den=List.length xs.den:=by
       rw [hden];show List.length (List.append _ (List.append _ _))=_;simp only [List.append_eq,List.length_append,List.length_take,List.length_drop];omega
      have hop:=op_copyV (P:=P) (n:=n) (d:=d) (t':=t') (ty:=ty) (ps:=ps) (af:=af) (g:=g) ey hbb (rows_len _).symm rfl hsrc (allP_at hT.und hu) (allP_at hT.inf hI) hd;rw [rows_len,←hk] at hop;refine ⟨_,hop,?_⟩
      have hst:=hset_les (b:=.row (fr&&fr') rt xs' e' v') (b':=.row rt.size (((xs.den:List rt.den).map (rt.cells fr)).take lo'++(((ys.den:List rt.den).map (rt.cells fr')).take k++((xs.den:List rt.den).map (rt.cells fr)).drop (lo'+k))) e') hm (.refl _) (by rw [hb];exact SB.norm_row _ _ _ _ _) (SB.norm_row _ _ _ _ _) (memLe_set hb hlen) (refs_all st) (by
       rw [SB.enc];refine .rows ?_;rw [hden,List.map_append,List.map_append,←List.map_take,←List.map_take,←List.map_drop]
       exact (rows_le (by cases fr <;> cases fr' <;> rfl) rt _).append ((rows_le (by cases fr <;> cases fr' <;> rfl) rt _).append (rows_le (by cases fr <;> cases fr' <;> rfl) rt _))) hf
      refine ⟨m,nx,put_mok hst.1 d _,LeS.rle ?_,?_⟩
      ·show LeS (((st.hset id _).put d (.int .i64 (.ib .min (.len ys) (.ib .sub hi lo)))).enc m nx) _;rw [put_enc];refine hst.2.1.put ?_;rw [SV.enc];have:((E.ib IB.min (E.len ys) (E.ib IB.sub hi lo)).den:Int)=(k:Int):=hkI;rw [this];exact .refl _
      ·show FrOk m ((st.hset id _).put d (.int .i64 (.ib .min (.len ys) (.ib .sub hi lo)))).blk _ _;rw [put_blk];have:=hst.2.2
       cases d <;> exact this
     ·cases h
   ·cases h
  ·cases h
 ·cases h
theorem av_one {v:Value} (h:(avOf v).one=true):v.oneCell'=true:=by
 unfold avOf at h
 split at h <;> first | rfl | (cases h;done)
theorem zapS_ok {t':TypeId} (hT:T.ok P) (hm:MOk m nx st) (hf:FrOk m st.blk st.fr F) (h:zapS T st t t' (st.ev y) (st.ev z)=some (r,gd)) (hg:gd.den=true) (hs:memSt st d r=some st') (hd:dok d n=true):MemOk P n F ⟨d,.call ⟨.builtin .append,⟨[y,z]⟩,⟨[t,t']⟩⟩,ty,ps,af,g⟩ st st' m nx:=by
 have ey:=enc_ev st m nx y;have ez:=enc_ev st m nx z;generalize st.ev y=v0 at h ey;generalize st.ev z=u0 at h ez;unfold zapS at h;split at h
 ·rename_i e kn hu hu';split at h
  ·rename_i Z id ver kq L hI;split at h
   ·rename_i fr rt xs e' v hb
    cases hc:(Nat.beq ver v&&(Nat.beq e' e&&(Nat.beq rt.size 1&&(rt.flatA&&(allOne (Z.cells.toList.map avOf)&&Nat.beq Z.cells.toList.length 1))))) with
    | false=>rw [hc] at h;cases h
    | true =>
     rw [hc] at h;simp only [cond_true] at h;simp only [Bool.and_eq_true] at hc;obtain ⟨hv,he,hsz,hfl,h1,hl1⟩:=hc;have he:=Nat.eq_of_beq_eq_true he;have hsz:=Nat.eq_of_beq_eq_true hsz;have hl1:=Nat.eq_of_beq_eq_true hl1;subst he;split at h
     ·rename_i x0 hx0
      cases hr:st.refs (fun _=>true) (fun i w=>!(Nat.beq i id&&Nat.beq w (v+1))) with
      | false=>rw [hr] at h;cases h
      | true =>
       rw [hr] at h;simp only [cond_true,Option.some.injEq,Prod.mk.injEq] at h;obtain ⟨rfl,rfl⟩:=h;simp only [memSt,Option.some.injEq] at hs;subst hs;obtain ⟨g1,hg⟩:=andE_b hg;obtain ⟨g2,g3⟩:=andE_b hg;have g1:(0:Int)≤(L.den:Int):=leE_den g1;have g2:(List.length xs.den:Int)≤500000:=leE_den g2;have g3:(L.den:Int)≤500000:=leE_den g3
       obtain ⟨c,hc⟩:∃ c,Z.cells.toList=[c]:=by
        match hq:Z.cells.toList,hl1 with
        | [c],_=>exact ⟨c,rfl⟩
       have hcell:=exA_ok (m:=m) (H:=st.blk) hx0;rw [zeroS_enc,hc] at hcell;rw [hc] at h1;have h1c:c.oneCell'=true:=av_one (by simpa [allOne] using h1);have hlive:st.blk id≠.dead:=by rw [hb];simp
       have hbb:=enc_blk hm hlive;rw [hb,SB.enc,hsz] at hbb;rw [SV.enc,rowLen_eq hb hv] at ey;rw [SV.enc] at ez
       have hop:=op_append_zerosG (P:=P) (n:=n) (d:=d) (ty:=ty) (ps:=ps) (af:=af) (g:=g) ey hbb (rows_len _).symm ez g1 (allP_at hT.und hu) (allP_at hT.und hu') (allP_at hT.inf hI) hc rfl h1c (by
        rw [rows_len];obtain ⟨l,hl⟩:∃ l:Nat,(L.den:Int)=l:=Int.eq_ofNat_of_zero_le g1;rw [hl] at g3;have hl2:(L.den:Int).toNat=l:=by rw [hl];exact Int.toNat_natCast _
        have g4:l≤500000:=Int.ofNat_le.1 g3;have g5:List.length xs.den≤500000:=Int.ofNat_le.1 g2;rw [hl2]
        exact Nat.add_le_add g5 g4) hd
       rw [rows_len] at hop;refine ⟨_,hop,?_⟩
       have hlen:List.length ((E.app xs (.rep L x0)).den:List rt.den)=List.length xs.den+(L.den:Int).toNat:=by
        show List.length (List.append _ (List.replicate _ _))=_;rw [List.append_eq,List.length_append,List.length_replicate]
       have hnew:rowLen (st.hset id (.row fr rt (.app xs (.rep L x0)) e' (v+1))).blk id (v+1)=some (List.length xs.den+(L.den:Int).toNat):=by
        unfold rowLen;rw [hset_blk,if_pos rfl];simp only [Nat.beq_refl,cond_true];rw [hlen]
       have hle:MemLe m st.blk m (st.hset id (.row fr rt (.app xs (.rep L x0)) e' (v+1))).blk (fun _=>true) (fun i w=>!(Nat.beq i id&&Nat.beq w (v+1))):=by
        refine ⟨fun k _=>.inr ⟨?_,rfl⟩,fun k w hw=>?_⟩
        ·unfold isBox;rw [hset_blk];by_cases e1:id=k
         ·subst e1;rw [if_pos rfl,hb]
         ·rw [if_neg e1]
        ·by_cases e1:id=k
         ·subst e1;have hw:(!(Nat.beq id id&&Nat.beq w (v+1)))=true:=hw;rw [Nat.beq_refl,Bool.true_and] at hw;refine .inl ?_;unfold rowLen;rw [hset_blk,if_pos rfl]
          cases hq:Nat.beq w (v+1) with
          | true=>rw [hq] at hw;cases hw
          | false=>simp only [hq];rfl
         ·refine .inr ⟨?_,rfl⟩;unfold rowLen;rw [hset_blk,if_neg e1]
       have hst:=hset_les (b:=.row fr rt (.app xs (.rep L x0)) e' (v+1)) (b':=.row 1 ((xs.den:List rt.den).map (rt.cells fr)++List.replicate (L.den:Int).toNat [avOf c]) e') hm (.refl _) (by rw [hb];exact SB.norm_row _ _ _ _ _) (SB.norm_row _ _ _ _ _) hle hr (by
        rw [SB.enc,←hsz];refine .rows ?_;show LesRs (((xs.den:List rt.den)++List.replicate (L.den:Int).toNat (x0.den:rt.den)).map (rt.cells fr)) _;rw [List.map_append];refine (rows_le (by cases fr <;> rfl) rt _).append ?_;refine ⟨by rw [List.length_map,List.length_replicate,List.length_replicate],fun i row row' h1 h2=>?_⟩;rw [List.map_replicate,List.getElem?_replicate] at h1;rw [List.getElem?_replicate] at h2;split at h1
        ·rename_i hi;rw [if_pos hi] at h2;injection h1 with h1
         injection h2 with h2
         subst h1;subst h2
         exact hcell
        ·cases h1) hf
       refine ⟨m,nx,put_mok hst.1 d _,LeS.rle ?_,?_⟩
       ·show LeS (((st.hset id _).put d (.osl id (v+1))).enc m nx) _;rw [put_enc];refine hst.2.1.put ?_;rw [SV.enc,hnew];exact .refl _
       ·show FrOk m ((st.hset id _).put d (.osl id (v+1))).blk _ _;rw [put_blk];have:=hst.2.2
        cases d <;> exact this
     ·cases h
   ·cases h
  ·cases h
 ·cases h
theorem getD_set_self {α:Type} {l:List α} {k:Nat} {x d:α} (h:k<l.length):(l.set k x).getD k d=x:=by
 rw [List.getD_eq_getElem?_getD,List.getElem?_set_self h];rfl
theorem getD_set_ne {α:Type} {l:List α} {k i:Nat} {x d:α} (h:i≠k):(l.set k x).getD i d=l.getD i d:=by
 rw [List.getD_eq_getElem?_getD,List.getD_eq_getElem?_getD,List.getElem?_set_ne (Ne.symm h)]
theorem storeArn_ok (hT:T.ok P) (hm:MOk m nx st) (hf:FrOk m st.blk st.fr F) (h:storeArn T st t (st.ev y) (st.ev z)=some (r,gd)) (hg:gd.den=true) (hs:memSt st none r=some st'):MemOk P n F ⟨none,.store t y z,ty,ps,af,g⟩ st st' m nx:=by
 have ey:=enc_ev st m nx y;have ez:=enc_ev st m nx z;have hzc:=enc_cells (m:=m) (H:=st.blk) (st.ev z);rw [←ez] at hzc;have hone:allOneS st (st.ev z).cells=true→allOne ((st.enc m nx).ev z).cells=true:=fun h=>by rw [hzc];exact allOneS_enc h
 generalize st.ev y=v at h ey;unfold storeArn at h;generalize (st.ev z).cells=vs at h hzc hone;split at h
 ·rename_i Z s b e k i hI;split at h
  ·rename_i rt xs e' hb
   cases hc:(allOneS st vs&&Nat.beq vs.length s&&Nat.ble s rt.size) with
   | false=>rw [hc] at h;cases h
   | true =>
    rw [hc] at h;simp only [cond_true] at h;simp only [Bool.and_eq_true] at hc;obtain ⟨⟨c1,c2⟩,c3⟩:=hc;have hls:=Nat.eq_of_beq_eq_true c2;have h1:=hone c1;rw [hzc] at h1;split at h
    ·rename_i x hx;simp only [Option.some.injEq,Prod.mk.injEq] at h;obtain ⟨rfl,rfl⟩:=h;simp only [memSt,Option.some.injEq] at hs;subst hs;obtain ⟨a1,a2,a3,a4,a5⟩:=arn_at hm hb hg;rw [SV.enc,a4] at ey;have hcell:=exA_ok (m:=m) (H:=st.blk) hx;rw [setRS_enc,cellsE_enc] at hcell;have hk:(e.aixK'.den:Int).toNat=(e.den:Int×Int).1.toNat:=by rw [aixK'_den]
     have hrow:((E.at xs e.aixK').den:List rt.den)=(xs.den:List (List rt.den)).getD (e.den:Int×Int).1.toNat []:=by
      show (xs.den:List (List rt.den)).getD (e.aixK'.den:Int).toNat []=_;rw [hk]
     have hnew:((E.set xs e.aixK' (.set (.at xs e.aixK') i x)).den:List (List rt.den))=(xs.den:List (List rt.den)).set (e.den:Int×Int).1.toNat (((E.at xs e.aixK').den:List rt.den).set (i.den:Int).toNat x.den):=by
      show (xs.den:List (List rt.den)).set (e.aixK'.den:Int).toNat _=_;rw [hk];rfl
     refine ⟨_,op_store_elt' ey a2 (rows_len _).symm (fun row' hr=>at_row hr) hzc h1 (allP_at hT.inf hI) (by rw [encL_length];exact hls) (by rw [Nat.zero_add];exact Nat.le_of_ble_eq_true c3),?_⟩;obtain ⟨q1,q2,q3⟩:=hsetA_les (xs':=.set xs e.aixK' (.set (.at xs e.aixK') i x)) hm hf hb a5 (fun j hj=>by rw [hnew];exact getD_set_ne hj);refine ⟨m,nx,q1,(LeS.rle ?_),q3⟩;refine q2.trans ⟨fun d=>.refl _,fun j=>?_,rfl⟩;show LesB (look .dead ((_,arnRow rt e' _ _)::(st.enc m nx).heap) j) (look .dead ((_,_)::(st.enc m nx).heap) j);rw [look_cons,look_cons];split
     ·unfold arnRow;rw [hnew];by_cases hl:(e.den:Int×Int).1.toNat<(xs.den:List (List rt.den)).length
      ·rw [getD_set_self hl];exact .rows (rows_set (fr:=false) (fr':=false) rfl hcell)
      ·have he:((E.at xs e.aixK').den:List rt.den)=[]:=by
        rw [hrow,List.getD_eq_getElem?_getD,List.getElem?_eq_none (by omega)];rfl
       have e3:((xs.den:List (List rt.den)).set (e.den:Int×Int).1.toNat (((E.at xs e.aixK').den:List rt.den).set (i.den:Int).toNat x.den)).getD (e.den:Int×Int).1.toNat []=[]:=by
        rw [List.getD_eq_getElem?_getD,List.getElem?_eq_none (by rw [List.length_set];omega)];rfl
       rw [e3,he];exact .refl _
     ·exact .refl _
    ·cases h
  ·cases h
 ·cases h
theorem appArn_ok (hT:T.ok P) (hm:MOk m nx st) (hf:FrOk m st.blk st.fr F) (h:appArn T st t (st.ev y) (st.ev z)=some (r,gd)) (hg:gd.den=true) (hs:memSt st d r=some st') (hd:dok d n=true):MemOk P n F ⟨d,.call ⟨.builtin .append,⟨[y,z]⟩,⟨[t,t]⟩⟩,ty,ps,af,g⟩ st st' m nx:=by
 have ey:=enc_ev st m nx y;generalize st.ev y=v at h ey;unfold appArn at h;split at h
 ·rename_i el e hu;split at h
  ·rename_i Z sz b hI;split at h
   ·rename_i rt xs e' hb
    cases hc:(Nat.beq Z.cells.size sz&&(Nat.beq e' el&&(Nat.beq sz rt.size&&rt.flatA))) with
    | false=>rw [hc] at h;cases h
    | true =>
     rw [hc] at h;simp only [cond_true] at h;simp only [Bool.and_eq_true] at hc;obtain ⟨c1,c2,c3,hfl⟩:=hc;have hz:=Nat.eq_of_beq_eq_true c1;have he:=Nat.eq_of_beq_eq_true c2;have hsz:=Nat.eq_of_beq_eq_true c3;subst he;subst hsz;split at h
     ·rename_i fr' ys hy;simp only [Option.some.injEq,Prod.mk.injEq] at h;obtain ⟨rfl,rfl⟩:=h;simp only [memSt,Option.some.injEq] at hs;subst hs;obtain ⟨hg1,hg2⟩:=andE_b hg;obtain ⟨hgA,hgl⟩:=andE_b hg1;obtain ⟨hG,hg⟩:=andE_b hg2;obtain ⟨a1,a2,a3,a4,a5⟩:=arn_at hm hb hgA;have hsrc:=srcC_ok (nx:=nx) hfl hm hG hy;have hk:(e.aixK'.den:Int).toNat=(e.den:Int×Int).1.toNat:=by rw [aixK'_den]
      have hl:(e.den:Int×Int).1.toNat<(xs.den:List (List rt.den)).length:=by
       have h1:(e.den:Int×Int).1<((List.length (xs.den:List (List rt.den)):Nat):Int):=by rw [←aixK'_den];exact of_decide_eq_true hgl
       have h0:(0:Int)≤(e.den:Int×Int).1:=by rw [←aixK'_den];exact leF_den (andE_b hgA).1
       exact (Int.toNat_lt h0).2 h1
      have hrow:((E.at xs e.aixK').den:List rt.den)=(xs.den:List (List rt.den)).getD (e.den:Int×Int).1.toNat []:=by
       show (xs.den:List (List rt.den)).getD (e.aixK'.den:Int).toNat []=_;rw [hk]
      have hnew:((E.set xs e.aixK' (.app (.at xs e.aixK') ys)).den:List (List rt.den))=(xs.den:List (List rt.den)).set (e.den:Int×Int).1.toNat (((E.at xs e.aixK').den:List rt.den)++(ys.den:List rt.den)):=by
       show (xs.den:List (List rt.den)).set (e.aixK'.den:Int).toNat _=_;rw [hk];rfl
      rw [SV.enc,a1] at ey;have hg:=leE_den hg;have hg:((List.length ((E.at xs e.aixK').den:List rt.den):Int)+(List.length ys.den:Int))*((bmul b:Nat):Int)≤140737488355328:=hg;have h63:(List.length ((E.at xs e.aixK').den:List rt.den)+List.length ys.den)*bmul b≤140737488355328:=nat_of2 hg;refine ⟨_,op_append ey a2 rfl (rows_len _).symm rfl hsrc (allP_at hT.und hu) (allP_at hT.inf hI) hz (by rw [rows_len,rows_len];exact h63) hd,?_⟩;obtain ⟨q1,q2,q3⟩:=hsetA_les (xs':=.set xs e.aixK' (.app (.at xs e.aixK') ys)) hm hf hb a5 (fun j hj=>by rw [hnew];exact getD_set_ne hj);refine ⟨m,nx,put_mok q1 d _,LeS.rle ?_,?_⟩
      ·show LeS (((st.hset 0 _).put d (.aosl (.aixI e.aixK' (.ib .add e.aixN' (.len ys))))).enc m nx) _;rw [put_enc];refine LeS.put ?_ ?_
       ·refine q2.trans ⟨fun d=>.refl _,fun j=>?_,rfl⟩;show LesB (look .dead ((_,arnRow rt e' _ _)::(st.enc m nx).heap) j) (look .dead ((_,_)::(st.enc m nx).heap) j);rw [look_cons,look_cons];split
        ·unfold arnRow;rw [hnew,getD_set_self hl,List.map_append];exact .rows ((rows_le (fr:=false) (fr':=false) (by rfl) rt _).append (rows_le (by cases fr' <;> rfl) rt _))
        ·exact .refl _
       ·rw [SV.enc]
        have hn:((E.aixI e.aixK' (.ib .add e.aixN' (.len ys))).den:Int×Int)=((e.den:Int×Int).1,(e.den:Int×Int).2+(List.length ys.den:Int)):=by
         show ((e.aixK'.den:Int),(e.aixN'.den:Int)+(List.length ys.den:Int))=_;rw [aixK'_den,aixN'_den]
        have hr:aixAV ((e.den:Int×Int).1,(e.den:Int×Int).2+(List.length ys.den:Int))=.osl (e.den:Int×Int).1.toNat (((e.den:Int×Int).2+(List.length ys.den:Int)).toNat):=by
         have h0:(decide (0≤(e.den:Int×Int).1)&&decide ((e.den:Int×Int).1<(bigA:Int)))=true:=by
          have:=a1;unfold aixAV at this
          cases hq:(decide (0≤(e.den:Int×Int).1)&&decide ((e.den:Int×Int).1<(bigA:Int))) with
          | true=>rfl
          | false=>rw [hq] at this;cases this
         unfold aixAV;simp only;rw [h0];rfl
        have g3:(e.den:Int×Int).2=((List.length ((E.at xs e.aixK').den:List rt.den):Nat):Int):=(aixN'_den e).symm.trans (of_decide_eq_true (andE_b (andE_b hgA).2).2)
        have hlen:((e.den:Int×Int).2+(List.length ys.den:Int)).toNat=(((E.at xs e.aixK').den:List rt.den).map (rt.cells false)).length+((ys.den:List rt.den).map (rt.cells fr')).length:=by
         rw [rows_len,rows_len,g3,←Int.natCast_add,Int.toNat_natCast]
        rw [hn,hr,hlen];exact .refl _
      ·show FrOk m ((st.hset 0 _).put d (.aosl (.aixI e.aixK' (.ib .add e.aixN' (.len ys))))).blk _ _;rw [put_blk]
       cases d <;> exact q3
     ·cases h
   ·cases h
  ·cases h
 ·cases h
theorem mem_ok {o:Oper} (hT:T.ok P) (hm:MOk m nx st) (hf:FrOk m st.blk st.fr F) (h:mem T st o.dst o.op=some (r,gd)) (hg:gd.den=true) (hs:memSt st o.dst r=some st') (hd:dok o.dst n=true):MemOk P n F o st st' m nx:=by
 unfold mem at h;split at h
 ·rename_i r' h0;injection h with h
  subst h;obtain ⟨d,op,ty,ps,af,g⟩:=o;have hd:dok d n=true:=hd;simp only at h0 hs;unfold memN at h0;split at h0
  ·exact allocA_ok hT hm hf h0 hs hd
  ·exact boxA_ok hm hf h0 hs hd
  ·split at h0
   ·exact storeA_ok hT hm hf h0 hg hs
   ·cases h0
  ·rename_i x y t t';unfold copyB at h0;split at h0
   ·exact copyVS_ok hT hm hf h0 hg hs hd
   ·exact copyS_ok hT hm hf h0 hg hs hd
  ·exact zapS_ok hT hm hf h0 hg hs hd
  ·cases h0
 ·split at h
  ·rename_i r0 h0;injection h with h
   subst h;exact mem0_ok hT hm hf h0 hg hs hd
  ·obtain ⟨d,op,ty,ps,af,g⟩:=o;have hd:dok d n=true:=hd;simp only at h;unfold memArn at h;split at h
   ·split at h
    ·exact storeArn_ok hT hm hf h hg hs
    ·cases h
   ·rename_i x y t t' _ _
    cases ht:Nat.beq t' t with
    | false=>rw [ht] at h;cases h
    | true =>
     rw [ht] at h;have:=Nat.eq_of_beq_eq_true ht;subst this;exact appArn_ok hT hm hf h hg hs hd
   ·cases h
end
end Go.Proofs.Ytljebnobajmjnaa
/- Decompiling: cuts: what is carried through a place of the code,what is kept there as it is. No program in sight. -/
namespace Go.Proofs.Ytljebnobajmjnaa
open Go Go.RowKit

inductive SK where
 | any
 | und
 | int (k:IntKind)
 | bool
 | str
 | nilp
 | nils
 | nilf
 | ro (fr:Bool) (t:Ty)
 | pk (fr:Bool) (t:Ty) (off:Nat)
 | osl (b ver:Nat)
 | box (b off:Nat)
 | elt (b ver:Nat) (k:IntKind) (off:Nat)
 | arr (b ver off:Nat)
 | agg (l:List SK)
 | tup (l:List SK)
 | fn (f:FuncId) (l:List SK)
 | aosl
mutual
def SK.ty:SK→Ty
 | .int k=>.int k
 | .bool=>.bool
 | .str=>.str
 | .ro _ t=>.list t
 | .pk _ t _=>t
 | .elt _ _ k _=>.int k
 | .agg l=>SK.tyL l
 | .tup l=>SK.tyL l
 | .fn _ l=>SK.tyL l
 | .aosl=>.aix
 | _=>.unit
def SK.tyL:List SK→Ty
 | []=>.unit
 | s::l=>SK.tyC s.ty l.isEmpty (SK.tyL l)
def SK.tyC (a:Ty) (last:Bool) (b:Ty):Ty:=match last with
 | true=>a
 | false=>.pair a b
end
def mpI (mp:List (Nat×Nat)) (b:Nat):Nat:=match lk mp b with
 | some i=>i
 | none=>b
section
variable {V:Ty→Type}
def isBoxS (b:SB V):Bool:=match b with
 | .box ..=>true
 | _=>false
def isVer (b:SB V) (ver:Nat):Bool:=match b with
 | .row _ _ _ _ v=>Nat.beq ver v
 | _=>false
def pairC {a b:Ty} (last:Bool) (x:E V a) (y:E V b):E V (SK.tyC a last b):=match last with
 | true=>x
 | false=>.pair x y
def fstC {a b:Ty} (last:Bool) (x:E V (SK.tyC a last b)):E V a:=match last,x with
 | true,x=>x
 | false,x=>.fst' x
def sndC {a b:Ty} (last:Bool) (h:last=true→b=.unit) (x:E V (SK.tyC a last b)):E V b:=match last,h,x with
 | true,h,_=>(h rfl).symm ▸ .uni
 | false,_,x=>.snd' x
def prjInt (k:IntKind) (x:SV V):Option (E V (.int k)):=match x with
 | .int k' e=>if h:k'=k then some (h ▸ e) else none
 | _=>none
def prjBool (x:SV V):Option (E V .bool):=match x with
 | .bool e=>some e
 | _=>none
def prjStr (x:SV V):Option (E V .str):=match x with
 | .str e=>some e
 | _=>none
def uniIf (c:Bool):Option (E V .unit):=bif c then some .uni else none
def isUnd (x:SV V):Bool:=match x with
 | .und=>true
 | _=>false
def isNilp (x:SV V):Bool:=match x with
 | .nilp=>true
 | _=>false
def isNils (x:SV V):Bool:=match x with
 | .nils=>true
 | _=>false
def isNilf (x:SV V):Bool:=match x with
 | .nilf=>true
 | _=>false
def prjRo (fr:Bool) (t:Ty) (x:SV V):Option (E V (.list t)):=match x with
 | .ro fr' t' e=>bif !fr||fr' then (match Ty.eqd t' t with
  | some ⟨h⟩=>some (h ▸ e)
  | none=>none) else none
 | .nils=>some (.nil t)
 | _=>none
def prjPk (fr:Bool) (t:Ty) (o:Nat) (x:SV V):Option (E V t):=match x with
 | .pk fr' t' e o'=>bif (fr==fr')&&Nat.beq o o' then (match Ty.eqd t' t with
  | some ⟨h⟩=>some (h ▸ e)
  | none=>none) else none
 | _=>none
def isOsl (H:Nat→SB V) (mp:List (Nat×Nat)) (b:Nat) (x:SV V):Bool:=match x with
 | .osl id ver=>Nat.beq id (mpI mp b)&&isVer (H id) ver
 | _=>false
def isBoxA (H:Nat→SB V) (mp:List (Nat×Nat)) (b o:Nat) (x:SV V):Bool:=match x with
 | .box id o'=>Nat.beq id (mpI mp b)&&Nat.beq o o'&&isBoxS (H id)
 | _=>false
def prjElt (H:Nat→SB V) (mp:List (Nat×Nat)) (b:Nat) (k:IntKind) (o:Nat) (x:SV V):Option (E V (.int k)):=match x with
 | .elt (k:=k') id ver i o'=>bif Nat.beq id (mpI mp b)&&Nat.beq o o'&&isVer (H id) ver then (if h:k'=k then some (h ▸ i) else none) else none
 | _=>none
def isArr (H:Nat→SB V) (mp:List (Nat×Nat)) (b o:Nat) (x:SV V):Bool:=match x with
 | .elt id ver i o'=>Nat.beq id (mpI mp b)&&Nat.beq o o'&&isVer (H id) ver&&i.zero?
 | _=>false
def prjA (x:SV V):Option (E V .aix):=match x with
 | .aosl e=>some e
 | .nils=>some (.aixI (.iL .i64 (-1)) (.iL .i64 0))
 | _=>none
def inAgg {α:Type} (x:SV V) (f:List (SV V)→Option α):Option α:=match x with
 | .agg cs=>f cs
 | _=>none
def inTup {α:Type} (x:SV V) (f:List (SV V)→Option α):Option α:=match x with
 | .tup cs=>f cs
 | _=>none
def inFn {α:Type} (F:FuncId) (x:SV V) (f:List (SV V)→Option α):Option α:=match x with
 | .fn F' cs=>bif Nat.beq F F' then f cs else none
 | _=>none
mutual
def prjK (H:Nat→SB V) (mp:List (Nat×Nat)):(s:SK)→SV V→Option (E V s.ty)
 | .any,_=>some .uni
 | .und,x=>uniIf (isUnd x)
 | .int k,x=>prjInt k x
 | .bool,x=>prjBool x
 | .str,x=>prjStr x
 | .nilp,x=>uniIf (isNilp x)
 | .nils,x=>uniIf (isNils x)
 | .nilf,x=>uniIf (isNilf x)
 | .ro fr t,x=>prjRo fr t x
 | .pk fr t o,x=>prjPk fr t o x
 | .osl b _,x=>uniIf (isOsl H mp b x)
 | .box b o,x=>uniIf (isBoxA H mp b o x)
 | .elt b _ k o,x=>prjElt H mp b k o x
 | .arr b _ o,x=>uniIf (isArr H mp b o x)
 | .agg l,x=>inAgg x (prjL H mp l)
 | .tup l,x=>inTup x (prjL H mp l)
 | .fn f l,x=>inFn f x (prjL H mp l)
 | .aosl,x=>prjA x
def prjL (H:Nat→SB V) (mp:List (Nat×Nat)):(l:List SK)→List (SV V)→Option (E V (SK.tyL l))
 | [],[]=>some .uni
 | [],_::_=>none
 | _::_,[]=>none
 | s::l,c::cs=>match prjK H mp s c,prjL H mp l cs with
  | some x,some y=>some (pairC l.isEmpty x y)
  | _,_=>none
end
theorem tyL_nil {l:List SK} (h:l.isEmpty=true):SK.tyL l=.unit:=by
 cases l with
 | nil=>rfl
 | cons _ _=>cases h
mutual
def injK:(s:SK)→E V s.ty→SV V
 | .any,_=>.any
 | .und,_=>.und
 | .int k,e=>.int k e
 | .bool,e=>.bool e
 | .str,e=>.str e
 | .nilp,_=>.nilp
 | .nils,_=>.nils
 | .nilf,_=>.nilf
 | .ro fr t,e=>.ro fr t e
 | .pk fr t o,e=>.pk fr t e o
 | .osl b v,_=>.osl b v
 | .box b o,_=>.box b o
 | .elt b v _ o,e=>.elt b v e o
 | .arr b v o,_=>.elt (k:=.i64) b v (.iL .i64 0) o
 | .agg l,e=>.agg (injL l e)
 | .tup l,e=>.tup (injL l e)
 | .fn f l,e=>.fn f (injL l e)
 | .aosl,e=>.aosl e
def injL:(l:List SK)→E V (SK.tyL l)→List (SV V)
 | [],_=>[]
 | s::l,e=>injK s (fstC l.isEmpty e)::injL l (sndC l.isEmpty tyL_nil e)
end
end
inductive Itm where
 | reg (d:Nat) (s:SK)
 | box (b:Nat) (l:List SK) (e:TypeId)
 | row (b:Nat) (fr:Bool) (t:Ty) (e:TypeId) (ver:Nat)
 | arn (t:Ty) (e:TypeId)
def Itm.ty:Itm→Ty
 | .reg _ s=>s.ty
 | .box _ l _=>SK.tyL l
 | .row _ _ t _ _=>.list t
 | .arn t _=>.list (.list t)
def itmsTy:List Itm→Ty
 | []=>.unit
 | i::l=>SK.tyC i.ty l.isEmpty (itmsTy l)
theorem itmsTy_nil {l:List Itm} (h:l.isEmpty=true):itmsTy l=.unit:=by
 cases l with
 | nil=>rfl
 | cons _ _=>cases h
structure Sig where
 keep:List Nat
 keepB:List Nat
 stat:List (Nat×SK)
 items:List Itm
 ex:Nat
 nl:List (Nat×Ty×TypeId)
section
variable {V:Ty→Type}
def prjI (st:SSt V) (mp:List (Nat×Nat)):(i:Itm)→Option (E V i.ty)
 | .reg d s=>prjK st.blk mp s (st.get d)
 | .box b l e=>match st.blk (mpI mp b) with
  | .box cs e'=>bif Nat.beq e e' then prjL st.blk mp l cs else none
  | _=>none
 | .row b fr t e _=>match st.blk (mpI mp b) with
  | .row fr' t' xs e' _=>bif Nat.beq e e'&&(!fr||fr') then (match Ty.eqd t' t with
   | some ⟨h⟩=>some (h ▸ xs)
   | none=>none) else none
  | _=>none
 | .arn t e=>match st.blk 0 with
  | .arn t' xs e'=>bif Nat.beq e e'&&Nat.beq (mpI mp 0) 0 then (match Ty.eqd t' t with
   | some ⟨h⟩=>some (h ▸ xs)
   | none=>none) else none
  | _=>none
def prjIs (st:SSt V) (mp:List (Nat×Nat)):(l:List Itm)→Option (E V (itmsTy l))
 | []=>some .uni
 | i::l=>match prjI st mp i,prjIs st mp l with
  | some x,some y=>some (pairC l.isEmpty x y)
  | _,_=>none
def injR:(l:List Itm)→E V (itmsTy l)→List (Nat×SV V)
 | [],_=>[]
 | .reg d s::l,e=>(d,injK s (fstC l.isEmpty e))::injR l (sndC l.isEmpty itmsTy_nil e)
 | .box ..::l,e=>injR l (sndC l.isEmpty itmsTy_nil e)
 | .row ..::l,e=>injR l (sndC l.isEmpty itmsTy_nil e)
 | .arn ..::l,e=>injR l (sndC l.isEmpty itmsTy_nil e)
def injH:(l:List Itm)→E V (itmsTy l)→List (Nat×SB V)
 | [],_=>[]
 | .reg ..::l,e=>injH l (sndC l.isEmpty itmsTy_nil e)
 | .box b ks ty::l,e=>(b,.box (injL ks (fstC l.isEmpty e)) ty)::injH l (sndC l.isEmpty itmsTy_nil e)
 | .row b fr t ty v::l,e=>(b,.row fr t (fstC l.isEmpty e) ty v)::injH l (sndC l.isEmpty itmsTy_nil e)
 | .arn t ty::l,e=>(0,.arn t (fstC l.isEmpty e) ty)::injH l (sndC l.isEmpty itmsTy_nil e)
def injS (s:SK):SV V:=match Ty.eqd .unit s.ty with
 | some ⟨h⟩=>injK s (h ▸ .uni)
 | none=>.any
def statR (l:List (Nat×SK)):List (Nat×SV V):=l.map fun p=>(p.1,injS p.2)
def keepR (st:SSt V) (l:List Nat):List (Nat×SV V):=l.map fun d=>(d,st.get d)
def keepH (st:SSt V) (l:List Nat):List (Nat×SB V):=l.map fun b=>(b,st.blk b)
def inj (st:SSt V) (sg:Sig) (e:E V (itmsTy sg.items)):SSt V :=
 ⟨statR sg.stat++injR sg.items e,keepR st sg.keep++st.kp,injH sg.items e,keepH st sg.keepB++st.hk,st.fr,st.nx+sg.ex⟩
def matB (d:Nat):Option (Nat×Nat):=bif Nat.blt d 1000000 then none else some ((d-1000000) / 1000,(d-1000000) % 1000)
def mat:List (Nat×Ty×TypeId)→SSt V→SSt V
 | [],st=>st
 |(d,t,e)::l,st=>match matB d with
  | none=>(match st.get d with
   | .nils=>bif Nat.blt 0 t.size&&(st.refs (fun id=>!Nat.beq id st.nx) (fun id _=>!Nat.beq id st.nx)) then mat l ((st.hnew (.row true t (.nil t) e 0)).put (some d) (.osl st.nx 0)) else mat l st
   | _=>mat l st)
  | some (id,k)=>(match st.blk id with
   | .box cs e'=>match cs[k]? with
    | some .nils=>bif Nat.blt 0 t.size&&(st.refs (fun id=>!Nat.beq id st.nx) (fun id _=>!Nat.beq id st.nx))&&SV.refsL (fun id=>!Nat.beq id st.nx) (fun id _=>!Nat.beq id st.nx) cs then mat l ((st.hnew (.row true t (.nil t) e 0)).hset id (.box (setRS cs k [.osl st.nx 0]) e')) else mat l st
    | _=>mat l st
   | _=>mat l st)
def lay (st:SSt V) (sg:Sig):SSt V :=
 ⟨st.regs.filter fun p=>!hasN sg.keep p.1,keepR st sg.keep++st.kp,st.heap.filter fun p=>!hasN sg.keepB p.1,keepH st sg.keepB++st.hk,st.fr,st.nx⟩
def unlay (st:SSt V) (st':SSt V) (sg:Sig):SSt V :=
 ⟨st'.regs++keepR st sg.keep,st.kp,st'.heap++keepH st sg.keepB,st.hk,st.fr,st'.nx⟩
def itemB:List Itm→List Nat
 | []=>[]
 | .reg ..::l=>itemB l
 | .box b ..::l=>b::itemB l
 | .row b ..::l=>b::itemB l
 | .arn ..::l=>0::itemB l
def disj (l m:List Nat):Bool:=l.all fun a=>!hasN m a
def nodupN:List Nat→Bool
 | []=>true
 | a::l=>!hasN l a&&nodupN l
def mapK (mp:List (Nat×Nat)) (b id:Nat):List (Nat×Nat):=match lk mp b with
 | some _=>mp
 | none=>(b,id)::mp
mutual
def mapS (mp:List (Nat×Nat)):SK→SV V→List (Nat×Nat)
 | .osl b _,.osl id _=>mapK mp b id
 | .box b _,.box id _=>mapK mp b id
 | .elt b _ _ _,.elt id _ _ _=>mapK mp b id
 | .arr b _ _,.elt id _ _ _=>mapK mp b id
 | .agg l,.agg cs=>mapL mp l cs
 | .tup l,.tup cs=>mapL mp l cs
 | .fn _ l,.fn _ cs=>mapL mp l cs
 | _,_=>mp
def mapL (mp:List (Nat×Nat)):List SK→List (SV V)→List (Nat×Nat)
 | s::l,c::cs=>mapL (mapS mp s c) l cs
 | _,_=>mp
end
def mapSt (st:SSt V):List (Nat×SK)→List (Nat×Nat)→List (Nat×Nat)
 | [],mp=>mp
 |(d,s)::l,mp=>mapSt st l (mapS mp s (st.get d))
def mapIs (st:SSt V):List Itm→List (Nat×Nat)→List (Nat×Nat)
 | [],mp=>mp
 | .reg d s::l,mp=>mapIs st l (mapS mp s (st.get d))
 | .box b ks _::l,mp=>mapIs st l (match st.blk (mpI mp b) with
  | .box cs _=>mapL mp ks cs
  | _=>mp)
 | .row ..::l,mp=>mapIs st l mp
 | .arn ..::l,mp=>mapIs st l mp
def mapOf (st:SSt V) (sg:Sig):List (Nat×Nat):=(mapIs st sg.items (mapSt st sg.stat [])).filter fun p=>hasN (itemB sg.items) p.1
def cutB (Hs:Nat→SB V) (mp:List (Nat×Nat)) (H:Nat→SB V) (id:Nat):Bool:=!isBoxS (Hs id)||(Nat.beq (mpI mp id) id&&isBoxS (H id))
def cutR (Hs:Nat→SB V) (mp:List (Nat×Nat)) (H:Nat→SB V) (id v:Nat):Bool:=!isVer (Hs id) v||(Nat.beq (mpI mp id) id&&isVer (H id) v)
def cutOk (base:SSt V) (sg:Sig) (mp:List (Nat×Nat)) (st:SSt V) (Hs:Nat→SB V):Bool :=
 disj (st.regs.map (·.1)) ((keepR base sg.keep++base.kp).map (·.1)) &&
 (disj (st.heap.map (·.1)) ((keepH base sg.keepB++base.hk).map (·.1)) &&
 ((sg.stat.all fun p=>(Ty.eqd .unit p.2.ty).isSome&&(prjK st.blk mp p.2 (st.get p.1)).isSome) &&
 (nodupN (itemB sg.items++(keepH base sg.keepB++base.hk).map (·.1)) &&
 (nodupN ((itemB sg.items).map (mpI mp)++(keepH base sg.keepB++base.hk).map (·.1)) &&
 (((itemB sg.items).all fun b=>Nat.blt b (base.nx+sg.ex)) &&
 ((mp.all fun p=>hasN (itemB sg.items) p.1) &&
 (refsR (cutB Hs mp st.blk) (cutR Hs mp st.blk) (keepR base sg.keep++base.kp) &&
 (refsH (cutB Hs mp st.blk) (cutR Hs mp st.blk) (keepH base sg.keepB++base.hk) &&
 (refsF (cutB Hs mp st.blk) (cutR Hs mp st.blk) base.fr &&
 ((keepH base sg.keepB++base.hk).all fun p=>Nat.blt p.1 base.nx))))))))))
def arr (base:SSt V) (sg:Sig) (mp:List (Nat×Nat)) (st:SSt V):Option (E V (itmsTy sg.items)) :=
 match prjIs st mp sg.items with
 | none=>none
 | some e=>bif cutOk base sg mp st (inj base sg e).blk then some e else none
end
theorem pairC_den {a b:Ty} (last:Bool) (x:E D a) (y:E D b) (x':E D (SK.tyC a last b)) (h:x'.den=(pairC last x y).den):(fstC last x').den=x.den:=by
 cases last with
 | true=>exact h
 | false=>exact (fst'_den (a:=a) (b:=b) x').trans (congrArg Prod.fst h)
theorem den_uni {t:Ty} (h:t=.unit) (x y:t.den):x=y:=by subst h;rfl
theorem sndC_den {a b:Ty} (last:Bool) (x:E D a) (y:E D b) (x':E D (SK.tyC a last b)) (h:x'.den=(pairC last x y).den) (hl:last=true→b=.unit):(sndC last hl x').den=y.den:=by
 cases last with
 | true=>exact den_uni (hl rfl) _ _
 | false=>exact (snd'_den (a:=a) (b:=b) x').trans (congrArg Prod.snd h)
theorem uniIf_some {c:Bool} {e:E D .unit} (h:uniIf c=some e):c=true:=by
 cases c with
 | true=>rfl
 | false=>cases h
structure CutM (H:Nat→SB D) (Hs:Nat→SB D) (mp:List (Nat×Nat)):Prop where
 row:∀ b v n id ver,rowLen Hs b v=some n→id=mpI mp b→isVer (H id) ver=true→rowLen H id ver=some n
theorem isBoxS_eq {H:Nat→SB D} (id:Nat):isBox H id=isBoxS (H id):=by unfold isBox isBoxS;cases H id <;> rfl
theorem inAgg_some {α:Type} {x:SV D} {f:List (SV D)→Option α} {y:α} (h:inAgg x f=some y):∃ cs,x=.agg cs∧f cs=some y:=by
 cases x <;> first | (cases h;done) | exact ⟨_,rfl,h⟩
theorem inTup_some {α:Type} {x:SV D} {f:List (SV D)→Option α} {y:α} (h:inTup x f=some y):∃ cs,x=.tup cs∧f cs=some y:=by
 cases x <;> first | (cases h;done) | exact ⟨_,rfl,h⟩
theorem inFn_some {α:Type} {F:FuncId} {x:SV D} {f:List (SV D)→Option α} {y:α} (h:inFn F x f=some y):∃ cs,x=.fn F cs∧f cs=some y:=by
 cases x <;> try (cases h;done)
 rename_i F' cs;unfold inFn at h
 cases hb:Nat.beq F F' with
 | false=>simp only [hb] at h;cases h
 | true =>
  simp only [hb] at h;have:=Nat.eq_of_beq_eq_true hb;subst this;exact ⟨cs,rfl,h⟩
section
variable {m:Nat→Nat} {H Hs:Nat→SB D} {mp:List (Nat×Nat)} {x:SV D}
abbrev mM (m:Nat→Nat) (mp:List (Nat×Nat)) (b:Nat):Nat:=m (mpI mp b)
theorem inj_int {k:IntKind} {e e':E D (.int k)} (h:prjInt k x=some e) (hd:e'.den=e.den):Les (SV.enc (mM m mp) Hs (.int k e')) (x.enc m H):=by
 unfold prjInt at h;split at h
 ·rename_i k' e0;split at h
  ·rename_i hk;subst hk;injection h with h
   subst h;rw [SV.enc,SV.enc];exact .of (congrArg (AV.int k') hd)
  ·cases h
 ·cases h
theorem inj_bool {e e':E D .bool} (h:prjBool x=some e) (hd:e'.den=e.den):Les (SV.enc (mM m mp) Hs (.bool e')) (x.enc m H):=by
 unfold prjBool at h;split at h
 ·injection h with h
  subst h;rw [SV.enc,SV.enc];exact .of (congrArg AV.bool hd)
 ·cases h
theorem inj_str {e e':E D .str} (h:prjStr x=some e) (hd:e'.den=e.den):Les (SV.enc (mM m mp) Hs (.str e')) (x.enc m H):=by
 unfold prjStr at h;split at h
 ·injection h with h
  subst h;rw [SV.enc,SV.enc];exact .of (congrArg (fun l:List UInt8=>AV.str ⟨⟨l⟩⟩) hd)
 ·cases h
theorem inj_ro {fr:Bool} {t:Ty} {e e':E D (.list t)} (h:prjRo fr t x=some e) (hd:e'.den=e.den):Les (SV.enc (mM m mp) Hs (.ro fr t e')) (x.enc m H):=by
 unfold prjRo at h;split at h
 ·rename_i fr' t' e0
  cases hc:(!fr||fr') with
  | false=>rw [hc] at h;cases h
  | true =>
   rw [hc] at h;simp only [cond_true] at h;split at h
   ·rename_i ht _;subst ht;injection h with h
    subst h;rw [SV.enc,SV.enc];have hd:(e'.den:List t'.den)=e0.den:=hd;rw [hd]
    cases fr <;> cases fr' <;> first | exact .refl _ | (cases hc;done) | exact .unfr _ _
   ·cases h
 ·injection h with h
  subst h;rw [SV.enc,SV.enc];have hd:(e'.den:List t.den)=[]:=hd;rw [hd];exact .nilro fr t.size
 ·cases h
theorem inj_pk {fr:Bool} {t:Ty} {o:Nat} {e e':E D t} (h:prjPk fr t o x=some e) (hd:e'.den=e.den):Les (SV.enc (mM m mp) Hs (.pk fr t e' o)) (x.enc m H):=by
 unfold prjPk at h;split at h
 ·rename_i fr' t' e0 o'
  cases hc:((fr==fr')&&Nat.beq o o') with
  | false=>rw [hc] at h;cases h
  | true =>
   rw [hc] at h;simp only [cond_true] at h;rw [Bool.and_eq_true] at hc;have h1:fr=fr':=by simpa using hc.1
   have h2:=Nat.eq_of_beq_eq_true hc.2;subst h1;subst h2
   split at h
   ·rename_i ht _;subst ht;injection h with h
    subst h;rw [SV.enc,SV.enc];have hd:(e'.den:t'.den)=e0.den:=hd;rw [hd];exact .refl _
   ·cases h
 ·cases h
theorem inj_osl (hc:CutM H Hs mp) {b v:Nat} (h:isOsl H mp b x=true):Les (SV.enc (mM m mp) Hs (.osl b v)) (x.enc m H):=by
 unfold isOsl at h;split at h
 ·rename_i id ver;rw [Bool.and_eq_true] at h;have hid:=Nat.eq_of_beq_eq_true h.1;rw [SV.enc,SV.enc]
  cases hl:rowLen Hs b v with
  | none=>exact .any _
  | some n=>rw [hc.row b v n id ver hl hid h.2,hid];exact .refl _
 ·cases h
theorem inj_box {b o:Nat} (h:isBoxA H mp b o x=true):Les (SV.enc (mM m mp) Hs (.box b o)) (x.enc m H):=by
 unfold isBoxA at h;split at h
 ·rename_i id o';rw [Bool.and_eq_true,Bool.and_eq_true] at h;have hid:=Nat.eq_of_beq_eq_true h.1.1;have ho:=Nat.eq_of_beq_eq_true h.1.2;subst ho;rw [SV.enc,SV.enc]
  cases hl:isBox Hs b with
  | false=>exact .any _
  | true=>rw [isBoxS_eq,h.2,hid];exact .refl _
 ·cases h
theorem inj_elt (hc:CutM H Hs mp) {b v o:Nat} {k:IntKind} {e e':E D (.int k)} (h:prjElt H mp b k o x=some e) (hd:e'.den=e.den):Les (SV.enc (mM m mp) Hs (.elt b v e' o)) (x.enc m H):=by
 unfold prjElt at h;split at h
 ·rename_i id ver k' i o'
  cases hb:(Nat.beq id (mpI mp b)&&Nat.beq o o'&&isVer (H id) ver) with
  | false=>rw [hb] at h;cases h
  | true =>
   rw [hb] at h;simp only [cond_true] at h;rw [Bool.and_eq_true,Bool.and_eq_true] at hb;have hid:=Nat.eq_of_beq_eq_true hb.1.1;have ho:=Nat.eq_of_beq_eq_true hb.1.2;subst ho;split at h
   ·rename_i hk;subst hk;injection h with h
    subst h;rw [SV.enc,SV.enc]
    cases hl:rowLen Hs b v with
    | none=>exact .any _
    | some n =>
     rw [hc.row b v n id ver hl hid hb.2,hid];have hd:(e'.den:Int)=i.den:=hd;rw [hd];exact .refl _
   ·cases h
 ·cases h
theorem inj_arr (hc:CutM H Hs mp) {b v o:Nat} (h:isArr H mp b o x=true):Les (SV.enc (mM m mp) Hs (.elt (k:=.i64) b v (.iL .i64 0) o)) (x.enc m H):=by
 unfold isArr at h;split at h
 ·rename_i id ver k' i o';rw [Bool.and_eq_true,Bool.and_eq_true,Bool.and_eq_true] at h;have hid:=Nat.eq_of_beq_eq_true h.1.1.1;have ho:=Nat.eq_of_beq_eq_true h.1.1.2;subst ho;rw [SV.enc,SV.enc]
  cases hl:rowLen Hs b v with
  | none=>exact .any _
  | some n =>
   rw [hc.row b v n id ver hl hid h.1.2,hid,zero_den h.2];exact .refl _
 ·cases h
end
theorem inj_aosl {m:Nat→Nat} {H Hs:Nat→SB D} {mp:List (Nat×Nat)} {x:SV D} {e e':E D .aix} (h:prjA x=some e) (hd:e'.den=e.den):Les (SV.enc (mM m mp) Hs (.aosl e')) (x.enc m H):=by
 unfold prjA at h;split at h
 ·injection h with h
  subst h;rw [SV.enc,SV.enc,hd];exact .refl _
 ·injection h with h
  subst h;rw [SV.enc,SV.enc,hd];exact .refl _
 ·cases h
mutual
theorem injK_les {m:Nat→Nat} {H Hs:Nat→SB D} {mp:List (Nat×Nat)} (hc:CutM H Hs mp):∀ (s:SK) (x:SV D) (e e':E D s.ty),prjK H mp s x=some e→e'.den=e.den→Les ((injK s e').enc (mM m mp) Hs) (x.enc m H)
 | .any,x,e,e',h,hd=>by rw [injK,SV.enc];exact .any _
 | .und,x,e,e',h,hd=>by
  rw [prjK] at h;have:=uniIf_some h;unfold isUnd at this;split at this
  ·rw [injK,SV.enc,SV.enc];exact .refl _
  ·cases this
 | .int k,x,e,e',h,hd=>by rw [prjK] at h;rw [injK];exact inj_int h hd
 | .bool,x,e,e',h,hd=>by rw [prjK] at h;rw [injK];exact inj_bool h hd
 | .str,x,e,e',h,hd=>by rw [prjK] at h;rw [injK];exact inj_str h hd
 | .nilp,x,e,e',h,hd=>by
  rw [prjK] at h;have:=uniIf_some h;unfold isNilp at this;split at this
  ·rw [injK,SV.enc,SV.enc];exact .refl _
  ·cases this
 | .nils,x,e,e',h,hd=>by
  rw [prjK] at h;have:=uniIf_some h;unfold isNils at this;split at this
  ·rw [injK,SV.enc,SV.enc];exact .refl _
  ·cases this
 | .nilf,x,e,e',h,hd=>by
  rw [prjK] at h;have:=uniIf_some h;unfold isNilf at this;split at this
  ·rw [injK,SV.enc,SV.enc];exact .refl _
  ·cases this
 | .ro fr t,x,e,e',h,hd=>by rw [prjK] at h;rw [injK];exact inj_ro h hd
 | .pk fr t o,x,e,e',h,hd=>by rw [prjK] at h;rw [injK];exact inj_pk h hd
 | .osl b v,x,e,e',h,hd=>by rw [prjK] at h;rw [injK];exact inj_osl hc (uniIf_some h)
 | .box b o,x,e,e',h,hd=>by rw [prjK] at h;rw [injK];exact inj_box (uniIf_some h)
 | .elt b v k o,x,e,e',h,hd=>by rw [prjK] at h;rw [injK];exact inj_elt hc h hd
 | .arr b v o,x,e,e',h,hd=>by rw [prjK] at h;rw [injK];exact inj_arr hc (uniIf_some h)
 | .agg l,x,e,e',h,hd=>by
  rw [prjK] at h;obtain ⟨cs,rfl,h2⟩:=inAgg_some h;rw [injK,SV.enc,SV.enc];exact .agg (injL_les hc l _ e e' h2 hd)
 | .tup l,x,e,e',h,hd=>by
  rw [prjK] at h;obtain ⟨cs,rfl,h2⟩:=inTup_some h;rw [injK,SV.enc,SV.enc];exact .tup (injL_les hc l _ e e' h2 hd)
 | .fn f l,x,e,e',h,hd=>by
  rw [prjK] at h;obtain ⟨cs,rfl,h2⟩:=inFn_some h;rw [injK,SV.enc,SV.enc];exact .fn f (injL_les hc l _ e e' h2 hd)
 | .aosl,x,e,e',h,hd=>by rw [prjK] at h;rw [injK];exact inj_aosl h hd
theorem injL_les {m:Nat→Nat} {H Hs:Nat→SB D} {mp:List (Nat×Nat)} (hc:CutM H Hs mp):∀ (l:List SK) (cs:List (SV D)) (e e':E D (SK.tyL l)),prjL H mp l cs=some e→e'.den=e.den→LesL (SV.encL (mM m mp) Hs (injL l e')) (SV.encL m H cs)
 | [],[],e,e',h,hd=>by rw [injL,SV.encL,SV.encL];exact .nil
 | [],_::_,e,e',h,hd=>by rw [prjL] at h;cases h
 | _::_,[],e,e',h,hd=>by rw [prjL] at h;cases h
 | s::l,c::cs,e,e',h,hd=>by
  rw [prjL] at h;split at h
  ·rename_i x y h1 h2;injection h with h
   subst h;rw [injL,SV.encL,SV.encL];exact .cons (injK_les hc s c x _ h1 (pairC_den _ x y e' hd)) (injL_les hc l cs y _ h2 (sndC_den _ x y e' hd tyL_nil))
  ·cases h
end
end Go.Proofs.Ytljebnobajmjnaa
/- Decompiling: a cut passed: the state behind it says no more than the one ahead of it. No program in sight. -/
namespace Go.Proofs.Ytljebnobajmjnaa
open Go Go.RowKit

structure Fix (st st':SSt D):Prop where
 kp:st'.kp=st.kp
 hk:st'.hk=st.hk
 fr:st'.fr=st.fr
theorem Fix.refl (st:SSt D):Fix st st:=⟨rfl,rfl,rfl⟩
theorem Fix.trans {a b c:SSt D} (h:Fix a b) (k:Fix b c):Fix a c:=⟨k.kp.trans h.kp,k.hk.trans h.hk,k.fr.trans h.fr⟩
theorem hasN_of {l:List Nat} {i:Nat} (h:i ∈ l):hasN l i=true:=by
 induction l with
 | nil=>cases h
 | cons a l ih =>
  rw [hasN];rcases List.mem_cons.1 h with rfl | h
  ·rw [Nat.beq_refl];rfl
  ·rw [ih h];cases Nat.beq a i <;> rfl
theorem disj_at {l m:List Nat} (h:disj l m=true) {a:Nat} (ha:a ∈ l):a ∉ m:=fun hm=>by
 have:=List.all_eq_true.1 h a ha;rw [hasN_of hm] at this;cases this
theorem nodupN_cons {a:Nat} {l:List Nat} (h:nodupN (a::l)=true):a ∉ l∧nodupN l=true:=by
 rw [nodupN,Bool.and_eq_true] at h;refine ⟨fun hm=>?_,h.2⟩;rw [hasN_of hm] at h;exact absurd h.1 (by decide)
theorem look_none {α:Type} {d:α} {l:List (Nat×α)} {i:Nat} (h:i ∉ l.map (·.1)):look d l i=d:=by
 induction l with
 | nil=>rfl
 | cons p l ih =>
  obtain ⟨j,v⟩:=p;rw [look_cons,if_neg (fun e=>h (by simp [e])),ih (fun e=>h (by simp;right;simpa using e))]
theorem look_rel {α:Type} {d:α} {l:List (Nat×α)} {i:Nat} {R:α→Prop} (hd:R d) (h:∀ p ∈ l,p.1=i→R p.2):R (look d l i):=by
 induction l with
 | nil=>exact hd
 | cons p l ih =>
  obtain ⟨j,v⟩:=p;rw [look_cons];split
  ·rename_i e;exact h (j,v) (by simp) e
  ·exact ih (fun p hp=>h p (List.mem_cons_of_mem _ hp))
theorem look_nodup {α:Type} {d:α} {l:List (Nat×α)} (h:nodupN (l.map (·.1))=true) {p:Nat×α} (hp:p ∈ l):look d l p.1=p.2:=by
 induction l with
 | nil=>cases hp
 | cons q l ih =>
  obtain ⟨j,v⟩:=q;have h:nodupN (j::l.map (·.1))=true:=h;obtain ⟨h1,h2⟩:=nodupN_cons h;rw [look_cons];rcases List.mem_cons.1 hp with rfl | hp
  ·rw [if_pos rfl]
  ·rw [if_neg,ih h2 hp];intro e;exact h1 (by rw [e];exact List.mem_map.2 ⟨p,hp,rfl⟩)
theorem look_encH_rel {m:Nat→Nat} {H:Nat→SB D} {l:List (Nat×SB D)} {k:Nat} {B:AB} (h:∀ p ∈ l,m p.1=k→LesB (p.2.enc m H) B):LesB (look .dead (encH m H l) k) B:=by
 refine look_rel (R:=fun b=>LesB b B) (.dead B) fun p hp e=>?_
 obtain ⟨q,hq,rfl⟩:=List.mem_map.1 hp;exact h q hq e
section
variable {m:Nat→Nat} {st:SSt D} {Hs:Nat→SB D} {mp:List (Nat×Nat)}
theorem injR_ok (hc:CutM st.blk Hs mp):∀ (l:List Itm) (e e':E D (itmsTy l)),prjIs st mp l=some e→e'.den=e.den→∀ p ∈ injR l e',Les (p.2.enc (mM m mp) Hs) ((st.get p.1).enc m st.blk)
 | [],_,_,_,_,p,hp=>by rw [injR] at hp;cases hp
 | .reg d s::l,e,e',h,hd,p,hp=>by
  rw [prjIs] at h;split at h
  ·rename_i x y h1 h2;injection h with h
   subst h;rw [injR] at hp;rcases List.mem_cons.1 hp with rfl | hp
   ·exact injK_les hc s _ x _ h1 (pairC_den _ x y e' hd)
   ·exact injR_ok hc l y _ h2 (sndC_den _ x y e' hd itmsTy_nil) p hp
  ·cases h
 | .box b ks ty::l,e,e',h,hd,p,hp=>by
  rw [prjIs] at h;split at h
  ·rename_i x y h1 h2;injection h with h
   subst h;rw [injR] at hp;exact injR_ok hc l y _ h2 (sndC_den _ x y e' hd itmsTy_nil) p hp
  ·cases h
 | .row b fr t ty v::l,e,e',h,hd,p,hp=>by
  rw [prjIs] at h;split at h
  ·rename_i x y h1 h2;injection h with h
   subst h;rw [injR] at hp;exact injR_ok hc l y _ h2 (sndC_den _ x y e' hd itmsTy_nil) p hp
  ·cases h
 | .arn t ty::l,e,e',h,hd,p,hp=>by
  rw [prjIs] at h;split at h
  ·rename_i x y h1 h2;injection h with h
   subst h;rw [injR] at hp;exact injR_ok hc l y _ h2 (sndC_den _ x y e' hd itmsTy_nil) p hp
  ·cases h
theorem injH_rows:∀ (l:List Itm) (e e':E D (itmsTy l)),prjIs st mp l=some e→e'.den=e.den→∀ p ∈ injH l e',st.blk (mpI mp p.1)≠.dead∧(∀ fr t xs ty v,p.2=.row fr t xs ty v→∃ fr' xs' v',st.blk (mpI mp p.1)=.row fr' t xs' ty v'∧(xs.den:List t.den)=xs'.den∧(!fr||fr')=true)∧p.1 ∈ itemB l∧p.2≠.dead
 | [],_,_,_,_,p,hp=>by rw [injH] at hp;cases hp
 | .reg d s::l,e,e',h,hd,p,hp=>by
  rw [prjIs] at h;split at h
  ·rename_i x y h1 h2;injection h with h
   subst h;rw [injH] at hp;obtain ⟨g1,g2,g3,g4⟩:=injH_rows l y _ h2 (sndC_den _ x y e' hd itmsTy_nil) p hp;exact ⟨g1,g2,by rw [itemB];exact g3,g4⟩
  ·cases h
 | .box b ks ty::l,e,e',h,hd,p,hp=>by
  rw [prjIs] at h;split at h
  ·rename_i x y h1 h2;injection h with h
   subst h;rw [injH] at hp;rcases List.mem_cons.1 hp with rfl | hp
   ·refine ⟨?_,fun fr t xs ty v e=>(by cases e),by rw [itemB];simp,by simp⟩;unfold prjI at h1;simp only at h1;split at h1
    ·rename_i hb;rw [hb];simp
    ·cases h1
   ·obtain ⟨g1,g2,g3,g4⟩:=injH_rows l y _ h2 (sndC_den _ x y e' hd itmsTy_nil) p hp;exact ⟨g1,g2,by rw [itemB];exact List.mem_cons_of_mem _ g3,g4⟩
  ·cases h
 | .row b fr t ty v::l,e,e',h,hd,p,hp=>by
  rw [prjIs] at h;split at h
  ·rename_i x y h1 h2;injection h with h
   subst h;rw [injH] at hp;rcases List.mem_cons.1 hp with rfl | hp
   ·have hx:=pairC_den _ x y e' hd;unfold prjI at h1;simp only at h1;split at h1
    ·rename_i fr' t' xs' ty' v' hb
     cases hc:(Nat.beq ty ty'&&(!fr||fr')) with
     | false=>rw [hc] at h1;cases h1
     | true =>
      rw [hc] at h1;simp only [cond_true] at h1;rw [Bool.and_eq_true] at hc;have hty:=Nat.eq_of_beq_eq_true hc.1;subst hty;split at h1
      ·rename_i ht _;subst ht;injection h1 with h1
       subst h1;refine ⟨by rw [hb];simp,fun fr1 t1 xs1 ty1 v1 e1=>?_,by rw [itemB];simp,by simp⟩;injection e1 with a1 a2 a3 a4 a5
       subst a1;subst a2
       have a3:=eq_of_heq a3;subst a3;subst a4;subst a5
       exact ⟨fr',xs',v',hb,hx,hc.2⟩
      ·cases h1
    ·cases h1
   ·obtain ⟨g1,g2,g3,g4⟩:=injH_rows l y _ h2 (sndC_den _ x y e' hd itmsTy_nil) p hp;exact ⟨g1,g2,by rw [itemB];exact List.mem_cons_of_mem _ g3,g4⟩
  ·cases h
 | .arn t ty::l,e,e',h,hd,p,hp=>by
  rw [prjIs] at h;split at h
  ·rename_i x y h1 h2;injection h with h
   subst h;rw [injH] at hp;rcases List.mem_cons.1 hp with rfl | hp
   ·refine ⟨?_,fun fr t xs ty v e=>(by cases e),by rw [itemB];simp,by simp⟩;unfold prjI at h1;simp only at h1;split at h1
    ·rename_i t' xs ty' hb
     cases hc:(Nat.beq ty ty'&&Nat.beq (mpI mp 0) 0) with
     | false=>rw [hc] at h1;cases h1
     | true =>
      rw [Bool.and_eq_true] at hc;show st.blk (mpI mp 0)≠.dead;rw [Nat.eq_of_beq_eq_true hc.2,hb];simp
    ·cases h1
   ·obtain ⟨g1,g2,g3,g4⟩:=injH_rows l y _ h2 (sndC_den _ x y e' hd itmsTy_nil) p hp;exact ⟨g1,g2,by rw [itemB];exact List.mem_cons_of_mem _ g3,g4⟩
  ·cases h
theorem injH_arn:∀ (l:List Itm) (e e':E D (itmsTy l)),prjIs st mp l=some e→e'.den=e.den→∀ p ∈ injH l e',∀ t xs ty,p.2=.arn t xs ty→p.1=0∧mpI mp 0=0∧∃ xs',st.blk 0=.arn t xs' ty∧(xs.den:List (List t.den))=xs'.den
 | [],_,_,_,_,p,hp=>by rw [injH] at hp;cases hp
 | .reg d s::l,e,e',h,hd,p,hp=>by
  rw [prjIs] at h;split at h
  ·rename_i x y h1 h2;injection h with h
   subst h;rw [injH] at hp;exact injH_arn l y _ h2 (sndC_den _ x y e' hd itmsTy_nil) p hp
  ·cases h
 | .box b ks ty::l,e,e',h,hd,p,hp=>by
  rw [prjIs] at h;split at h
  ·rename_i x y h1 h2;injection h with h
   subst h;rw [injH] at hp;rcases List.mem_cons.1 hp with rfl | hp
   ·intro t xs ty e;cases e
   ·exact injH_arn l y _ h2 (sndC_den _ x y e' hd itmsTy_nil) p hp
  ·cases h
 | .row b fr t ty v::l,e,e',h,hd,p,hp=>by
  rw [prjIs] at h;split at h
  ·rename_i x y h1 h2;injection h with h
   subst h;rw [injH] at hp;rcases List.mem_cons.1 hp with rfl | hp
   ·intro t xs ty e;cases e
   ·exact injH_arn l y _ h2 (sndC_den _ x y e' hd itmsTy_nil) p hp
  ·cases h
 | .arn t ty::l,e,e',h,hd,p,hp=>by
  rw [prjIs] at h;split at h
  ·rename_i x y h1 h2;injection h with h
   subst h;rw [injH] at hp;rcases List.mem_cons.1 hp with rfl | hp
   ·intro t1 xs1 ty1 e1;have hx:=pairC_den _ x y e' hd;unfold prjI at h1;simp only at h1;split at h1
    ·rename_i t' xs ty' hb
     cases hc:(Nat.beq ty ty'&&Nat.beq (mpI mp 0) 0) with
     | false=>rw [hc] at h1;cases h1
     | true =>
      rw [hc] at h1;simp only [cond_true] at h1;rw [Bool.and_eq_true] at hc;have hty:=Nat.eq_of_beq_eq_true hc.1;subst hty;split at h1
      ·rename_i ht _;subst ht;injection h1 with h1
       subst h1;injection e1 with a1 a2 a3
       subst a1;have a2:=eq_of_heq a2;subst a2;subst a3
       exact ⟨rfl,Nat.eq_of_beq_eq_true hc.2,xs,hb,hx⟩
      ·cases h1
    ·cases h1
   ·exact injH_arn l y _ h2 (sndC_den _ x y e' hd itmsTy_nil) p hp
  ·cases h
theorem injH_boxes (hc:CutM st.blk Hs mp):∀ (l:List Itm) (e e':E D (itmsTy l)),prjIs st mp l=some e→e'.den=e.den→∀ p ∈ injH l e',LesB (p.2.enc (mM m mp) Hs) ((st.blk (mpI mp p.1)).enc m st.blk)
 | [],_,_,_,_,p,hp=>by rw [injH] at hp;cases hp
 | .reg d s::l,e,e',h,hd,p,hp=>by
  rw [prjIs] at h;split at h
  ·rename_i x y h1 h2;injection h with h
   subst h;rw [injH] at hp;exact injH_boxes hc l y _ h2 (sndC_den _ x y e' hd itmsTy_nil) p hp
  ·cases h
 | .box b ks ty::l,e,e',h,hd,p,hp=>by
  rw [prjIs] at h;split at h
  ·rename_i x y h1 h2;injection h with h
   subst h;rw [injH] at hp;rcases List.mem_cons.1 hp with rfl | hp
   ·have hx:=pairC_den _ x y e' hd;unfold prjI at h1;simp only at h1;split at h1
    ·rename_i cs ty' hb
     cases hc2:Nat.beq ty ty' with
     | false=>rw [hc2] at h1;cases h1
     | true =>
      rw [hc2] at h1;have hty:=Nat.eq_of_beq_eq_true hc2;subst hty;rw [hb,SB.enc,SB.enc];exact .box ty (injL_les hc ks cs x _ h1 hx)
    ·cases h1
   ·exact injH_boxes hc l y _ h2 (sndC_den _ x y e' hd itmsTy_nil) p hp
  ·cases h
 | .row b fr t ty v::l,e,e',h,hd,p,hp=>by
  have h0:=h;rw [prjIs] at h;split at h
  ·rename_i x y h1 h2;injection h with h
   subst h;rw [injH] at hp;rcases List.mem_cons.1 hp with rfl | hp
   ·obtain ⟨_,g2,_⟩:=injH_rows _ _ e' h0 hd (b,.row fr t (fstC l.isEmpty e') ty v) (by rw [injH];simp);obtain ⟨fr',xs',v',hb,hxs,hfr⟩:=g2 _ _ _ _ _ rfl;rw [hb,SB.enc,SB.enc,hxs];exact .rows (rows_le hfr t _)
   ·exact injH_boxes hc l y _ h2 (sndC_den _ x y e' hd itmsTy_nil) p hp
  ·cases h
 | .arn t ty::l,e,e',h,hd,p,hp=>by
  rw [prjIs] at h;split at h
  ·rename_i x y h1 h2;injection h with h
   subst h;rw [injH] at hp;rcases List.mem_cons.1 hp with rfl | hp
   ·rw [SB.enc];exact .dead _
   ·exact injH_boxes hc l y _ h2 (sndC_den _ x y e' hd itmsTy_nil) p hp
  ·cases h
theorem injH_keys:∀ (l:List Itm) (e:E D (itmsTy l)),(injH l e).map (·.1)=itemB l
 | [],_=>by rw [injH];rfl
 | .reg ..::l,e=>by rw [injH,itemB,injH_keys l]
 | .box ..::l,e=>by rw [injH,itemB,List.map_cons,injH_keys l]
 | .row ..::l,e=>by rw [injH,itemB,List.map_cons,injH_keys l]
 | .arn ..::l,e=>by rw [injH,itemB,List.map_cons,injH_keys l]
theorem injH_same:∀ (l:List Itm) (e e':E D (itmsTy l)) (b:Nat) (d:SB D),isBoxS (look d (injH l e) b)=isBoxS (look d (injH l e') b)∧∀ v,isVer (look d (injH l e) b) v=isVer (look d (injH l e') b) v
 | [],_,_,b,d=>by rw [injH,injH];exact ⟨rfl,fun _=>rfl⟩
 | .reg ..::l,e,e',b,d=>by rw [injH,injH];exact injH_same l _ _ b d
 | .box b' ..::l,e,e',b,d=>by
  rw [injH,injH,look_cons,look_cons];split
  ·exact ⟨rfl,fun _=>rfl⟩
  ·exact injH_same l _ _ b d
 | .row b' ..::l,e,e',b,d=>by
  rw [injH,injH,look_cons,look_cons];split
  ·exact ⟨rfl,fun _=>rfl⟩
  ·exact injH_same l _ _ b d
 | .arn ..::l,e,e',b,d=>by
  rw [injH,injH,look_cons,look_cons];split
  ·exact ⟨rfl,fun _=>rfl⟩
  ·exact injH_same l _ _ b d
theorem nodupN_append {l r:List Nat} (h:nodupN (l++r)=true):nodupN l=true∧nodupN r=true∧∀ a ∈ l,a ∉ r:=by
 induction l with
 | nil=>exact ⟨rfl,h,fun a ha=>by cases ha⟩
 | cons a l ih =>
  obtain ⟨h1,h2⟩:=nodupN_cons (a:=a) (l:=l++r) h;obtain ⟨g1,g2,g3⟩:=ih h2;refine ⟨?_,g2,fun b hb=>?_⟩
  ·rw [nodupN,g1,Bool.and_true]
   cases hh:hasN l a with
   | true=>exact absurd (List.mem_append_left r (hasN_mem hh)) h1
   | false=>rfl
  ·rcases List.mem_cons.1 hb with rfl | hb
   ·exact fun e=>h1 (List.mem_append_right l e)
   ·exact g3 b hb
theorem nodupN_map {f:Nat→Nat} {l:List Nat} (h:nodupN (l.map f)=true):∀ a ∈ l,∀ b ∈ l,f a=f b→a=b:=by
 induction l with
 | nil=>intro a ha;cases ha
 | cons c l ih =>
  have h:nodupN (f c::l.map f)=true:=h;obtain ⟨h1,h2⟩:=nodupN_cons h;intro a ha b hb e;rcases List.mem_cons.1 ha with ha1 | ha1
  ·rcases List.mem_cons.1 hb with hb1 | hb1
   ·rw [ha1,hb1]
   ·exact absurd (List.mem_map.2 ⟨b,hb1,by rw [←e,ha1]⟩) h1
  ·rcases List.mem_cons.1 hb with hb1 | hb1
   ·exact absurd (List.mem_map.2 ⟨a,ha1,by rw [e,hb1]⟩) h1
   ·exact ih h2 a ha1 b hb1 e
theorem lk_keys {mp:List (Nat×Nat)} {b:Nat} (h:b ∉ mp.map (·.1)):mpI mp b=b:=by
 unfold mpI
 have:lk mp b=none:=by
  induction mp with
  | nil=>rfl
  | cons p l ih =>
   obtain ⟨j,v⟩:=p;rw [lk]
   have hne:Nat.beq j b=false:=by
    rw [←Bool.not_eq_true];intro e;exact h (by simp [Nat.eq_of_beq_eq_true e])
   rw [hne];exact ih (fun e=>h (by simp;right;simpa using e))
 rw [this]
theorem isVer_row {b:SB D} {v:Nat} (h:isVer b v=true):∃ fr t xs e,b=.row fr t xs e v:=by
 cases b with
 | row fr t xs e v'=>exact ⟨fr,t,xs,e,by rw [Nat.eq_of_beq_eq_true h]⟩
 | _=>cases h
theorem rowLen_some {H:Nat→SB D} {id v n:Nat} (h:rowLen H id v=some n):isVer (H id) v=true∧∃ fr t xs e,H id=.row fr t xs e v∧n=List.length xs.den:=by
 unfold rowLen at h;split at h
 ·rename_i fr t xs e v' hb
  cases hv:Nat.beq v v' with
  | false=>rw [hv] at h;cases h
  | true =>
   rw [hv] at h;injection h with h
   have e1:=Nat.eq_of_beq_eq_true hv;subst e1;exact ⟨by rw [hb];exact hv,fr,t,xs,e,hb,h.symm⟩
 ·cases h
theorem rowLen_ver {H:Nat→SB D} {id v:Nat} (h:isVer (H id) v=false):rowLen H id v=none:=by
 unfold rowLen;split
 ·rename_i fr t xs e v' hb;rw [hb] at h;have h:Nat.beq v v'=false:=h;rw [h];rfl
 ·rfl
theorem cut_raw {F:List (Nat→AV)} {base st:SSt D} {sg:Sig} {mp:List (Nat×Nat)} {m:Nat→Nat} {nx:Nat} {e e':E D (itmsTy sg.items)} (ha:arr base sg mp st=some e) (hd:e'.den=e.den) (hfix:Fix (lay base sg) st) (hm:MOk m nx st) (hf:FrOk m st.blk st.fr F) :
  MOk (mM m mp) nx (inj base sg e')∧LeS ((inj base sg e').enc (mM m mp) nx) (st.enc m nx)∧FrOk (mM m mp) (inj base sg e').blk base.fr F∧∀ b,(inj base sg e').blk b≠.dead→st.blk (mpI mp b)≠.dead:=by
 unfold arr at ha;split at ha
 ·cases ha
 ·rename_i e0 hp
  cases hc:cutOk base sg mp st (inj base sg e0).blk with
  | false=>rw [hc] at ha;cases ha
  | true =>
   rw [hc] at ha;injection ha with ha
   subst ha;unfold cutOk at hc;simp only [Bool.and_eq_true] at hc;obtain ⟨c1,c2,c3,c4,c5,c6,c7,c8,c9,c10,c11⟩:=hc;have hkp:st.kp=keepR base sg.keep++base.kp:=hfix.kp;have hhk:st.hk=keepH base sg.keepB++base.hk:=hfix.hk;have hfr:st.fr=base.fr:=hfix.fr;generalize hK:keepR base sg.keep++base.kp=KP at *
   generalize hH:keepH base sg.keepB++base.hk=HK at *
   have hblk:∀ (e1:E D (itmsTy sg.items)) b,(inj base sg e1).blk b=look (look .dead HK b) (injH sg.items e1) b:=by
    intro e1 b;show look (look .dead (keepH base sg.keepB++base.hk) b) _ _=_;rw [hH];rfl
   obtain ⟨n1,n2,n3⟩:=nodupN_append c4;obtain ⟨m1,_,m3⟩:=nodupN_append c5
   have hmpk:∀ b,b ∉ itemB sg.items→mpI mp b=b:=by
    intro b hb;refine lk_keys fun hk=>hb ?_
    obtain ⟨p,hp1,e1⟩:=List.mem_map.1 hk;rw [←e1];exact hasN_mem (List.all_eq_true.1 c7 p hp1)
   have hHKst:∀ p ∈ HK,st.blk p.1=p.2:=by
    intro p hp1;have hno:p.1 ∉ st.heap.map (·.1):=fun hh=>disj_at c2 hh (List.mem_map.2 ⟨p,hp1,rfl⟩)
    show look (look .dead st.hk p.1) st.heap p.1=_;rw [look_none hno,hhk];exact look_nodup n2 hp1
   have hHKlive:∀ p ∈ HK,p.2≠.dead:=fun p hp1=>(hm.keys p (List.mem_append_right _ (by rw [hhk];exact hp1))).2

   have hIn:∀ (e1:E D (itmsTy sg.items)) b,b ∉ itemB sg.items→(inj base sg e1).blk b=look .dead HK b:=by
    intro e1 b hb;rw [hblk,look_none];rw [injH_keys];exact hb
   have hcase:∀ b,(inj base sg e').blk b≠.dead→(b ∈ itemB sg.items∧(b,(inj base sg e').blk b) ∈ injH sg.items e')∨(b ∉ itemB sg.items∧mpI mp b=b∧(b,(inj base sg e').blk b) ∈ HK∧st.blk b=(inj base sg e').blk b):=by
    intro b hb;by_cases hbi:b ∈ itemB sg.items
    ·refine .inl ⟨hbi,?_⟩;have hbm:b ∈ (injH sg.items e').map (·.1):=by rw [injH_keys];exact hbi
     obtain ⟨q,hq,e1⟩:=List.mem_map.1 hbm
     have:(inj base sg e').blk b=q.2:=by
      rw [hblk,←e1];exact look_nodup (by rw [injH_keys];exact n1) hq
     rw [this,←e1];exact hq
    ·refine .inr ⟨hbi,hmpk b hbi,?_⟩;rw [hIn e' b hbi] at hb ⊢;have:=look_mem (rfl:look SB.dead HK b=_) hb;exact ⟨this,hHKst _ this⟩
   have hIR:=injH_rows sg.items e0 e' hp hd
   have hcut:CutM st.blk (inj base sg e').blk mp:=by
    refine ⟨fun b v n id ver hrl hid hver=>?_⟩;obtain ⟨_,fr,t,xs,ty,hb,hn⟩:=rowLen_some hrl;subst hid;rcases hcase b (by rw [hb];simp) with ⟨_,g⟩ | ⟨_,g1,g2,g3⟩
    ·rw [hb] at g;obtain ⟨_,g2,_⟩:=hIR _ g;obtain ⟨fr',xs',v',h1,h2,_⟩:=g2 _ _ _ _ _ rfl;unfold rowLen;have hver':=hver;rw [h1] at hver';have hver':Nat.beq ver v'=true:=hver';rw [h1];simp only [hver',cond_true];rw [hn,h2]
    ·rw [g1] at hver ⊢;have g3':=g3;rw [hb] at g3;rw [g3] at hver;have hver':Nat.beq ver v=true:=hver;unfold rowLen;rw [g3];simp only [hver',cond_true];rw [hn]
   have hle:MemLe m st.blk (mM m mp) (inj base sg e').blk (cutB (inj base sg e0).blk mp st.blk) (cutR (inj base sg e0).blk mp st.blk):=by
    have same:∀ b,isBoxS ((inj base sg e').blk b)=isBoxS ((inj base sg e0).blk b)∧∀ v,isVer ((inj base sg e').blk b) v=isVer ((inj base sg e0).blk b) v:=by
     intro b;rw [hblk,hblk];exact injH_same _ _ _ _ _
    refine ⟨fun id h=>?_,fun id v h=>?_⟩
    ·unfold cutB at h
     cases h1:isBoxS ((inj base sg e0).blk id) with
     | false=>exact .inl (by rw [isBoxS_eq,(same id).1,h1])
     | true =>
      rw [h1] at h;have h:(Nat.beq (mpI mp id) id&&isBoxS (st.blk id))=true:=h;rw [Bool.and_eq_true] at h;have hid:=Nat.eq_of_beq_eq_true h.1;exact .inr ⟨by rw [isBoxS_eq,(same id).1,h1,isBoxS_eq,h.2],by show m (mpI mp id)=m id;rw [hid]⟩
    ·unfold cutR at h
     cases h1:isVer ((inj base sg e0).blk id) v with
     | false=>exact .inl (rowLen_ver (by rw [(same id).2,h1]))
     | true =>
      rw [h1] at h;have h:(Nat.beq (mpI mp id) id&&isVer (st.blk id) v)=true:=h;rw [Bool.and_eq_true] at h;have hid:=Nat.eq_of_beq_eq_true h.1;refine .inr ⟨?_,by show m (mpI mp id)=m id;rw [hid]⟩;have h1':isVer ((inj base sg e').blk id) v=true:=by rw [(same id).2,h1]
      obtain ⟨fr,t,xs,ty,hb⟩:=isVer_row h1';have hrl:rowLen (inj base sg e').blk id v=some (List.length xs.den):=rowLen_eq hb (by rw [hb] at h1';exact h1');rw [hrl];exact (hcut.row id v _ id v hrl hid.symm h.2).symm
   have hlive:∀ b,(inj base sg e').blk b≠.dead→st.blk (mpI mp b)≠.dead:=by
    intro b hb;rcases hcase b hb with ⟨_,g⟩ | ⟨_,g1,g2,g3⟩
    ·exact (hIR _ g).1
    ·rw [g1,g3];exact hb
   have hArn:((inj base sg e').blk 0).isA=true→mpI mp 0=0∧(st.blk 0).isA=true∧∀ B,((inj base sg e').blk 0).rows B=(st.blk 0).rows B:=by
    intro hA;have hne:(inj base sg e').blk 0≠.dead:=fun e1=>by rw [e1] at hA;cases hA
    rcases hcase 0 hne with ⟨_,g⟩ | ⟨_,g1,_,g3⟩
    ·cases hb0:(inj base sg e').blk 0 with
     | arn t xs ty =>
      rw [hb0] at g;obtain ⟨_,q2,xs',q3,q4⟩:=injH_arn sg.items e0 e' hp hd _ g t xs ty rfl;refine ⟨q2,by rw [q3];rfl,fun B=>?_⟩;rw [q3];show (List.range B).map _=(List.range B).map _;rw [q4]
     | dead=>exact absurd hb0 hne
     | box=>rw [hb0] at hA;cases hA
     | row=>rw [hb0] at hA;cases hA
    ·exact ⟨g1,by rw [g3];exact hA,fun B=>by rw [g3]⟩
   have hmk:MOk (mM m mp) nx (inj base sg e'):=by
    refine ⟨fun b hb=>hm.lt _ (hlive b hb),fun b b' hb hb' e1=>?_,fun p hp1=>?_,fun hA=>?_,hm.ge.1,fun k hk=>hm.ge.2 _ (hlive k hk)⟩
    rotate_left 2
    ·obtain ⟨q1,q2,_⟩:=hArn hA;have h0:mM m mp 0=m 0:=by show m (mpI mp 0)=m 0;rw [q1]
     rw [h0];exact hm.ar' q2
    ·have e2:mpI mp b=mpI mp b':=hm.inj _ _ (hlive b hb) (hlive b' hb') e1;rcases hcase b hb with ⟨g0,_⟩ | ⟨_,g1,g2,_⟩
     ·rcases hcase b' hb' with ⟨k0,_⟩ | ⟨_,k1,k2,_⟩
      ·exact nodupN_map m1 b g0 b' k0 e2
      ·refine absurd ?_ (m3 (mpI mp b) (List.mem_map.2 ⟨b,g0,rfl⟩));rw [e2,k1];exact List.mem_map.2 ⟨_,k2,rfl⟩
     ·rcases hcase b' hb' with ⟨k0,_⟩ | ⟨_,k1,k2,_⟩
      ·refine absurd ?_ (m3 (mpI mp b') (List.mem_map.2 ⟨b',k0,rfl⟩));rw [←e2,g1];exact List.mem_map.2 ⟨_,g2,rfl⟩
      ·rw [g1,k1] at e2;exact e2
    ·have hp1:p ∈ injH sg.items e'++(keepH base sg.keepB++base.hk):=hp1;rw [hH] at hp1;rcases List.mem_append.1 hp1 with hp1 | hp1
     ·obtain ⟨_,_,g3,g4⟩:=hIR p hp1;exact ⟨Nat.le_of_ble_eq_true (List.all_eq_true.1 c6 _ g3),g4⟩
     ·have:p.1<base.nx:=Nat.le_of_ble_eq_true (List.all_eq_true.1 c11 _ hp1);exact ⟨Nat.lt_of_lt_of_le this (Nat.le_add_right _ _),hHKlive p hp1⟩
   refine ⟨hmk,⟨fun d=>?_,fun k=>?_,rfl⟩,?_,hlive⟩
   ·rw [enc_get,enc_get];show Les ((look (look .any (keepR base sg.keep++base.kp) d) (statR sg.stat++injR sg.items e') d).enc _ _) _;rw [hK];refine look_rel (R:=fun x=>Les (SV.enc (mM m mp) (inj base sg e').blk x) ((st.get d).enc m st.blk)) ?_ (fun p hp1 e1=>?_)
    ·by_cases hdk:d ∈ KP.map (·.1)
     ·have hno:d ∉ st.regs.map (·.1):=fun hh=>disj_at c1 hh hdk
      have:st.get d=look .any KP d:=by
       show look (look .any st.kp d) st.regs d=_;rw [look_none hno,hkp]
      rw [this];exact enc_les hle _ (refsR_look c8 d)
     ·rw [look_none hdk,SV.enc];exact .any _
    ·rw [←e1];rcases List.mem_append.1 hp1 with hp1 | hp1
     ·obtain ⟨q,hq,rfl⟩:=List.mem_map.1 hp1;have h3:=List.all_eq_true.1 c3 q hq;rw [Bool.and_eq_true] at h3;obtain ⟨x,hx⟩:=Option.isSome_iff_exists.1 h3.2;show Les (SV.enc (mM m mp) _ (injS q.2)) _;unfold injS;split
      ·rename_i ht _;refine injK_les hcut q.2 _ x _ hx ?_;exact den_uni ht.symm _ _
      ·rw [SV.enc];exact .any _
     ·exact injR_ok hcut sg.items e0 e' hp hd p hp1
   ·rw [enc_look hmk]
    cases hcA:(((inj base sg e').blk 0).isA&&Nat.blt k (mM m mp 0)) with
    | true =>
     rw [Bool.and_eq_true] at hcA;obtain ⟨q1,q2,q3⟩:=hArn hcA.1;have h0:mM m mp 0=m 0:=by show m (mpI mp 0)=m 0;rw [q1]
     have hk:=hcA.2;rw [h0] at hk;rw [cond_true,enc_look hm,q2,hk,q3,h0];exact .refl _
    | false =>
    rw [cond_false];show LesB (look .dead (encH (mM m mp) (inj base sg e').blk (injH sg.items e'++(keepH base sg.keepB++base.hk))) k) _;rw [hH];refine look_encH_rel fun p hp1 e1=>?_
    rw [←e1];rcases List.mem_append.1 hp1 with hp1 | hp1
    ·show LesB _ (look .dead (st.enc m nx).heap (m (mpI mp p.1)));rw [enc_blk hm (hIR p hp1).1];exact injH_boxes hcut sg.items e0 e' hp hd p hp1
    ·have hpi:p.1 ∉ itemB sg.items:=fun hh=>n3 _ hh (List.mem_map.2 ⟨p,hp1,rfl⟩)
     show LesB _ (look .dead (st.enc m nx).heap (m (mpI mp p.1)));have hsb:=hHKst p hp1;rw [hmpk _ hpi,enc_blk hm (by rw [hsb];exact hHKlive p hp1),hsb];refine encB_les hle _ ?_
     have:∀ (l:List (Nat×SB D)),refsH (cutB (inj base sg e0).blk mp st.blk) (cutR (inj base sg e0).blk mp st.blk) l=true→∀ q ∈ l,q.2.refs (cutB (inj base sg e0).blk mp st.blk) (cutR (inj base sg e0).blk mp st.blk)=true:=by
      intro l
      induction l with
      | nil=>intro _ q hq;cases hq
      | cons a l ih =>
       intro h q hq;rw [refsH,Bool.and_eq_true] at h;rcases List.mem_cons.1 hq with rfl | hq
       ·exact h.1
       ·exact ih h.2 q hq
     exact this HK c9 p hp1
   ·show FrOk (mM m mp) (inj base sg e').blk base.fr F;rw [hfr] at hf;exact hf.les' hle c10
theorem cut_ok {F:List (Nat→AV)} {base st:SSt D} {sg:Sig} {mp:List (Nat×Nat)} {s:ASt} {e e':E D (itmsTy sg.items)} (ha:arr base sg mp st=some e) (hd:e'.den=e.den) (hfix:Fix (lay base sg) st) (hst:StL F st s):StL F (inj base sg e') s:=by
 obtain ⟨m,nx,hm,hl,hf⟩:=hst;obtain ⟨h1,h2,h3,_⟩:=cut_raw ha hd hfix hm hf;exact ⟨_,_,h1,hl.trans (LeS.rle h2),h3⟩
end
section
variable {F:List (Nat→AV)} {st st':SSt D} {s:ASt} {m:Nat→Nat} {nx:Nat}
theorem heap_cases (hm:MOk m nx st) (k:Nat):look .dead (st.enc m nx).heap k=.dead∨(∃ b,st.blk b≠.dead∧k=m b)∨((st.blk 0).isA=true∧k<m 0∧look .dead (st.enc m nx).heap k=look .dead ((st.blk 0).rows (m 0)) k):=by
 cases hA:((st.blk 0).isA&&Nat.blt k (m 0)) with
 | true =>
  have h1:=enc_look hm k;rw [hA,cond_true] at h1;rw [Bool.and_eq_true,Nat.blt_eq] at hA;exact .inr (.inr ⟨hA.1,hA.2,h1⟩)
 | false =>
  rw [enc_look hm,hA,cond_false];by_cases h:look .dead (encH m st.blk (st.heap++st.hk)) k=.dead
  ·exact .inl h
  ·refine .inr (.inl ?_);have:=look_mem (rfl:look AB.dead (encH m st.blk (st.heap++st.hk)) k=_) h;obtain ⟨p,hp,e⟩:=List.mem_map.1 this;injection e with e1 _
   exact ⟨p.1,hm.key_live hp,e1.symm⟩
theorem same_les (hm:MOk m nx st) (hm':MOk m nx st') (hg:∀ d,st'.get d=st.get d) (hb:st'.blk=st.blk):LeS (st'.enc m nx) (st.enc m nx):=by
 refine ⟨fun d=>?_,fun k=>?_,rfl⟩
 ·rw [enc_get,enc_get,hg,hb];exact .refl _
 ·rcases heap_cases hm' k with h | ⟨b,h,e⟩ | ⟨h1,h2,h3⟩
  ·rw [h];exact .dead _
  ·subst e;rw [enc_blk hm' h,enc_blk hm (by rw [←hb];exact h),hb];exact .refl _
  ·rw [h3,enc_look hm,←hb,h1,show Nat.blt k (m 0)=true by rw [Nat.blt_eq];exact h2];exact .refl _
theorem StL.same (h:StL F st s) (hg:∀ d,st'.get d=st.get d) (hb:st'.blk=st.blk) (hk:∀ p ∈ st'.heap++st'.hk,p ∈ st.heap++st.hk∨(p.2=st.blk p.1∧p.2≠.dead)) (hn:st'.nx=st.nx) (hf:st'.fr=st.fr):StL F st' s:=by
 obtain ⟨m,nx,hm,hl,hfr⟩:=h
 have hm':MOk m nx st':=⟨fun k hk=>hm.lt k (by rw [←hb];exact hk),fun k k' h1 h2 e=>hm.inj k k' (by rw [←hb];exact h1) (by rw [←hb];exact h2) e,fun p hp=>by
  rw [hn];rcases hk p hp with h | ⟨h1,h2⟩
  ·exact hm.keys p h
  ·exact ⟨hm.live (by rw [←h1];exact h2),h2⟩,fun h=>by rw [hb] at h;exact hm.ar' h,by rw [hb];exact hm.ge⟩
 exact ⟨m,nx,hm',hl.trans (same_les hm hm' hg hb).rle,by rw [hb,hf];exact hfr⟩
end
section
variable {V:Ty→Type}
def isLive (b:SB V):Bool:=match b with
 | .dead=>false
 | _=>true
def layOk (st:SSt V) (sg:Sig):Bool:=sg.keepB.all fun b=>isLive (st.blk b)
end
section
variable {F:List (Nat→AV)} {base st:SSt D} {s:ASt} {sg:Sig}
theorem look_keepR (l:List Nat) (x:SV D) (d:Nat):look x (keepR base l) d=bif hasN l d then base.get d else x:=by
 induction l with
 | nil=>rfl
 | cons a l ih =>
  show look x ((a,base.get a)::keepR base l) d=_;rw [look_cons,ih,hasN];by_cases e:a=d
  ·subst e;rw [if_pos rfl,Nat.beq_refl];rfl
  ·rw [if_neg e];have:Nat.beq a d=false:=by rw [←Bool.not_eq_true];intro h;exact e (Nat.eq_of_beq_eq_true h)
   rw [this];rfl
theorem look_keepH (l:List Nat) (x:SB D) (d:Nat):look x (keepH base l) d=bif hasN l d then base.blk d else x:=by
 induction l with
 | nil=>rfl
 | cons a l ih =>
  show look x ((a,base.blk a)::keepH base l) d=_;rw [look_cons,ih,hasN];by_cases e:a=d
  ·subst e;rw [if_pos rfl,Nat.beq_refl];rfl
  ·rw [if_neg e];have:Nat.beq a d=false:=by rw [←Bool.not_eq_true];intro h;exact e (Nat.eq_of_beq_eq_true h)
   rw [this];rfl
theorem lay_get (d:Nat):(lay base sg).get d=base.get d:=by
 show look (look .any (keepR base sg.keep++base.kp) d) (base.regs.filter fun p=>!hasN sg.keep p.1) d=_;rw [look_filt (f:=fun d=>!hasN sg.keep d),look_append,look_keepR]
 cases hasN sg.keep d <;> rfl
theorem lay_blk:(lay base sg).blk=base.blk:=by
 funext d
 show look (look .dead (keepH base sg.keepB++base.hk) d) (base.heap.filter fun p=>!hasN sg.keepB p.1) d=_;rw [look_filt (f:=fun d=>!hasN sg.keepB d),look_append,look_keepH]
 cases hasN sg.keepB d <;> rfl
theorem lay_ok (h:StL F base s) (hk:layOk base sg=true):StL F (lay base sg) s:=by
 refine h.same lay_get lay_blk (fun p hp=>?_) rfl rfl;rcases List.mem_append.1 hp with hp | hp
 ·exact .inl (List.mem_append_left _ (List.mem_filter.1 hp).1)
 ·rcases List.mem_append.1 hp with hp | hp
  ·obtain ⟨b,hb,rfl⟩:=List.mem_map.1 hp;refine .inr ⟨rfl,?_⟩;have:=List.all_eq_true.1 hk b hb;intro e;have e:base.blk b=.dead:=e;rw [e] at this;cases this
  ·exact .inl (List.mem_append_right _ hp)
theorem unlay_ok (hfix:Fix (lay base sg) st) (h:StL F st s):StL F (unlay base st sg) s∧Fix base (unlay base st sg):=by
 have hkp:st.kp=keepR base sg.keep++base.kp:=hfix.kp;have hhk:st.hk=keepH base sg.keepB++base.hk:=hfix.hk;have hfr:st.fr=base.fr:=hfix.fr;refine ⟨h.same (fun d=>?_) ?_ (fun p hp=>.inl ?_) rfl hfr.symm,⟨rfl,rfl,rfl⟩⟩
 ·show look (look .any base.kp d) (st.regs++keepR base sg.keep) d=look (look .any st.kp d) st.regs d;rw [look_append,hkp,look_append]
 ·funext d
  show look (look .dead base.hk d) (st.heap++keepH base sg.keepB) d=look (look .dead st.hk d) st.heap d;rw [look_append,hhk,look_append]
 ·rw [hhk];have hp:p ∈ (st.heap++keepH base sg.keepB)++base.hk:=hp;rw [List.append_assoc] at hp;exact hp
theorem inj_fix {e:E D (itmsTy sg.items)} {st':SSt D} (h:Fix (inj base sg e) st'):Fix (lay base sg) st':=⟨h.kp,h.hk,h.fr⟩
end
end Go.Proofs.Ytljebnobajmjnaa
/- Decompiling: a row of the call's own becomes data that is only read. No program in sight. -/
namespace Go.Proofs.Ytljebnobajmjnaa
open Go Go.RowKit

def Ty.noL:Ty→Bool
 | .list _=>false
 | .ptr _=>false
 | .pair a b=>a.noL&&b.noL
 | .agg t=>t.noL
 | _=>true
theorem Ty.cells_noL (fr fr':Bool):∀ (t:Ty) (x:t.den),t.noL=true→t.cells fr x=t.cells fr' x
 | .int _,_,_=>rfl
 | .bool,_,_=>rfl
 | .str,_,_=>rfl
 | .unit,_,_=>rfl
 | .list _,_,h=>by cases h
 | .ptr _,_,h=>by cases h
 | .pair a b,x,h=>by
  rw [Ty.noL,Bool.and_eq_true] at h;rw [Ty.cells,Ty.cells,Ty.cells_noL fr fr' a x.1 h.1,Ty.cells_noL fr fr' b x.2 h.2]
 | .agg t,x,h=>by
  rw [Ty.cells,Ty.cells];exact Ty.cells_noL fr fr' t x h
 | .aix,_,_=>rfl
theorem rows_noL (fr fr':Bool) (t:Ty) (xs:List t.den) (h:t.noL=true):xs.map (t.cells fr)=xs.map (t.cells fr'):=List.map_congr_left fun x _=>Ty.cells_noL fr fr' t x h
theorem rows_fl (fr:Bool) (t:Ty) (xs:List t.den):xs.map (t.cells (fr||t.noL))=xs.map (t.cells fr):=by
 cases h:t.noL with
 | true=>exact rows_noL _ _ t xs h
 | false=>rw [Bool.or_false]
def Gh.fz (G:Gh) (id:Nat):Gh:=⟨fun i=>if i=id then .slice Option.none 0 0 else G.ρ i,fun b=>G.own b∧ownBlk (G.ρ id)≠some b,fun i=>if i=id then G.ln i+1 else G.ln i,G.sz,G.nx,G.bs,G.far⟩
section
variable {w0 w:World} {G:Gh} {hp:List (Nat×AB)} {id:Nat}
theorem fz_ρ {i:Nat} (h:i≠id):(G.fz id).ρ i=G.ρ i:=if_neg h
theorem fz_ln {i:Nat} (h:i≠id):(G.fz id).ln i=G.ln i:=if_neg h
theorem Ext.fz (hs:0<G.sz id):Ext w G w (G.fz id):=⟨Nat.le_refl _,fun _ _ _=>rfl,fun b h=>.inl h.1,Nat.le_refl _,⟨rfl,rfl⟩,fun i hi=>by
 by_cases e:i=id
 ·subst e;have e1:(G.fz i).ln i=G.ln i+1:=if_pos rfl;exact ⟨by omega,rfl,fun h=>by omega,fun h=>by omega⟩
 ·rw [fz_ρ e,fz_ln e]
  exact ⟨Nat.le_refl _,rfl,fun _=>rfl,fun _=>rfl⟩⟩
theorem row_frozen {n sz:Nat} {rows:List (List AV)} {e:TypeId} {fr:Bool} {v:Value} (hHR:HR w0 w G hp) (h:look .dead hp id=.row sz rows e) (hn:n=rows.length) (hv:RelV w G (.osl id n) v) (hd:∀ row ∈ rows,∀ a ∈ row,isD a=true):RelV w (G.fz id) (.ro fr sz rows) v:=by
 have hk:=hHR.blk id;rw [h] at hk;obtain ⟨q1,q2,q3,q4,flat,q5,q6,q7⟩:=hk;have hs:0<G.sz id:=by rw [q3];exact q2
 have ev:v=G.ρ id:=by
  cases hv with
  | dat h=>cases h
  | osl _ _ _ _ _ _ _ hh=>exact hh (by rw [q4,hn])
 subst ev;rcases q5.2 with ⟨e1,e2⟩ | ⟨gg,cap,cur,e1,hbs,hh,hcap,hcm,_,_⟩
 ·rw [e1];have hr0:rows=[]:=List.eq_nil_of_length_eq_zero (by omega);subst hr0;exact .dat (.ro fr sz [] none 0 (fun _ _=>undef) (Nat.le_refl _) (by simp [maxLen]) (fun i hi=>by simp at hi) (fun i row j a g=>by simp at g) (fun i row j a g=>by simp at g))
 ·have hog:G.own gg:=hHR.ownhas id gg q1 (by rw [e1];rfl);have q5':=q5;rw [e1] at q5';have e0:=e1;rw [e1]
  have key:∀ (i:Nat) (row:List AV) (j:Nat) (a:AV),rows[i]?=some row→row[j]?=some a→∃ u,flat[i*sz+j]?=some u∧w.cell? ⟨gg,i*sz+j,none⟩=some u∧RelD w (G.fz id).own (G.fz id).bs a u:=by
   intro i row j a g1 g2;obtain ⟨u,g6,g7⟩:=(q7 i row g1).2 j a g2;refine ⟨u,g6,?_,(g7.isD (hd row (List.mem_of_getElem? g1) a (List.mem_of_getElem? g2))).ext (Ext.fz (w:=w) hs)⟩;rw [q5'.cellAt _ (by have:=(List.getElem?_eq_some_iff.1 g6).1;rw [q5.1] at this;exact this),g6]
  refine .dat (.ro fr sz rows (some ⟨gg,0,none⟩) cap (fun i j=>flat.getD (i*sz+j) undef) (by omega) hcm (fun _ _=>by simp) (fun i row j a g1 g2=>?_) (fun i row j a g1 g2=>?_))
  ·obtain ⟨u,g3,g4,_⟩:=key i row j a g1 g2;refine ⟨gg,0,rfl,fun ho=>ho.2 (by rw [e0];rfl),fun _=>?_,?_⟩
   ·show G.bs≤gg;rw [hHR.bs];exact hbs
   ·rw [Nat.zero_add,g4,List.getD_eq_getElem?_getD,g3];rfl
  ·obtain ⟨u,g3,_,g5⟩:=key i row j a g1 g2;rw [List.getD_eq_getElem?_getD,g3];exact g5
theorem view_frozen {n lo len sz:Nat} {rows:List (List AV)} {e:TypeId} {fr:Bool} {v:Value} (hHR:HR w0 w G hp) (h:look .dead hp id=.row sz rows e) (hn:n=rows.length) (hv:RelV w G (.vsl id n lo len) v) (hd:∀ row ∈ rows,∀ a ∈ row,isD a=true):RelV w (G.fz id) (.ro fr sz ((rows.drop lo).take len)) v:=by
 have hk:=hHR.blk id;rw [h] at hk;obtain ⟨q1,q2,q3,q4,flat,q5,q6,q7⟩:=hk;have hs:0<G.sz id:=by rw [q3];exact q2
 cases hv with
 | dat h=>cases h
 | vsl _ _ _ _ _ p1 p2 p3 hle p4 p5 =>
  obtain ⟨A,c,rfl,hc,hcm,hA⟩:=p5 (by rw [q4,hn]);have hlen:((rows.drop lo).take len).length=len:=by rw [List.length_take,List.length_drop];omega
  have key:∀ (i:Nat) (row:List AV) (j:Nat) (a:AV),((rows.drop lo).take len)[i]?=some row→row[j]?=some a→∃ g,A=some ⟨g,lo*sz,none⟩∧¬ (G.fz id).own g∧G.bs≤g∧w.cell? ⟨g,(lo+i)*sz+j,none⟩=some (flat.getD ((lo+i)*sz+j) undef)∧RelD w (G.fz id).own (G.fz id).bs a (flat.getD ((lo+i)*sz+j) undef):=by
   intro i row j a g1 g2;have hil:i<len:=by rw [←hlen];exact (List.getElem?_eq_some_iff.1 g1).1
   obtain ⟨g,c',e1,e2⟩:=hA (by omega);rw [List.getElem?_take_of_lt hil,List.getElem?_drop] at g1;obtain ⟨u,g6,g7⟩:=(q7 _ row g1).2 j a g2
   have hbs:w0.heap.size≤g:=by
    rcases q5.2 with ⟨e3,e4⟩ | ⟨gg,cap,cur,e3,hbs,_⟩
    ·rw [e1] at e3;cases e3
    ·rw [e1] at e3;injection e3 with e3;injection e3 with e3;injection e3 with e3;rw [e3];exact hbs
   have q5':=q5;rw [e1,hn] at q5';refine ⟨g,by rw [e2,q3],fun ho=>ho.2 (by rw [e1];rfl),by rw [hHR.bs];exact hbs,?_,?_⟩
   ·rw [q5'.cellAt _ (by have:=(List.getElem?_eq_some_iff.1 g6).1;rw [q5.1] at this;exact this),List.getD_eq_getElem?_getD,g6];rfl
   ·rw [List.getD_eq_getElem?_getD,g6];exact (g7.isD (hd row (List.mem_of_getElem? g1) a (List.mem_of_getElem? g2))).ext (Ext.fz (w:=w) hs)
  have fin:=RelD.ro (w:=w) (own:=(G.fz id).own) (bs:=(G.fz id).bs) fr sz ((rows.drop lo).take len) A c (fun i j=>flat.getD ((lo+i)*sz+j) undef) (by rw [hlen];exact hc) hcm (fun i hi=>by
    rw [hlen] at hi;obtain ⟨g,c',e1,e2⟩:=hA (by omega)
    rw [e2];simp) (fun i row j a g1 g2=>by
    obtain ⟨g,e1,e2,e3,e4,_⟩:=key i row j a g1 g2;refine ⟨g,lo*sz,e1,e2,fun _=>e3,?_⟩;rw [show lo*sz+i*sz+j=(lo+i)*sz+j by rw [Nat.add_mul]]
    exact e4) (fun i row j a g1 g2=>(by
    obtain ⟨g,_,_,_,_,e5⟩:=key i row j a g1 g2
    exact e5))
  rw [hlen] at fin;exact .dat fin
end
section
variable {V:Ty→Type}
mutual
def SV.fz (id ver:Nat) (fr:Bool) (t:Ty) (xs:E V (.list t)):SV V→SV V
 | .osl i v=>bif Nat.beq i id&&Nat.beq v ver then .ro fr t xs else .osl i v
 | .vsl i v lo hi=>bif Nat.beq i id&&Nat.beq v ver then .ro fr t (.sub xs lo hi) else .vsl i v lo hi
 | .agg cs=>.agg (SV.fzL id ver fr t xs cs)
 | .tup cs=>.tup (SV.fzL id ver fr t xs cs)
 | .fn f cs=>.fn f (SV.fzL id ver fr t xs cs)
 | x=>x
def SV.fzL (id ver:Nat) (fr:Bool) (t:Ty) (xs:E V (.list t)):List (SV V)→List (SV V)
 | []=>[]
 | c::l=>SV.fz id ver fr t xs c::SV.fzL id ver fr t xs l
end
def SB.fz (id ver:Nat) (fr:Bool) (t:Ty) (xs:E V (.list t)):SB V→SB V
 | .box cs e=>.box (SV.fzL id ver fr t xs cs) e
 | b=>b
def SSt.frz (st:SSt V) (id:Nat):SSt V:=match st.blk id with
 | .row fr t xs _ ver=>bif hasN (st.hk.map (·.1)) id||!t.dat then st else
   ⟨st.regs.map (fun p=>(p.1,p.2.fz id ver (fr||t.noL) t xs)),st.kp,(st.heap.filter fun p=>!Nat.beq p.1 id).map (fun p=>(p.1,p.2.fz id ver (fr||t.noL) t xs)),st.hk,st.fr,st.nx⟩
 | _=>st
def SSt.frzL (st:SSt V):List Nat→SSt V
 | []=>st
 | id::l=>SSt.frzL (st.frz id) l
end
mutual
theorem sv_all:∀ (x:SV D),x.refs (fun _=>true) (fun _ _=>true)=true
 | .any=>by rw [SV.refs];all_goals simp
 | .und=>by rw [SV.refs];all_goals simp
 | .int ..=>by rw [SV.refs];all_goals simp
 | .bool ..=>by rw [SV.refs];all_goals simp
 | .str ..=>by rw [SV.refs];all_goals simp
 | .nilp=>by rw [SV.refs];all_goals simp
 | .nils=>by rw [SV.refs];all_goals simp
 | .nilf=>by rw [SV.refs];all_goals simp
 | .pk ..=>by rw [SV.refs];all_goals simp
 | .ro ..=>by rw [SV.refs];all_goals simp
 | .aosl ..=>by rw [SV.refs];all_goals simp
 | .aelt ..=>by rw [SV.refs];all_goals simp
 | .box ..=>by rw [SV.refs]
 | .elt ..=>by rw [SV.refs]
 | .osl ..=>by rw [SV.refs]
 | .vsl ..=>by rw [SV.refs]
 | .agg cs=>by rw [SV.refs];exact svL_all cs
 | .tup cs=>by rw [SV.refs];exact svL_all cs
 | .fn f cs=>by rw [SV.refs];exact svL_all cs
theorem svL_all:∀ (l:List (SV D)),SV.refsL (fun _=>true) (fun _ _=>true) l=true
 | []=>by rw [SV.refsL]
 | c::l=>by rw [SV.refsL,sv_all c,svL_all l];rfl
end
theorem refsF_all (h:∀ x:SV D,x.refs (fun _=>true) (fun _ _=>true)=true):∀ (l:List (List (Nat×SV D))),refsF (fun _=>true) (fun _ _=>true) l=true
 | []=>rfl
 | p::l=>by rw [refsF,refsR_all p h,refsF_all h l];rfl
theorem fzL_get (id ver:Nat) (fr:Bool) (t:Ty) (xs:E D (.list t)):∀ (l:List (SV D)) (i:Nat),(SV.fzL id ver fr t xs l)[i]?=(l[i]?).map (SV.fz id ver fr t xs)
 | [],i=>by rw [SV.fzL];rfl
 | c::l,0=>by rw [SV.fzL];rfl
 | c::l,i+1=>by rw [SV.fzL];exact fzL_get id ver fr t xs l i
theorem fzL_length (id ver:Nat) (fr:Bool) (t:Ty) (xs:E D (.list t)):∀ (l:List (SV D)),(SV.fzL id ver fr t xs l).length=l.length
 | []=>by rw [SV.fzL]
 | c::l=>by rw [SV.fzL,List.length_cons,List.length_cons,fzL_length id ver fr t xs l]
section
variable {F:List (Nat→AV)} {st:SSt D} {m:Nat→Nat} {nx id ver:Nat} {fr:Bool} {t:Ty} {xs:E D (.list t)} {e:TypeId} {w:World} {G:Gh} {H H':Nat→SB D}
mutual
theorem fz_rel (hs:0<G.sz (m id)) (hle:MemLe m H m H' (fun _=>true) (fun _ _=>true)) (hb:rowLen H id ver=some (List.length xs.den)) (hfz:∀ v,RelV w G (.osl (m id) (List.length xs.den)) v→RelV w (G.fz (m id)) (.ro fr t.size ((xs.den:List t.den).map (t.cells fr))) v) (hfzV:∀ lo len v,RelV w G (.vsl (m id) (List.length xs.den) lo len) v→RelV w (G.fz (m id)) (.ro fr t.size (((xs.den:List t.den).map (t.cells fr)).drop lo |>.take len)) v) :
  ∀ (x:SV D) (v:Value),RelV w G (x.enc m H) v→RelV w (G.fz (m id)) ((x.fz id ver fr t xs).enc m H') v
 | .osl i v',v,r=>by
  rw [SV.fz]
  cases hc:(Nat.beq i id&&Nat.beq v' ver) with
  | true =>
   rw [Bool.and_eq_true] at hc;have e1:=Nat.eq_of_beq_eq_true hc.1;have e2:=Nat.eq_of_beq_eq_true hc.2;subst e1;subst e2
   rw [SV.enc,hb] at r;show RelV w _ (SV.enc m H' (.ro fr t xs)) v;rw [SV.enc];exact hfz v r
  | false=>exact (enc_les hle (.osl i v') (sv_all _)).rel (r.ext (Ext.fz hs))
 | .agg cs,v,r=>by
  rw [SV.enc] at r;rw [SV.fz,SV.enc];obtain ⟨us,rfl,hsz,hr⟩:=r.agg';rw [encL_map,List.length_map] at hsz;refine .agg _ _ (by rw [encL_map,List.length_map,fzL_length,hsz]) fun i a u ha hu=>?_
  exact fzL_rel hs hle hb hfz hfzV cs us hr i a u ha hu
 | .tup cs,v,r=>by
  rw [SV.enc] at r;rw [SV.fz,SV.enc];obtain ⟨us,rfl,hsz,hr⟩:=r.tup';rw [encL_map,List.length_map] at hsz;refine .tup _ _ (by rw [encL_map,List.length_map,fzL_length,hsz]) fun i a u ha hu=>?_
  exact fzL_rel hs hle hb hfz hfzV cs us hr i a u ha hu
 | .fn f cs,v,r=>by
  rw [SV.enc] at r;rw [SV.fz,SV.enc];obtain ⟨us,rfl,hsz,hr⟩:=r.fn';rw [encL_map,List.length_map] at hsz;refine .fn _ _ _ _ rfl (by rw [encL_map,List.length_map,fzL_length,hsz]) fun i a u ha hu=>?_
  exact fzL_rel hs hle hb hfz hfzV cs us hr i a u ha hu
 | .any,v,r=>by rw [SV.fz];exact (enc_les hle _ (sv_all _)).rel (r.ext (Ext.fz hs));all_goals simp
 | .und,v,r=>by rw [SV.fz];exact (enc_les hle _ (sv_all _)).rel (r.ext (Ext.fz hs));all_goals simp
 | .int ..,v,r=>by rw [SV.fz];exact (enc_les hle _ (sv_all _)).rel (r.ext (Ext.fz hs));all_goals simp
 | .bool ..,v,r=>by rw [SV.fz];exact (enc_les hle _ (sv_all _)).rel (r.ext (Ext.fz hs));all_goals simp
 | .str ..,v,r=>by rw [SV.fz];exact (enc_les hle _ (sv_all _)).rel (r.ext (Ext.fz hs));all_goals simp
 | .nilp,v,r=>by rw [SV.fz];exact (enc_les hle _ (sv_all _)).rel (r.ext (Ext.fz hs));all_goals simp
 | .nils,v,r=>by rw [SV.fz];exact (enc_les hle _ (sv_all _)).rel (r.ext (Ext.fz hs));all_goals simp
 | .nilf,v,r=>by rw [SV.fz];exact (enc_les hle _ (sv_all _)).rel (r.ext (Ext.fz hs));all_goals simp
 | .pk ..,v,r=>by rw [SV.fz];exact (enc_les hle _ (sv_all _)).rel (r.ext (Ext.fz hs));all_goals simp
 | .ro ..,v,r=>by rw [SV.fz];exact (enc_les hle _ (sv_all _)).rel (r.ext (Ext.fz hs));all_goals simp
 | .aosl ..,v,r=>by rw [SV.fz];exact (enc_les hle _ (sv_all _)).rel (r.ext (Ext.fz hs));all_goals simp
 | .aelt ..,v,r=>by rw [SV.fz];exact (enc_les hle _ (sv_all _)).rel (r.ext (Ext.fz hs));all_goals simp
 | .box ..,v,r=>by rw [SV.fz];exact (enc_les hle _ (sv_all _)).rel (r.ext (Ext.fz hs));all_goals simp
 | .vsl i v' lo hi,v,r=>by
  rw [SV.fz]
  cases hc:(Nat.beq i id&&Nat.beq v' ver) with
  | true =>
   rw [Bool.and_eq_true] at hc;have e1:=Nat.eq_of_beq_eq_true hc.1;have e2:=Nat.eq_of_beq_eq_true hc.2;subst e1;subst e2
   rw [SV.enc,hb] at r;show RelV w _ (SV.enc m H' (.ro fr t (.sub xs lo hi))) v;rw [SV.enc];have k:=hfzV _ _ v r;rw [←List.map_drop,←List.map_take,←List.drop_take] at k;exact k
  | false=>exact (enc_les hle (.vsl i v' lo hi) (sv_all _)).rel (r.ext (Ext.fz hs))
 | .elt ..,v,r=>by rw [SV.fz];exact (enc_les hle _ (sv_all _)).rel (r.ext (Ext.fz hs));all_goals simp
theorem fzL_rel (hs:0<G.sz (m id)) (hle:MemLe m H m H' (fun _=>true) (fun _ _=>true)) (hb:rowLen H id ver=some (List.length xs.den)) (hfz:∀ v,RelV w G (.osl (m id) (List.length xs.den)) v→RelV w (G.fz (m id)) (.ro fr t.size ((xs.den:List t.den).map (t.cells fr))) v) (hfzV:∀ lo len v,RelV w G (.vsl (m id) (List.length xs.den) lo len) v→RelV w (G.fz (m id)) (.ro fr t.size (((xs.den:List t.den).map (t.cells fr)).drop lo |>.take len)) v) :
  ∀ (cs:List (SV D)) (us:Array Value),(∀ (i:Nat) (a:AV) (u:Value),(SV.encL m H cs)[i]?=some a→us[i]?=some u→RelV w G a u)→∀ (i:Nat) (a:AV) (u:Value),(SV.encL m H' (SV.fzL id ver fr t xs cs))[i]?=some a→us[i]?=some u→RelV w (G.fz (m id)) a u
 | [],us,hr,i,a,u,ha,hu=>by rw [SV.fzL,SV.encL] at ha;simp at ha
 | c::l,us,hr,0,a,u,ha,hu=>by
  rw [SV.fzL,SV.encL] at ha;simp only [List.getElem?_cons_zero,Option.some.injEq] at ha;subst ha;exact fz_rel hs hle hb hfz hfzV c u (hr 0 _ u (by rw [SV.encL];rfl) hu)
 | c::l,us,hr,i+1,a,u,ha,hu=>by
  rw [SV.fzL,SV.encL] at ha
  have:=fzL_rel hs hle hb hfz hfzV l (us.extract 1 us.size) (fun j b y hb' hy=>hr (j+1) b y (by rw [SV.encL];exact hb') (by
   rw [Array.getElem?_extract] at hy;split at hy
   ·rw [Nat.add_comm];exact hy
   ·cases hy)) i a u (by simpa using ha) (by
   rw [Array.getElem?_extract];have hi:i+1<us.size:=(Array.getElem?_eq_some_iff.1 hu).1
   rw [if_pos (by omega),Nat.add_comm];exact hu)
  exact this
end
end
theorem look_fm {α:Type} (d:α) (f:α→α) {id k:Nat} (hk:k≠id):∀ (l:List (Nat×α)),look d ((l.filter fun p=>!Nat.beq p.1 id).map fun p=>(p.1,f p.2)) k=f (look d l k)∨(look d ((l.filter fun p=>!Nat.beq p.1 id).map fun p=>(p.1,f p.2)) k=d∧look d l k=d)
 | []=>.inr ⟨rfl,rfl⟩
 |(j,v)::l=>by
  have ih:=look_fm d f hk l;by_cases e:j=id
  ·subst e
   have e1:(((j,v)::l).filter fun p=>!Nat.beq p.1 j)=l.filter fun p=>!Nat.beq p.1 j:=by
    rw [List.filter_cons];simp
   rw [e1,look_cons,if_neg (fun h=>hk h.symm)];exact ih
  ·have hbq:Nat.beq j id=false:=by rw [←Bool.not_eq_true];intro h;exact e (Nat.eq_of_beq_eq_true h)
   have e1:(((j,v)::l).filter fun p=>!Nat.beq p.1 id)=(j,v)::l.filter fun p=>!Nat.beq p.1 id:=by
    rw [List.filter_cons];simp [hbq]
   rw [e1,List.map_cons,look_cons,look_cons];split
   ·exact .inl rfl
   ·exact ih
theorem look_fid {α:Type} (d:α) (f:α→α) (id:Nat) (l:List (Nat×α)):look d ((l.filter fun p=>!Nat.beq p.1 id).map fun p=>(p.1,f p.2)) id=d:=by
 refine look_none fun h=>?_
 obtain ⟨p,hp,e⟩:=List.mem_map.1 h;obtain ⟨q,hq,rfl⟩:=List.mem_map.1 hp;have:=(List.mem_filter.1 hq).2;have e:q.1=id:=e;rw [e,Nat.beq_refl] at this;cases this
theorem look_mp {α:Type} (d:α) (f:α→α) (k:Nat):∀ (l:List (Nat×α)),look d (l.map fun p=>(p.1,f p.2)) k=f (look d l k)∨look d (l.map fun p=>(p.1,f p.2)) k=look d l k
 | []=>.inr rfl
 |(j,v)::l=>by
  rw [List.map_cons,look_cons,look_cons];split
  ·exact .inl rfl
  ·exact look_mp d f k l
section
variable {F:List (Nat→AV)} {st:SSt D} {s:ASt} {m:Nat→Nat} {nx id ver:Nat} {fr:Bool} {t:Ty} {xs:E D (.list t)} {e:TypeId}
theorem frz_eq (hb:st.blk id=.row fr t xs e ver) (hk:hasN (st.hk.map (·.1)) id=false) (hdt:t.dat=true):st.frz id=⟨st.regs.map (fun p=>(p.1,p.2.fz id ver (fr||t.noL) t xs)),st.kp,(st.heap.filter fun p=>!Nat.beq p.1 id).map (fun p=>(p.1,p.2.fz id ver (fr||t.noL) t xs)),st.hk,st.fr,st.nx⟩:=by
 unfold SSt.frz;rw [hb];simp only [hk,hdt,Bool.not_true,Bool.or_false,cond_false]
theorem frz_blk (hb:st.blk id=.row fr t xs e ver) (hk:hasN (st.hk.map (·.1)) id=false) (hdt:t.dat=true) (k:Nat):(k=id∧(st.frz id).blk k=.dead)∨(k≠id∧((st.frz id).blk k=(st.blk k).fz id ver (fr||t.noL) t xs∨(st.frz id).blk k=st.blk k)):=by
 rw [frz_eq hb hk hdt];by_cases e1:k=id
 ·subst e1;refine .inl ⟨rfl,?_⟩;show look (look .dead st.hk k) _ k=_;rw [look_fid];refine look_none fun h=>?_
  rw [hasN_of h] at hk;cases hk
 ·refine .inr ⟨e1,?_⟩;show look (look .dead st.hk k) _ k=SB.fz id ver (fr||t.noL) t xs (look (look .dead st.hk k) st.heap k)∨look (look .dead st.hk k) _ k=look (look .dead st.hk k) st.heap k;rcases look_fm (look SB.dead st.hk k) (SB.fz id ver (fr||t.noL) t xs) e1 st.heap with h | ⟨h1,h2⟩
  ·exact .inl h
  ·exact .inr (h1.trans h2.symm)
theorem fz_box (b:SB D):(match b.fz id ver fr t xs with | .box ..=>true | _=>false)=(match b with | .box ..=>true | _=>false):=by cases b <;> rfl
theorem frz_ok (hm:MOk m nx st) (hf:FrOk m st.blk st.fr F) (id:Nat):StL F (st.frz id) (st.enc m nx)∧Fix st (st.frz id):=by
 have same:st.frz id=st→StL F (st.frz id) (st.enc m nx)∧Fix st (st.frz id):=fun h=>by rw [h];exact ⟨⟨m,nx,hm,.refl _,hf⟩,.refl st⟩
 cases hb:st.blk id with
 | dead=>exact same (by unfold SSt.frz;rw [hb])
 | box cs e=>exact same (by unfold SSt.frz;rw [hb])
 | arn=>exact same (by unfold SSt.frz;rw [hb])
 | row fr t xs e ver =>
  cases hk:hasN (st.hk.map (·.1)) id with
  | true=>exact same (by unfold SSt.frz;rw [hb];simp only [hk,Bool.true_or,cond_true])
  | false =>
   cases hdt:t.dat with
   | false=>exact same (by unfold SSt.frz;rw [hb];simp only [hk,hdt,Bool.not_false,Bool.or_true,cond_true])
   | true =>
   have hbk:=frz_blk hb hk hdt;have heq:=frz_eq hb hk hdt;have hlive:st.blk id≠.dead:=by rw [hb];simp
   have hlv:∀ k,(st.frz id).blk k≠.dead→st.blk k≠.dead∧k≠id:=by
    intro k h;rcases hbk k with ⟨_,h2⟩ | ⟨h1,h2 | h2⟩
    ·exact absurd h2 h
    ·refine ⟨fun h3=>h ?_,h1⟩;rw [h2,h3];rfl
    ·exact ⟨by rw [←h2];exact h,h1⟩
   have hA0:((st.frz id).blk 0).isA=true→(st.blk 0).isA=true∧(st.frz id).blk 0=st.blk 0:=by
    intro h;rcases hbk 0 with ⟨_,h2⟩ | ⟨_,h2 | h2⟩
    ·rw [h2] at h;cases h
    ·rw [h2] at h ⊢
     cases hb0:st.blk 0 with
     | arn=>exact ⟨rfl,by rw [SB.fz];all_goals simp⟩
     | dead=>rw [hb0] at h;cases h
     | box=>rw [hb0] at h;cases h
     | row=>rw [hb0,SB.fz] at h;cases h;all_goals simp
    ·rw [h2] at h ⊢;exact ⟨h,rfl⟩
   have hm':MOk m nx (st.frz id):=by
    refine ⟨fun k h=>hm.lt k (hlv k h).1,fun k k' h h'=>hm.inj k k' (hlv k h).1 (hlv k' h').1,fun p hp=>?_,fun h=>hm.ar' (hA0 h).1,hm.ge.1,fun k hk=>hm.ge.2 k (hlv k hk).1⟩;rw [heq] at hp ⊢;rcases List.mem_append.1 hp with hp | hp
    ·obtain ⟨q,hq,rfl⟩:=List.mem_map.1 hp;have:=hm.keys q (List.mem_append_left _ (List.mem_filter.1 hq).1);refine ⟨this.1,?_⟩;have h2:=this.2;show SB.fz id ver (fr||t.noL) t xs q.2≠.dead
     cases hq2:q.2 with
     | dead=>exact absurd hq2 h2
     | box=>rw [SB.fz];simp
     | row=>rw [SB.fz];all_goals simp
     | arn=>rw [SB.fz];all_goals simp
    ·exact hm.keys p (List.mem_append_right _ hp)
   have hle:MemLe m st.blk m (st.frz id).blk (fun _=>true) (fun _ _=>true):=by
    refine ⟨fun k _=>.inr ⟨?_,rfl⟩,fun k v _=>?_⟩
    ·unfold isBox;rcases hbk k with ⟨h1,h2⟩ | ⟨_,h2 | h2⟩
     ·rw [h2,h1,hb]
     ·rw [h2];exact fz_box _
     ·rw [h2]
    ·unfold rowLen;rcases hbk k with ⟨h1,h2⟩ | ⟨_,h2 | h2⟩
     ·rw [h2];exact .inl rfl
     ·refine .inr ⟨?_,rfl⟩;rw [h2]
      cases st.blk k <;> rfl
     ·rw [h2];exact .inr ⟨rfl,rfl⟩
   have hbb:=enc_blk hm hlive;rw [hb,SB.enc] at hbb;refine ⟨⟨m,nx,hm',⟨fun {K n a w} ⟨G,r⟩=>?_⟩,?_⟩,by rw [heq];exact ⟨rfl,rfl,rfl⟩⟩
   ·have hkb:=r.hr.blk (m id);rw [hbb] at hkb;have hs:0<G.sz (m id):=by rw [hkb.2.2.1];exact hkb.2.1
    have hx:Ext w G w (G.fz (m id)):=Ext.fz hs;have hrl:rowLen st.blk id ver=some (List.length xs.den):=rowLen_eq hb (Nat.beq_refl _)
    have hfz:∀ v,RelV w G (.osl (m id) (List.length xs.den)) v→RelV w (G.fz (m id)) (.ro (fr||t.noL) t.size ((xs.den:List t.den).map (t.cells (fr||t.noL)))) v:=fun v hv=>by
     rw [rows_fl]
     exact row_frozen r.hr hbb (rows_len _).symm hv (fun row hr a ha=>by
      obtain ⟨x,_,rfl⟩:=List.mem_map.1 hr
      exact t.cells_isD _ x hdt a ha)
    have hfzV:∀ lo len v,RelV w G (.vsl (m id) (List.length xs.den) lo len) v→RelV w (G.fz (m id)) (.ro (fr||t.noL) t.size (((xs.den:List t.den).map (t.cells (fr||t.noL))).drop lo |>.take len)) v:=fun lo len v hv=>by
     rw [rows_fl]
     exact view_frozen r.hr hbb (rows_len _).symm hv (fun row hr a ha=>by
      obtain ⟨x,_,rfl⟩:=List.mem_map.1 hr
      exact t.cells_isD _ x hdt a ha)
    refine ⟨G.fz (m id),r.nx,⟨r.hr.bs,r.hr.below,fun b=>⟨fun h=>r.hr.ownlt b h.1,fun hf=>⟨r.hr.farown b hf,fun e=>r.hr.nofar (m id) b hkb.1 e hf⟩⟩,fun k=>?_,fun i i' g h1 h2 hne hg=>?_,fun i g h1 hg=>?_⟩,r.ext.trans hx,r.size,r.defers,fun d=>?_⟩
    ·rcases heap_cases hm' k with h | ⟨b,hbl,rfl⟩ | ⟨h1,h2,h3⟩
     ·rw [h];trivial
     rotate_left
     ·obtain ⟨q1,q2⟩:=hA0 h1;rw [h3,q2];have o:=r.hr.blk k;rw [enc_look hm,q1,show Nat.blt k (m 0)=true by rw [Nat.blt_eq];exact h2] at o;have hne:k≠m id:=fun e1=>by have:=(hm.ar q1).2 id hlive;omega
      exact o.step hx (fun _=>⟨fz_ρ hne,fz_ln hne,fun _ _=>rfl⟩)
     ·obtain ⟨hl1,hl2⟩:=hlv b hbl;have hmne:m b≠m id:=fun e1=>hl2 (hm.inj b id hl1 hlive e1)
      have o:=r.hr.blk (m b);rw [enc_blk hm hl1] at o;rw [enc_blk hm' hbl];have hstep:ABok K.w0 w (G.fz (m id)) (m b) ((st.blk b).enc m st.blk):=o.step hx (fun _=>⟨fz_ρ hmne,fz_ln hmne,fun _ _=>rfl⟩)
      have hsame:ABok K.w0 w (G.fz (m id)) (m b) ((st.blk b).enc m (st.frz id).blk):=by
       refine (encB_les hle (st.blk b) ?_).ok hstep
       cases st.blk b with
       | dead=>rfl
       | box cs e=>exact svL_all cs
       | row=>rfl
       | arn=>rfl
      rcases hbk b with ⟨h1,_⟩ | ⟨_,h2 | h2⟩
      ·exact absurd h1 hl2
      ·rw [h2]
       cases hbx:st.blk b with
       | dead=>exact absurd hbx hl1
       | row=>rw [hbx] at hsame;exact hsame
       | arn=>rw [SB.fz];trivial;all_goals simp
       | box cs e' =>
        rw [hbx,SB.enc] at o;obtain ⟨o1,o2,g,vs,o3,o4,o5,o6⟩:=o;rw [SB.fz,SB.enc];rw [encL_map,List.length_map] at o5;refine ⟨o1,o2,g,vs,by rw [fz_ρ hmne];exact o3,o4,by rw [encL_map,List.length_map,fzL_length];exact o5,fun i y hi=>?_⟩
        have hil:i<cs.length:=by
         have:=(List.getElem?_eq_some_iff.1 hi).1;rw [encL_map,List.length_map,fzL_length] at this;exact this
        have hci:(SV.encL m st.blk cs)[i]?=some (SV.enc m st.blk cs[i]):=by
         rw [encL_map,List.getElem?_map,List.getElem?_eq_getElem hil];rfl
        obtain ⟨v,p1,p2,p3⟩:=o6 i _ hci;refine ⟨v,p1,p2,?_⟩;rw [encL_map,List.getElem?_map,fzL_get,List.getElem?_eq_getElem hil] at hi;have hi:SV.enc m (st.frz id).blk (SV.fz id ver (fr||t.noL) t xs cs[i])=y:=by injection hi
        rw [←hi];exact fz_rel hs hle hrl hfz hfzV _ v p3
      ·rw [h2];exact hsame
    ·by_cases e1:i=m id
     ·subst e1;have:(G.fz (m id)).ρ (m id)=.slice none 0 0:=if_pos rfl;rw [this] at hg;simp [ownBlk] at hg
     ·rw [fz_ρ e1] at hg;by_cases e2:i'=m id
      ·subst e2;have:(G.fz (m id)).ρ (m id)=.slice none 0 0:=if_pos rfl;rw [this];simp [ownBlk]
      ·rw [fz_ρ e2];exact r.hr.dist i i' g h1 h2 hne hg
    ·by_cases e1:i=m id
     ·subst e1;have:(G.fz (m id)).ρ (m id)=.slice none 0 0:=if_pos rfl;rw [this] at hg;simp [ownBlk] at hg
     ·rw [fz_ρ e1] at hg;exact ⟨⟨r.hr.ownhas i g h1 hg,fun h=>r.hr.dist i (m id) g h1 hkb.1 e1 hg h⟩,r.hr.nofar i g h1 hg⟩
    ·rw [enc_get];have ho:=r.regs d;rw [enc_get] at ho
     have hget:(st.frz id).get d=(st.get d).fz id ver (fr||t.noL) t xs∨(st.frz id).get d=st.get d:=by
      rw [heq];exact look_mp (look .any st.kp d) (SV.fz id ver (fr||t.noL) t xs) d st.regs
     rcases hget with h | h
     ·rw [h];exact fz_rel hs hle hrl hfz hfzV _ _ ho
     ·rw [h];exact (enc_les hle _ (sv_all _)).rel (ho.ext hx)
   ·have:(st.frz id).fr=st.fr:=by rw [heq]
    rw [this];exact hf.les' hle (refsF_all sv_all _)
theorem frzL_ok:∀ (l:List Nat) (st:SSt D) {s:ASt},StL F st s→StL F (st.frzL l) s
 | [],st,s,h=>h
 | id::l,st,s,h=>by
  obtain ⟨m,nx,hm,hr,hf⟩:=h;obtain ⟨m',nx',g1,g2,g3⟩:=(frz_ok hm hf id).1;exact frzL_ok l _ ⟨m',nx',g1,hr.trans g2,g3⟩
theorem frz_fix (st:SSt D) (id:Nat):Fix st (st.frz id):=by
 unfold SSt.frz;split
 ·rename_i t _ _ _ _
  cases (hasN (st.hk.map (·.1)) id||!t.dat) with
  | true=>exact .refl st
  | false=>exact ⟨rfl,rfl,rfl⟩
 ·exact .refl st
theorem frzL_fix:∀ (l:List Nat) (st:SSt D),Fix st (st.frzL l)
 | [],st=>.refl st
 | id::l,st=>(frz_fix st id).trans (frzL_fix l _)
end
section
variable {V:Ty→Type}
mutual
def wantK:SK→SV V→List Nat
 | .ro ..,.osl id _=>[id]
 | .ro ..,.vsl id _ _ _=>[id]
 | .agg l,.agg cs=>wantKL l cs
 | .tup l,.tup cs=>wantKL l cs
 | .fn _ l,.fn _ cs=>wantKL l cs
 | _,_=>[]
def wantKL:List SK→List (SV V)→List Nat
 | s::l,c::cs=>wantK s c++wantKL l cs
 | _,_=>[]
end
def wantI (st:SSt V) (mp:List (Nat×Nat)):List Itm→List Nat
 | []=>[]
 | .reg d s::l=>wantK s (st.get d)++wantI st mp l
 | .box b ks _::l=>(match st.blk (mpI mp b) with
  | .box cs _=>wantKL ks cs
  | _=>[])++wantI st mp l
 | .row ..::l=>wantI st mp l
 | .arn ..::l=>wantI st mp l
def matF (sg:Sig) (st:SSt V):SSt V:=(mat sg.nl st).frzL (wantI (mat sg.nl st) (mapOf (mat sg.nl st) sg) sg.items)
mutual
def SV.osls:SV V→List Nat
 | .osl id _=>[id]
 | .agg cs=>SV.oslsL cs
 | .tup cs=>SV.oslsL cs
 | _=>[]
def SV.oslsL:List (SV V)→List Nat
 | []=>[]
 | c::l=>c.osls++SV.oslsL l
end
def needF (st:SSt V):Op→List Nat
 | .store _ a v=>match st.ev a with
  | .elt ..=>(st.ev v).osls
  | _=>[]
 | .buildSlice _ _ parts=>SV.oslsL (parts.toList.map fun p=>st.ev p.2)
 | _=>[]
end
end Go.Proofs.Ytljebnobajmjnaa
/- Decompiling: residual programs;arguments and results as data. No program in sight. -/
namespace Go.Proofs.Ytljebnobajmjnaa
open Go Go.RowKit

inductive G (V W:Ty→Type) (ρ:Ty) where
 | ret (e:E V ρ)
 | fail
 | ite (c:E V .bool) (a b:G V W ρ)
 | grd (c:E V .bool) (a:G V W ρ)
 | lt {t:Ty} (e:E V t) (k:V t→G V W ρ)
 | call {a r:Ty} (f:Nat→a.den→Option r.den) (nm:Nat) (x:E V a) (k:V r→G V W ρ)
 | join {t:Ty} (J:V t→G V W ρ) (body:W t→G V W ρ)
 | loop {t:Ty} (body:W t→V t→G V W ρ) (e:E V t)
 | jump {t:Ty} (j:W t) (e:E V t)
abbrev KD (ρ:Ty):Ty→Type:=fun t=>t.den→Option ρ.den
def loopF {α β:Type} (f:(α→Option β)→α→Option β):Nat→α→Option β
 | 0,_=>none
 | n+1,x=>f (loopF f n) x
def joinF {α β:Type} (J:α→Option β) (b:(α→Option β)→Option β):Option β:=b J
def bindO {α β:Type} (x:Option α) (k:α→Option β):Option β:=match x with
 | some y=>k y
 | none=>none
def G.den {ρ:Ty} (fu:Nat):G D (KD ρ) ρ→Option ρ.den
 | .ret e=>some e.den
 | .fail=>none
 | .ite c a b=>bif c.den then a.den fu else b.den fu
 | .grd c a=>bif c.den then a.den fu else none
 | .lt e k=>(k e.den).den fu
 | .call f _ x k=>bindO (f fu x.den) fun y=>(k y).den fu
 | .join J b=>joinF (fun x=>(J x).den fu) fun j=>(b j).den fu
 | .loop b e=>loopF (fun j x=>(b j x).den fu) fu e.den
 | .jump j e=>j e.den
section
variable {V W:Ty→Type} {ρ:Ty}
def grdG (c:E V .bool) (g:G V W ρ):G V W ρ:=match c with
 | .bL true=>g
 | .bL false=>.fail
 | c=>.grd c g
def iteG (c:E V .bool) (a b:G V W ρ):G V W ρ:=match c with
 | .bL true=>a
 | .bL false=>b
 | c=>.ite c a b
def E.atomic {t:Ty} (e:E V t):Bool:=match e with
 | .var _=>true
 | .iL _ _=>true
 | .bL _=>true
 | .sL _=>true
 | .nil _=>true
 | .uni=>true
 | _=>false
def letV (x:SV V) (K:SV V→G V W ρ):G V W ρ:=match x with
 | .int k e=>bif e.atomic then K (.int k e) else .lt e fun v=>K (.int k (.var v))
 | .bool e=>bif e.atomic then K (.bool e) else .lt e fun v=>K (.bool (.var v))
 | .str e=>bif e.atomic then K (.str e) else .lt e fun v=>K (.str (.var v))
 | .pk fr t e o=>bif e.atomic then K (.pk fr t e o) else .lt e fun v=>K (.pk fr t (.var v) o)
 | .ro fr t e=>bif e.atomic then K (.ro fr t e) else .lt e fun v=>K (.ro fr t (.var v))
 | x=>K x
end
section
variable {ρ:Ty} {fu:Nat}
theorem grdG_den {c:E D .bool} {g:G D (KD ρ) ρ} {r:ρ.den} (h:(grdG c g).den fu=some r):c.den=true∧g.den fu=some r:=by
 unfold grdG at h;split at h
 ·exact ⟨rfl,h⟩
 ·cases h
 ·rw [G.den] at h
  cases hc:(c.den:Bool) with
  | true=>rw [hc] at h;exact ⟨rfl,h⟩
  | false=>rw [hc] at h;cases h
theorem iteG_den {c:E D .bool} {a b:G D (KD ρ) ρ} {r:ρ.den} (h:(iteG c a b).den fu=some r):(c.den=true∧a.den fu=some r)∨(c.den=false∧b.den fu=some r):=by
 unfold iteG at h;split at h
 ·exact .inl ⟨rfl,h⟩
 ·exact .inr ⟨rfl,h⟩
 ·rw [G.den] at h
  cases hc:(c.den:Bool) with
  | true=>rw [hc] at h;exact .inl ⟨rfl,h⟩
  | false=>rw [hc] at h;exact .inr ⟨rfl,h⟩
theorem letV_den {x:SV D} {K:SV D→G D (KD ρ) ρ} {r:ρ.den} (h:(letV x K).den fu=some r):∃ y,(∀ m H,y.enc m H=x.enc m H)∧(K y).den fu=some r:=by
 unfold letV at h;split at h
 ·rename_i k e
  cases ha:e.atomic with
  | true=>rw [ha] at h;exact ⟨_,fun _ _=>rfl,h⟩
  | false=>rw [ha] at h;exact ⟨_,fun _ _=>by rw [SV.enc,SV.enc];rfl,h⟩
 ·rename_i e
  cases ha:e.atomic with
  | true=>rw [ha] at h;exact ⟨_,fun _ _=>rfl,h⟩
  | false=>rw [ha] at h;exact ⟨_,fun _ _=>by rw [SV.enc,SV.enc];rfl,h⟩
 ·rename_i e
  cases ha:e.atomic with
  | true=>rw [ha] at h;exact ⟨_,fun _ _=>rfl,h⟩
  | false=>rw [ha] at h;exact ⟨_,fun _ _=>by rw [SV.enc,SV.enc];rfl,h⟩
 ·rename_i fr t e o
  cases ha:e.atomic with
  | true=>rw [ha] at h;exact ⟨_,fun _ _=>rfl,h⟩
  | false=>rw [ha] at h;exact ⟨_,fun _ _=>by rw [SV.enc,SV.enc];rfl,h⟩
 ·rename_i fr t e
  cases ha:e.atomic with
  | true=>rw [ha] at h;exact ⟨_,fun _ _=>rfl,h⟩
  | false=>rw [ha] at h;exact ⟨_,fun _ _=>by rw [SV.enc,SV.enc];rfl,h⟩
 ·exact ⟨_,fun _ _=>rfl,h⟩
end
section
variable {V:Ty→Type}
def srcV (st:SSt V) (t:Ty) (x:SV V):Option (E V (.list t)):=match x with
 | .vsl id ver lo hi=>match st.blk id with
  | .row _ t' xs _ v=>bif Nat.beq ver v then (match Ty.eqd t' t with
   | some ⟨h⟩=>some (.sub (h ▸ xs) lo hi)
   | none=>none) else none
  | _=>none
 | x=>match srcS st t x with
  | some (_,e)=>some e
  | none=>none
def exF (st:SSt V):(t:Ty)→List (SV V)→Option (E V t×List (SV V))
 | .int k,l=>match l with
  | .int k' e::l=>if h:k'=k then some (h ▸ e,l) else none
  | _=>none
 | .bool,l=>match l with
  | .bool e::l=>some (e,l)
  | _=>none
 | .str,l=>match l with
  | .str e::l=>some (e,l)
  | _=>none
 | .list t,l=>bif t.dat then (match l with
  | c::l=>match srcV st t c with
   | some e=>some (e,l)
   | none=>none
  | []=>none) else none
 | .unit,l=>some (.uni,l)
 | .pair a b,l=>match exF st a l with
  | some (x,l')=>match exF st b l' with
   | some (y,l'')=>some (.pair x y,l'')
   | none=>none
  | none=>none
 | .agg t,l=>match exF st t l with
  | some (x,l')=>some (.aggI x,l')
  | none=>none
 | .ptr _,_=>none
 | .aix,_=>none
def exFA (st:SSt V) (t:Ty) (l:List (SV V)):Option (E V t):=match exF st t l with
 | some (x,[])=>some x
 | _=>none
def exAggA (st:SSt V) (t:Ty) (x:SV V):Option (E V (.agg t)):=match x with
 | .agg cs=>match exFA st t cs with
  | some e=>some (.aggI e)
  | none=>none
 | _=>none
def exPtrA (st:SSt V) (t:Ty) (x:SV V):Option (E V (.ptr t)):=match x with
 | .pk _ t' e o=>bif Nat.beq o 0&&(Nat.blt 0 t.size&&t.dat) then (match Ty.eqd t' t with
  | some ⟨h⟩=>some (.ptrI (h ▸ e))
  | none=>none) else none
 | .box id o=>match st.blk id with
  | .box cs _=>bif Nat.beq o 0&&(Nat.blt 0 t.size&&t.dat) then (match exFA st t cs with
   | some e=>some (.ptrI e)
   | none=>none) else none
  | _=>none
 | _=>none
def partC (o n:Nat) (cs:List (SV V)):List (SV V):=(cs.drop o).take n
def exPtrO (st:SSt V) (t:Ty) (x:SV V):Option (E V (.ptr t)):=bif Nat.blt 0 t.size&&t.dat then (match x with
 | .pk fr t' e o=>match exFA st t (partC o t.size (cellsE fr t' e)) with
  | some e=>some (.ptrI e)
  | none=>none
 | .box id o=>match st.blk id with
  | .box cs _=>match exFA st t (partC o t.size cs) with
   | some e=>some (.ptrI e)
   | none=>none
  | _=>none
 | .elt id ver i o=>match st.blk id with
  | .row fr ty xs _ v=>bif Nat.beq ver v then (match exFA st t (partC o t.size (cellsE fr ty (.at xs i))) with
   | some e=>some (.ptrI e)
   | none=>none) else none
  | _=>none
 | _=>none) else none
def exG (st:SSt V):(t:Ty)→SV V→Option (E V t)
 | .int k,x=>prjInt k x
 | .bool,x=>prjBool x
 | .str,x=>prjStr x
 | .list t,x=>bif t.flat then (match srcV st t x with
  | some e=>some e
  | none=>none) else none
 | .agg t,x=>exAggA st t x
 | .ptr t,x=>match exPtrA st t x with
  | some e=>some e
  | none=>exPtrO st t x
 | _,_=>none
def exArgs (st:SSt V):(t:Ty)→List (SV V)→Option (E V t)
 | .unit,l=>match l with
  | []=>some .uni
  | _=>none
 | .pair a b,l=>match l with
  | c::l=>match exG st a c,exArgs st b l with
   | some x,some y=>some (.pair x y)
   | _,_=>none
  | []=>none
 | _,_=>none
def svE (fr:Bool):(t:Ty)→E V t→SV V
 | .int k,e=>.int k e
 | .bool,e=>.bool e
 | .str,e=>.str e
 | .list t,e=>.ro fr t e
 | .agg t,e=>.agg (cellsE fr t e.aggE')
 | .ptr t,e=>.pk fr t e.ptrE' 0
 | .unit,_=>.any
 | .pair _ _,_=>.any
 | .aix,e=>.aosl e
def svsE (fr:Bool):(t:Ty)→E V t→List (SV V)
 | .pair a b,e=>svE fr a e.fst'::svsE fr b e.snd'
 | _,_=>[]
def oneOfS (xs:List (SV V)):SV V:=match xs with
 | [x]=>x
 | xs=>.tup xs
end
section
variable {m:Nat→Nat} {nx:Nat} {H:Nat→SB D} {st:SSt D}
theorem svE_enc (fr:Bool):∀ (t:Ty) (e:E D t),(svE fr t e).enc m H=t.av fr e.den
 | .int k,e=>by rw [svE,SV.enc,Ty.av]
 | .bool,e=>by rw [svE,SV.enc,Ty.av]
 | .str,e=>by rw [svE,SV.enc,Ty.av]
 | .list t,e=>by rw [svE,SV.enc,Ty.av]
 | .agg t,e=>by rw [svE,SV.enc,Ty.av,cellsE_enc,aggE'_den]
 | .ptr t,e=>by rw [svE,SV.enc,Ty.av,ptrE'_den]
 | .unit,e=>by rw [svE,SV.enc,Ty.av]
 | .pair a b,e=>by rw [svE,SV.enc,Ty.av]
 | .aix,e=>by rw [svE,SV.enc,Ty.av]
theorem svsE_enc (fr:Bool):∀ (t:Ty) (e:E D t),SV.encL m H (svsE fr t e)=t.avs fr e.den
 | .pair a b,e=>by rw [svsE,SV.encL,svE_enc,svsE_enc fr b,fst'_den,snd'_den,Ty.avs]
 | .int k,e=>by rw [svsE,SV.encL,Ty.avs];all_goals simp
 | .bool,e=>by rw [svsE,SV.encL,Ty.avs];all_goals simp
 | .str,e=>by rw [svsE,SV.encL,Ty.avs];all_goals simp
 | .list t,e=>by rw [svsE,SV.encL,Ty.avs];all_goals simp
 | .agg t,e=>by rw [svsE,SV.encL,Ty.avs];all_goals simp
 | .ptr t,e=>by rw [svsE,SV.encL,Ty.avs];all_goals simp
 | .aix,e=>by rw [svsE,SV.encL,Ty.avs];all_goals simp
 | .unit,e=>by rw [svsE,SV.encL,Ty.avs];all_goals simp
theorem oneOfS_enc (xs:List (SV D)):(oneOfS xs).enc m H=oneOf (SV.encL m H xs):=by
 match xs with
 | [] =>
  rw [oneOfS,SV.enc,SV.encL]
  ·rfl
  ·simp
 | [x]=>rw [oneOfS,SV.encL,SV.encL];rfl
 | a::b::l =>
  rw [oneOfS,SV.enc,SV.encL,SV.encL]
  ·rfl
  ·simp
theorem frz_list {rt:Ty} {x:SV D} {fr:Bool} {ys:E D (.list rt)} (hdt:rt.dat=true) (hm:MOk m nx st) (h:srcS st rt x=some (fr,ys)):FrzA (st.enc m nx).heap (x.enc m st.blk) (.ro false rt.size ((ys.den:List rt.den).map (rt.cells false))):=by
 unfold srcS at h;split at h
 ·rename_i fr' t' xs;split at h
  ·rename_i ht _;subst ht;simp only [Option.some.injEq,Prod.mk.injEq] at h;obtain ⟨rfl,rfl⟩:=h;rw [SV.enc];exact .dat _ rfl _ (by rw [AV.old,Ty.rows_old])
  ·cases h
 ·rename_i id ver;split at h
  ·rename_i fr' t' xs e v hb
   cases hv:Nat.beq ver v with
   | false=>rw [hv] at h;cases h
   | true =>
    rw [hv] at h;simp only [cond_true] at h;split at h
    ·rename_i ht _;subst ht;simp only [Option.some.injEq,Prod.mk.injEq] at h;obtain ⟨rfl,rfl⟩:=h;rw [SV.enc,rowLen_eq hb hv];have hbb:=enc_blk hm (k:=id) (by rw [hb];simp);rw [hb,SB.enc] at hbb;refine .osl _ _ _ _ _ _ hbb (rows_len _).symm (fun row hr a ha=>?_) (Ty.rows_old _ _ _);obtain ⟨x,_,rfl⟩:=List.mem_map.1 hr;exact t'.cells_isD _ x hdt a ha
    ·cases h
  ·cases h
 ·simp only [Option.some.injEq,Prod.mk.injEq] at h;obtain ⟨rfl,rfl⟩:=h;rw [SV.enc];exact .nilro _
 ·cases h
theorem frz_listV {rt:Ty} {x:SV D} {ys:E D (.list rt)} (hdt:rt.dat=true) (hm:MOk m nx st) (h:srcV st rt x=some ys):FrzA (st.enc m nx).heap (x.enc m st.blk) (.ro false rt.size ((ys.den:List rt.den).map (rt.cells false))):=by
 unfold srcV at h;split at h
 ·rename_i id ver lo hi;split at h
  ·rename_i fr' t' xs e v hb
   cases hv:Nat.beq ver v with
   | false=>rw [hv] at h;cases h
   | true =>
    rw [hv] at h;simp only [cond_true] at h;split at h
    ·rename_i ht _;subst ht;simp only [Option.some.injEq] at h;subst h;rw [SV.enc,rowLen_eq hb hv];have hbb:=enc_blk hm (k:=id) (by rw [hb];simp);rw [hb,SB.enc] at hbb;refine .vsl _ _ _ _ _ _ _ _ hbb (rows_len _).symm (fun row hr a ha=>?_) ?_
     ·obtain ⟨x,_,rfl⟩:=List.mem_map.1 hr;exact t'.cells_isD _ x hdt a ha
     ·rw [←List.map_drop,←List.map_take,Ty.rows_old];show _=((((xs.den:List t'.den).take (hi.den:Int).toNat).drop (lo.den:Int).toNat)).map (t'.cells false);rw [List.drop_take]
    ·cases h
  ·cases h
 ·split at h
  ·rename_i fr e h1;injection h with h
   subst h;exact frz_list hdt hm h1
  ·cases h
theorem FrzL.append {hp:List (Nat×AB)} {a b c d:List AV} (h:FrzL hp a b) (k:FrzL hp c d):FrzL hp (a++c) (b++d):=by
 induction h with
 | nil=>exact k
 | cons h _ ih=>exact .cons h ih
theorem exF_ok (hm:MOk m nx st):∀ (t:Ty) (cs:List (SV D)) (e:E D t) (rest:List (SV D)),exF st t cs=some (e,rest)→∃ pre,cs=pre++rest∧FrzL (st.enc m nx).heap (SV.encL m st.blk pre) (t.cells false e.den)
 | .int k,cs,e,rest,h=>by
  unfold exF at h;split at h
  ·rename_i k' e0 l;split at h
   ·rename_i hk;subst hk;simp only [Option.some.injEq,Prod.mk.injEq] at h;obtain ⟨rfl,rfl⟩:=h;exact ⟨[.int k' e0],rfl,by rw [SV.encL,SV.encL,SV.enc,Ty.cells];exact .cons .int .nil⟩
   ·cases h
  ·cases h
 | .bool,cs,e,rest,h=>by
  unfold exF at h;split at h
  ·rename_i e0 l;simp only [Option.some.injEq,Prod.mk.injEq] at h;obtain ⟨rfl,rfl⟩:=h;exact ⟨[.bool e0],rfl,by rw [SV.encL,SV.encL,SV.enc,Ty.cells];exact .cons .bool .nil⟩
  ·cases h
 | .str,cs,e,rest,h=>by
  unfold exF at h;split at h
  ·rename_i e0 l;simp only [Option.some.injEq,Prod.mk.injEq] at h;obtain ⟨rfl,rfl⟩:=h;exact ⟨[.str e0],rfl,by rw [SV.encL,SV.encL,SV.enc,Ty.cells];exact .cons .str .nil⟩
  ·cases h
 | .list t,cs,e,rest,h=>by
  unfold exF at h
  cases hdt:t.dat with
  | false=>rw [hdt] at h;cases h
  | true =>
  rw [hdt] at h;simp only [cond_true] at h;split at h
  ·rename_i c l;split at h
   ·rename_i e0 h1;simp only [Option.some.injEq,Prod.mk.injEq] at h;obtain ⟨rfl,rfl⟩:=h;exact ⟨[c],rfl,by rw [SV.encL,SV.encL,Ty.cells];exact .cons (frz_listV hdt hm h1) .nil⟩
   ·cases h
  ·cases h
 | .aix,cs,e,rest,h=>by rw [exF] at h;cases h
 | .unit,cs,e,rest,h=>by
  rw [exF] at h;simp only [Option.some.injEq,Prod.mk.injEq] at h;obtain ⟨rfl,rfl⟩:=h;exact ⟨[],rfl,by rw [SV.encL,Ty.cells];exact .nil⟩
 | .pair a b,cs,e,rest,h=>by
  rw [exF] at h;split at h
  ·rename_i x l' h1;split at h
   ·rename_i y l'' h2;simp only [Option.some.injEq,Prod.mk.injEq] at h;obtain ⟨rfl,rfl⟩:=h;obtain ⟨p1,e1,g1⟩:=exF_ok hm a cs x l' h1;obtain ⟨p2,e2,g2⟩:=exF_ok hm b l' y l'' h2;refine ⟨p1++p2,by rw [e1,e2,List.append_assoc],?_⟩;rw [encL_map,List.map_append,←encL_map,←encL_map,Ty.cells];exact g1.append g2
   ·cases h
  ·cases h
 | .agg t,cs,e,rest,h=>by
  rw [exF] at h;split at h
  ·rename_i x l' h1;simp only [Option.some.injEq,Prod.mk.injEq] at h;obtain ⟨rfl,rfl⟩:=h;obtain ⟨p1,e1,g1⟩:=exF_ok hm t cs x l' h1;exact ⟨p1,e1,by rw [Ty.cells];exact g1⟩
  ·cases h
 | .ptr t,cs,e,rest,h=>by rw [exF] at h;cases h
theorem exFA_ok {t:Ty} {cs:List (SV D)} {e:E D t} (hm:MOk m nx st) (h:exFA st t cs=some e):FrzL (st.enc m nx).heap (SV.encL m st.blk cs) (t.cells false e.den):=by
 unfold exFA at h;split at h
 ·rename_i x h1;injection h with h
  subst h;obtain ⟨pre,e1,g⟩:=exF_ok hm t cs x [] h1;rw [e1,List.append_nil];exact g
 ·cases h
theorem cells_frzL {hp:List (Nat×AB)} (fr:Bool) (t:Ty) (x:t.den) (hdt:t.dat=true):∀ (i:Nat) (a b:AV),(t.cells fr x)[i]?=some a→(t.cells false x)[i]?=some b→FrzA hp a b:=by
 intro i a b ha hb;refine .dat a (t.cells_isD fr x hdt a (List.mem_of_getElem? ha)) b ?_;rw [←t.cells_old fr x,oldR_map,List.getElem?_map,ha] at hb;injection hb
theorem part_at {α:Type} {l:List α} {o n i:Nat} {a:α} (h:l[o+i]?=some a) (hi:i<n):((l.drop o).take n)[i]?=some a:=by
 rw [List.getElem?_take_of_lt hi,List.getElem?_drop];exact h
theorem partC_enc (o n:Nat) (cs:List (SV D)):SV.encL m H (partC o n cs)=((SV.encL m H cs).drop o).take n:=by
 unfold partC;rw [encL_map,encL_map,List.map_take,List.map_drop]
theorem exPtrO_ok (hm:MOk m nx st) {t:Ty} {x:SV D} {e:E D (.ptr t)} (h:exPtrO st t x=some e):FrzA (st.enc m nx).heap (x.enc m st.blk) ((Ty.ptr t).av false e.den):=by
 unfold exPtrO at h
 cases hz:(Nat.blt 0 t.size&&t.dat) with
 | false=>rw [hz] at h;cases h
 | true =>
  rw [hz] at h;simp only [cond_true] at h;rw [Bool.and_eq_true] at hz;obtain ⟨hz,hdt⟩:=hz;have hpos:0<t.size:=by simpa using hz
  have fin:∀ (cs:List (SV D)) (o:Nat) (e0:E D t),exFA st t (partC o t.size cs)=some e0→o+(t.cells false e0.den).length≤(SV.encL m st.blk cs).length∧(∀ (i:Nat) (a b:AV),(SV.encL m st.blk cs)[o+i]?=some a→(t.cells false e0.den)[i]?=some b→FrzA (st.enc m nx).heap a b)∧t.cells false e0.den≠[]:=by
   intro cs o e0 h1;have hl:=exFA_ok hm h1;rw [partC_enc] at hl;have hlen:=hl.len;rw [Ty.cells_length,List.length_take,List.length_drop] at hlen;refine ⟨by rw [Ty.cells_length];omega,fun i a b ha hb=>?_,fun e1=>?_⟩
   ·have hi:i<t.size:=by have:=(List.getElem?_eq_some_iff.1 hb).1;rw [Ty.cells_length] at this;exact this
    exact hl.at i a b (part_at ha hi) hb
   ·have:=t.cells_length false e0.den;rw [e1] at this;rw [←this] at hpos;cases hpos
  split at h
  ·rename_i fr t' e1 o;split at h
   ·rename_i e0 h1;injection h with h
    subst h;obtain ⟨f1,f2,f3⟩:=fin _ _ _ h1;rw [cellsE_enc] at f1 f2;rw [SV.enc,Ty.av];exact .peekO _ _ o f1 f2 (t.cells_isD _ _ hdt) f3
   ·cases h
  ·rename_i id o;split at h
   ·rename_i cs ty hb;split at h
    ·rename_i e0 h1;injection h with h
     subst h;obtain ⟨f1,f2,f3⟩:=fin _ _ _ h1;have hi:isBox st.blk id=true:=by unfold isBox;rw [hb]
     rw [SV.enc,hi,Ty.av];have hbb:=enc_blk hm (k:=id) (by rw [hb];simp);rw [hb,SB.enc] at hbb;exact .peekBoxO (m id) o _ _ ty hbb f1 f2 (t.cells_isD _ _ hdt) f3
    ·cases h
   ·cases h
  ·rename_i id ver k i o;split at h
   ·rename_i fr ty xs ety v hb
    cases hv:Nat.beq ver v with
    | false=>rw [hv] at h;cases h
    | true =>
     rw [hv] at h;simp only [cond_true] at h;split at h
     ·rename_i e0 h1;injection h with h
      subst h;obtain ⟨f1,f2,f3⟩:=fin _ _ _ h1;rw [cellsE_enc] at f1 f2;rw [SV.enc,rowLen_eq hb hv,Ty.av];have hbb:=enc_blk hm (k:=id) (by rw [hb];simp);rw [hb,SB.enc] at hbb;exact .peekEltO (m id) _ _ o _ _ _ _ ety hbb (rows_len _).symm (fun row hr=>at_row hr) f1 f2 (t.cells_isD _ _ hdt) f3
     ·cases h
   ·cases h
  ·cases h
theorem exG_ok (hm:MOk m nx st):∀ (t:Ty) (x:SV D) (e:E D t),exG st t x=some e→FrzA (st.enc m nx).heap (x.enc m st.blk) (t.av false e.den)
 | .int k,x,e,h=>by
  rw [exG] at h;unfold prjInt at h;split at h
  ·split at h
   ·rename_i hk;subst hk;injection h with h
    subst h;rw [SV.enc,Ty.av];exact .int
   ·cases h
  ·cases h
 | .bool,x,e,h=>by
  rw [exG] at h;unfold prjBool at h;split at h
  ·injection h with h
   subst h;rw [SV.enc,Ty.av];exact .bool
  ·cases h
 | .str,x,e,h=>by
  rw [exG] at h;unfold prjStr at h;split at h
  ·injection h with h
   subst h;rw [SV.enc,Ty.av];exact .str
  ·cases h
 | .list t,x,e,h=>by
  rw [exG] at h
  cases hf:t.flat with
  | false=>rw [hf] at h;cases h
  | true =>
   rw [hf] at h;simp only [cond_true] at h;split at h
   ·rename_i e0 h1;injection h with h
    subst h;rw [Ty.av];exact frz_listV (Ty.flat_dat _ hf) hm h1
   ·cases h
 | .agg t,x,e,h=>by
  rw [exG] at h;unfold exAggA at h;split at h
  ·rename_i cs;split at h
   ·rename_i e0 h1;injection h with h
    subst h;rw [SV.enc,Ty.av];exact FrzA.agg' (exFA_ok hm h1)
   ·cases h
  ·cases h
 | .ptr t,x,e,h=>by
  rw [exG] at h
  cases hA:exPtrA st t x with
  | none =>
   rw [hA] at h;exact exPtrO_ok hm h
  | some e' =>
  rw [hA] at h;injection h with h
  subst h;have h:=hA;clear hA;unfold exPtrA at h;split at h
  ·rename_i fr t' e0 o
   cases hc:(Nat.beq o 0&&(Nat.blt 0 t.size&&t.dat)) with
   | false=>rw [hc] at h;cases h
   | true =>
    rw [hc] at h;simp only [cond_true] at h;rw [Bool.and_eq_true,Bool.and_eq_true] at hc;have ho:=Nat.eq_of_beq_eq_true hc.1;subst ho;split at h
    ·rename_i ht _;subst ht;injection h with h
     subst h;rw [SV.enc,Ty.av]
     have hne:∀ fr,t'.cells fr (E.ptrI e0).den≠[]:=by
      intro fr e1;have:=t'.cells_length fr (E.ptrI e0).den;rw [e1] at this;have h2:=hc.2.1;rw [←this] at h2;cases h2
     exact .peek _ _ 0 (by rw [Ty.cells_length,Ty.cells_length]) (cells_frzL fr t' _ hc.2.2) (t'.cells_isD _ _ hc.2.2) (hne false) (t'.cells_isD _ _ hc.2.2)
    ·cases h
  ·rename_i id o;split at h
   ·rename_i cs ty hb
    cases hc:(Nat.beq o 0&&(Nat.blt 0 t.size&&t.dat)) with
    | false=>rw [hc] at h;cases h
    | true =>
     rw [hc] at h;simp only [cond_true] at h;rw [Bool.and_eq_true,Bool.and_eq_true] at hc;have ho:=Nat.eq_of_beq_eq_true hc.1;subst ho;split at h
     ·rename_i e0 h1;injection h with h
      subst h;have hi:isBox st.blk id=true:=by unfold isBox;rw [hb]
      rw [SV.enc,hi,Ty.av];have hbb:=enc_blk hm (k:=id) (by rw [hb];simp);rw [hb,SB.enc] at hbb;have hl:=exFA_ok hm h1;refine .peekBox (m id) _ _ ty hbb hl.len hl.at (t.cells_isD _ _ hc.2.2) ?_;intro e1;have:=t.cells_length false (E.ptrI e0).den;rw [e1] at this;have h2:=hc.2.1;rw [←this] at h2;cases h2
     ·cases h
   ·cases h
  ·cases h
 | .unit,x,e,h=>by rw [exG] at h;cases h;all_goals simp
 | .pair a b,x,e,h=>by rw [exG] at h;cases h;all_goals simp
theorem exArgs_ok (hm:MOk m nx st):∀ (t:Ty) (xs:List (SV D)) (e:E D t),exArgs st t xs=some e→FrzL (st.enc m nx).heap (SV.encL m st.blk xs) (t.avs false e.den)
 | .unit,xs,e,h=>by
  unfold exArgs at h;split at h
  ·rw [SV.encL,Ty.avs]
   ·exact .nil
   ·simp
  ·cases h
 | .pair a b,xs,e,h=>by
  rw [exArgs.eq_def] at h;simp only at h;split at h
  ·rename_i c l;split at h
   ·rename_i x y h1 h2;injection h with h
    subst h;rw [SV.encL,Ty.avs];exact .cons (exG_ok hm a c x h1) (exArgs_ok hm b l y h2)
   ·cases h
  ·cases h
 | .int k,xs,e,h=>by rw [exArgs.eq_def] at h;cases h
 | .bool,xs,e,h=>by rw [exArgs.eq_def] at h;cases h
 | .str,xs,e,h=>by rw [exArgs.eq_def] at h;cases h
 | .list t,xs,e,h=>by rw [exArgs.eq_def] at h;cases h
 | .agg t,xs,e,h=>by rw [exArgs.eq_def] at h;cases h
 | .ptr t,xs,e,h=>by rw [exArgs.eq_def] at h;cases h
end
section
variable {V:Ty→Type}
def isOslS (x:SV V):Bool:=match x with
 | .osl ..=>true
 | _=>false
def resL0 (st:SSt V) (t:Ty) (x:SV V):Option (E V (.list t)):=bif t.flat then (match srcS st t x with
 | some (true,e)=>some e
 | some (false,e)=>bif t.noL&&isOslS x then some e else none
 | none=>none) else none
def resL1 (st:SSt V) (t:Ty) (x:SV V):Option (E V (.list t)):=match x with
 | .vsl id ver lo hi=>bif t.flat then (match st.blk id with
  | .row fr t' xs _ v=>bif Nat.beq ver v&&(fr||t.noL) then (match Ty.eqd t' t with
   | some ⟨h⟩=>some (.sub (h ▸ xs) lo hi)
   | none=>none) else none
  | _=>none) else none
 | x=>resL0 st t x
def exR (st:SSt V):(t:Ty)→List (SV V)→Option (E V t×List (SV V))
 | .int k,l=>match l with
  | .int k' e::l=>if h:k'=k then some (h ▸ e,l) else none
  | _=>none
 | .bool,l=>match l with
  | .bool e::l=>some (e,l)
  | _=>none
 | .str,l=>match l with
  | .str e::l=>some (e,l)
  | _=>none
 | .list t,l=>match l with
  | c::l=>match resL1 st t c with
   | some e=>some (e,l)
   | none=>none
  | []=>none
 | .unit,l=>some (.uni,l)
 | .pair a b,l=>match exR st a l with
  | some (x,l')=>match exR st b l' with
   | some (y,l'')=>some (.pair x y,l'')
   | none=>none
  | none=>none
 | .agg t,l=>match exR st t l with
  | some (x,l')=>some (.aggI x,l')
  | none=>none
 | .ptr _,_=>none
 | .aix,_=>none
def exRA (st:SSt V) (t:Ty) (l:List (SV V)):Option (E V t):=match exR st t l with
 | some (x,[])=>some x
 | _=>none
def exRAgg (st:SSt V) (t:Ty) (x:SV V):Option (E V (.agg t)):=match x with
 | .agg cs=>match exRA st t cs with
  | some e=>some (.aggI e)
  | none=>none
 | _=>none
def exRG (st:SSt V):(t:Ty)→SV V→Option (E V t)
 | .int k,x=>prjInt k x
 | .bool,x=>prjBool x
 | .str,x=>prjStr x
 | .list t,x=>resL1 st t x
 | .agg t,x=>exRAgg st t x
 | _,_=>none
def exRs (st:SSt V):(t:Ty)→List (SV V)→Option (E V t)
 | .unit,l=>match l with
  | []=>some .uni
  | _=>none
 | .pair a b,l=>match l with
  | c::l=>match exRG st a c,exRs st b l with
   | some x,some y=>some (.pair x y)
   | _,_=>none
  | []=>none
 | _,_=>none
end
section
variable {m:Nat→Nat} {nx:Nat} {st:SSt D}
theorem cells_frzR {hp:List (Nat×AB)}:∀ (t:Ty) (x:t.den),t.flat=true→∀ a ∈ t.cells true x,FrzR hp a a
 | .int k,x,_,a,ha=>by rw [Ty.cells] at ha;simp at ha;subst ha;exact .dat _ rfl (fun _ _ _=>by simp)
 | .bool,x,_,a,ha=>by rw [Ty.cells] at ha;simp at ha;subst ha;exact .dat _ rfl (fun _ _ _=>by simp)
 | .str,x,_,a,ha=>by rw [Ty.cells] at ha;simp at ha;subst ha;exact .dat _ rfl (fun _ _ _=>by simp)
 | .list t,xs,hf,a,ha=>by
  rw [Ty.cells] at ha;rw [List.mem_singleton] at ha;subst ha;refine .ro _ _ (fun row hr b hb=>?_) (fun row hr b hb=>?_)
  ·obtain ⟨y,_,rfl⟩:=List.mem_map.1 hr;exact cells_frzR t y (by rw [Ty.flat] at hf;exact hf) b hb
  ·obtain ⟨y,_,rfl⟩:=List.mem_map.1 hr;exact t.cells_isD true y (Ty.flat_dat _ (by rw [Ty.flat] at hf;exact hf)) b hb
 | .unit,x,_,a,ha=>by rw [Ty.cells] at ha;cases ha
 | .pair c d,x,hf,a,ha=>by
  rw [Ty.flat,Bool.and_eq_true] at hf;rw [Ty.cells] at ha;rcases List.mem_append.1 ha with ha | ha
  ·exact cells_frzR c x.1 hf.1 a ha
  ·exact cells_frzR d x.2 hf.2 a ha
 | .agg t,x,hf,a,ha=>by rw [Ty.cells] at ha;exact cells_frzR t x (by rw [Ty.flat] at hf;exact hf) a ha
 | .ptr t,x,hf,a,ha=>by rw [Ty.flat] at hf;cases hf
 | .aix,x,hf,a,ha=>by rw [Ty.flat] at hf;cases hf
theorem resL0_ok {rt:Ty} {x:SV D} {ys:E D (.list rt)} (hm:MOk m nx st) (h:resL0 st rt x=some ys):FrzR (st.enc m nx).heap (x.enc m st.blk) (.ro true rt.size ((ys.den:List rt.den).map (rt.cells true))):=by
 unfold resL0 at h
 cases hf:rt.flat with
 | false=>rw [hf] at h;cases h
 | true =>
  rw [hf] at h;simp only [cond_true] at h
  have hrow:∀ (zs:List rt.den),(∀ row ∈ zs.map (rt.cells true),∀ a ∈ row,FrzR (st.enc m nx).heap a a)∧(∀ row ∈ zs.map (rt.cells true),∀ a ∈ row,isD a=true):=by
   intro zs;refine ⟨fun row hr b hb=>?_,fun row hr b hb=>?_⟩
   ·obtain ⟨y,_,rfl⟩:=List.mem_map.1 hr;exact cells_frzR rt y hf b hb
   ·obtain ⟨y,_,rfl⟩:=List.mem_map.1 hr;exact rt.cells_isD true y (Ty.flat_dat _ hf) b hb
  split at h
  ·rename_i e h1;injection h with h
   subst h;unfold srcS at h1;split at h1
   ·rename_i fr' t' xs;split at h1
    ·rename_i ht _;subst ht;simp only [Option.some.injEq,Prod.mk.injEq] at h1;obtain ⟨rfl,rfl⟩:=h1;rw [SV.enc];exact .ro _ _ (hrow _).1 (hrow _).2
    ·cases h1
   ·rename_i id ver;split at h1
    ·rename_i fr' t' xs e v hb
     cases hv:Nat.beq ver v with
     | false=>rw [hv] at h1;cases h1
     | true =>
      rw [hv] at h1;simp only [cond_true] at h1;split at h1
      ·rename_i ht _;subst ht;simp only [Option.some.injEq,Prod.mk.injEq] at h1;obtain ⟨rfl,rfl⟩:=h1;rw [SV.enc,rowLen_eq hb hv];have hbb:=enc_blk hm (k:=id) (by rw [hb];simp);rw [hb,SB.enc] at hbb;exact .osl _ _ _ _ _ hbb (rows_len _).symm (hrow _).1 (hrow _).2
      ·cases h1
    ·cases h1
   ·simp only [Option.some.injEq,Prod.mk.injEq] at h1;obtain ⟨_,rfl⟩:=h1;rw [SV.enc];exact .nilro _
   ·cases h1
  ·rename_i e h1
   cases hn:rt.noL with
   | false=>rw [hn] at h;cases h
   | true =>
    rw [hn] at h
    cases hx:isOslS x with
    | false=>rw [hx] at h;cases h
    | true =>
     rw [hx] at h;injection h with h
     subst h;unfold isOslS at hx;split at hx
     ·rename_i id ver;unfold srcS at h1;split at h1
      ·rename_i hq;cases hq
      ·rename_i id' ver' hq;injection hq with e1 e2
       subst e1;subst e2
       split at h1
       ·rename_i fr' t' xs e v hb
        cases hv:Nat.beq ver v with
        | false=>rw [hv] at h1;cases h1
        | true =>
         rw [hv] at h1;simp only [cond_true] at h1;split at h1
         ·rename_i ht _;subst ht;simp only [Option.some.injEq,Prod.mk.injEq] at h1;obtain ⟨rfl,rfl⟩:=h1;rw [SV.enc,rowLen_eq hb hv];have hbb:=enc_blk hm (k:=id) (by rw [hb];simp);rw [hb,SB.enc,rows_noL false true _ _ hn] at hbb;exact .osl _ _ _ _ _ hbb (rows_len _).symm (hrow _).1 (hrow _).2
         ·cases h1
       ·cases h1
      ·rename_i hq;cases hq
      ·rename_i q1 q2 q3;exact absurd rfl (q2 _ _)
     ·cases hx
  ·cases h
theorem resL1_ok {rt:Ty} {x:SV D} {ys:E D (.list rt)} (hm:MOk m nx st) (h:resL1 st rt x=some ys):FrzR (st.enc m nx).heap (x.enc m st.blk) (.ro true rt.size ((ys.den:List rt.den).map (rt.cells true))):=by
 unfold resL1 at h;split at h
 ·rename_i id ver lo hi
  cases hf:rt.flat with
  | false=>rw [hf] at h;cases h
  | true =>
   rw [hf] at h;simp only [cond_true] at h;split at h
   ·rename_i fr t' xs e v hb
    cases hv:(Nat.beq ver v&&(fr||rt.noL)) with
    | false=>rw [hv] at h;cases h
    | true =>
     rw [hv] at h;simp only [cond_true] at h;rw [Bool.and_eq_true] at hv;split at h
     ·rename_i ht _;subst ht;injection h with h
      subst h;rw [SV.enc,rowLen_eq hb hv.1];have hbb:=enc_blk hm (k:=id) (by rw [hb];simp)
      have hrows:(xs.den:List t'.den).map (t'.cells fr)=(xs.den:List t'.den).map (t'.cells true):=by
       cases fr with
       | true=>rfl
       | false=>exact rows_noL false true t' _ (by simpa using hv.2)
      rw [hb,SB.enc,hrows] at hbb;refine .vsl _ _ _ _ _ _ _ _ hbb (rows_len _).symm ?_ (fun row hr b hb=>?_) (fun row hr b hb=>?_)
      ·rw [←List.map_drop,←List.map_take,←List.drop_take];rfl
      ·obtain ⟨y,_,rfl⟩:=List.mem_map.1 hr;exact cells_frzR t' y hf b hb
      ·obtain ⟨y,_,rfl⟩:=List.mem_map.1 hr;exact t'.cells_isD true y (Ty.flat_dat _ hf) b hb
     ·cases h
   ·cases h
 ·exact resL0_ok hm h
inductive FrzRL (hp:List (Nat×AB)):List AV→List AV→Prop
 | nil:FrzRL hp [] []
 | cons {a b:AV} {l m:List AV} (h:FrzR hp a b) (t:FrzRL hp l m):FrzRL hp (a::l) (b::m)
theorem FrzRL.len {hp:List (Nat×AB)} {l m:List AV} (h:FrzRL hp l m):l.length=m.length:=by
 induction h with
 | nil=>rfl
 | cons _ _ ih=>simp [ih]
theorem FrzRL.at {hp:List (Nat×AB)} {l m:List AV} (h:FrzRL hp l m):∀ (i:Nat) (a b:AV),l[i]?=some a→m[i]?=some b→FrzR hp a b:=by
 induction h with
 | nil=>intro i a b h;simp at h
 | cons h _ ih =>
  intro i a b h1 h2
  cases i with
  | zero=>simp at h1 h2;subst h1;subst h2;exact h
  | succ i=>exact ih i a b (by simpa using h1) (by simpa using h2)
theorem FrzRL.append {hp:List (Nat×AB)} {a b c d:List AV} (h:FrzRL hp a b) (k:FrzRL hp c d):FrzRL hp (a++c) (b++d):=by
 induction h with
 | nil=>exact k
 | cons h _ ih=>exact .cons h ih
theorem exR_ok (hm:MOk m nx st):∀ (t:Ty) (cs:List (SV D)) (e:E D t) (rest:List (SV D)),exR st t cs=some (e,rest)→∃ pre,cs=pre++rest∧FrzRL (st.enc m nx).heap (SV.encL m st.blk pre) (t.cells true e.den)
 | .int k,cs,e,rest,h=>by
  unfold exR at h;split at h
  ·rename_i k' e0 l;split at h
   ·rename_i hk;subst hk;simp only [Option.some.injEq,Prod.mk.injEq] at h;obtain ⟨rfl,rfl⟩:=h;exact ⟨[.int k' e0],rfl,by rw [SV.encL,SV.encL,SV.enc,Ty.cells];exact .cons (.int rfl) .nil⟩
   ·cases h
  ·cases h
 | .bool,cs,e,rest,h=>by
  unfold exR at h;split at h
  ·rename_i e0 l;simp only [Option.some.injEq,Prod.mk.injEq] at h;obtain ⟨rfl,rfl⟩:=h;exact ⟨[.bool e0],rfl,by rw [SV.encL,SV.encL,SV.enc,Ty.cells];exact .cons (.bool rfl) .nil⟩
  ·cases h
 | .str,cs,e,rest,h=>by
  unfold exR at h;split at h
  ·rename_i e0 l;simp only [Option.some.injEq,Prod.mk.injEq] at h;obtain ⟨rfl,rfl⟩:=h;exact ⟨[.str e0],rfl,by rw [SV.encL,SV.encL,SV.enc,Ty.cells];exact .cons (.dat _ rfl (fun _ _ _=>by simp)) .nil⟩
  ·cases h
 | .list t,cs,e,rest,h=>by
  unfold exR at h;split at h
  ·rename_i c l;split at h
   ·rename_i e0 h1;simp only [Option.some.injEq,Prod.mk.injEq] at h;obtain ⟨rfl,rfl⟩:=h;exact ⟨[c],rfl,by rw [SV.encL,SV.encL,Ty.cells];exact .cons (resL1_ok hm h1) .nil⟩
   ·cases h
  ·cases h
 | .unit,cs,e,rest,h=>by
  rw [exR] at h;simp only [Option.some.injEq,Prod.mk.injEq] at h;obtain ⟨rfl,rfl⟩:=h;exact ⟨[],rfl,by rw [SV.encL,Ty.cells];exact .nil⟩
 | .pair a b,cs,e,rest,h=>by
  rw [exR] at h;split at h
  ·rename_i x l' h1;split at h
   ·rename_i y l'' h2;simp only [Option.some.injEq,Prod.mk.injEq] at h;obtain ⟨rfl,rfl⟩:=h;obtain ⟨p1,e1,g1⟩:=exR_ok hm a cs x l' h1;obtain ⟨p2,e2,g2⟩:=exR_ok hm b l' y l'' h2;refine ⟨p1++p2,by rw [e1,e2,List.append_assoc],?_⟩;rw [encL_map,List.map_append,←encL_map,←encL_map,Ty.cells];exact g1.append g2
   ·cases h
  ·cases h
 | .agg t,cs,e,rest,h=>by
  rw [exR] at h;split at h
  ·rename_i x l' h1;simp only [Option.some.injEq,Prod.mk.injEq] at h;obtain ⟨rfl,rfl⟩:=h;obtain ⟨p1,e1,g1⟩:=exR_ok hm t cs x l' h1;exact ⟨p1,e1,by rw [Ty.cells];exact g1⟩
  ·cases h
 | .ptr t,cs,e,rest,h=>by rw [exR] at h;cases h
 | .aix,cs,e,rest,h=>by rw [exR] at h;cases h
theorem exRG_ok (hm:MOk m nx st):∀ (t:Ty) (x:SV D) (e:E D t),exRG st t x=some e→FrzR (st.enc m nx).heap (x.enc m st.blk) (t.av true e.den)
 | .int k,x,e,h=>by
  rw [exRG] at h;unfold prjInt at h;split at h
  ·split at h
   ·rename_i hk;subst hk;injection h with h
    subst h;rw [SV.enc,Ty.av];exact .int rfl
   ·cases h
  ·cases h
 | .bool,x,e,h=>by
  rw [exRG] at h;unfold prjBool at h;split at h
  ·injection h with h
   subst h;rw [SV.enc,Ty.av];exact .bool rfl
  ·cases h
 | .str,x,e,h=>by
  rw [exRG] at h;unfold prjStr at h;split at h
  ·injection h with h
   subst h;rw [SV.enc,Ty.av];exact .dat _ rfl (fun _ _ _=>by simp)
  ·cases h
 | .list t,x,e,h=>by
  rw [exRG] at h;rw [Ty.av];exact resL1_ok hm h
 | .agg t,x,e,h=>by
  rw [exRG] at h;unfold exRAgg at h;split at h
  ·rename_i cs;split at h
   ·rename_i e0 h1;injection h with h
    subst h;unfold exRA at h1;split at h1
    ·rename_i x h2;injection h1 with h1
     subst h1;obtain ⟨pre,e1,g⟩:=exR_ok hm t cs x [] h2;rw [List.append_nil] at e1;subst e1;rw [SV.enc,Ty.av];exact .agg _ _ g.len g.at
    ·cases h1
   ·cases h
  ·cases h
 | .unit,x,e,h=>by rw [exRG] at h;cases h;all_goals simp
 | .ptr _,x,e,h=>by rw [exRG] at h;cases h;all_goals simp
 | .pair a b,x,e,h=>by rw [exRG] at h;cases h;all_goals simp
theorem exRs_ok (hm:MOk m nx st):∀ (t:Ty) (xs:List (SV D)) (e:E D t),exRs st t xs=some e→FrzRL (st.enc m nx).heap (SV.encL m st.blk xs) (t.avs true e.den)
 | .unit,xs,e,h=>by
  unfold exRs at h;split at h
  ·rw [SV.encL,Ty.avs]
   ·exact .nil
   ·simp
  ·cases h
 | .pair a b,xs,e,h=>by
  rw [exRs.eq_def] at h;simp only at h;split at h
  ·rename_i c l;split at h
   ·rename_i x y h1 h2;injection h with h
    subst h;rw [SV.encL,Ty.avs];exact .cons (exRG_ok hm a c x h1) (exRs_ok hm b l y h2)
   ·cases h
  ·cases h
 | .int k,xs,e,h=>by rw [exRs.eq_def] at h;cases h
 | .bool,xs,e,h=>by rw [exRs.eq_def] at h;cases h
 | .str,xs,e,h=>by rw [exRs.eq_def] at h;cases h
 | .list t,xs,e,h=>by rw [exRs.eq_def] at h;cases h
 | .agg t,xs,e,h=>by rw [exRs.eq_def] at h;cases h
 | .ptr t,xs,e,h=>by rw [exRs.eq_def] at h;cases h
theorem exRs_one (hm:MOk m nx st) {t:Ty} {xs:List (SV D)} {e:E D t} (h:exRs st t xs=some e):FrzR (st.enc m nx).heap (oneOf (SV.encL m st.blk xs)) (oneOf (t.avs true e.den)):=by
 have k:=exRs_ok hm t xs e h;generalize SV.encL m st.blk xs=l at k;generalize t.avs true e.den=r at k
 cases k with
 | nil=>exact .tup _ _ rfl (fun i a b h=>by simp at h)
 | cons h1 t1 =>
  cases t1 with
  | nil=>exact h1
  | cons h2 t2=>exact .tup _ _ (FrzRL.cons h1 (.cons h2 t2)).len (FrzRL.cons h1 (.cons h2 t2)).at
end
end Go.Proofs.Ytljebnobajmjnaa
/- A callee that works on some of the caller's own blocks: all others stay. No program in sight. -/
namespace Go.Proofs.Ytljebnobajmjnaa
open Go Go.RowKit

def newQ (k k2:Nat) (id:Nat):Bool:=Nat.ble k id&&Nat.blt id k2
theorem newQ_iff {k k2 id:Nat}:newQ k k2 id=true↔k≤id∧id<k2:=by
 unfold newQ;rw [Bool.and_eq_true];simp
def orQ (p:Nat→Bool) (k k2:Nat) (id:Nat):Bool:=p id||newQ k k2 id
theorem orQ_iff {p:Nat→Bool} {k k2 id:Nat}:orQ p k k2 id=true↔p id=true∨(k≤id∧id<k2):=by
 unfold orQ;rw [Bool.or_eq_true,newQ_iff]
def cutF (G:Gh) (p:Nat→Bool) (k:Nat):Gh:=⟨fun id=>if p id=true∧id<G.nx then G.ρ id else undef,G.own,G.ln,fun id=>if p id=true∧id<G.nx then G.sz id else 0,k,G.bs,fun b=>G.own b∧∀ id,p id=true→id<G.nx→ownBlk (G.ρ id)≠some b⟩
def joinF' (G G1:Gh) (q:Nat→Bool) (NX:Nat):Gh:=⟨fun id=>if q id=true then G1.ρ id else G.ρ id,G1.own,fun id=>if q id=true then G1.ln id else G.ln id,fun id=>if q id=true then G1.sz id else G.sz id,NX,G.bs,G.far⟩
def patchF (G G':Gh) (N:Nat→Bool):Gh:=⟨fun id=>if N id=true then G'.ρ id else G.ρ id,G.own,fun id=>if N id=true then G'.ln id else G.ln id,fun id=>if N id=true then G'.sz id else G.sz id,G.nx,G.bs,G.far⟩
section
variable {p:Nat→Bool} {w0 w w':World} {G G1:Gh} {k:Nat} {hp hp2:List (Nat×AB)}
theorem cutF_mv (hk:∀ id,p id=true→id<k):Mv p w G w (cutF G p k):=by
 refine ⟨fun _ _ _=>rfl,fun b hb=>.inl hb,rfl,fun id h1 h2=>⟨hk id h1,?_,rfl,?_⟩⟩
 ·show (if p id=true∧id<G.nx then G.ρ id else undef)=_;rw [if_pos ⟨h1,h2⟩]
 ·show (if p id=true∧id<G.nx then G.sz id else 0)=_;rw [if_pos ⟨h1,h2⟩]
theorem cutF_hr (h:HR w0 w G hp) (hk:∀ id,p id=true→id<k) (h2:∀ id,look .dead hp2 id=.dead∨(p id=true∧LesB (look .dead hp2 id) (look .dead hp id)∧(look .dead hp2 id).nmd p=true)):HR w0 w (cutF G p k) hp2:=by
 have hm:=cutF_mv (w:=w) (G:=G) hk;refine ⟨h.bs,h.below,fun b=>⟨h.ownlt b,fun hf=>hf.1⟩,fun id=>?_,fun id id' g h1 h2 hne e1 e2=>?_,fun id g h1 h2=>?_⟩
 ·rcases h2 id with e | ⟨e1,e2,e3⟩
  ·rw [e];trivial
  ·exact ABok.mv (e2.ok (h.blk id)) hm e3 (.inr e1) (fun g _=>rfl)
 ·have e1:ownBlk (if p id=true∧id<G.nx then G.ρ id else undef)=some g:=e1;have e2:ownBlk (if p id'=true∧id'<G.nx then G.ρ id' else undef)=some g:=e2;by_cases c1:p id=true∧id<G.nx
  ·by_cases c2:p id'=true∧id'<G.nx
   ·rw [if_pos c1] at e1;rw [if_pos c2] at e2;exact h.dist id id' g c1.2 c2.2 hne e1 e2
   ·rw [if_neg c2] at e2;cases e2
  ·rw [if_neg c1] at e1;cases e1
 ·have h2:ownBlk (if p id=true∧id<G.nx then G.ρ id else undef)=some g:=h2;by_cases c1:p id=true∧id<G.nx
  ·rw [if_pos c1] at h2;exact ⟨h.ownhas id g c1.2 h2,fun hf=>hf.2 id c1.1 c1.2 h2⟩
  ·rw [if_neg c1] at h2;cases h2
theorem cutF_out {k2:Nat} (hx:Ext w (cutF G p k) w' G1) {id:Nat} (h1:id<k2) (h2:orQ p k k2 id=false):G1.ρ id=undef∧G1.sz id=0:=by
 have hnp:¬ (p id=true∧id<G.nx):=fun h=>by rw [show orQ p k k2 id=true from orQ_iff.2 (.inl h.1)] at h2;cases h2
 have hlt:id<k:=by
  rcases Nat.lt_or_ge id k with h | h
  ·exact h
  ·rw [show orQ p k k2 id=true from orQ_iff.2 (.inr ⟨h,h1⟩)] at h2;cases h2
 obtain ⟨a1,a2,a3,a4⟩:=hx.gh id hlt;have s0:(cutF G p k).sz id=0:=if_neg hnp;have r0:(cutF G p k).ρ id=undef:=if_neg hnp;exact ⟨(a3 (a4 s0)).trans r0,by rw [←a2];exact s0⟩
theorem liftF {q:Nat→Bool} {k2 NX:Nat} (hn:G1.nx=k2) (hk2:k2≤NX) (hb:G.bs=G1.bs) (h0:∀ id,id<k2→q id=false→G1.ρ id=undef∧G1.sz id=0) {a:AV} {v:Value} (r:RelV w' G1 a v):RelV w' (joinF' G G1 q NX) a v:=by
 have hq:∀ id,id<k2→(G1.ρ id≠undef∨G1.sz id≠0)→q id=true:=fun id h1 h2=>by
  cases e:q id with
  | true=>rfl
  | false=>obtain ⟨a1,a2⟩:=h0 id h1 e;rcases h2 with h | h;exact absurd a1 h;exact absurd a2 h
 have jρ:∀ id,q id=true→(joinF' G G1 q NX).ρ id=G1.ρ id:=fun id h=>if_pos h
 have jl:∀ id,q id=true→(joinF' G G1 q NX).ln id=G1.ln id:=fun id h=>if_pos h
 have js:∀ id,q id=true→(joinF' G G1 q NX).sz id=G1.sz id:=fun id h=>if_pos h
 have key:∀ {a:AV} {v:Value},RelD w' G1.own G1.bs a v→RelD w' (joinF' G G1 q NX).own (joinF' G G1 q NX).bs a v:=by
  intro a v h;have e:(joinF' G G1 q NX).bs=G1.bs:=hb;rw [e];exact h
 induction r with
 | dat r=>exact .dat (key r)
 | box id off g hid hs hr =>
  have hqq:=hq id (by omega) (.inl (by rw [hr];simp [undef]));exact .box id off g (by show id<NX;omega) (by rw [js id hqq];exact hs) (by rw [jρ id hqq];exact hr)
 | elt id n i j v hid hin hs hn' hv hr =>
  have hqq:=hq id (by omega) (.inr (by omega));refine .elt id n i j v (by show id<NX;omega) hin (by rw [js id hqq];exact hs) (by rw [jl id hqq];exact hn') hv (fun e=>?_);rw [jl id hqq] at e;obtain ⟨g,c,e1,e2⟩:=hr e;exact ⟨g,c,by rw [jρ id hqq];exact e1,by rw [js id hqq];exact e2⟩
 | osl id n v hid hs hn' hv hr =>
  have hqq:=hq id (by omega) (.inr (by omega));exact .osl id n v (by show id<NX;omega) (by rw [js id hqq];exact hs) (by rw [jl id hqq];exact hn') hv (fun e=>by rw [jl id hqq] at e;rw [jρ id hqq];exact hr e)
 | vsl id n lo len v hid hs hn' hle hv hr =>
  have hqq:=hq id (by omega) (.inr (by omega));refine .vsl id n lo len v (by show id<NX;omega) (by rw [js id hqq];exact hs) (by rw [jl id hqq];exact hn') hle hv (fun e=>?_);rw [jl id hqq] at e;obtain ⟨A,c,e1,e2,e3,e4⟩:=hr e;refine ⟨A,c,e1,e2,e3,fun hl=>?_⟩;obtain ⟨g,c',e5,e6⟩:=e4 hl;exact ⟨g,c',by rw [jρ id hqq];exact e5,by rw [js id hqq];exact e6⟩
 | peek row j b o f hr hb' h1 h2=>exact .peek row j b o f hr hb' h1 (fun t a g=>key (h2 t a g))
 | agg cs vs hl _ ih=>exact .agg cs vs hl ih
 | tup cs vs hl _ ih=>exact .tup cs vs hl ih
 | fn f cs fs vs hf hl _ ih=>exact .fn f cs fs vs hf hl ih
theorem liftFB {q:Nat→Bool} {k2 NX:Nat} (hn:G1.nx=k2) (hk2:k2≤NX) (hb:G.bs=G1.bs) (h0:∀ id,id<k2→q id=false→G1.ρ id=undef∧G1.sz id=0) {id:Nat} {b:AB} (r:ABok w0 w' G1 id b):ABok w0 w' (joinF' G G1 q NX) id b:=by
 have hq:∀ id,id<k2→(G1.ρ id≠undef∨G1.sz id≠0)→q id=true:=fun id h1 h2=>by
  cases e:q id with
  | true=>rfl
  | false=>obtain ⟨a1,a2⟩:=h0 id h1 e;rcases h2 with h | h;exact absurd a1 h;exact absurd a2 h
 cases b with
 | dead=>trivial
 | box cs e =>
  obtain ⟨h1,h2,g,vs,h3,h4,h5,h6⟩:=r;have hqq:=hq id (by omega) (.inl (by rw [h3];simp [undef]));refine ⟨by show id<NX;omega,(if_pos hqq).trans h2,g,vs,(if_pos hqq).trans h3,h4,h5,fun i a hi=>?_⟩;obtain ⟨v,g1,g2,g3⟩:=h6 i a hi;exact ⟨v,g1,g2,liftF hn hk2 hb h0 g3⟩
 | row sz rows e =>
  obtain ⟨h1,h2,h3,h4,flat,h5,h6,h7⟩:=r;have hqq:=hq id (by omega) (.inr (by omega));have e1:(joinF' G G1 q NX).ρ id=G1.ρ id:=if_pos hqq;refine ⟨by show id<NX;omega,h2,(if_pos hqq).trans h3,(if_pos hqq).trans h4,flat,by rw [e1];exact h5,h6,fun i row hi=>?_⟩;obtain ⟨g1,g2⟩:=h7 i row hi;refine ⟨g1,fun j a hj=>?_⟩;obtain ⟨v,g3,g4⟩:=g2 j a hj;exact ⟨v,g3,liftF hn hk2 hb h0 g4⟩
structure OutF (p:Nat→Bool) (k k2:Nat) (w0 w:World) (G:Gh) (hp2:List (Nat×AB)) (w':World) (G':Gh):Prop where
 hr:HR w0 w' G' hp2
 ext:Ext w (patchF G G' (newQ k k2)) w' G'
 same:∀ j,orQ p k k2 j=false→G'.ρ j=G.ρ j∧G'.ln j=G.ln j∧G'.sz j=G.sz j∧(j<G.nx→∀ g,ownBlk (G.ρ j)=some g→w'.heap[g]?=w.heap[g]?)
 live:∀ j,look .dead hp2 j≠.dead→orQ p k k2 j=true
theorem joinF_out {k2 NX:Nat} (h:HR w0 w G hp) (hk:∀ id,p id=true→id<k) (hNX:G.nx≤NX) (hk2:k2≤NX) (hcov:∀ id,id<NX→G.nx≤id→orQ p k k2 id=true) (h1:HR w0 w' G1 hp2) (hx:Ext w (cutF G p k) w' G1) (hn:G1.nx=k2) :
  OutF p k k2 w0 w G hp2 w' (joinF' G G1 (orQ p k k2) NX):=by
 have hkk:k≤k2:=by rw [←hn];exact hx.nx
 have hlt2:∀ id,orQ p k k2 id=true→id<k2:=fun id c=>by
  rcases orQ_iff.1 c with c | c
  ·have:=hk id c;omega
  ·exact c.2
 have h0:∀ id,id<k2→orQ p k k2 id=false→G1.ρ id=undef∧G1.sz id=0:=fun id c1 c2=>cutF_out hx c1 c2
 have hbs:G.bs=G1.bs:=hx.bs.symm
 have hfar:∀ b,G.own b→(∀ id,p id=true→id<G.nx→ownBlk (G.ρ id)≠some b)→G1.far b:=fun b hb hc=>by
  rw [hx.far];exact ⟨hb,hc⟩
 have hfar0:∀ b,G.far b→G1.far b:=fun b hb=>hfar b (h.farown b hb) (fun id c1 c2 e=>h.nofar id b c2 e hb)
 have oth:∀ id g,orQ p k k2 id=false→id<G.nx→ownBlk (G.ρ id)=some g→G1.far g:=fun id g c1 c2 e=>hfar g (h.ownhas id g c2 e) (fun id' d1 d2 e'=>h.dist id id' g c2 d2 (fun e2=>by subst e2;rw [orQ_iff.2 (.inl d1)] at c1;cases c1) e e')
 have keep:∀ b,(¬ G.own b∨G1.far b)→b<w.heap.size→w'.heap[b]?=w.heap[b]?:=fun b hb hl=>hx.keep' b (hb.imp (fun hb=>hb) (fun hb=>by rw [←hx.far];exact hb)) hl
 have jρ:∀ id,orQ p k k2 id=true→(joinF' G G1 (orQ p k k2) NX).ρ id=G1.ρ id:=fun id c=>if_pos c
 have jρ':∀ id,orQ p k k2 id=false→(joinF' G G1 (orQ p k k2) NX).ρ id=G.ρ id:=fun id c=>if_neg (by rw [c];decide)
 have jl':∀ id,orQ p k k2 id=false→(joinF' G G1 (orQ p k k2) NX).ln id=G.ln id:=fun id c=>if_neg (by rw [c];decide)
 have js':∀ id,orQ p k k2 id=false→(joinF' G G1 (orQ p k k2) NX).sz id=G.sz id:=fun id c=>if_neg (by rw [c];decide)
 have lt0:∀ id,id<NX→orQ p k k2 id=false→id<G.nx:=fun id c1 c2=>by
  rcases Nat.lt_or_ge id G.nx with h | h
  ·exact h
  ·rw [hcov id c1 h] at c2;cases c2
 have cases':∀ id,orQ p k k2 id=true∨orQ p k k2 id=false:=fun id=>by cases orQ p k k2 id <;> simp
 refine ⟨⟨h.bs,h1.below,fun b=>⟨fun hb=>h1.ownlt b hb,fun hf=>h1.farown b (hfar0 b hf)⟩,fun id=>liftFB hn hk2 hbs h0 (h1.blk id),fun id id' g c1 c2 hne e1 e2=>?_,fun id g c1 c2=>?_⟩,⟨hx.size,fun b hb hl=>?_,fun b hb=>hx.own2 b hb,hNX,⟨rfl,rfl⟩,fun id hid=>?_⟩,fun j hj=>⟨jρ' j hj,jl' j hj,js' j hj,fun hlt g e=>keep g (.inr (oth j g hj hlt e)) ((h.ownlt g (h.ownhas j g hlt e)).2)⟩,fun j hj=>?_⟩
 ·have c1:id<NX:=c1;have c2:id'<NX:=c2;rcases cases' id with d1 | d1
  ·rw [jρ id d1] at e1;rcases cases' id' with d2 | d2
   ·rw [jρ id' d2] at e2;exact h1.dist id id' g (by rw [hn];exact hlt2 id d1) (by rw [hn];exact hlt2 id' d2) hne e1 e2
   ·rw [jρ' id' d2] at e2;exact h1.nofar id g (by rw [hn];exact hlt2 id d1) e1 (oth id' g d2 (lt0 id' c2 d2) e2)
  ·rw [jρ' id d1] at e1;rcases cases' id' with d2 | d2
   ·rw [jρ id' d2] at e2;exact h1.nofar id' g (by rw [hn];exact hlt2 id' d2) e2 (oth id g d1 (lt0 id c1 d1) e1)
   ·rw [jρ' id' d2] at e2;exact h.dist id id' g (lt0 id c1 d1) (lt0 id' c2 d2) hne e1 e2
 ·have c1:id<NX:=c1;rcases cases' id with d1 | d1
  ·rw [jρ id d1] at c2;have hg:=h1.ownhas' id g (by rw [hn];exact hlt2 id d1) c2;exact ⟨hg.1,fun hf=>hg.2 (hfar0 g hf)⟩
  ·rw [jρ' id d1] at c2;exact ⟨h1.farown g (oth id g d1 (lt0 id c1 d1) c2),h.nofar id g (lt0 id c1 d1) c2⟩
 ·exact keep b (hb.imp (fun hb=>hb) (fun hb=>hfar0 b hb)) hl
 ·have hid:id<G.nx:=hid;by_cases cn:newQ k k2 id=true
  ·have e1:(patchF G (joinF' G G1 (orQ p k k2) NX) (newQ k k2)).ρ id=(joinF' G G1 (orQ p k k2) NX).ρ id:=if_pos cn;have e2:(patchF G (joinF' G G1 (orQ p k k2) NX) (newQ k k2)).ln id=(joinF' G G1 (orQ p k k2) NX).ln id:=if_pos cn;have e3:(patchF G (joinF' G G1 (orQ p k k2) NX) (newQ k k2)).sz id=(joinF' G G1 (orQ p k k2) NX).sz id:=if_pos cn;rw [e1,e2,e3];exact ⟨Nat.le_refl _,rfl,fun _=>rfl,fun _=>rfl⟩
  ·have e1:(patchF G (joinF' G G1 (orQ p k k2) NX) (newQ k k2)).ρ id=G.ρ id:=if_neg cn;have e2:(patchF G (joinF' G G1 (orQ p k k2) NX) (newQ k k2)).ln id=G.ln id:=if_neg cn;have e3:(patchF G (joinF' G G1 (orQ p k k2) NX) (newQ k k2)).sz id=G.sz id:=if_neg cn;rw [e1,e2,e3];rcases cases' id with c | c
   ·have cp:p id=true:=(orQ_iff.1 c).resolve_right fun h=>cn (newQ_iff.2 h)
    obtain ⟨a1,a2,a3,a4⟩:=hx.gh id (hk id cp);have r0:(cutF G p k).ρ id=G.ρ id:=if_pos ⟨cp,hid⟩;have s0:(cutF G p k).sz id=G.sz id:=if_pos ⟨cp,hid⟩;have jl:(joinF' G G1 (orQ p k k2) NX).ln id=G1.ln id:=if_pos c;have js:(joinF' G G1 (orQ p k k2) NX).sz id=G1.sz id:=if_pos c;rw [s0] at a2 a4;rw [r0] at a3;have a1:G.ln id≤G1.ln id:=a1;have a3:G1.ln id=G.ln id→G1.ρ id=G.ρ id:=a3;have a4:G.sz id=0→G1.ln id=G.ln id:=a4;rw [jl,js,jρ id c];exact ⟨a1,a2,a3,a4⟩
   ·rw [jl' id c,js' id c,jρ' id c];exact ⟨Nat.le_refl _,rfl,fun _=>rfl,fun _=>rfl⟩
 ·rcases cases' j with c | c
  ·exact c
  ·exfalso
   have hb:=h1.blk j;generalize look AB.dead hp2 j=b at hb hj
   cases b with
   | dead=>exact hj rfl
   | box cs e =>
    obtain ⟨b1,b2,g,vs,b3,_⟩:=hb;rw [(h0 j (by omega) c).1] at b3;simp [undef] at b3
   | row sz rows e =>
    obtain ⟨b1,b2,b3,_⟩:=hb;rw [(h0 j (by omega) c).2] at b3;omega
theorem joinF_rel {k2 NX:Nat} (hk2:k2≤NX) (hx:Ext w (cutF G p k) w' G1) (hn:G1.nx=k2) {a:AV} {v:Value} (r:RelV w' G1 a v):RelV w' (joinF' G G1 (orQ p k k2) NX) a v :=
 liftF hn hk2 (show G.bs=G1.bs from hx.bs.symm) (fun _ c1 c2=>cutF_out hx c1 c2) r
end
def mixH (q:Nat→Bool) (hp2 hp:List (Nat×AB)):List (Nat×AB):=hp2.filter (fun e=>q e.1)++hp.filter (fun e=>!q e.1)
theorem look_fil {α:Type} {d:α} (f:Nat→Bool) (l:List (Nat×α)) (i:Nat):look d (l.filter fun e=>f e.1) i=bif f i then look d l i else d:=by
 induction l with
 | nil=>show d=_;cases f i <;> rfl
 | cons e l ih =>
  obtain ⟨j,x⟩:=e;rw [List.filter_cons];by_cases hj:f j=true
  ·rw [if_pos hj,look_cons,look_cons,ih];by_cases e:j=i
   ·subst e;rw [if_pos rfl,if_pos rfl,hj];rfl
   ·rw [if_neg e,if_neg e]
  ·rw [if_neg hj,ih,look_cons];by_cases e:j=i
   ·subst e;rw [if_pos rfl];simp only [Bool.not_eq_true] at hj;rw [hj];rfl
   ·rw [if_neg e]
theorem look_mixH (q:Nat→Bool) (hp2 hp:List (Nat×AB)) (i:Nat):look .dead (mixH q hp2 hp) i=bif q i then look .dead hp2 i else look .dead hp i:=by
 unfold mixH;rw [look_append,look_fil q,look_fil fun i=>!q i]
 cases q i <;> rfl
theorem AC.frame {P:Program} {F:FuncId} {xs:List AV} {hpL hp:List (Nat×AB)} {nx:Nat} {post:AV→List (Nat×AB)→Nat→Prop} (p:Nat→Bool) (h:AC P F xs hpL nx post) (hp1:∀ id,p id=true→id<nx)
  (hL:∀ id,look .dead hpL id=.dead∨(p id=true∧LesB (look .dead hpL id) (look .dead hp id)∧(look .dead hpL id).nmd p=true)) (hx:∀ x ∈ xs,x.nmd p=true) :
  AC P F xs hp nx (fun y hp' nx'=>∃ hp2,post y hp2 nx'∧nx≤nx'∧hp'=mixH (orQ p nx nx') hp2 hp∧∀ j,look .dead hp2 j≠.dead→orQ p nx nx' j=true):=fun w0 w G vs hHR hnx ha=>by
 subst hnx;refine (h w0 w (cutF G p G.nx) vs (cutF_hr hHR hp1 hL) rfl ⟨ha.size,fun i x v g1 g2=>(ha.rel i x v g1 g2).mv (cutF_mv hp1) (hx x (List.mem_of_getElem? g1))⟩).mono ?_
 rintro e w' ⟨v,y,hp2,nx',G1,he,hpost,hn,h1,hv,hext⟩
 have hle:G.nx≤nx':=by rw [←hn];exact hext.nx
 have ho:=joinF_out (k2:=nx') (NX:=nx') hHR hp1 hle (Nat.le_refl _) (fun id c1 c2=>orQ_iff.2 (.inr ⟨c2,c1⟩)) h1 hext hn;refine ⟨v,y,mixH (orQ p G.nx nx') hp2 hp,nx',_,he,⟨hp2,hpost,hle,rfl,ho.live⟩,rfl,⟨ho.hr.bs,ho.hr.below,ho.hr.ownlt',fun id=>?_,ho.hr.dist,ho.hr.ownhas'⟩,joinF_rel (Nat.le_refl _) hext hn hv,?_⟩
 ·rw [look_mixH]
  cases c:orQ p G.nx nx' id with
  | true=>exact ho.hr.blk id
  | false =>
   have hx2:Ext w G w' (joinF' G G1 (orQ p G.nx nx') nx'):=by
    refine ⟨ho.ext.size,ho.ext.keep',ho.ext.own2,hle,⟨rfl,rfl⟩,fun id hid=>?_⟩;have:=ho.ext.gh id hid;have cn:¬ (newQ G.nx nx' id=true):=fun h=>by have:=newQ_iff.1 h;omega
    have e1:(patchF G (joinF' G G1 (orQ p G.nx nx') nx') (newQ G.nx nx')).ρ id=G.ρ id:=if_neg cn;have e2:(patchF G (joinF' G G1 (orQ p G.nx nx') nx') (newQ G.nx nx')).ln id=G.ln id:=if_neg cn;have e3:(patchF G (joinF' G G1 (orQ p G.nx nx') nx') (newQ G.nx nx')).sz id=G.sz id:=if_neg cn;rw [e1,e2,e3] at this;exact this
   exact (hHR.blk id).step hx2 fun hid=>⟨(ho.same id c).1,(ho.same id c).2.1,(ho.same id c).2.2.2 hid⟩
 ·refine ⟨ho.ext.size,ho.ext.keep',ho.ext.own2,hle,⟨rfl,rfl⟩,fun id hid=>?_⟩;have:=ho.ext.gh id hid;have cn:¬ (newQ G.nx nx' id=true):=fun h=>by have:=newQ_iff.1 h;omega
  have e1:(patchF G (joinF' G G1 (orQ p G.nx nx') nx') (newQ G.nx nx')).ρ id=G.ρ id:=if_neg cn;have e2:(patchF G (joinF' G G1 (orQ p G.nx nx') nx') (newQ G.nx nx')).ln id=G.ln id:=if_neg cn;have e3:(patchF G (joinF' G G1 (orQ p G.nx nx') nx') (newQ G.nx nx')).sz id=G.sz id:=if_neg cn;rw [e1,e2,e3] at this;exact this
end Go.Proofs.Ytljebnobajmjnaa
/- Decompiling: contracts of functions that work on blocks of their caller: what goes in,what comes out. No program in sight. -/
namespace Go.Proofs.Ytljebnobajmjnaa
open Go Go.RowKit

structure CtrE where
 si:Sig
 so:Sig
 nb:Nat
 na:Nat
 f:Nat→(itmsTy si.items).den→Option (itmsTy so.items).den
 nm:Nat
section
variable {V W:Ty→Type}
def refsI:List Itm→List (Nat×SV V)
 | []=>[]
 | .reg ..::l=>refsI l
 | .box b _ _::l=>(b,.box b 0)::refsI l
 | .row b _ _ _ v::l=>(b,.osl b v)::refsI l
 | .arn ..::l=>refsI l
def ent (si:Sig) (nb:Nat) (e:E V (itmsTy si.items)):SSt V:=⟨refsI si.items,[],injH si.items e,[],[],nb⟩
def argsI (si:Sig) (na:Nat) (e:E V (itmsTy si.items)):List (SV V):=(List.range na).map fun i=>look .any (statR si.stat++injR si.items e) i
def baseE (si:Sig) (nb:Nat):SSt V:=⟨[],[],[],[],[refsI si.items],nb⟩
def exi (si so:Sig) (nb:Nat) (e:E V (itmsTy so.items)):SSt V:=inj (baseE si nb) so e
def itemK:List Itm→Nat→Option Bool
 | [],_=>none
 | .reg ..::l,b=>itemK l b
 | .box c _ _::l,b=>bif Nat.beq c b then some true else itemK l b
 | .row c _ _ _ _::l,b=>bif Nat.beq c b then some false else itemK l b
 | .arn ..::l,b=>itemK l b
def verI:List Itm→Nat→Nat
 | [],_=>0
 | .reg ..::l,b=>verI l b
 | .box ..::l,b=>verI l b
 | .row c _ _ _ v::l,b=>bif Nat.beq c b then v else verI l b
 | .arn ..::l,b=>verI l b
mutual
def SK.noA:SK→Bool
 | .aosl=>false
 | .agg l=>SK.noAL l
 | .tup l=>SK.noAL l
 | .fn _ l=>SK.noAL l
 | _=>true
def SK.noAL:List SK→Bool
 | []=>true
 | s::l=>SK.noA s&&SK.noAL l
end
def noArn:List Itm→Bool
 | []=>true
 | .arn ..::_=>false
 | .reg _ s::l=>s.noA&&noArn l
 | .box _ ks _::l=>SK.noAL ks&&noArn l
 | .row _ _ t _ _::l=>t.dat&&noArn l
def sigOk (si so:Sig) (nb:Nat):Bool :=
 ((noArn si.items&&noArn so.items)&&((si.stat.all fun p=>p.2.noA)&&(so.stat.all fun p=>p.2.noA)))&&(si.keep.isEmpty&&(si.keepB.isEmpty&&(so.keep.isEmpty&&(so.keepB.isEmpty&&(Nat.beq si.ex 0&&(nodupN (itemB so.items)&&(nodupN (itemB si.items) &&
 (((itemB so.items).all fun b=>Nat.blt b (nb+so.ex))&&(((itemB si.items).all fun b=>Nat.blt b nb)&&((itemB si.items).all fun b=>hasN (itemB so.items) b) &&
 ((itemB so.items).all fun b=>!Nat.blt b nb||(hasN (itemB si.items) b&&(itemK si.items b==itemK so.items b))))))))))))
mutual
def SV.ren (q:Nat→Bool) (κ:Nat→Nat) (ν:Nat→Nat→Nat):SV V→SV V
 | .box id o=>bif q id then .box (κ id) o else .any
 | .elt id v i o=>bif q id then .elt (κ id) (ν id v) i o else .any
 | .osl id v=>bif q id then .osl (κ id) (ν id v) else .any
 | .vsl id v lo hi=>bif q id then .vsl (κ id) (ν id v) lo hi else .any
 | .agg cs=>.agg (SV.renL q κ ν cs)
 | .tup cs=>.tup (SV.renL q κ ν cs)
 | .fn f cs=>.fn f (SV.renL q κ ν cs)
 | .any=>.any
 | .und=>.und
 | .int k e=>.int k e
 | .bool e=>.bool e
 | .str e=>.str e
 | .nilp=>.nilp
 | .nils=>.nils
 | .nilf=>.nilf
 | .pk fr t e o=>.pk fr t e o
 | .ro fr t e=>.ro fr t e
 | .aosl _=>.any
 | .aelt _ _=>.any
def SV.renL (q:Nat→Bool) (κ:Nat→Nat) (ν:Nat→Nat→Nat):List (SV V)→List (SV V)
 | []=>[]
 | c::l=>SV.ren q κ ν c::SV.renL q κ ν l
end
def SB.ren (q:Nat→Bool) (κ:Nat→Nat) (ν:Nat→Nat→Nat) (b:Nat):SB V→SB V
 | .dead=>.dead
 | .box cs e=>.box (SV.renL q κ ν cs) e
 | .row fr t xs e v=>.row fr t xs e (ν b v)
 | .arn ..=>.dead
def curVer (st:SSt V) (c:Nat):Nat:=match st.blk c with
 | .row _ _ _ _ v=>v
 | _=>0
def kapE (nb:Nat) (mp:List (Nat×Nat)) (nx b:Nat):Nat:=bif Nat.blt b nb then mpI mp b else nx+(b-nb)
def newVer (si so:Sig) (nb:Nat) (mp:List (Nat×Nat)) (st:SSt V) (b:Nat):Nat :=
 bif Nat.blt b nb then (bif Nat.beq (verI so.items b) (verI si.items b) then curVer st (mpI mp b) else curVer st (mpI mp b)+1) else verI so.items b
def nuE (si so:Sig) (nb:Nat) (mp:List (Nat×Nat)) (st:SSt V) (b v:Nat):Nat :=
 bif Nat.beq v (verI so.items b) then newVer si so nb mp st b else newVer si so nb mp st b+1
def renHE (si so:Sig) (nb:Nat) (mp:List (Nat×Nat)) (st:SSt V) (l:List (Nat×SB V)):List (Nat×SB V) :=
 l.map fun p=>(kapE nb mp st.nx p.1,p.2.ren (hasN (itemB so.items)) (kapE nb mp st.nx) (nuE si so nb mp st) p.1)
def outE (si so:Sig) (nb:Nat) (mp:List (Nat×Nat)) (st:SSt V) (y:E V (itmsTy so.items)):SSt V :=
 ⟨st.regs,st.kp,renHE si so nb mp st (injH so.items y)++st.heap,st.hk,st.fr,st.nx+so.ex⟩
def resE (si so:Sig) (nb:Nat) (mp:List (Nat×Nat)) (st:SSt V) (y:E V (itmsTy so.items)):SV V :=
 SV.ren (hasN (itemB so.items)) (kapE nb mp st.nx) (nuE si so nb mp st) (look .any (statR so.stat++injR so.items y) 0)
def refE (si so:Sig) (nb:Nat) (mp:List (Nat×Nat)) (st:SSt V):Bool :=
 st.refs (fun id=>Nat.blt id st.nx) (fun id v=>Nat.blt id st.nx&&!((itemB so.items).any fun b=>Nat.blt b nb&&(!Nat.beq (verI so.items b) (verI si.items b)&&(Nat.beq id (mpI mp b)&&Nat.beq v (newVer si so nb mp st b)))))
def argRS (i:Nat):List (SV V)→List (Nat×SV V)
 | []=>[]
 | x::l=>(i,x)::argRS (i+1) l
def argSt (st:SSt V) (vs:List (SV V)):SSt V:=⟨argRS 0 vs,[],st.heap++st.hk,[],[],st.nx⟩
def base0 (nb:Nat):SSt V:=⟨[],[],[],[],[],nb⟩
def mapE (si:Sig) (st:SSt V) (vs:List (SV V)):List (Nat×Nat):=mapOf (argSt st vs) si
def arrE (si so:Sig) (nb na:Nat) (st:SSt V) (vs:List (SV V)):Option (E V (itmsTy si.items)) :=
 bif (sigOk si so nb&&!(st.blk 0).isA)&&(Nat.beq na vs.length&&(refE si so nb (mapE si st vs) st&&((itemB si.items).all fun b=>Nat.blt (mpI (mapE si st vs) b) st.nx))) then arr (base0 nb) si (mapE si st vs) (argSt st vs) else none
end
def LenOk (si so:Sig) (nb:Nat) (x:(itmsTy si.items).den) (y:(itmsTy so.items).den):Prop:=∀ b ∈ itemB so.items,b<nb→itemK so.items b=some false→verI so.items b=verI si.items b →
 rowLen (exi si so nb (.var y:E D (itmsTy so.items))).blk b (verI so.items b)=rowLen (ent si nb (.var x:E D (itmsTy si.items))).blk b (verI si.items b)
def CtrEOk (P:Program) (F:Nat) (c:CtrE):Prop:=sigOk c.si c.so c.nb=true∧∀ fu x y,c.f fu x=some y→LenOk c.si c.so c.nb x y∧∀ (m:Nat→Nat) (nx:Nat),MOk m nx (ent c.si c.nb (.var x:E D (itmsTy c.si.items))) →
 AC P F (SV.encL m (ent c.si c.nb (.var x:E D (itmsTy c.si.items))).blk (argsI c.si c.na (.var x))) ((ent c.si c.nb (.var x:E D (itmsTy c.si.items))).enc m nx).heap nx
  (fun v hp' nx'=>∃ m2,MOk m2 nx' (exi c.si c.so c.nb (.var y:E D (itmsTy c.so.items)))∧hp'=((exi c.si c.so c.nb (.var y:E D (itmsTy c.so.items))).enc m2 nx').heap ∧
   v=(look SV.any (statR c.so.stat++injR c.so.items (.var y:E D (itmsTy c.so.items))) 0).enc m2 (exi c.si c.so c.nb (.var y:E D (itmsTy c.so.items))).blk ∧
   FrOk m2 (exi c.si c.so c.nb (.var y:E D (itmsTy c.so.items))).blk [refsI c.si.items] [fun d=>look .any ((ent c.si c.nb (.var x:E D (itmsTy c.si.items))).enc m nx).regs d])
end Go.Proofs.Ytljebnobajmjnaa
/- Decompiling: a row of the call's own becomes a row of the arena. No program in sight. -/
namespace Go.Proofs.Ytljebnobajmjnaa
open Go Go.RowKit

section
variable {V:Ty→Type}
mutual
def SV.ps (id ver:Nat) (e:E V .aix):SV V→SV V
 | .osl i v=>bif Nat.beq i id&&Nat.beq v ver then .aosl e else .osl i v
 | .agg cs=>.agg (SV.psL id ver e cs)
 | .tup cs=>.tup (SV.psL id ver e cs)
 | .fn f cs=>.fn f (SV.psL id ver e cs)
 | x=>x
def SV.psL (id ver:Nat) (e:E V .aix):List (SV V)→List (SV V)
 | []=>[]
 | c::l=>SV.ps id ver e c::SV.psL id ver e l
end
def SB.ps (id ver:Nat) (e:E V .aix):SB V→SB V
 | .box cs ty=>.box (SV.psL id ver e cs) ty
 | b=>b
def SSt.push (st:SSt V) (id:Nat):Option (SSt V×E V .bool):=match st.blk id with
 | .row _ t xs ty ver=>match st.blk 0 with
  | .arn t' ya ea=>match Ty.eqd t t' with
   | some ⟨h⟩=>bif hasN (st.hk.map (·.1)) id||!(t.noL&&(Nat.beq ty ea&&!Nat.beq id 0)) then none else
     some (⟨st.regs.map (fun p=>(p.1,p.2.ps id ver (.aixI (.len ya) (.len xs)))),st.kp,(0,.arn t' (.app ya (.cons (h ▸ xs) (.nil _))) ea)::(st.heap.filter fun p=>!Nat.beq p.1 id).map (fun p=>(p.1,p.2.ps id ver (.aixI (.len ya) (.len xs)))),st.hk,st.fr,st.nx⟩,
      andE (.ic .lt (.iL .i64 0) (.len xs)) (ltL (.len ya) bigA))
   | none=>none
  | _=>none
 | _=>none
end
def Gh.ps (G:Gh) (j K:Nat):Gh:=⟨fun i=>if i=K then G.ρ j else if i=j then .slice Option.none 0 0 else G.ρ i,G.own,fun i=>if i=K then G.ln j else if i=j then G.ln i+1 else G.ln i,G.sz,G.nx,G.bs,G.far⟩
section
variable {w0 w:World} {G:Gh} {hp:List (Nat×AB)} {j K:Nat}
theorem ps_ρ {i:Nat} (h:i≠K) (h':i≠j):(G.ps j K).ρ i=G.ρ i:=by show (if i=K then _ else if i=j then _ else _)=_;rw [if_neg h,if_neg h']
theorem ps_ln {i:Nat} (h:i≠K) (h':i≠j):(G.ps j K).ln i=G.ln i:=by show (if i=K then _ else if i=j then _ else _)=_;rw [if_neg h,if_neg h']
theorem ps_ρK:(G.ps j K).ρ K=G.ρ j:=if_pos rfl
theorem ps_lnK:(G.ps j K).ln K=G.ln j:=if_pos rfl
theorem ps_ρj (h:j≠K):(G.ps j K).ρ j=.slice none 0 0:=by show (if j=K then _ else if j=j then _ else _)=_;rw [if_neg h,if_pos rfl]
theorem ps_lnj (h:j≠K):(G.ps j K).ln j=G.ln j+1:=by show (if j=K then _ else if j=j then _ else _)=_;rw [if_neg h,if_pos rfl]
theorem Ext.ps (hs:0<G.sz j) (hsK:0<G.sz K) (hl:0<G.ln j) (hlK:G.ln K=0) (hne:j≠K):Ext w G w (G.ps j K):=⟨Nat.le_refl _,fun _ _ _=>rfl,fun b h=>.inl h,Nat.le_refl _,⟨rfl,rfl⟩,fun i hi=>by
 by_cases e:i=K
 ·subst e;rw [ps_lnK,ps_ρK];exact ⟨by omega,rfl,fun h=>by omega,fun h=>by omega⟩
 ·by_cases e':i=j
  ·subst e';rw [ps_lnj hne];exact ⟨by omega,rfl,fun h=>by omega,fun h=>by omega⟩
  ·rw [ps_ρ e e',ps_ln e e']
   exact ⟨Nat.le_refl _,rfl,fun _=>rfl,fun _=>rfl⟩⟩
theorem row_pushed {n:Nat} {v:Value} (hsK:0<G.sz K) (hK:K<G.nx) (hn:n=G.ln j) (hv:RelV w G (.osl j n) v):RelV w (G.ps j K) (.osl K n) v:=by
 cases hv with
 | dat h=>cases h
 | osl _ _ _ q1 q2 q3 q4 q5 =>
  exact .osl _ _ _ hK hsK (by rw [ps_lnK];omega) q4 (fun _=>by rw [ps_ρK];exact q5 hn)
end
theorem psL_get (id ver:Nat) (e:E D .aix):∀ (l:List (SV D)) (i:Nat),(SV.psL id ver e l)[i]?=(l[i]?).map (SV.ps id ver e)
 | [],i=>by rw [SV.psL];rfl
 | c::l,0=>by rw [SV.psL];rfl
 | c::l,i+1=>by rw [SV.psL];exact psL_get id ver e l i
theorem psL_length (id ver:Nat) (e:E D .aix):∀ (l:List (SV D)),(SV.psL id ver e l).length=l.length
 | []=>by rw [SV.psL]
 | c::l=>by rw [SV.psL,List.length_cons,List.length_cons,psL_length id ver e l]
section
variable {m:Nat→Nat} {id ver n K:Nat} {e:E D .aix} {w:World} {G G':Gh} {H H':Nat→SB D}
mutual
theorem ps_rel (hx:Ext w G w G') (hle:MemLe m H m H' (fun _=>true) (fun _ _=>true)) (hb:rowLen H id ver=some n) (he:aixAV e.den=.osl K n) (hps:∀ v,RelV w G (.osl (m id) n) v→RelV w G' (.osl K n) v) :
  ∀ (x:SV D) (v:Value),RelV w G (x.enc m H) v→RelV w G' ((x.ps id ver e).enc m H') v
 | .osl i v',v,r=>by
  rw [SV.ps]
  cases hc:(Nat.beq i id&&Nat.beq v' ver) with
  | true =>
   rw [Bool.and_eq_true] at hc;have e1:=Nat.eq_of_beq_eq_true hc.1;have e2:=Nat.eq_of_beq_eq_true hc.2;subst e1;subst e2
   rw [SV.enc,hb] at r;show RelV w _ (SV.enc m H' (.aosl e)) v;rw [SV.enc,he];exact hps v r
  | false=>exact (enc_les hle (.osl i v') (sv_all _)).rel (r.ext hx)
 | .agg cs,v,r=>by
  rw [SV.enc] at r;rw [SV.ps,SV.enc];obtain ⟨us,rfl,hsz,hr⟩:=r.agg';rw [encL_map,List.length_map] at hsz;refine .agg _ _ (by rw [encL_map,List.length_map,psL_length,hsz]) fun i a u ha hu=>?_
  exact psL_rel hx hle hb he hps cs us hr i a u ha hu
 | .tup cs,v,r=>by
  rw [SV.enc] at r;rw [SV.ps,SV.enc];obtain ⟨us,rfl,hsz,hr⟩:=r.tup';rw [encL_map,List.length_map] at hsz;refine .tup _ _ (by rw [encL_map,List.length_map,psL_length,hsz]) fun i a u ha hu=>?_
  exact psL_rel hx hle hb he hps cs us hr i a u ha hu
 | .fn f cs,v,r=>by
  rw [SV.enc] at r;rw [SV.ps,SV.enc];obtain ⟨us,rfl,hsz,hr⟩:=r.fn';rw [encL_map,List.length_map] at hsz;refine .fn _ _ _ _ rfl (by rw [encL_map,List.length_map,psL_length,hsz]) fun i a u ha hu=>?_
  exact psL_rel hx hle hb he hps cs us hr i a u ha hu
 | .any,v,r=>by rw [SV.ps];exact (enc_les hle _ (sv_all _)).rel (r.ext hx);all_goals simp
 | .und,v,r=>by rw [SV.ps];exact (enc_les hle _ (sv_all _)).rel (r.ext hx);all_goals simp
 | .int ..,v,r=>by rw [SV.ps];exact (enc_les hle _ (sv_all _)).rel (r.ext hx);all_goals simp
 | .bool ..,v,r=>by rw [SV.ps];exact (enc_les hle _ (sv_all _)).rel (r.ext hx);all_goals simp
 | .str ..,v,r=>by rw [SV.ps];exact (enc_les hle _ (sv_all _)).rel (r.ext hx);all_goals simp
 | .nilp,v,r=>by rw [SV.ps];exact (enc_les hle _ (sv_all _)).rel (r.ext hx);all_goals simp
 | .nils,v,r=>by rw [SV.ps];exact (enc_les hle _ (sv_all _)).rel (r.ext hx);all_goals simp
 | .nilf,v,r=>by rw [SV.ps];exact (enc_les hle _ (sv_all _)).rel (r.ext hx);all_goals simp
 | .pk ..,v,r=>by rw [SV.ps];exact (enc_les hle _ (sv_all _)).rel (r.ext hx);all_goals simp
 | .ro ..,v,r=>by rw [SV.ps];exact (enc_les hle _ (sv_all _)).rel (r.ext hx);all_goals simp
 | .aosl ..,v,r=>by rw [SV.ps];exact (enc_les hle _ (sv_all _)).rel (r.ext hx);all_goals simp
 | .aelt ..,v,r=>by rw [SV.ps];exact (enc_les hle _ (sv_all _)).rel (r.ext hx);all_goals simp
 | .box ..,v,r=>by rw [SV.ps];exact (enc_les hle _ (sv_all _)).rel (r.ext hx);all_goals simp
 | .vsl ..,v,r=>by rw [SV.ps];exact (enc_les hle _ (sv_all _)).rel (r.ext hx);all_goals simp
 | .elt ..,v,r=>by rw [SV.ps];exact (enc_les hle _ (sv_all _)).rel (r.ext hx);all_goals simp
theorem psL_rel (hx:Ext w G w G') (hle:MemLe m H m H' (fun _=>true) (fun _ _=>true)) (hb:rowLen H id ver=some n) (he:aixAV e.den=.osl K n) (hps:∀ v,RelV w G (.osl (m id) n) v→RelV w G' (.osl K n) v) :
  ∀ (cs:List (SV D)) (us:Array Value),(∀ (i:Nat) (a:AV) (u:Value),(SV.encL m H cs)[i]?=some a→us[i]?=some u→RelV w G a u)→∀ (i:Nat) (a:AV) (u:Value),(SV.encL m H' (SV.psL id ver e cs))[i]?=some a→us[i]?=some u→RelV w G' a u
 | [],us,hr,i,a,u,ha,hu=>by rw [SV.psL,SV.encL] at ha;simp at ha
 | c::l,us,hr,0,a,u,ha,hu=>by
  rw [SV.psL,SV.encL] at ha;simp only [List.getElem?_cons_zero,Option.some.injEq] at ha;subst ha;exact ps_rel hx hle hb he hps c u (hr 0 _ u (by rw [SV.encL];rfl) hu)
 | c::l,us,hr,i+1,a,u,ha,hu=>by
  rw [SV.psL,SV.encL] at ha
  have:=psL_rel hx hle hb he hps l (us.extract 1 us.size) (fun j b y hb' hy=>hr (j+1) b y (by rw [SV.encL];exact hb') (by
   rw [Array.getElem?_extract] at hy;split at hy
   ·rw [Nat.add_comm];exact hy
   ·cases hy)) i a u (by simpa using ha) (by
   rw [Array.getElem?_extract];have hi:i+1<us.size:=(Array.getElem?_eq_some_iff.1 hu).1
   rw [if_pos (by omega),Nat.add_comm];exact hu)
  exact this
end
end
section
variable {F:List (Nat→AV)} {st st':SSt D} {s:ASt} {m:Nat→Nat} {nx id:Nat} {gd:E D .bool}
theorem getD_snoc {α:Type} (l:List α) (x d:α) (i:Nat):(l++[x]).getD i d=if i=l.length then x else l.getD i d:=by
 rw [List.getD_eq_getElem?_getD,List.getD_eq_getElem?_getD];by_cases h:i<l.length
 ·rw [List.getElem?_append_left h,if_neg (by omega)]
 ·by_cases e:i=l.length
  ·subst e;rw [if_pos rfl,List.getElem?_append_right (Nat.le_refl _)];simp
  ·rw [if_neg e,List.getElem?_eq_none (by rw [List.length_append,List.length_singleton];omega),List.getElem?_eq_none (by omega)]
theorem push_ok (hm:MOk m nx st) (hf:FrOk m st.blk st.fr F) (h:st.push id=some (st',gd)) (hg:gd.den=true):StL F st' (st.enc m nx)∧Fix st st':=by
 unfold SSt.push at h;split at h
 ·rename_i fr t xs ty ver hb;split at h
  ·rename_i t' ya ea ha;split at h
   ·rename_i ht _;subst ht
    cases hc:(hasN (st.hk.map (·.1)) id||!(t.noL&&(Nat.beq ty ea&&!Nat.beq id 0))) with
    | true=>rw [hc] at h;cases h
    | false =>
     rw [hc] at h;simp only [cond_false,Option.some.injEq,Prod.mk.injEq] at h;obtain ⟨hst,rfl⟩:=h;rw [Bool.or_eq_false_iff] at hc;obtain ⟨hk,hc⟩:=hc;have hc:(t.noL&&(Nat.beq ty ea&&!Nat.beq id 0))=true:=by simpa using hc
     simp only [Bool.and_eq_true] at hc;obtain ⟨hnoL,hty,hid0⟩:=hc;have hty:=Nat.eq_of_beq_eq_true hty;subst hty;have hid0:id≠0:=fun e=>by subst e;cases hid0
     obtain ⟨hg1,hg2⟩:=andE_b hg
     have hpos:0<List.length xs.den:=by
      have:(0:Int)<(List.length xs.den:Int):=of_decide_eq_true hg1;omega
     have hbigy:List.length ya.den<bigA:=by
      have h9:=ltL_den hg2;generalize bigA=B at h9 ⊢;have h9:(List.length ya.den:Int)<(B:Int):=h9;omega
     have hA:(st.blk 0).isA=true:=by rw [ha];rfl
     have hm0:=hm.ar hA
     let K:=List.length ya.den
     have hKm:K<m 0:=Nat.lt_of_lt_of_le hbigy hm0.1
     let e:E D .aix:=.aixI (.len ya) (.len xs)
     have he:aixAV e.den=.osl K (List.length xs.den):=by
      show aixAV ((List.length ya.den:Int),(List.length xs.den:Int))=_;unfold aixAV;simp only;rw [decide_eq_true (show (0:Int)≤(List.length ya.den:Int) from Int.natCast_nonneg _),decide_eq_true (Int.ofNat_lt.2 hbigy),Int.toNat_natCast,Int.toNat_natCast];rfl
     have hlive:st.blk id≠.dead:=by rw [hb];simp
     have h0live:st.blk 0≠.dead:=by rw [ha];simp

     have hbk:∀ k,(k=0∧st'.blk k=.arn t (.app ya (.cons xs (.nil _))) ty)∨(k=id∧st'.blk k=.dead)∨(k≠id∧k≠0∧(st'.blk k=(st.blk k).ps id ver e∨st'.blk k=st.blk k)):=by
      intro k;subst hst;by_cases e0:k=0
      ·refine .inl ⟨e0,?_⟩;subst e0;show look (look .dead st.hk 0) ((0,_)::_) 0=_;rw [look_self]
      ·by_cases e1:k=id
       ·refine .inr (.inl ⟨e1,?_⟩);subst e1;show look (look SB.dead st.hk k) ((0,SB.arn t (.app ya (.cons xs (.nil _))) ty)::((st.heap.filter fun p=>!Nat.beq p.1 k).map fun p:Nat×SB D=>(p.1,SB.ps k ver e p.2))) k=_;rw [look_cons,if_neg (Ne.symm e0),look_fid];refine look_none fun h=>?_
        rw [hasN_of h] at hk;cases hk
       ·refine .inr (.inr ⟨e1,e0,?_⟩);show look (look SB.dead st.hk k) ((0,SB.arn t (.app ya (.cons xs (.nil _))) ty)::((st.heap.filter fun p=>!Nat.beq p.1 id).map fun p:Nat×SB D=>(p.1,SB.ps id ver e p.2))) k=SB.ps id ver e (look (look SB.dead st.hk k) st.heap k)∨look (look SB.dead st.hk k) ((0,SB.arn t (.app ya (.cons xs (.nil _))) ty)::((st.heap.filter fun p=>!Nat.beq p.1 id).map fun p:Nat×SB D=>(p.1,SB.ps id ver e p.2))) k=look (look SB.dead st.hk k) st.heap k;rw [look_cons,if_neg (Ne.symm e0)];rcases look_fm (look SB.dead st.hk k) (SB.ps id ver e) e1 st.heap with h | ⟨h1,h2⟩
        ·exact .inl h
        ·exact .inr (h1.trans h2.symm)
     have hb0':st'.blk 0=.arn t (.app ya (.cons xs (.nil _))) ty:=by
      rcases hbk 0 with ⟨_,h⟩ | ⟨h,_⟩ | ⟨_,h,_⟩
      ·exact h
      ·exact absurd h.symm hid0
      ·exact absurd rfl h
     have hA':(st'.blk 0).isA=true:=by rw [hb0'];rfl
     have hlv:∀ k,st'.blk k≠.dead→st.blk k≠.dead∧k≠id:=by
      intro k h;rcases hbk k with ⟨h1,h2⟩ | ⟨_,h2⟩ | ⟨h1,_,h2 | h2⟩
      ·subst h1;exact ⟨h0live,Ne.symm hid0⟩
      ·exact absurd h2 h
      ·refine ⟨fun h3=>h ?_,h1⟩;rw [h2,h3];rfl
      ·exact ⟨by rw [←h2];exact h,h1⟩
     have hnx':st'.nx=st.nx:=by rw [←hst]
     have hfr':st'.fr=st.fr:=by rw [←hst]
     have hm':MOk m nx st':=by
      refine ⟨fun k h=>hm.lt k (hlv k h).1,fun k k' h h'=>hm.inj k k' (hlv k h).1 (hlv k' h').1,fun p hp=>?_,fun _=>hm.ar' hA,hm.ge.1,fun k hk=>hm.ge.2 k (hlv k hk).1⟩;rw [hnx'];rw [←hst] at hp;have hp:p ∈ ((0,SB.arn t (.app ya (.cons xs (.nil _))) ty)::(st.heap.filter fun p=>!Nat.beq p.1 id).map (fun p=>(p.1,p.2.ps id ver e)))++st.hk:=hp;rcases List.mem_append.1 hp with hp | hp
      ·rcases List.mem_cons.1 hp with rfl | hp
       ·exact ⟨hm.live h0live,by simp⟩
       ·obtain ⟨q,hq,rfl⟩:=List.mem_map.1 hp;have:=hm.keys q (List.mem_append_left _ (List.mem_filter.1 hq).1);refine ⟨this.1,?_⟩;have h2:=this.2;show SB.ps id ver e q.2≠.dead
        cases hq2:q.2 with
        | dead=>exact absurd hq2 h2
        | box=>rw [SB.ps];simp
        | row=>rw [SB.ps];all_goals simp
        | arn=>rw [SB.ps];all_goals simp
      ·exact hm.keys p (List.mem_append_right _ hp)
     have hle:MemLe m st.blk m st'.blk (fun _=>true) (fun _ _=>true):=by
      refine ⟨fun k _=>.inr ⟨?_,rfl⟩,fun k v _=>?_⟩
      ·unfold isBox;rcases hbk k with ⟨h1,h2⟩ | ⟨h1,h2⟩ | ⟨_,_,h2 | h2⟩
       ·subst h1;rw [h2,ha]
       ·rw [h2,h1,hb]
       ·rw [h2];cases st.blk k <;> rfl
       ·rw [h2]
      ·unfold rowLen;rcases hbk k with ⟨h1,h2⟩ | ⟨h1,h2⟩ | ⟨_,_,h2 | h2⟩
       ·subst h1;rw [h2];exact .inl rfl
       ·rw [h2];exact .inl rfl
       ·refine .inr ⟨?_,rfl⟩;rw [h2]
        cases st.blk k <;> rfl
       ·rw [h2];exact .inr ⟨rfl,rfl⟩
     have hbb:=enc_blk hm hlive;rw [hb,SB.enc] at hbb;have hmK:m id≠K:=fun e1=>by have:=hm0.2 id hlive;omega
     refine ⟨⟨m,nx,hm',⟨fun {KK n a w} ⟨G,r⟩=>?_⟩,?_⟩,by rw [←hst];exact ⟨rfl,rfl,rfl⟩⟩
     ·have hkb:=r.hr.blk (m id);rw [hbb] at hkb;have hkb0:=hkb;obtain ⟨k1,k2,k3,k4,flat,k5,k6,k7⟩:=hkb;have hln:G.ln (m id)=List.length xs.den:=by rw [k4,List.length_map]

      have hK0:=r.hr.blk K;rw [enc_look hm,hA,Bool.true_and,show Nat.blt K (m 0)=true by rw [Nat.blt_eq];exact hKm,cond_true,rows_look,ha] at hK0;have hK0:ABok KK.w0 w G K (if K<m 0 then arnRow t ty ya.den K else .dead):=hK0;rw [if_pos hKm] at hK0;obtain ⟨j1,j2,j3,j4,flatK,j5,_,_⟩:=hK0
      have hlnK:G.ln K=0:=by
       rw [j4,List.getD_eq_getElem?_getD,List.getElem?_eq_none (Nat.le_refl _)];rfl
      have hs:0<G.sz (m id):=by rw [k3];exact k2
      have hsK:0<G.sz K:=by rw [j3];exact j2
      have hx:Ext w G w (G.ps (m id) K):=Ext.ps hs hsK (by omega) hlnK hmK;have hrl:rowLen st.blk id ver=some (List.length xs.den):=rowLen_eq hb (Nat.beq_refl _);have hps:∀ v,RelV w G (.osl (m id) (List.length xs.den)) v→RelV w (G.ps (m id) K) (.osl K (List.length xs.den)) v:=fun v hv=>row_pushed hsK j1 hln.symm hv
      refine ⟨G.ps (m id) K,r.nx,⟨r.hr.bs,r.hr.below,r.hr.ownlt',fun k=>?_,fun i i' g h1 h2 hne hgg=>?_,fun i g h1 hgg=>?_⟩,r.ext.trans hx,r.size,r.defers,fun d=>?_⟩
      ·rcases heap_cases hm' k with h | ⟨b,hbl,rfl⟩ | ⟨_,h2,h3⟩
       ·rw [h];trivial
       ·obtain ⟨hl1,hl2⟩:=hlv b hbl;have hmne:m b≠m id:=fun e1=>hl2 (hm.inj b id hl1 hlive e1)
        have hmK':m b≠K:=fun e1=>by have:=hm0.2 b hl1;omega
        have o:=r.hr.blk (m b);rw [enc_blk hm hl1] at o;rw [enc_blk hm' hbl];have hstep:ABok KK.w0 w (G.ps (m id) K) (m b) ((st.blk b).enc m st.blk):=o.step hx (fun _=>⟨ps_ρ hmK' hmne,ps_ln hmK' hmne,fun _ _=>rfl⟩)
        have hsame:ABok KK.w0 w (G.ps (m id) K) (m b) ((st.blk b).enc m st'.blk):=by
         refine (encB_les hle (st.blk b) ?_).ok hstep
         cases st.blk b with
         | dead=>rfl
         | box cs e=>exact svL_all cs
         | row=>rfl
         | arn=>rfl
        rcases hbk b with ⟨h1,h2⟩ | ⟨h1,_⟩ | ⟨_,_,h2 | h2⟩
        ·rw [h2,SB.enc];trivial
        ·exact absurd h1 hl2
        ·rw [h2]
         cases hbx:st.blk b with
         | dead=>exact absurd hbx hl1
         | row=>rw [hbx] at hsame;exact hsame
         | arn=>rw [SB.ps];trivial;all_goals simp
         | box cs e' =>
          rw [hbx,SB.enc] at o;obtain ⟨o1,o2,g,vs,o3,o4,o5,o6⟩:=o;rw [SB.ps,SB.enc];rw [encL_map,List.length_map] at o5;refine ⟨o1,o2,g,vs,by rw [ps_ρ hmK' hmne];exact o3,o4,by rw [encL_map,List.length_map,psL_length];exact o5,fun i y hi=>?_⟩
          have hil:i<cs.length:=by
           have:=(List.getElem?_eq_some_iff.1 hi).1;rw [encL_map,List.length_map,psL_length] at this;exact this
          have hci:(SV.encL m st.blk cs)[i]?=some (SV.enc m st.blk cs[i]):=by
           rw [encL_map,List.getElem?_map,List.getElem?_eq_getElem hil];rfl
          obtain ⟨v,p1,p2,p3⟩:=o6 i _ hci;refine ⟨v,p1,p2,?_⟩;rw [encL_map,List.getElem?_map,psL_get,List.getElem?_eq_getElem hil] at hi;have hi:SV.enc m st'.blk (SV.ps id ver e cs[i])=y:=by injection hi
          rw [←hi];exact ps_rel hx hle hrl he hps _ v p3
        ·rw [h2];exact hsame
       ·
        rw [h3,hb0',rows_look];show ABok KK.w0 w (G.ps (m id) K) k (if k<m 0 then arnRow t ty _ k else .dead);rw [if_pos h2];have hden:((E.app ya (.cons xs (.nil _))).den:List (List t.den))=(ya.den:List (List t.den))++[(xs.den:List t.den)]:=rfl;unfold arnRow;rw [hden,getD_snoc];by_cases e1:k=K
        ·rw [if_pos e1,e1];rw [←rows_noL fr false t xs.den hnoL];refine ⟨j1,k2,by show G.sz K=t.size;rw [j3],by rw [ps_lnK];exact k4,flat,by rw [ps_ρK];exact k5,k6,fun i row hi=>?_⟩;obtain ⟨g1,g2⟩:=k7 i row hi;refine ⟨g1,fun j a hj=>?_⟩;obtain ⟨v,g3,g4⟩:=g2 j a hj;exact ⟨v,g3,g4.ext hx⟩
        ·rw [if_neg e1];have o:=r.hr.blk k;rw [enc_look hm,hA,show Nat.blt k (m 0)=true by rw [Nat.blt_eq];exact h2,Bool.true_and,cond_true,rows_look,ha] at o;have o:ABok KK.w0 w G k (if k<m 0 then arnRow t ty ya.den k else .dead):=o;rw [if_pos h2] at o;have hkne:k≠m id:=fun e2=>by have:=hm0.2 id hlive;omega
         exact o.step hx (fun _=>⟨ps_ρ e1 hkne,ps_ln e1 hkne,fun _ _=>rfl⟩)
      ·by_cases e1:i=K
       ·subst e1;rw [ps_ρK] at hgg;by_cases e2:i'=m id
        ·rw [e2,ps_ρj hmK];simp [ownBlk]
        ·rw [ps_ρ (Ne.symm hne) e2];exact r.hr.dist (m id) i' g k1 h2 (Ne.symm e2) hgg
       ·by_cases e2:i=m id
        ·subst e2;rw [ps_ρj hmK] at hgg;simp [ownBlk] at hgg
        ·rw [ps_ρ e1 e2] at hgg;by_cases e3:i'=K
         ·rw [e3,ps_ρK];exact r.hr.dist i (m id) g h1 k1 e2 hgg
         ·by_cases e4:i'=m id
          ·rw [e4,ps_ρj hmK];simp [ownBlk]
          ·rw [ps_ρ e3 e4];exact r.hr.dist i i' g h1 h2 hne hgg
      ·by_cases e1:i=K
       ·subst e1;rw [ps_ρK] at hgg;exact r.hr.ownhas' (m id) g k1 hgg
       ·by_cases e2:i=m id
        ·subst e2;rw [ps_ρj hmK] at hgg;simp [ownBlk] at hgg
        ·rw [ps_ρ e1 e2] at hgg;exact r.hr.ownhas' i g h1 hgg
      ·rw [enc_get];have ho:=r.regs d;rw [enc_get] at ho
       have hget:st'.get d=(st.get d).ps id ver e∨st'.get d=st.get d:=by
        rw [←hst];exact look_mp (look .any st.kp d) (SV.ps id ver e) d st.regs
       rcases hget with h | h
       ·rw [h];exact ps_rel hx hle hrl he hps _ _ ho
       ·rw [h];exact (enc_les hle _ (sv_all _)).rel (ho.ext hx)
     ·rw [hfr'];exact hf.les' hle (refsF_all sv_all _)
   ·cases h
  ·cases h
 ·cases h
end
end Go.Proofs.Ytljebnobajmjnaa
/- Decompiling: the machine over terms: operations in the order of the text,control,calls. No program in sight. -/
namespace Go.Proofs.Ytljebnobajmjnaa
open Go Go.RowKit

inductive An where
 | z
 | n (sg:Option Sig) (l r:An)
 | ops (l:List (Nat×An))
 | dr (w:List (Nat×Nat)) (l:List (Nat×An))
def An.l:An→An
 | .n _ l _=>l
 | _=>.z
def An.r:An→An
 | .n _ _ r=>r
 | _=>.z
def An.sg:An→Option Sig
 | .n sg _ _=>sg
 | _=>none
def An.op:An→Nat→An
 | .ops l,i=>match lk l i with
  | some a=>a
  | none=>.z
 | .dr _ l,i=>match lk l i with
  | some a=>a
  | none=>.z
 | _,_=>.z
def An.ws:An→List (Nat×Nat)
 | .dr w _=>w
 | _=>[]
structure Ctr where
 a:Ty
 r:Ty
 f:Nat→a.den→Option r.den
 nm:Nat
structure DC where
 T:Tab
 fns:List (Nat×Func)
 cas:List (Nat×Nat)
 ctrs:List (Nat×Ctr)
 effs:List (Nat×CtrE)
def CtrOk (P:Program) (F:Nat) (c:Ctr):Prop:=∀ fu x y,c.f fu x=some y→AF P F (c.a.avs false x) (oneOf (c.r.avs true y))
structure DC.ok (P:Program) (C:DC):Prop where
 T:C.T.ok P
 fns:allP (fun k f=>P.funcs[k]?=some f) C.fns
 cas:allP (fun k _=>callable P k=true) C.cas
 mixed:P.follows .mixedOrders=true
 ctrs:allP (CtrOk P) C.ctrs
 effs:allP (CtrEOk P) C.effs
section
variable {V W:Ty→Type} {ρ:Ty}
inductive Wt (V:Ty→Type) where
 | yes
 | no
 | ask (c:E V .bool) (d:Nat) (want:Bool)
 | bad
def wantV (want:Bool) (d:Nat):SV V→Wt V
 | .bool (.bL true)=>bif want then .yes else .no
 | .bool (.bL false)=>bif want then .no else .yes
 | .bool c=>.ask c d want
 | .und=>.no
 | _=>.bad
def wantS (ops:Array Oper) (o:Oper) (st:SSt V):Wt V:=match o.guard with
 | none=>.yes
 | some _=>match gdst ops o with
  | none=>.bad
  | some (d,want)=>wantV want d (st.get d)
def lets:Op→Bool
 | .assign _=>true
 | .indexAddr ..=>true
 | _=>false
abbrev SelfG (V W:Ty→Type) (ρ:Ty):=An→FuncId→List (SV V)→SSt V→(SV V→SSt V→G V W ρ)→G V W ρ
def arrG (base:SSt V) (sg:Sig) (j:W (itmsTy sg.items)) (st:SSt V):G V W ρ:=match arr base sg (mapOf (matF sg st) sg) (matF sg st) with
 | some e=>.jump j e
 | none=>.fail
def frzG:List Nat→SSt V→(SSt V→G V W ρ)→G V W ρ
 | [],st,K=>K st
 | id::l,st,K=>match st.blk id with
  | .row fr t xs e ver=>bif hasN (st.hk.map (·.1)) id||xs.atomic then frzG l (st.frz id) K else .lt xs fun v=>frzG l ((st.hset id (.row fr t (.var v) e ver)).frz id) K
  | _=>frzG l st K
def letA (st:SSt V) (K:SSt V→G V W ρ):G V W ρ:=match st.blk 0 with
 | .arn t xs e=>bif xs.atomic then K st else .lt xs fun v=>K (st.hset 0 (.arn t (.var v) e))
 | _=>K st
def pushG:List Nat→SSt V→(SSt V→G V W ρ)→G V W ρ
 | [],st,K=>K st
 | id::l,st,K=>match st.push id with
  | some (st',g)=>grdG g (letA st' fun st'=>pushG l st' K)
  | none=>pushG l st K
def isArow (st:SSt V):SV V→Bool
 | .elt id _ _ _=>match st.blk id with
  | .row _ t _ _ _=>!t.dat
  | _=>false
 | _=>false
def needP (st:SSt V):Op→List Nat
 | .store _ a v=>bif isArow st (st.ev a) then (st.ev v).osls else []
 | _=>[]
def needT (st:SSt V):Op→List Nat
 | .buildSlice _ _ parts=>SV.oslsL (parts.toList.map fun p=>st.ev p.2)
 | _=>[]
mutual
def fzK:SK→SV V→List Nat
 | .ro _ _,.osl id _=>[id]
 | .agg l,.agg cs=>fzKL l cs
 | .fn _ l,.fn _ cs=>fzKL l cs
 | _,_=>[]
def fzKL:List SK→List (SV V)→List Nat
 | s::l,c::cs=>fzK s c++fzKL l cs
 | _,_=>[]
end
def needE:List Itm→List (SV V)→List Nat
 | .reg d s::l,vs=>fzK s (vs.getD d .any)++needE l vs
 | _::l,vs=>needE l vs
 | [],_=>[]
def capsS:SV V→List (SV V)
 | .fn _ caps=>caps
 | _=>[]
def effG (F:FuncId) (ce:CtrE) (st:SSt V) (cal:Operand) (args:List Operand) (d:Option Nat) (K:SSt V→G V W ρ):G V W ρ :=
 frzG (needE ce.si.items (evS st args++capsS (st.ev cal))) st fun st=>match st.ev cal with
  | .fn F' caps=>bif Nat.beq F' F then (match arrE ce.si ce.so ce.nb ce.na st (evS st args++caps) with
   | some e=>.call ce.f ce.nm e fun y=>K ((outE ce.si ce.so ce.nb (mapE ce.si st (evS st args++caps)) st (.var y)).put d (resE ce.si ce.so ce.nb (mapE ce.si st (evS st args++caps)) st (.var y)))
   | none=>.fail) else .fail
  | _=>.fail
def callG (C:DC) (self:SelfG V W ρ) (an:An) (st:SSt V) (d:Option Nat) (K:SSt V→G V W ρ):Op→G V W ρ
 | .call ⟨.value cal,args,_⟩=>match st.ev cal with
  | .fn F caps=>match lk C.cas F with
   | some _=>match lk C.ctrs F with
    | some c=>match exArgs st c.a (evS st args.toList++caps) with
     | some e=>.call c.f c.nm e fun y=>K (st.put d (oneOfS (svsE true c.r (.var y))))
     | none=>.fail
    | none=>match lk C.effs F with
     | some ce=>effG F ce st cal args.toList d K
     | none=>match an.sg with
     | none=>self an.l F (evS st args.toList++caps) st fun y st'=>K (st'.put d y)
     | some sg=>bif layOk st sg then .join (fun x=>K (unlay st (inj st sg (.var x)) sg)) (fun j=>self an.l F (evS st args.toList++caps) (lay st sg) fun y st'=>arrG st sg j (st'.put d y)) else .fail
   | none=>.fail
  | _=>.fail
 | _=>.fail
def An.tr:An→Bool
 | .dr _ _=>true
 | _=>false
def An.sp:An→Bool
 | .ops ((999998,_)::_)=>true
 | _=>false
def stepG0 (C:DC) (self:SelfG V W ρ) (an:An) (st:SSt V) (o:Oper) (K:SSt V→G V W ρ):G V W ρ:=bif an.tr then pushG (needT st o.op) st (fun st=>match truncS C.T st o.op with
 | some (r,g)=>match memSt st o.dst r with
  | some st'=>grdG g (K st')
  | none=>.fail
 | none=>.fail) else match rd C.T st o.op with
 | some (x,g)=>grdG g (bif lets o.op then letV x fun x=>K (st.put o.dst x) else K (st.put o.dst x))
 | none=>pushG (needP st o.op) st fun st=>frzG (needF st o.op) st fun st=>match mem C.T st o.dst o.op with
  | some (r,g)=>match memSt st o.dst r with
   | some st'=>grdG g (letA st' K)
   | none=>.fail
  | none=>callG C self an st o.dst K o.op
def appR':Op→Option Nat
 | .call ⟨.builtin .append,⟨.tmp d::_⟩,_⟩=>some d
 | _=>none
def stepG (C:DC) (self:SelfG V W ρ) (an:An) (st:SSt V) (o:Oper) (K:SSt V→G V W ρ):G V W ρ:=bif an.sp then (match appR' o.op with
 | some d=>match st.get d with
  | .aosl e=>iteG (.bb .and (.ic .le (.iL .i64 0) e.aixK') (.ic .lt e.aixK' (.iL .i64 (bigA:Nat)))) (stepG0 C self an st o K) (stepG0 C self an (st.put (some d) .nils) o K)
  | _=>.fail
 | none=>.fail) else stepG0 C self an st o K
def sL (C:DC) (self:SelfG V W ρ) (n:Nat) (ops:Array Oper) (an:An):Nat→List Oper→SSt V→(SSt V→G V W ρ)→G V W ρ
 | _,[],st,K=>K st
 | i,o::l,st,K=>bif dok o.dst n then (match wantS ops o st with
  | .yes=>stepG C self (an.op i) st o fun st'=>sL C self n ops an (i+1) l st' K
  | .no=>sL C self n ops an (i+1) l (st.put o.dst .und) K
  | .ask c d want=>.ite c
    (bif want then stepG C self (an.op i) (st.put (some d) (.bool (.bL true))) o fun st'=>sL C self n ops an (i+1) l st' K else sL C self n ops an (i+1) l ((st.put (some d) (.bool (.bL true))).put o.dst .und) K)
    (bif want then sL C self n ops an (i+1) l ((st.put (some d) (.bool (.bL false))).put o.dst .und) K else stepG C self (an.op i) (st.put (some d) (.bool (.bL false))) o fun st'=>sL C self n ops an (i+1) l st' K)
  | .bad=>.fail) else .fail
def sC (C:DC) (self:SelfG V W ρ) (sD:An→Nat→List Oper→SSt V→(SSt V→G V W ρ)→G V W ρ) (n:Nat):Code→An→SSt V→(Exit→SSt V→G V W ρ)→G V W ρ
 | .skip,_,st,K=>K .normal st
 | .label _,_,st,K=>K .normal st
 | .exit id,_,st,K=>K (.exit id) st
 | .ret,_,st,K=>K .ret st
 | .seq a b,an,st,K=>match an.sg with
  | none=>sC C self sD n a an.l st fun e st'=>match e with
   | .normal=>sC C self sD n b an.r st' K
   | e=>K e st'
  | some sg=>bif layOk st sg then .join (fun x=>sC C self sD n b an.r (inj st sg (.var x)) fun e st'=>K e (unlay st st' sg))
    (fun j=>sC C self sD n a an.l (lay st sg) fun e st'=>match e with
     | .normal=>arrG st sg j st'
     | e=>K e (unlay st st' sg)) else .fail
 | .cond c a b,an,st,K=>match st.ev c with
  | .bool e=>iteG e (sC C self sD n a an.l st K) (sC C self sD n b an.r st K)
  | _=>.fail
 | .block id c,an,st,K=>sC C self sD n c an.l st fun e st'=>match e with
  | .exit id'=>bif Nat.beq id' id then K .normal st' else K (.exit id') st'
  | e=>K e st'
 | .loop c,an,st,K=>match an.sg with
  | none=>.fail
  | some sg=>bif layOk st sg then (match arr st sg (mapOf (matF sg (lay st sg)) sg) (matF sg (lay st sg)) with
   | some e0=>.loop (fun j x=>sC C self sD n c an.l (inj st sg (.var x)) fun e st'=>match e with
    | .normal=>arrG st sg j st'
    | e=>K e (unlay st st' sg)) e0
   | none=>.fail) else .fail
 | .region _ ⟨l⟩ false,an,st,K=>sL C self n ⟨l⟩ an 0 l st (K .normal)
 | .region _ ⟨l⟩ true,an,st,K=>sD an n l st (K .normal)
 | .scope c,an,st,K=>sC C self sD n c an.l st fun e st'=>match e with
  | .goto _=>.fail
  | e=>K e st'
 | .rangeFunc ..,_,_,_=>.fail
 | .goto _,_,_,_=>.fail
 | .refuse _,_,_,_=>.fail
def resS1 (T:Tab) (st:SSt V) (t ty:Nat):Option (SV V):=match st.get t,lk T.und ty,lk T.inf ty with
 | .box id 0,some D,some (_,s,_)=>match st.blk id with
  | .box cs _=>partS cs 0 s (aggB D)
  | _=>none
 | .elt id ver i o,_,_=>(loadA T st ty (.elt id ver i o)).map (·.1)
 | _,_,_=>none
def resS (T:Tab) (st:SSt V):List ResultVar→Option (List (SV V))
 | []=>some []
 | .tmp t::l=>match resS T st l with
  | some xs=>some (st.get t::xs)
  | none=>none
 | .cell t ty::l=>match resS1 T st t ty,resS T st l with
  | some x,some xs=>some (x::xs)
  | _,_=>none
def resGd (T:Tab) (st:SSt V):List ResultVar→List (E V .bool)
 | []=>[]
 | .tmp _::l=>resGd T st l
 | .cell t ty::l=>match st.get t with
  | .elt id ver i o=>match loadA T st ty (.elt id ver i o) with
   | some (_,g)=>g::resGd T st l
   | none=>resGd T st l
  | _=>resGd T st l
def grdL:List (E V .bool)→G V W ρ→G V W ρ
 | [],k=>k
 | g::l,k=>.grd g (grdL l k)
def outS (T:Tab) (rs:List ResultVar) (st:SSt V) (K:List (SV V)→SSt V→G V W ρ) (e:Exit) (st':SSt V):G V W ρ:=match e with
 | .ret=>match resS T st' rs with
  | some ys=>grdL (resGd T st' rs) (K ys ⟨st.regs,st.kp,st'.heap,st.hk,st.fr,st'.nx⟩)
  | none=>.fail
 | .normal=>match resS T st' rs with
  | some ys=>grdL (resGd T st' rs) (K ys ⟨st.regs,st.kp,st'.heap,st.hk,st.fr,st'.nx⟩)
  | none=>.fail
 | _=>.fail
def calleeS (st:SSt V) (xs:List (SV V)):SSt V:=⟨argRS 0 xs,[],st.heap,st.hk,(st.regs++st.kp)::st.fr,st.nx⟩
abbrev DrawG (V W:Ty→Type) (ρ:Ty):=SelfG V W ρ→An→Nat→List Oper→SSt V→(SSt V→G V W ρ)→G V W ρ
def sF (C:DC) (dr:DrawG V W ρ):Nat→SelfG V W ρ
 | 0,_,_,_,_,_=>.fail
 | f+1,an,F,xs,st,K=>match lk C.fns F with
  | some fn=>match fn.body with
   | some c=>bif Nat.ble xs.length fn.ntmps then sC C (sF C dr f) (dr (sF C dr f)) fn.ntmps c an (calleeS st xs) (outS C.T fn.results.toList st fun ys st'=>K (oneOfS ys) st') else .fail
   | none=>.fail
  | none=>.fail
def st0:SSt V:=⟨[],[],[],[],[],0⟩
def arnI:An→Option (Ty×TypeId)
 | .n (some ⟨[999999],[],[],[.arn t e],0,[]⟩) _ _=>some (t,e)
 | _=>none
def anI (an:An):An:=match arnI an with
 | some _=>an.l
 | none=>an
def stI (an:An) (xs:List (SV V)):SSt V:=match arnI an with
 | some (t,e)=>bif Nat.blt 0 t.size then ⟨argRS 0 xs,[],[(0,.arn t (.nil _) e)],[],[],1⟩ else ⟨argRS 0 xs,[],[],[],[],0⟩
 | none=>⟨argRS 0 xs,[],[],[],[],0⟩
def topG (C:DC) (dr:DrawG V W ρ) (f:Nat) (an:An) (F:FuncId) (σ:Ty) (x:E V σ):G V W ρ:=match lk C.fns F with
 | some fn=>match fn.body with
  | some c=>bif Nat.ble (svsE false σ x).length fn.ntmps then sC C (sF C dr f) (dr (sF C dr f)) fn.ntmps c (anI an) (stI an (svsE false σ x)) (fun e st'=>match e with
   | .ret=>(match resS C.T st' fn.results.toList with
    | some ys=>match exRs st' ρ ys with
     | some r=>grdL (resGd C.T st' fn.results.toList) (.ret r)
     | none=>.fail
    | none=>.fail)
   | .normal=>(match resS C.T st' fn.results.toList with
    | some ys=>match exRs st' ρ ys with
     | some r=>grdL (resGd C.T st' fn.results.toList) (.ret r)
     | none=>.fail
    | none=>.fail)
   | _=>.fail) else .fail
  | none=>.fail
 | none=>.fail
end
end Go.Proofs.Ytljebnobajmjnaa
