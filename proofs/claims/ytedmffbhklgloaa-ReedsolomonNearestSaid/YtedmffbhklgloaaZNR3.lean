/- Decompiling: the operations that make or write memory: what is computed is what they do. No program in sight. -/
import Derived.Test.YtedmffbhklgloaaZNR2
import Derived.Below
/- Decompiling: the operations that make or write memory: what is computed is what they do. No program in sight. -/
namespace Go.Proofs.Ytedmffbhklgloaa
open Go Go.RowKit

structure LesRs (rows rows':List (List AV)):Prop where
 len:rows.length=rows'.length
 at':∀ (i:Nat) (row row':List AV),rows[i]?=some row→rows'[i]?=some row'→LesL row row'
theorem LesRs.append {a b c d:List (List AV)} (h:LesRs a b) (k:LesRs c d):LesRs (a++c) (b++d):=⟨by simp [h.len,k.len],fun i x y hx hy=>by
 by_cases hi:i<a.length
 ·rw [List.getElem?_append_left hi] at hx;rw [List.getElem?_append_left (by rw [←h.len];exact hi)] at hy;exact h.at' i x y hx hy
 ·rw [List.getElem?_append_right (by omega)] at hx;rw [List.getElem?_append_right (by rw [←h.len];omega),←h.len] at hy
  exact k.at' _ x y hx hy⟩
theorem set_les {l m:List AV} {a b:AV} (h:LesL l m) (k:Les a b) (i:Nat):LesL (l.set i a) (m.set i b):=⟨by simp [h.len],fun j x y hx hy=>by
 rw [List.getElem?_set] at hx hy;by_cases e:i=j
 ·subst e;rw [if_pos rfl] at hx hy;split at hx
  ·split at hy
   ·injection hx with hx
    injection hy with hy
    subst hx;subst hy;exact k
   ·cases hy
  ·cases hx
 ·rw [if_neg e] at hx hy
  exact h.at' j x y hx hy⟩
theorem setR_les:∀ {l m c d:List AV},LesL c d→LesL l m→∀ (o:Nat),LesL (setR c o l) (setR d o m)
 | [],[],c,d,h,_,o=>h
 | [],_::_,_,_,_,k,_=>by have:=k.len;simp at this
 | _::_,[],_,_,_,k,_=>by have:=k.len;simp at this
 | a::l,b::m,c,d,h,k,o=>by
  rw [setR,setR];exact setR_les (set_les h (k.at' 0 a b rfl rfl) o) ⟨by have:=k.len;simpa using this,fun i x y hx hy=>k.at' (i+1) x y (by simpa using hx) (by simpa using hy)⟩ (o+1)
theorem LesB.rows {sz:Nat} {rows rows':List (List AV)} {e:TypeId} (h:LesRs rows rows'):LesB (.row sz rows e) (.row sz rows' e):=.row sz e h.len h.at'
theorem cells_le {fr fr':Bool} (h:(!fr'||fr)=true) (t:Ty) (x:t.den):LesL (t.cells fr' x) (t.cells fr x):=by
 cases fr <;> cases fr' <;> first | exact .refl _ | (cases h;done) | exact t.cells_unfr x
theorem rows_le {fr fr':Bool} (h:(!fr'||fr)=true) (t:Ty) (xs:List t.den):LesRs (xs.map (t.cells fr')) (xs.map (t.cells fr)):=⟨by simp,fun i row row' h1 h2=>by
 rw [List.getElem?_map] at h1 h2;obtain ⟨x,hx,e⟩:=Option.map_eq_some_iff.1 h1;rw [hx] at h2;have h2:t.cells fr x=row':=by injection h2
 subst e;subst h2
 exact cells_le h t x⟩
theorem rows_set {fr fr':Bool} (h:(!fr'||fr)=true) {t:Ty} {xs:List t.den} {i:Nat} {x:t.den} {row:List AV} (hr:LesL (t.cells fr' x) row):LesRs ((xs.set i x).map (t.cells fr')) ((xs.map (t.cells fr)).set i row):=⟨by simp,fun j a b h1 h2=>by
 rw [List.map_set,List.getElem?_set] at h1;rw [List.getElem?_set] at h2;by_cases e:i=j
 ·subst e;rw [if_pos rfl] at h1 h2;split at h1
  ·rw [if_pos (by simp_all)] at h2;injection h1 with h1
   injection h2 with h2
   subst h1;subst h2
   exact hr
  ·cases h1
 ·rw [if_neg e] at h1 h2
  exact (rows_le h t xs).at' j a b h1 h2⟩
theorem chunkS_enc {m:Nat→Nat} {H:Nat→SB D} (sz:Nat):∀ (k:Nat) (cs:List (SV D)),chunk sz k (SV.encL m H cs)=(chunkS sz k cs).map (SV.encL m H)
 | 0,_=>rfl
 | k+1,cs=>by
  rw [chunk,chunkS,List.map_cons,←chunkS_enc sz k,encL_map,encL_map,encL_map,List.map_take,List.map_drop]
theorem zerosS_enc {m:Nat→Nat} {H:Nat→SB D} (zs:List (SV D)):∀ k,SV.encL m H (zerosS zs k)=zerosA (SV.encL m H zs) k
 | 0=>by rw [zerosS,zerosA,SV.encL]
 | k+1=>by rw [zerosS,zerosA,←zerosS_enc zs k,encL_map,encL_map,encL_map,List.map_append]
theorem sameOp_eq {x y:Operand} {k k':IntKind} {st:SSt D} {L C:Int} {m:Nat→Nat} {nx:Nat} (h:sameOp x y=true) (hx:(st.enc m nx).ev x=.int k L) (hy:(st.enc m nx).ev y=.int k' C):C=L:=by
 unfold sameOp at h;split at h
 ·rename_i a b;have:=Nat.eq_of_beq_eq_true h;subst this;rw [hx] at hy;injection hy with _ h;exact h.symm
 ·rename_i k1 a k2 b;have:=of_decide_eq_true h;subst this;have hx:AV.int k1 a=AV.int k L:=hx;have hy:AV.int k2 a=AV.int k' C:=hy;injection hx with _ h1
  injection hy with _ h2
  omega
 ·cases h
theorem lit_den {k:IntKind} {a:E D (.int k)} {x:Int} (h:a.lit?=some x):(a.den:Int)=x:=by
 unfold E.lit? at h;split at h
 ·injection h
 ·cases h
theorem leE_den {k k':IntKind} {a:E D (.int k)} {b:E D (.int k')} (h:(leE a b).den=true):(a.den:Int)≤(b.den:Int):=by
 unfold leE at h;split at h
 ·rename_i x y h1 h2;rw [lit_den h1,lit_den h2];exact of_decide_eq_true h
 ·exact of_decide_eq_true h
theorem mulL_den {k:IntKind} {b:Nat} {a:E D (.int k)}:((mulL b a).den:Int)=b*(a.den:Int):=by
 unfold mulL;split
 ·rename_i x h;rw [lit_den h];rfl
 ·rfl
section
variable {P:Program} {n:Nat} {T:Tab} {F:List (Nat→AV)} {st st':SSt D} {s:ASt} {m:Nat→Nat} {nx:Nat} {r:MR D} {gd:E D .bool} {d:Option Nat} {ty:TypeId} {ps:String} {af:Array Edge} {g:Option (Nat×Bool)} {t t':TypeId} {y z:Operand}
structure MemOk (P:Program) (n:Nat) (F:List (Nat→AV)) (o:Oper) (st st':SSt D) (m:Nat→Nat) (nx:Nat):Prop where
 ex:∃ s',OpV P n o (st.enc m nx) s'∧StL F st' s'
abbrev nB (st:SSt D) (id:Nat):Bool:=!Nat.beq id st.nx
abbrev nR (st:SSt D) (id _ver:Nat):Bool:=!Nat.beq id st.nx
theorem StL.of3 {s:ASt} (h:MOk m nx st∧LeS (st.enc m nx) s∧FrOk m st.blk st.fr F):StL F st s:=⟨m,nx,h.1,h.2.1.rle,h.2.2⟩
theorem newBox_ok (hm:MOk m nx st) (hf:FrOk m st.blk st.fr F) {cs:List (SV D)} {e:TypeId} {cs':List AV} (hr:st.refs (nB st) (nR st)=true) (hb:∀ m' H',MemLe m st.blk m' H' (nB st) (nR st)→LesL (SV.encL m' H' cs) cs') (d:Option Nat) :
  StL F (MR.app st d (.new (.box cs e) false)) (((st.enc m nx).hnew (.box cs' e)).put d (.box (st.enc m nx).nx 0)):=by
 obtain ⟨m',nx',h1,h2,h3,h4⟩:=hnew_les (b:=.box cs e) (b':=.box cs' e) hm (.refl _) hf (SB.norm_box _ _) hr (fun m' hc=>.box e (hb m' _ hc));refine ⟨m',nx',put_mok h1 d _,LeS.rle ?_,?_⟩
 ·rw [MR.app,put_enc];refine h2.put ?_;have hi:isBox (st.hnew (.box cs e)).blk st.nx=true:=by unfold isBox;rw [hnew_blk,if_pos rfl]
  show Les (SV.enc m' _ (.box st.nx 0)) _;rw [SV.enc,hi,h4];exact .refl _
 ·rw [MR.app,put_blk]
  cases d <;> exact h3
theorem newRow_ok (hm:MOk m nx st) (hf:FrOk m st.blk st.fr F) {fr:Bool} {rt:Ty} {xs:E D (.list rt)} {e:TypeId} {rows:List (List AV)} {sz:Nat} (hsz:rt.size=sz) (hr:st.refs (nB st) (nR st)=true) (hb:LesRs ((xs.den:List rt.den).map (rt.cells fr)) rows) (d:Option Nat) {L:Nat} (hL:rows.length=L) :
  StL F (MR.app st d (.new (.row fr rt xs e 0) true)) (((st.enc m nx).hnew (.row sz rows e)).put d (.osl (st.enc m nx).nx L)):=by
 subst hsz;obtain ⟨m',nx',h1,h2,h3,h4⟩:=hnew_les (b:=.row fr rt xs e 0) (b':=.row rt.size rows e) hm (.refl _) hf (SB.norm_row _ _ _ _ _) hr (fun m' hc=>.rows hb);refine ⟨m',nx',put_mok h1 d _,LeS.rle ?_,?_⟩
 ·rw [MR.app,put_enc];refine h2.put ?_;have hi:rowLen (st.hnew (.row fr rt xs e 0)).blk st.nx 0=some (List.length xs.den):=by unfold rowLen;rw [hnew_blk,if_pos rfl];rfl
  show Les (SV.enc m' _ (.osl st.nx 0)) _;rw [SV.enc,hi,h4,←hL,←hb.len,rows_len];exact .refl _
 ·rw [MR.app,put_blk]
  cases d <;> exact h3
theorem allocS_ok {e:TypeId} (hT:T.ok P) (hm:MOk m nx st) (hf:FrOk m st.blk st.fr F) (h:allocS T e=some (r,gd)) (hs:memSt st d r=some st') (hd:dok d n=true):MemOk P n F ⟨d,.alloc e,ty,ps,af,g⟩ st st' m nx:=by
 unfold allocS at h;split at h
 ·rename_i Z s b h1
  cases hc:allOne (Z.cells.toList.map avOf) with
  | false=>rw [hc] at h;cases h
  | true =>
   rw [hc] at h;simp only [cond_true,Option.some.injEq,Prod.mk.injEq] at h;obtain ⟨rfl,rfl⟩:=h;rw [memSt] at hs
   cases hr:st.refs (nB st) (nR st) with
   | false=>rw [hr] at hs;cases hs
   | true =>
    rw [hr] at hs;injection hs with hs
    subst hs;exact ⟨_,op_alloc (allP_at hT.inf h1) rfl hc hd,newBox_ok hm hf hr (fun m' H' _=>by rw [zeroS_enc];exact .refl _) d⟩
 ·cases h
theorem boxS_ok {e:TypeId} (hm:MOk m nx st) (hf:FrOk m st.blk st.fr F) (h:boxS st e (st.ev y)=some (r,gd)) (hs:memSt st d r=some st') (hd:dok d n=true):MemOk P n F ⟨d,.box e y,ty,ps,af,g⟩ st st' m nx:=by
 unfold boxS at h
 cases hc:allOneS st (st.ev y).cells with
 | false=>rw [hc] at h;cases h
 | true =>
  rw [hc] at h;simp only [cond_true,Option.some.injEq,Prod.mk.injEq] at h;obtain ⟨rfl,rfl⟩:=h;rw [memSt] at hs
  cases hr:st.refs (nB st) (nR st) with
  | false=>rw [hr] at hs;cases hs
  | true =>
   rw [hr] at hs;injection hs with hs
   subst hs;refine ⟨_,op_box (c:=SV.encL m st.blk (st.ev y).cells) (by rw [enc_ev,enc_cells]) (allOneS_enc hc) hd,newBox_ok hm hf hr (fun m' H' hc'=>encL_les hc' _ (cells_refs (ev_refs hr y))) d⟩
theorem le_of_mul {b:Nat} {q:Int} (hb:0<b) (h0:0≤q) (h:(b:Int)*q≤281474976710656):q≤9223372036854775807:=by
 have h1:q*1≤q*(b:Int):=Int.mul_le_mul_of_nonneg_left (by omega) h0;rw [Int.mul_comm q (b:Int)] at h1;omega
theorem makeS_ok {ff:Ty→Ty} (hT:T.ok P) (hm:MOk m nx st) (hf:FrOk m st.blk st.fr F) (h:makeS T ff t y z (st.ev y) (st.ev z)=some (r,gd)) (hg:gd.den=true) (hs:memSt st d r=some st') (hd:dok d n=true):MemOk P n F ⟨d,.makeSlice t y z,ty,ps,af,g⟩ st st' m nx:=by
 have ey:=enc_ev st m nx y;have ez:=enc_ev st m nx z;generalize st.ev y=v at h ey;generalize st.ev z=u at h ez;unfold makeS at h;split at h
 ·rename_i e k L k' C hu;rw [SV.enc] at ey;rw [SV.enc] at ez;split at h
  ·rename_i Z sz b rt hI hty
   cases hc:(allOne (Z.cells.toList.map avOf)&&Nat.beq (Z.cells.toList.map avOf).length sz&&Nat.blt 0 sz&&Nat.blt 0 b) with
   | false=>rw [hc] at h;cases h
   | true =>
    rw [hc] at h;simp only [cond_true] at h;simp only [Bool.and_eq_true] at hc;obtain ⟨⟨⟨c1,c2⟩,c3⟩,c4⟩:=hc;split at h
    ·rename_i x0 hx0;simp only [Option.some.injEq,Prod.mk.injEq] at h;obtain ⟨rfl,rfl⟩:=h;rw [andE_den,andE_den] at hg;obtain ⟨g1,g2⟩:=andB hg;obtain ⟨g2,g3⟩:=andB g2;have g2:=leE_den g2;have hb0:0<b:=by simpa using c4
     have g2:(0:Int)≤(L.den:Int):=g2
     obtain ⟨hLC,g3⟩:(L.den:Int)≤(C.den:Int)∧(b:Int)*(C.den:Int)≤281474976710656:=by
      cases hso:sameOp y z with
      | true =>
       have hCL:(C.den:Int)=(L.den:Int):=sameOp_eq hso ey ez;rw [hso] at g3;have g3:=leE_den g3;rw [mulL_den] at g3;rw [hCL];exact ⟨Int.le_refl _,g3⟩
      | false =>
       rw [hso] at g1 g3;have g3:=leE_den g3;rw [mulL_den] at g3;exact ⟨leE_den g1,g3⟩
     have g4:(C.den:Int)≤9223372036854775807:=le_of_mul hb0 (Int.le_trans g2 hLC) g3;rw [memSt] at hs
     cases hr:st.refs (nB st) (nR st) with
     | false=>rw [hr] at hs;cases hs
     | true =>
      rw [hr] at hs;injection hs with hs
      subst hs;have hz:(Z.cells.toList.map avOf).length=sz:=Nat.eq_of_beq_eq_true c2;have hcell:=exA_ok (m:=m) (H:=st.blk) hx0;rw [zeroS_enc] at hcell;refine ⟨_,op_makeC (L:=(L.den:Int)) (C:=(C.den:Int)) (allP_at hT.und hu) (allP_at hT.inf hI) rfl hz (by simpa using c3) c1 ey ez g2 hLC g3 g4 hd,?_⟩;refine newRow_ok hm hf (by rw [←rt.cells_length true x0.den,hcell.len,hz]) hr ⟨?_,fun i row row' h1 h2=>?_⟩ d (by rw [List.length_replicate])
      ·show (List.map _ (List.replicate _ _)).length=_;rw [List.length_map,List.length_replicate,List.length_replicate]
      ·have h1:((List.replicate (Int.toNat L.den) (x0.den:rt.den)).map (rt.cells true))[i]?=some row:=h1;rw [List.map_replicate,List.getElem?_replicate] at h1;rw [List.getElem?_replicate] at h2;split at h1
       ·rename_i hi;rw [if_pos hi] at h2;injection h1 with h1
        injection h2 with h2
        subst h1;subst h2
        exact hcell
       ·cases h1
    ·cases h
  ·cases h
 ·cases h
theorem chunkS_at {m:Nat→Nat} {H:Nat→SB D} {sz L:Nat} {cs:List (SV D)} {fr:Bool} {rt:Ty} {xs:E D (.list rt)} (h:exRows fr rt (chunkS sz L cs)=some xs):LesRs ((xs.den:List rt.den).map (rt.cells fr)) (chunk sz L (SV.encL m H cs)):=by
 obtain ⟨h1,h2⟩:=exRows_ok (m:=m) (H:=H) h;rw [chunkS_enc];refine ⟨by rw [List.length_map,List.length_map];exact h1,fun i row row' g1 g2=>?_⟩;rw [List.getElem?_map] at g1 g2;obtain ⟨x,hx,e1⟩:=Option.map_eq_some_iff.1 g1;obtain ⟨y,hy,e2⟩:=Option.map_eq_some_iff.1 g2;subst e1;subst e2
 exact h2 i y x hy hx
theorem litS_ok {ff:Ty→Ty} {L:Nat} {parts:Array (Nat×Operand)} (hT:T.ok P) (hm:MOk m nx st) (hf:FrOk m st.blk st.fr F) (h:litS T ff st t L parts=some (r,gd)) (hs:memSt st d r=some st') (hd:dok d n=true):MemOk P n F ⟨d,.buildSlice t L parts,ty,ps,af,g⟩ st st' m nx:=by
 unfold litS at h;split at h
 ·rename_i e hu;split at h
  ·rename_i Z sz b rt hI hty
   cases hc:(allOne (Z.cells.toList.map avOf)&&Nat.beq (Z.cells.toList.map avOf).length sz&&Nat.blt 0 sz&&Nat.ble (L*sz) 16777216&&Nat.beq rt.size sz) with
   | false=>rw [hc] at h;cases h
   | true =>
    rw [hc] at h;simp only [cond_true] at h;simp only [Bool.and_eq_true] at hc;obtain ⟨⟨⟨⟨c1,c2⟩,c3⟩,c4⟩,c5⟩:=hc;split at h
    ·rename_i out hf'
     cases ho:Nat.beq out.length (L*sz) with
     | false=>rw [ho] at h;cases h
     | true =>
      rw [ho] at h;simp only [cond_true] at h;have hf':=fillS_enc (m:=m) hf';rw [zerosS_enc,zeroS_enc,←evPartsS_enc (nx:=nx)] at hf';have hsz:=Nat.eq_of_beq_eq_true c5;have key:=op_buildSlice (st:=st.enc m nx) (d:=d) (ty:=ty) (ps:=ps) (af:=af) (g:=g) (allP_at hT.und hu) (allP_at hT.inf hI) rfl c1 (Nat.eq_of_beq_eq_true c2) (by simpa using c3) c4 hf' (by rw [encL_length];exact Nat.eq_of_beq_eq_true ho) rfl hd
      have fin:∀ fr xs,exRows fr rt (chunkS sz L out)=some xs→r=.new (.row fr rt xs e 0) true→MemOk P n F ⟨d,.buildSlice t L parts,ty,ps,af,g⟩ st st' m nx:=by
       intro fr xs hx er;subst er;rw [memSt] at hs
       cases hr:st.refs (nB st) (nR st) with
       | false=>rw [hr] at hs;cases hs
       | true =>
        rw [hr] at hs;injection hs with hs
        subst hs;exact ⟨_,key,newRow_ok hm hf hsz hr (chunkS_at hx) d (chunk_length _ _ _)⟩
      unfold litRow at h;split at h
      ·rename_i xs hx;simp only [Option.some.injEq,Prod.mk.injEq] at h;exact fin _ _ hx h.1.symm
      ·split at h
       ·rename_i xs hx;simp only [Option.some.injEq,Prod.mk.injEq] at h;exact fin _ _ hx h.1.symm
       ·cases h
    ·cases h
  ·cases h
 ·cases h
theorem op_store_elt' {s:ASt} {Z:Option Value} {sl b:Nat} {id q i o sz:Nat} {rows:List (List AV)} {e:TypeId} {row vs:List AV} (hx:s.ev y=.elt id q i o) (hb:look .dead s.heap id=.row sz rows e) (hm:q=rows.length) (hr:∀ row',rows[i]?=some row'→row'=row) (hy:(s.ev z).cells=vs) (h1:allOne vs=true) (hI:tyI P t=some (Z,sl,b)) (hs:vs.length=sl) (hle:o+sl≤sz) :
  OpV P n ⟨none,.store t y z,ty,ps,af,g⟩ s (s.hset id (.row sz (rows.set i (setR row o vs)) e)):=.mk fun K A w ⟨G,rr⟩=>by
 have e1:=rr.ev y;rw [hx] at e1
 have hi:i<rows.length:=by
  cases e1 with
  | dat h=>cases h
  | elt _ _ _ _ _ _ hin=>omega
 have hrow:rows[i]?=some row:=by
  rw [List.getElem?_eq_getElem hi,hr _ (List.getElem?_eq_getElem hi)]
 exact (op_store_elt hx hb hm hrow hy h1 hI hs hle).out K A w ⟨G,rr⟩
theorem memLe_box {id:Nat} {cs cs':List (SV D)} {e:TypeId} {pB:Nat→Bool} {pR:Nat→Nat→Bool} (h:st.blk id=.box cs e):MemLe m st.blk m (st.hset id (.box cs' e)).blk pB pR:=by
 refine ⟨fun k _=>.inr ⟨?_,rfl⟩,fun k v _=>.inr ⟨?_,rfl⟩⟩
 ·unfold isBox;rw [hset_blk];by_cases e':id=k
  ·subst e';rw [if_pos rfl,h]
  ·rw [if_neg e']
 ·unfold rowLen;rw [hset_blk];by_cases e':id=k
  ·subst e';rw [if_pos rfl,h]
  ·rw [if_neg e']
theorem memLe_set {id:Nat} {fr fr':Bool} {rt:Ty} {xs xs':E D (.list rt)} {e ver:Nat} {pB:Nat→Bool} {pR:Nat→Nat→Bool} (h:st.blk id=.row fr rt xs e ver) (hl:List.length xs'.den=List.length xs.den):MemLe m st.blk m (st.hset id (.row fr' rt xs' e ver)).blk pB pR:=by
 refine ⟨fun k _=>.inr ⟨?_,rfl⟩,fun k v _=>.inr ⟨?_,rfl⟩⟩
 ·unfold isBox;rw [hset_blk];by_cases e':id=k
  ·subst e';rw [if_pos rfl,h]
  ·rw [if_neg e']
 ·unfold rowLen;rw [hset_blk];by_cases e':id=k
  ·subst e';rw [if_pos rfl,h];simp only [hl]
  ·rw [if_neg e']
theorem refs_all (st:SSt D):st.refs (fun _=>true) (fun _ _=>true)=true:=refs_all0 st
theorem storeS_ok (hT:T.ok P) (hm:MOk m nx st) (hf:FrOk m st.blk st.fr F) (h:storeS T st t (st.ev y) (st.ev z)=some (r,gd)) (hs:memSt st none r=some st'):MemOk P n F ⟨none,.store t y z,ty,ps,af,g⟩ st st' m nx:=by
 have ey:=enc_ev st m nx y;have ez:=enc_ev st m nx z;have hzc:=enc_cells (m:=m) (H:=st.blk) (st.ev z);rw [←ez] at hzc;have hone:allOneS st (st.ev z).cells=true→allOne ((st.enc m nx).ev z).cells=true:=fun h=>by rw [hzc];exact allOneS_enc h
 generalize st.ev y=v at h ey;unfold storeS at h;generalize (st.ev z).cells=vs at h hzc hone;split at h
 ·rename_i Z s b hI
  cases hc:(allOneS st vs&&Nat.beq vs.length s) with
  | false=>rw [hc] at h;cases h
  | true =>
   rw [hc] at h;simp only [cond_true] at h;rw [Bool.and_eq_true] at hc;have hls:=Nat.eq_of_beq_eq_true hc.2;have h1:=hone hc.1;rw [hzc] at h1;split at h
   ·rename_i id o;split at h
    ·rename_i cs e hb
     cases hl:Nat.ble (o+s) cs.length with
     | false=>rw [hl] at h;cases h
     | true =>
      rw [hl] at h;simp only [cond_true,Option.some.injEq,Prod.mk.injEq] at h;obtain ⟨rfl,rfl⟩:=h;simp only [memSt,Option.some.injEq] at hs;subst hs;have hi:isBox st.blk id=true:=by unfold isBox;rw [hb]
      rw [SV.enc,hi] at ey;have hlive:st.blk id≠.dead:=by rw [hb];simp
      have hbb:=enc_blk hm hlive;rw [hb,SB.enc] at hbb;refine ⟨_,op_store_box ey hbb hzc h1 (allP_at hT.inf hI) (by rw [encL_length];exact hls) (by rw [encL_length];exact Nat.le_of_ble_eq_true hl),?_⟩;refine StL.of3 (hset_les hm (.refl _) (by rw [hb];exact SB.norm_box _ _) (SB.norm_box _ _) (memLe_box hb) (refs_all st) ?_ hf);rw [SB.enc,setRS_enc]
      have hH:∀ l:List (SV D),LesL (SV.encL m (st.hset id (.box (setRS cs o vs) e)).blk l) (SV.encL m st.blk l):=fun l=>encL_les (memLe_box (pB:=fun _=>true) (pR:=fun _ _=>true) hb) l (by
       induction l with
       | nil=>rw [SV.refsL]
       | cons c l ih =>
        have:=refs_all (⟨[(0,c)],[],[],[],[],0⟩:SSt D);unfold SSt.refs at this;simp only [refsR,Bool.and_eq_true] at this
        rw [SV.refsL,this.1.1,ih];rfl)
      exact .box e (setR_les (hH cs) (hH vs) o)
    ·cases h
   ·rename_i id ver k i o;split at h
    ·rename_i fr rt xs e ver' hb
     cases hl:(Nat.beq ver ver'&&Nat.ble (o+s) rt.size) with
     | false=>rw [hl] at h;cases h
     | true =>
      rw [hl] at h;simp only [cond_true] at h;rw [Bool.and_eq_true] at hl;have hlive:st.blk id≠.dead:=by rw [hb];simp
      have hbb:=enc_blk hm hlive;rw [hb,SB.enc] at hbb;rw [SV.enc,rowLen_eq hb hl.1] at ey
      have key:∀ (fr':Bool) (x:E D rt),(!fr'||fr)=true→exA fr' rt (setRS (cellsE fr rt (.at xs i)) o vs)=some x→st'=st.hset id (.row fr' rt (.set xs i x) e ver')→MemOk P n F ⟨none,.store t y z,ty,ps,af,g⟩ st st' m nx:=by
       intro fr' x hfr hx e';subst e';have hcell:=exA_ok (m:=m) (H:=st.blk) hx;rw [setRS_enc,cellsE_enc] at hcell;refine ⟨_,op_store_elt' ey hbb (rows_len _).symm (fun row' hr=>at_row hr) hzc h1 (allP_at hT.inf hI) (by rw [encL_length];exact hls) (Nat.le_of_ble_eq_true hl.2),?_⟩;refine StL.of3 (hset_les hm (.refl _) (by rw [hb];exact SB.norm_row _ _ _ _ _) (SB.norm_row _ _ _ _ _) (memLe_set hb ?_) (refs_all st) ?_ hf)
       ·show List.length (List.set _ _ _)=_;rw [List.length_set]
       ·exact .rows (rows_set hfr hcell)
      split at h
      ·rename_i x hx;simp only [Option.some.injEq,Prod.mk.injEq] at h;obtain ⟨rfl,rfl⟩:=h;simp only [memSt,Option.some.injEq] at hs;exact key fr x (by cases fr <;> rfl) hx hs.symm
      ·split at h
       ·rename_i x hx;simp only [Option.some.injEq,Prod.mk.injEq] at h;obtain ⟨rfl,rfl⟩:=h;simp only [memSt,Option.some.injEq] at hs;exact key false x rfl hx hs.symm
       ·cases h
    ·cases h
   ·cases h
 ·cases h
theorem nat_of1 {a c:Nat} (h:(a:Int)*((c:Nat):Int)≤140737488355328):a*c≤140737488355328:=by
 rw [←Int.natCast_mul] at h;omega
theorem nat_of2 {a b c:Nat} (h:((a:Int)+(b:Int))*((c:Nat):Int)≤140737488355328):(a+b)*c≤140737488355328:=by
 rw [←Int.natCast_add,←Int.natCast_mul] at h;omega
theorem srcS_ok {rt:Ty} {fr:Bool} {ys:E D (.list rt)} (hfl:rt.flatA=true) (hm:MOk m nx st) (h:srcS st rt (st.ev y)=some (fr,ys)):SrcA (st.enc m nx).heap rt.size ((st.enc m nx).ev y) ((ys.den:List rt.den).map (rt.cells fr)):=by
 have ey:=enc_ev st m nx y;generalize st.ev y=v at h ey;rw [ey];unfold srcS at h;split at h
 ·rename_i fr' t' xs;split at h
  ·rename_i ht _;subst ht;simp only [Option.some.injEq,Prod.mk.injEq] at h;obtain ⟨rfl,rfl⟩:=h;rw [SV.enc];refine .ro _ _ fun row hr=>?_
   obtain ⟨x,_,rfl⟩:=List.mem_map.1 hr;exact ⟨t'.cells_length _ x,t'.cells_one _ x hfl⟩
  ·cases h
 ·rename_i id ver;split at h
  ·rename_i fr' t' xs e v hb
   cases hv:Nat.beq ver v with
   | false=>rw [hv] at h;cases h
   | true =>
    rw [hv] at h;simp only [cond_true] at h;split at h
    ·rename_i ht _;subst ht;simp only [Option.some.injEq,Prod.mk.injEq] at h;obtain ⟨rfl,rfl⟩:=h;rw [SV.enc,rowLen_eq hb hv];have hbb:=enc_blk hm (k:=id) (by rw [hb];simp);rw [hb,SB.enc] at hbb;exact .osl _ _ _ _ hbb (rows_len _).symm
    ·cases h
  ·cases h
 ·simp only [Option.some.injEq,Prod.mk.injEq] at h;obtain ⟨rfl,rfl⟩:=h;rw [SV.enc];exact .nils
 ·cases h
theorem srcC_ok {rt:Ty} {fr:Bool} {ys:E D (.list rt)} (hfl:rt.flatA=true) (hm:MOk m nx st) (hG:(srcG st (st.ev y)).den=true) (h:srcC st rt (st.ev y)=some (fr,ys)):SrcA (st.enc m nx).heap rt.size ((st.enc m nx).ev y) ((ys.den:List rt.den).map (rt.cells fr)):=by
 unfold srcC at h;split at h
 ·rename_i id ver lo hi hev;split at h
  ·rename_i fr' t' xs e v hb
   cases hv:Nat.beq ver v with
   | false=>rw [hv] at h;cases h
   | true =>
    rw [hv] at h;simp only [cond_true] at h;split at h
    ·rename_i ht _;subst ht;simp only [Option.some.injEq,Prod.mk.injEq] at h;obtain ⟨rfl,rfl⟩:=h;rw [enc_ev,hev,SV.enc,rowLen_eq hb hv];have hbb:=enc_blk hm (k:=id) (by rw [hb];simp);rw [hb,SB.enc] at hbb;refine .vsl _ _ _ _ _ _ _ hbb (rows_len _).symm ?_;rw [←List.map_drop,←List.map_take];show _=((((xs.den:List t'.den).take (hi.den:Int).toNat).drop (lo.den:Int).toNat)).map (t'.cells fr');rw [List.drop_take]
    ·cases h
  ·cases h
 ·rename_i e hev;split at h
  ·rename_i t' xs ha;obtain ⟨e0,hb⟩:=arnOf_blk ha;split at h
   ·rename_i ht _;subst ht;simp only [Option.some.injEq,Prod.mk.injEq] at h;obtain ⟨rfl,rfl⟩:=h
    have hG:(arnN xs e).den=true:=by
     unfold srcG at hG;rw [hev] at hG;simp only [ha] at hG;exact hG
    rcases arnN_den hG with ⟨hc,hG⟩ | ⟨hc,hn⟩
    ·obtain ⟨a1,a2,a3,a4,a5⟩:=arn_at hm hb hG;rw [enc_ev,hev,SV.enc,a1];show SrcA _ _ _ (((bif (leF (.iL .i64 0) e.aixK').den then (E.at xs e.aixK').den else []):List t'.den).map (t'.cells false));rw [hc];exact .osl _ _ _ _ a2 (rows_len _).symm
    ·rw [enc_ev,hev,SV.enc,arn_nil hn];show SrcA _ _ _ (((bif (leF (.iL .i64 0) e.aixK').den then (E.at xs e.aixK').den else []):List t'.den).map (t'.cells false));rw [hc];exact .nils
   ·cases h
  ·cases h
 ·exact srcS_ok hfl hm h
theorem appS_ok {ff:Ty→Ty} (hT:T.ok P) (hm:MOk m nx st) (hf:FrOk m st.blk st.fr F) (h:appS T ff st t (st.ev y) (st.ev z)=some (r,gd)) (hg:gd.den=true) (hs:memSt st d r=some st') (hd:dok d n=true):MemOk P n F ⟨d,.call ⟨.builtin .append,⟨[y,z]⟩,⟨[t,t]⟩⟩,ty,ps,af,g⟩ st st' m nx:=by
 have ey:=enc_ev st m nx y;generalize st.ev y=v at h ey;unfold appS at h;split at h
 ·rename_i e hu;split at h
  ·rename_i Z sz b hI
   cases hc:(Nat.beq Z.cells.size sz&&Nat.blt 0 sz) with
   | false=>rw [hc] at h;cases h
   | true =>
    rw [hc] at h;simp only [cond_true] at h;rw [Bool.and_eq_true] at hc;have hz:=Nat.eq_of_beq_eq_true hc.1;have h0:0<sz:=Nat.le_of_ble_eq_true hc.2;split at h
    ·rename_i id ver;split at h
     ·rename_i fr rt xs e' v hb
      cases hc2:(Nat.beq ver v&&(Nat.beq e' e&&(Nat.beq sz rt.size&&rt.flatA))) with
      | false=>rw [hc2] at h;cases h
      | true =>
       rw [hc2] at h;simp only [cond_true] at h;simp only [Bool.and_eq_true] at hc2;obtain ⟨hv,he,hsz,hfl⟩:=hc2;have he:=Nat.eq_of_beq_eq_true he;have hsz:=Nat.eq_of_beq_eq_true hsz;subst he;subst hsz;split at h
       ·rename_i fr' ys hy
        cases hr:st.refs (fun _=>true) (fun i w=>!(Nat.beq i id&&Nat.beq w (v+1))) with
        | false=>rw [hr] at h;cases h
        | true =>
         rw [hr] at h;simp only [cond_true,Option.some.injEq,Prod.mk.injEq] at h;obtain ⟨rfl,rfl⟩:=h;simp only [memSt,Option.some.injEq] at hs;subst hs;have hlive:st.blk id≠.dead:=by rw [hb];simp
         have hbb:=enc_blk hm hlive;rw [hb,SB.enc] at hbb;rw [SV.enc,rowLen_eq hb hv] at ey;obtain ⟨hG,hg⟩:=andE_b hg;have hsrc:=srcC_ok (nx:=nx) hfl hm hG hy;have hg:=leE_den hg;have hg:((List.length xs.den:Int)+(List.length ys.den:Int))*((bmul b:Nat):Int)≤140737488355328:=hg;have h63:(List.length xs.den+List.length ys.den)*bmul b≤140737488355328:=nat_of2 hg;refine ⟨_,op_append ey hbb rfl (rows_len _).symm rfl hsrc (allP_at hT.und hu) (allP_at hT.inf hI) hz (by rw [rows_len,rows_len];exact h63) hd,?_⟩
         have hnew:rowLen (st.hset id (.row (fr&&fr') rt (.app xs ys) e' (v+1))).blk id (v+1)=some (List.length xs.den+List.length ys.den):=by
          unfold rowLen;rw [hset_blk,if_pos rfl];simp only [Nat.beq_refl,cond_true];show some (List.length (List.append _ _))=_;rw [List.append_eq,List.length_append]
         have hle:MemLe m st.blk m (st.hset id (.row (fr&&fr') rt (.app xs ys) e' (v+1))).blk (fun _=>true) (fun i w=>!(Nat.beq i id&&Nat.beq w (v+1))):=by
          refine ⟨fun k _=>.inr ⟨?_,rfl⟩,fun k w hw=>?_⟩
          ·unfold isBox;rw [hset_blk];by_cases e1:id=k
           ·subst e1;rw [if_pos rfl,hb]
           ·rw [if_neg e1]
          ·by_cases e1:id=k
           ·subst e1;have hw:(!(Nat.beq id id&&Nat.beq w (v+1)))=true:=hw;rw [Nat.beq_refl,Bool.true_and] at hw;refine .inl ?_;unfold rowLen;rw [hset_blk,if_pos rfl]
            cases hq:Nat.beq w (v+1) with
            | true=>rw [hq] at hw;cases hw
            | false=>simp only [hq];rfl
           ·refine .inr ⟨?_,rfl⟩;unfold rowLen;rw [hset_blk,if_neg e1]
         have hst:=hset_les (b:=.row (fr&&fr') rt (.app xs ys) e' (v+1)) (b':=.row rt.size ((xs.den:List rt.den).map (rt.cells fr)++(ys.den:List rt.den).map (rt.cells fr')) e') hm (.refl _) (by rw [hb];exact SB.norm_row _ _ _ _ _) (SB.norm_row _ _ _ _ _) hle hr (by
          rw [SB.enc];refine .rows ?_;show LesRs (((xs.den:List rt.den)++(ys.den:List rt.den)).map (rt.cells (fr&&fr'))) _;rw [List.map_append]
          exact (rows_le (by cases fr <;> cases fr' <;> rfl) rt _).append (rows_le (by cases fr <;> cases fr' <;> rfl) rt _)) hf
         refine ⟨m,nx,put_mok hst.1 d _,LeS.rle ?_,?_⟩
         ·show LeS (((st.hset id _).put d (.osl id (v+1))).enc m nx) _;rw [put_enc];refine hst.2.1.put ?_;rw [SV.enc,hnew,rows_len,rows_len];exact .refl _
         ·show FrOk m ((st.hset id _).put d (.osl id (v+1))).blk _ _;rw [put_blk];have:=hst.2.2
          cases d <;> exact this
       ·cases h
     ·cases h
    ·split at h
     ·rename_i rt hty
      cases hc2:(Nat.beq sz rt.size&&rt.flatA) with
      | false=>rw [hc2] at h;cases h
      | true =>
       rw [hc2] at h;simp only [cond_true] at h;rw [Bool.and_eq_true] at hc2;have hsz:=Nat.eq_of_beq_eq_true hc2.1;subst hsz;split at h
       ·rename_i fr' ys hy;simp only [Option.some.injEq,Prod.mk.injEq] at h;obtain ⟨rfl,rfl⟩:=h;rw [memSt] at hs
        cases hr:st.refs (nB st) (nR st) with
        | false=>rw [hr] at hs;cases hs
        | true =>
         rw [hr] at hs;injection hs with hs
         subst hs;rw [SV.enc] at ey;obtain ⟨hG,hg⟩:=andE_b hg;have hsrc:=srcC_ok (nx:=nx) hc2.2 hm hG hy;have hg:=leE_den hg;have hg:(List.length ys.den:Int)*((bmul b:Nat):Int)≤140737488355328:=hg;have h63:List.length ys.den*bmul b≤140737488355328:=nat_of1 hg;exact ⟨_,op_append_nil ey rfl hsrc (allP_at hT.und hu) (allP_at hT.inf hI) h0 hz (by rw [rows_len];exact h63) hd,newRow_ok hm hf rfl hr ⟨rfl,fun i a b h1 h2=>by rw [h1] at h2;injection h2 with h2;subst h2;exact .refl _⟩ d rfl⟩
       ·cases h
     ·cases h
    ·cases h
  ·cases h
 ·cases h
theorem mem0_ok {o:Oper} (hT:T.ok P) (hm:MOk m nx st) (hf:FrOk m st.blk st.fr F) (h:mem0 T st o.dst o.op=some (r,gd)) (hg:gd.den=true) (hs:memSt st o.dst r=some st') (hd:dok o.dst n=true):MemOk P n F o st st' m nx:=by
 obtain ⟨d,op,ty,ps,af,g⟩:=o;simp only at h hs;have hd:dok d n=true:=hd;unfold mem0 at h;split at h
 ·exact allocS_ok hT hm hf h hs hd
 ·exact boxS_ok hm hf h hs hd
 ·split at h
  ·exact storeS_ok hT hm hf h hs
  ·cases h
 ·exact makeS_ok hT hm hf h hg hs hd
 ·exact litS_ok hT hm hf h hs hd
 ·rename_i x y t t'
  cases ht:Nat.beq t' t with
  | false=>rw [ht] at h;cases h
  | true =>
   rw [ht] at h;have:=Nat.eq_of_beq_eq_true ht;subst this;exact appS_ok hT hm hf h hg hs hd
 ·cases h
theorem encH_tr {m m':Nat→Nat} {H H':Nat→SB D} {pB:Nat→Bool} {pR:Nat→Nat→Bool} (h:MemLe m H m' H' pB pR) {id k nx:Nat} (hid:m' id=nx) (hk:k≠nx) (hm':∀ j,j≠id→m' j=m j) :
  ∀ (l:List (Nat×SB D)),refsH pB pR l=true→(∀ p ∈ l,m p.1=m id→p.1=id)→(k=m id→look .dead (encH m' H' l) k=.dead)∧(k≠m id→LesB (look .dead (encH m' H' l) k) (look .dead (encH m H l) k))
 | [],_,_=>⟨fun _=>rfl,fun _=>.refl _⟩
 |(j,b)::l,hr,hinj=>by
  rw [refsH,Bool.and_eq_true] at hr;obtain ⟨i1,i2⟩:=encH_tr h hid hk hm' l hr.2 (fun p hp=>hinj p (List.mem_cons_of_mem _ hp));show (k=m id→look .dead ((m' j,b.enc m' H')::encH m' H' l) k=.dead)∧(k≠m id→LesB (look .dead ((m' j,b.enc m' H')::encH m' H' l) k) (look .dead ((m j,b.enc m H)::encH m H l) k));rw [look_cons,look_cons];by_cases e:j=id
  ·subst e;rw [hid,if_neg (Ne.symm hk)];exact ⟨i1,fun hne=>by rw [if_neg (Ne.symm hne)];exact i2 hne⟩
  ·rw [hm' j e];refine ⟨fun ek=>?_,fun hne=>?_⟩
   ·rw [if_neg (fun e'=>e (hinj (j,b) (List.mem_cons_self ..) (by rw [←ek];exact e')))];exact i1 ek
   ·split
    ·exact encB_les h b hr.1
    ·exact i2 hne
theorem trunc_stl {id fr' e v k:Nat} (d:Option Nat) {fr:Bool} {rt:Ty} {xs xs':E D (.list rt)} (hm:MOk m nx st) (hf:FrOk m st.blk st.fr F) (hb:st.blk id=.row fr rt xs e v) (hr:st.refs (fun _=>true) (fun i w=>!(Nat.beq i id&&Nat.beq w (v+1)))=true)
  (hxs:(xs'.den:List rt.den)=(xs.den:List rt.den).take k) (hk:k≤List.length xs.den) (_hfr:fr'=0) :
  StL F ((st.hset id (.row fr rt xs' e (v+1))).put d (.osl id (v+1))) ((⟨(st.enc m nx).regs,(nx,.row rt.size (((xs.den:List rt.den).map (rt.cells fr)).take k) e)::(m id,.dead)::(st.enc m nx).heap,nx+1⟩:ASt).put d (.osl nx k)):=by
 let b:SB D:=.row fr rt xs' e (v+1)
 let m':Nat→Nat:=fun j=>if j=id then nx else m j
 have hid:m' id=nx:=if_pos rfl;have hm':∀ j,j≠id→m' j=m j:=fun j h=>if_neg h
 have hlid:st.blk id≠.dead:=by rw [hb];simp
 have hbl:∀ j,(st.hset id b).blk j=if id=j then b else st.blk j:=fun j=>hset_blk st id b j
 have hc:MemLe m st.blk m' (st.hset id b).blk (fun _=>true) (fun i w=>!(Nat.beq i id&&Nat.beq w (v+1))):=by
  refine ⟨fun j _=>?_,fun j w hp=>?_⟩
  ·by_cases e1:j=id
   ·subst e1
    left
    unfold isBox;rw [hbl,if_pos rfl]
   ·right
    refine ⟨?_,hm' j e1⟩;unfold isBox;rw [hbl,if_neg (Ne.symm e1)]
  ·by_cases e1:j=id
   ·subst e1
    left
    have hw:Nat.beq w (v+1)=false:=by
     have hp:(!(Nat.beq j j&&Nat.beq w (v+1)))=true:=hp;rw [Nat.beq_refl,Bool.true_and] at hp;simpa using hp
    unfold rowLen;rw [hbl,if_pos rfl];show (bif Nat.beq w (v+1) then _ else none)=none;rw [hw];rfl
   ·right
    refine ⟨?_,hm' j e1⟩;unfold rowLen;rw [hbl,if_neg (Ne.symm e1)]
 unfold SSt.refs at hr;simp only [Bool.and_eq_true] at hr;obtain ⟨r1,r2,r3,r4,r5⟩:=hr
 have hlv:∀ j,(st.hset id b).blk j≠.dead→st.blk j≠.dead:=by
  intro j hj;rw [hbl] at hj;by_cases e1:id=j
  ·subst e1;exact hlid
  ·rw [if_neg e1] at hj;exact hj
 have hidA:(st.blk id).isA=false:=by rw [hb];rfl
 have hA:=hset_arn (st:=st) (id:=id) (b:=b) hidA rfl;have h0:(st.blk 0).isA=true→m' 0=m 0:=fun h=>hm' 0 (fun e=>by subst e;rw [hb] at h;cases h)
 have hmok:MOk m' (nx+1) (st.hset id b):=by
  refine ⟨fun j hj=>?_,fun j j' hj hj' e1=>?_,fun p hp=>?_,fun h=>?_,?_⟩
  ·by_cases e2:j=id
   ·rw [e2,hid];omega
   ·rw [hm' j e2];have:=hm.lt j (hlv j hj);omega
  ·by_cases e2:j=id
   ·by_cases e3:j'=id
    ·omega
    ·rw [hm' j' e3,e2,hid] at e1;have:=hm.lt j' (hlv j' hj');omega
   ·by_cases e3:j'=id
    ·rw [hm' j e2,e3,hid] at e1;have:=hm.lt j (hlv j hj);omega
    ·rw [hm' j e2,hm' j' e3] at e1;exact hm.inj j j' (hlv j hj) (hlv j' hj') e1
  ·rcases List.mem_cons.1 hp with rfl | hp
   ·exact ⟨hm.live hlid,by simp [b]⟩
   ·exact hm.keys p hp
  ·rw [hA.1] at h;rw [h0 h];exact hm.ar' h
  ·have:=hm.ge.1;refine ⟨by omega,fun k hk=>?_⟩;by_cases e2:k=id
   ·rw [e2,hid];exact this
   ·rw [hm' k e2];exact hm.ge.2 k (hlv k hk)
 have hle:LeS ((st.hset id b).enc m' (nx+1)) ⟨(st.enc m nx).regs,(nx,.row rt.size (((xs.den:List rt.den).map (rt.cells fr)).take k) e)::(m id,.dead)::(st.enc m nx).heap,nx+1⟩:=by
  refine ⟨fun j=>?_,fun j=>?_,rfl⟩
  ·show Les (look .any (encR m' (st.hset id b).blk (st.regs++st.kp)) j) (look .any (encR m st.blk (st.regs++st.kp)) j);exact encR_les hc _ (by rw [refsR_append,r1,r2];rfl) j
  ·show LesB _ (look .dead ((nx,.row rt.size (((xs.den:List rt.den).map (rt.cells fr)).take k) e)::(m id,.dead)::(st.enc m nx).heap) j)
   have hin:∀ B B',((st.blk 0).isA=true→B'=B)→((st.hset id b).blk 0).rows B'=(st.blk 0).rows B:=fun B B' hB=>by
    rw [hA.2]
    cases hh:(st.blk 0).isA with
    | true=>rw [hB hh]
    | false=>rw [isA_rows hh,isA_rows hh]
   rw [enc_look hmok,hA.1,hin (m 0) (m' 0) h0]
   cases hc2:((st.blk 0).isA&&Nat.blt j (m' 0)) with
   | true =>
    rw [Bool.and_eq_true] at hc2;have h1:j<m 0:=by rw [←h0 hc2.1,←Nat.blt_eq];exact hc2.2
    have h2:=hm.lt 0 (fun e=>by rw [e] at hc2;cases hc2.1);have h3:=(hm.ar hc2.1).2 id hlid;rw [cond_true,look_cons,if_neg (by omega),look_cons,if_neg (by omega),enc_look hm,hc2.1,show Nat.blt j (m 0)=true by rw [Nat.blt_eq];exact h1];exact .refl _
   | false =>
   rw [cond_false]
   have hold:look .dead (st.enc m nx).heap j=look .dead (encH m st.blk (st.heap++st.hk)) j:=by
    rw [enc_look hm]
    cases hh:(st.blk 0).isA with
    | false=>rfl
    | true=>rw [hh,h0 hh] at hc2;rw [hc2];rfl
   have hold:look .dead ((nx,.row rt.size (((xs.den:List rt.den).map (rt.cells fr)).take k) e)::(m id,.dead)::(st.enc m nx).heap) j=look .dead ((nx,.row rt.size (((xs.den:List rt.den).map (rt.cells fr)).take k) e)::(m id,.dead)::encH m st.blk (st.heap++st.hk)) j:=by
    rw [look_cons,look_cons,look_cons,look_cons,hold]
   rw [hold];show LesB (look .dead ((m' id,b.enc m' (st.hset id b).blk)::encH m' (st.hset id b).blk (st.heap++st.hk)) j) _;rw [look_cons,look_cons,hid];by_cases e1:nx=j
   ·rw [if_pos e1,if_pos e1];show LesB (.row rt.size ((xs'.den:List rt.den).map (rt.cells fr)) e) _;rw [hxs,List.map_take];exact .refl _
   ·rw [if_neg e1,if_neg e1,look_cons];obtain ⟨t1,t2⟩:=encH_tr hc hid (k:=j) (Ne.symm e1) hm' (st.heap++st.hk) (by rw [refsH_append,r3,r4];rfl) (fun p hp e2=>hm.inj _ _ (hm.key_live hp) hlid e2);by_cases e2:m id=j
    ·rw [if_pos e2,t1 e2.symm];exact .refl _
    ·rw [if_neg e2];exact t2 (Ne.symm e2)
 refine ⟨m',nx+1,put_mok hmok d _,LeS.rle ?_,?_⟩
 ·rw [put_enc];refine hle.put ?_
  have hi:rowLen (st.hset id b).blk id (v+1)=some k:=by
   unfold rowLen;rw [hbl,if_pos rfl];show (bif Nat.beq (v+1) (v+1) then some (List.length xs'.den) else none)=some k;rw [Nat.beq_refl,cond_true,hxs,List.length_take];congr 1;omega
  rw [SV.enc,hi,hid];exact .refl _
 ·rw [put_blk];have:=hf.les' hc r5
  cases d <;> exact this
theorem op_box_pk {s:ASt} {e:TypeId} {c c':List AV} (hc:(s.ev y).cells=c) (h1:allOne c=true) (hl:LesL c' c) (hD:∀ a ∈ c',isD a=true) (hne:c'≠[]) (hd:dok d n=true) :
  OpV P n ⟨d,.box e y,ty,ps,af,g⟩ s (s.put d (.peek c' 0)):=.mk fun K a w ⟨G,r⟩=>by
 subst hc;have hcv:=(r.ev y).cellsV h1;have hb:=below_alloc' w (.cells (a.eval y).cells e);have r2:=r.same hb;have hx:=(r.hr.same hb).2;have hnb:¬ G.own w.heap.size:=fun ho=>by have:=(r.hr.ownlt _ ho).2;omega
 have key:∀ (t:Nat) (x:AV),c'[t]?=some x→∃ u,(a.eval y).cells[t]?=some u∧RelD (w.alloc (.cells (a.eval y).cells e)) G.own G.bs x u:=by
  intro t x hx';have hlt:t<c'.length:=(List.getElem?_eq_some_iff.1 hx').1;have hlt2:t<(s.ev y).cells.length:=by rw [←hl.len];exact hlt
  have hlt3:t<(a.eval y).cells.size:=by rw [hcv.size];exact hlt2
  refine ⟨_,Array.getElem?_eq_getElem hlt3,?_⟩;have hr:=hcv.rel t _ _ (List.getElem?_eq_getElem hlt2) (Array.getElem?_eq_getElem hlt3);exact (((hl.at' t x _ hx' (List.getElem?_eq_getElem hlt2)).rel hr).ext hx).isD (hD x (List.mem_of_getElem? hx'))
 refine ⟨_,_,.inl ?_,G,r2.put (dok_lt hd) (x:=.peek c' 0) (v:=.pointer (some ⟨w.heap.size,0+0,none⟩)) (.peek c' 0 w.heap.size 0 (fun t=>((a.eval y).cells[t]?).getD undef) hne hnb (fun t x hx'=>?_) (fun t x hx'=>?_))⟩
 ·simp [execOp,Instr.box,newVar,newRow]
 ·obtain ⟨u,hu,_⟩:=key t x hx';simp only [hu,Option.getD_some];have:=heap_alloc_new w (.cells (a.eval y).cells e);rw [Nat.zero_add,←hu]
  show (match (w.alloc (.cells (a.eval y).cells e)).heap[w.heap.size]? with
   | some (.cells c _ _)=>c[t]?
   | _=>none)=_
  rw [this]
 ·obtain ⟨u,hu,hr⟩:=key t x hx';simp only [hu,Option.getD_some];exact hr
theorem boxPk_ok {e:TypeId} (hm:MOk m nx st) (hf:FrOk m st.blk st.fr F) (h:boxPk T st e (st.ev y)=some (r,gd)) (hs:memSt st d r=some st') (hd:dok d n=true):MemOk P n F ⟨d,.box e y,ty,ps,af,g⟩ st st' m nx:=by
 unfold boxPk at h;split at h
 ·rename_i t _
  cases hc:(allOneS st (st.ev y).cells&&t.dat&&!(st.ev y).cells.isEmpty) with
  | false=>rw [hc] at h;cases h
  | true =>
   rw [hc] at h;simp only [cond_true] at h;split at h
   ·rename_i x hx;simp only [Option.some.injEq,Prod.mk.injEq] at h;obtain ⟨rfl,rfl⟩:=h;rw [Bool.and_eq_true,Bool.and_eq_true] at hc;have hs:some (st.put d (.pk false t x 0))=some st':=hs;injection hs with hs
    subst hs;have hl:=exA_ok (m:=m) (H:=st.blk) hx;refine ⟨_,op_box_pk (c:=SV.encL m st.blk (st.ev y).cells) (by rw [enc_ev,enc_cells]) (allOneS_enc hc.1.1) hl (Ty.cells_isD _ t _ hc.1.2) (fun e0=>?_) hd,?_⟩
    ·have hl':=hl.len;rw [e0,encL_map,List.length_map] at hl';have h2:=hc.2;rw [List.eq_nil_of_length_eq_zero hl'.symm] at h2;cases h2
    ·refine ⟨m,nx,put_mok hm d _,LeS.rle ?_,?_⟩
     ·rw [put_enc];exact (LeS.refl _).put (.of (by rw [SV.enc]))
     ·rw [put_blk]
      cases d <;> exact hf
   ·cases h
 ·cases h
theorem truncS_ok {o:Oper} (hT:T.ok P) (hm:MOk m nx st) (hf:FrOk m st.blk st.fr F) (h:truncS T st o.op=some (r,gd)) (hg:gd.den=true) (hs:memSt st o.dst r=some st') (hd:dok o.dst n=true):MemOk P n F o st st' m nx:=by
 obtain ⟨d,op,ty,ps,af,g⟩:=o;unfold truncS at h;split at h
 ·rename_i e x heq;have heq:op=.box e x:=heq;subst heq;exact boxPk_ok hm hf h hs hd
 ·rename_i t x y heq;have heq:op=.makeSlice t x y:=heq;subst heq;exact makeS_ok hT hm hf h hg hs hd
 ·rename_i t L parts heq;have heq:op=.buildSlice t L parts:=heq;subst heq;exact litS_ok hT hm hf h hs hd
 ·rename_i x y t t' heq;have heq:op=.call ⟨.builtin .append,⟨[x,y]⟩,⟨[t,t']⟩⟩:=heq;subst heq
  cases ht:Nat.beq t' t with
  | false=>rw [ht] at h;cases h
  | true =>
   rw [ht] at h;have:=Nat.eq_of_beq_eq_true ht;subst this;exact appS_ok hT hm hf h hg hs hd
 ·rename_i t x lo hi heq;have heq:op=.slice t x lo hi none:=heq;subst heq;have ey:=enc_ev st m nx x
  have hn:(hi.map st.ev).isNone=hi.isNone:=by cases hi <;> rfl
  split at h
  ·rename_i e hu;split at h
   ·rename_i id ver Z sz b hx hI;split at h
    ·rename_i fr rt xs e' v hb;split at h
     ·rename_i l hh h1 h2
      cases hc:(Nat.beq ver v&&(Nat.beq sz rt.size&&(l.zero?&&st.refs (fun _=>true) (fun i w=>!(Nat.beq i id&&Nat.beq w (v+1)))))) with
      | false=>rw [hc] at h;cases h
      | true =>
       rw [hc] at h;simp only [cond_true,Option.some.injEq,Prod.mk.injEq] at h;obtain ⟨rfl,rfl⟩:=h;simp only [Bool.and_eq_true] at hc;obtain ⟨c1,c2,c3,c4⟩:=hc;have hsz:=Nat.eq_of_beq_eq_true c2;subst hsz;obtain ⟨b1,_⟩:=bndI_ok (m:=m) (nx:=nx) h1;obtain ⟨b2,b3⟩:=bndI_ok (m:=m) (nx:=nx) h2;rw [zero_den c3] at b1;obtain ⟨g1,g2,g3⟩:=bndG_den hg (fun ha=>by rw [b3 ha];exact Int.le_refl _);rw [hx,SV.enc,rowLen_eq hb c1] at ey;have hbb:=enc_blk hm (k:=id) (by rw [hb];simp);rw [hb,SB.enc] at hbb
       have hs:st'=(st.hset id (.row fr rt (.sub xs (.iL .i64 0) hh) e' (v+1))).put d (.osl id (v+1)):=by
        have hs:some (MR.app st d (.upd id (.row fr rt (.sub xs (.iL .i64 0) hh) e' (v+1)) (some (.osl id (v+1)))))=some st':=hs;injection hs with hs
        exact hs.symm
       rw [hs];have g2':(0:Int)≤hh.den:=g2;have g3':(hh.den:Int)≤(List.length xs.den:Int):=g3;refine ⟨_,op_trunc ey hbb (rows_len _).symm b1 b2 (allP_at hT.und hu) (allP_at hT.inf hI) g2' g3' hd,?_⟩;exact trunc_stl d hm hf hb c4 (xs':=.sub xs (.iL .i64 0) hh) (k:=(hh.den:Int).toNat) rfl (Int.toNat_le.2 g3') rfl
     ·cases h
    ·cases h
   ·cases h
  ·cases h
 ·cases h
theorem newArr_ok (hm:MOk m nx st) (hf:FrOk m st.blk st.fr F) {fr:Bool} {rt:Ty} {xs:E D (.list rt)} {e:TypeId} {rows:List (List AV)} {sz:Nat} (hsz:rt.size=sz) (hr:st.refs (nB st) (nR st)=true) (hb:LesRs ((xs.den:List rt.den).map (rt.cells fr)) rows) (d:Option Nat) {L:Nat} (hL:rows.length=L) :
  StL F (MR.app st d (.newA (.row fr rt xs e 0))) (((st.enc m nx).hnew (.row sz rows e)).put d (.elt (st.enc m nx).nx L 0 0)):=by
 subst hsz;obtain ⟨m',nx',h1,h2,h3,h4⟩:=hnew_les (b:=.row fr rt xs e 0) (b':=.row rt.size rows e) hm (.refl _) hf (SB.norm_row _ _ _ _ _) hr (fun m' hc=>.rows hb);refine ⟨m',nx',put_mok h1 d _,LeS.rle ?_,?_⟩
 ·rw [MR.app,put_enc];refine h2.put ?_;have hi:rowLen (st.hnew (.row fr rt xs e 0)).blk st.nx 0=some (List.length xs.den):=by unfold rowLen;rw [hnew_blk,if_pos rfl];rfl
  show Les (SV.enc m' _ (.elt st.nx 0 (.iL .i64 0) 0)) _;rw [SV.enc,hi,h4,←hL,←hb.len,rows_len];exact .refl _
 ·rw [MR.app,put_blk]
  cases d <;> exact h3
theorem chunk_flat (sz:Nat):∀ (k:Nat) (cs:List AV),cs.length=k*sz→(chunk sz k cs).flatten=cs
 | 0,cs,h=>by
  have:cs=[]:=List.eq_nil_of_length_eq_zero (by omega);subst this;rfl
 | k+1,cs,h=>by
  rw [Nat.add_mul,Nat.one_mul] at h;rw [chunk,List.flatten_cons,chunk_flat sz k _ (by rw [List.length_drop];omega),List.take_append_drop]
theorem chunk_row (sz:Nat):∀ (k:Nat) (cs:List AV),cs.length=k*sz→∀ r ∈ chunk sz k cs,r.length=sz
 | 0,cs,h=>by intro r hr;simp [chunk] at hr
 | k+1,cs,h=>by
  rw [Nat.add_mul,Nat.one_mul] at h;intro r hr;rw [chunk] at hr;rcases List.mem_cons.1 hr with rfl | hr
  ·rw [List.length_take];omega
  ·exact chunk_row sz k _ (by rw [List.length_drop];omega) r hr
theorem arrRow_ok {o:Oper} {e:TypeId} {cs:List (SV D)} (hm:MOk m nx st) (hf:FrOk m st.blk st.fr F) (h:arrRow T e cs=some (r,gd)) (hs:memSt st o.dst r=some st')
  (op:∀ (sz:Nat) (rows:List (List AV)),SV.encL m st.blk cs=rows.flatten→0<sz→0<rows.length→rows.length≤maxLen→(∀ r ∈ rows,r.length=sz)→OpV P n o (st.enc m nx) (((st.enc m nx).hnew (.row sz rows e)).put o.dst (.elt (st.enc m nx).nx rows.length 0 0))):MemOk P n F o st st' m nx:=by
 unfold arrRow at h;split at h
 ·rename_i L el hu;split at h
  ·rename_i Z sz b rt hI hty
   cases hc:(Nat.beq rt.size sz&&Nat.blt 0 sz&&Nat.blt 0 L&&Nat.ble L 65536&&Nat.beq cs.length (L*sz)) with
   | false=>rw [hc] at h;cases h
   | true =>
    rw [hc] at h;simp only [cond_true] at h;simp only [Bool.and_eq_true] at hc;obtain ⟨⟨⟨⟨c1,c2⟩,c3⟩,c4⟩,c5⟩:=hc;have c1:=Nat.eq_of_beq_eq_true c1;have c2:0<sz:=by simpa using c2
    have c3:0<L:=by simpa using c3
    have c4:=Nat.le_of_ble_eq_true c4;have c5:=Nat.eq_of_beq_eq_true c5;have hlen:(SV.encL m st.blk cs).length=L*sz:=by rw [encL_length];exact c5
    have key:=op sz (chunk sz L (SV.encL m st.blk cs)) (chunk_flat sz L _ hlen).symm c2 (by rw [chunk_length];exact c3) (by rw [chunk_length];unfold maxLen;omega) (chunk_row sz L _ hlen)
    have fin:∀ fr xs,exRows fr rt (chunkS sz L cs)=some xs→r=.newA (.row fr rt xs e 0)→MemOk P n F o st st' m nx:=by
     intro fr xs hx er;subst er;rw [memSt] at hs
     cases hr:st.refs (nB st) (nR st) with
     | false=>rw [hr] at hs;cases hs
     | true =>
      rw [hr] at hs;injection hs with hs
      subst hs;exact ⟨_,key,newArr_ok hm hf c1 hr (chunkS_at hx) o.dst rfl⟩
    split at h
    ·rename_i xs hx;simp only [Option.some.injEq,Prod.mk.injEq] at h;exact fin _ _ hx h.1.symm
    ·split at h
     ·rename_i xs hx;simp only [Option.some.injEq,Prod.mk.injEq] at h;exact fin _ _ hx h.1.symm
     ·cases h
  ·cases h
 ·cases h
theorem allocA_ok {e:TypeId} (hT:T.ok P) (hm:MOk m nx st) (hf:FrOk m st.blk st.fr F) (h:allocA T e=some (r,gd)) (hs:memSt st d r=some st') (hd:dok d n=true):MemOk P n F ⟨d,.alloc e,ty,ps,af,g⟩ st st' m nx:=by
 unfold allocA at h;split at h
 ·rename_i Z s b h1
  cases hc:allOne (Z.cells.toList.map avOf) with
  | false=>rw [hc] at h;cases h
  | true =>
   rw [hc] at h;simp only [cond_true] at h;refine arrRow_ok hm hf h hs fun sz rows e1 e2 e3 e4 e5=>?_
   rw [zeroS_enc] at e1;exact op_alloc_arr (allP_at hT.inf h1) e1 (by rw [←e1];exact hc) e2 e3 e4 e5 hd
 ·cases h
theorem boxA_ok {e:TypeId} (hm:MOk m nx st) (hf:FrOk m st.blk st.fr F) (h:boxA T st e (st.ev y)=some (r,gd)) (hs:memSt st d r=some st') (hd:dok d n=true):MemOk P n F ⟨d,.box e y,ty,ps,af,g⟩ st st' m nx:=by
 unfold boxA at h
 cases hc:allOneS st (st.ev y).cells with
 | false=>rw [hc] at h;cases h
 | true =>
  rw [hc] at h;simp only [cond_true] at h;refine arrRow_ok hm hf h hs fun sz rows e1 e2 e3 e4 e5=>?_
  exact op_box_arr (by rw [enc_ev,enc_cells,e1]) (by rw [←e1];exact allOneS_enc hc) e2 e3 e4 e5 hd
theorem storeA_ok (hT:T.ok P) (hm:MOk m nx st) (hf:FrOk m st.blk st.fr F) (h:storeA T st t (st.ev y) (st.ev z)=some (r,gd)) (hg:gd.den=true) (hs:memSt st none r=some st'):MemOk P n F ⟨none,.store t y z,ty,ps,af,g⟩ st st' m nx:=by
 have ey:=enc_ev st m nx y;have ez:=enc_ev st m nx z;have hzc:=enc_cells (m:=m) (H:=st.blk) (st.ev z);rw [←ez] at hzc;generalize st.ev y=v at h ey;unfold storeA at h;split at h
 ·rename_i L el Z s b id ver k2 i o hu hI;split at h
  ·rename_i fr rt xs e ver' hb
   cases hc:(Nat.beq ver ver'&&i.zero?&&Nat.beq o 0&&Nat.blt 0 L&&Nat.beq s (L*rt.size)&&allOneS st (st.ev z).cells&&Nat.beq (st.ev z).cells.length s) with
   | false=>rw [hc] at h;cases h
   | true =>
    rw [hc] at h;simp only [cond_true] at h;simp only [Bool.and_eq_true] at hc;obtain ⟨⟨⟨⟨⟨⟨c1,c2⟩,c3⟩,c4⟩,c5⟩,c6⟩,c7⟩:=hc;split at h
    ·rename_i xs' hx;simp only [Option.some.injEq,Prod.mk.injEq] at h;obtain ⟨rfl,rfl⟩:=h;simp only [memSt,Option.some.injEq] at hs;subst hs;have h3:=Nat.eq_of_beq_eq_true c3;subst h3;have c4:0<L:=by simpa using c4
     have c5:=Nat.eq_of_beq_eq_true c5;have c7:=Nat.eq_of_beq_eq_true c7;have hl:(List.length xs.den:Int)=(L:Int):=of_decide_eq_true hg;have hlive:st.blk id≠.dead:=by rw [hb];simp
     have hbb:=enc_blk hm hlive;rw [hb,SB.enc] at hbb;rw [SV.enc,rowLen_eq hb c1,zero_den c2] at ey;have hch:=chunkS_at (m:=m) (H:=st.blk) hx;have hlen:(SV.encL m st.blk (st.ev z).cells).length=L*rt.size:=by rw [encL_length,c7,c5]
     have hfl:=chunk_flat rt.size L _ hlen;have hone:=allOneS_enc (m:=m) c6;refine ⟨_,op_store_arr (rows':=chunk rt.size L (SV.encL m st.blk (st.ev z).cells)) ey hbb (rows_len _).symm (by omega) (by rw [hfl];exact hzc) (by rw [hfl];exact hone) (allP_at hT.inf hI) (by rw [hfl,hlen,c5]) (by rw [chunk_length];omega) (chunk_row rt.size L _ hlen),?_⟩;refine StL.of3 (hset_les hm (.refl _) (by rw [hb];exact SB.norm_row _ _ _ _ _) (SB.norm_row _ _ _ _ _) (memLe_set hb ?_) (refs_all st) ?_ hf)
     ·have h1:=hch.len;rw [chunk_length,List.length_map] at h1;omega
     ·exact .rows hch
    ·cases h
  ·cases h
 ·cases h
theorem copyS_ok {t':TypeId} (hT:T.ok P) (hm:MOk m nx st) (hf:FrOk m st.blk st.fr F) (h:copyS T st t (st.ev y) (st.ev z)=some (r,gd)) (hg:gd.den=true) (hs:memSt st d r=some st') (hd:dok d n=true):MemOk P n F ⟨d,.call ⟨.builtin .copy,⟨[y,z]⟩,⟨[t,t']⟩⟩,ty,ps,af,g⟩ st st' m nx:=by
 have ey:=enc_ev st m nx y;generalize st.ev y=v at h ey;unfold copyS at h;split at h
 ·rename_i e hu;split at h
  ·rename_i Z sz b id ver hI;split at h
   ·rename_i fr rt xs e' v' hb
    cases hc:(Nat.beq ver v'&&(Nat.beq sz rt.size&&rt.flatA)) with
    | false=>rw [hc] at h;cases h
    | true =>
     rw [hc] at h;simp only [cond_true] at h;simp only [Bool.and_eq_true] at hc;obtain ⟨hv,hsz,hfl⟩:=hc;have hsz:=Nat.eq_of_beq_eq_true hsz;subst hsz;split at h
     ·rename_i fr' ys hy;simp only [Option.some.injEq,Prod.mk.injEq] at h;obtain ⟨rfl,rfl⟩:=h;simp only [memSt,Option.some.injEq] at hs;subst hs;have hlive:st.blk id≠.dead:=by rw [hb];simp
      have hbb:=enc_blk hm hlive;rw [hb,SB.enc] at hbb;rw [SV.enc,rowLen_eq hb hv] at ey;have hsrc:=srcC_ok (nx:=nx) hfl hm hg hy;obtain ⟨k,hk⟩:∃ k,k=Nat.min (List.length ys.den) (List.length xs.den):=⟨_,rfl⟩;have hk1:k≤List.length ys.den:=by rw [hk];exact Nat.min_le_left _ _
      have hk2:k≤List.length xs.den:=by rw [hk];exact Nat.min_le_right _ _
      have hkI:(Min.min (List.length ys.den:Int) (List.length xs.den:Int))=(k:Int):=by
       rw [hk];show (Min.min (List.length ys.den:Int) (List.length xs.den:Int))=((Min.min (List.length ys.den) (List.length xs.den):Nat):Int);omega
      have hden:(E.app (.sub ys (.iL .i64 0) (.ib .min (.len ys) (.len xs))) (.sub xs (.ib .min (.len ys) (.len xs)) (.len xs))).den=(ys.den:List rt.den).take k++(xs.den:List rt.den).drop k:=by
       show (((ys.den:List rt.den).take (Min.min (List.length ys.den:Int) (List.length xs.den:Int)).toNat).drop (0:Int).toNat)++(((xs.den:List rt.den).take ((List.length xs.den:Int)).toNat).drop (Min.min (List.length ys.den:Int) (List.length xs.den:Int)).toNat)=_;rw [hkI,Int.toNat_natCast,Int.toNat_natCast,List.take_length];rfl
      have hlen:List.length (E.app (.sub ys (.iL .i64 0) (.ib .min (.len ys) (.len xs))) (.sub xs (.ib .min (.len ys) (.len xs)) (.len xs))).den=List.length xs.den:=by
       rw [hden];show List.length (List.append _ _)=_;rw [List.append_eq,List.length_append,List.length_take,List.length_drop];omega
      have hop:=op_copy (P:=P) (n:=n) (d:=d) (t':=t') (ty:=ty) (ps:=ps) (af:=af) (g:=g) ey hbb (rows_len _).symm rfl hsrc (allP_at hT.und hu) (allP_at hT.inf hI) hd;rw [rows_len,←hk] at hop;refine ⟨_,hop,?_⟩
      have hst:=hset_les (b:=.row (fr&&fr') rt (.app (.sub ys (.iL .i64 0) (.ib .min (.len ys) (.len xs))) (.sub xs (.ib .min (.len ys) (.len xs)) (.len xs))) e' v') (b':=.row rt.size (((ys.den:List rt.den).map (rt.cells fr')).take k++((xs.den:List rt.den).map (rt.cells fr)).drop k) e') hm (.refl _) (by rw [hb];exact SB.norm_row _ _ _ _ _) (SB.norm_row _ _ _ _ _) (memLe_set hb hlen) (refs_all st) (by
       rw [SB.enc];refine .rows ?_;rw [hden,List.map_append,←List.map_take,←List.map_drop]
       exact (rows_le (by cases fr <;> cases fr' <;> rfl) rt _).append (rows_le (by cases fr <;> cases fr' <;> rfl) rt _)) hf
      refine ⟨m,nx,put_mok hst.1 d _,LeS.rle ?_,?_⟩
      ·show LeS (((st.hset id _).put d (.int .i64 (.ib .min (.len ys) (.len xs)))).enc m nx) _;rw [put_enc];refine hst.2.1.put ?_;rw [SV.enc];have:((E.ib IB.min (E.len ys) (E.len xs)).den:Int)=(k:Int):=hkI;rw [this];exact .refl _
      ·show FrOk m ((st.hset id _).put d (.int .i64 (.ib .min (.len ys) (.len xs)))).blk _ _;rw [put_blk];have:=hst.2.2
       cases d <;> exact this
     ·cases h
   ·cases h
  ·cases h
 ·cases h
theorem copyVS_ok {t':TypeId} (hT:T.ok P) (hm:MOk m nx st) (hf:FrOk m st.blk st.fr F) (h:copyVS T st t (st.ev y) (st.ev z)=some (r,gd)) (hg:gd.den=true) (hs:memSt st d r=some st') (hd:dok d n=true):MemOk P n F ⟨d,.call ⟨.builtin .copy,⟨[y,z]⟩,⟨[t,t']⟩⟩,ty,ps,af,g⟩ st st' m nx:=by
 have ey:=enc_ev st m nx y;generalize st.ev y=v at h ey;unfold copyVS at h;split at h
 ·rename_i e hu;split at h
  ·rename_i Z sz b id ver lo hi hI;split at h
   ·rename_i fr rt xs e' v' hb
    cases hc:(Nat.beq ver v'&&(Nat.beq sz rt.size&&rt.flatA)) with
    | false=>rw [hc] at h;cases h
    | true =>
     rw [hc] at h;simp only [cond_true] at h;simp only [Bool.and_eq_true] at hc;obtain ⟨hv,hsz,hfl⟩:=hc;have hsz:=Nat.eq_of_beq_eq_true hsz;subst hsz;split at h
     ·rename_i fr' ys hy;simp only [Option.some.injEq,Prod.mk.injEq] at h;obtain ⟨rfl,rfl⟩:=h;simp only [memSt,Option.some.injEq] at hs;subst hs;obtain ⟨hG,hg⟩:=andE_b hg;obtain ⟨g1,hg⟩:=andE_b hg;obtain ⟨g2,g3⟩:=andE_b hg;have g1:(0:Int)≤(lo.den:Int):=leE_den g1;have g2:(lo.den:Int)≤(hi.den:Int):=leE_den g2;have g3:(hi.den:Int)≤(List.length xs.den:Int):=leE_den g3;have hlive:st.blk id≠.dead:=by rw [hb];simp
      have hbb:=enc_blk hm hlive;rw [hb,SB.enc] at hbb;rw [SV.enc,rowLen_eq hb hv] at ey;have hsrc:=srcC_ok (nx:=nx) hfl hm hG hy;obtain ⟨lo',hlo⟩:∃ l:Nat,(lo.den:Int)=l:=Int.eq_ofNat_of_zero_le g1;obtain ⟨hi',hhi⟩:∃ l:Nat,(hi.den:Int)=l:=Int.eq_ofNat_of_zero_le (Int.le_trans g1 g2);have hlt:(lo.den:Int).toNat=lo':=by rw [hlo];exact Int.toNat_natCast _
      have hht:(hi.den:Int).toNat=hi':=by rw [hhi];exact Int.toNat_natCast _
      have g2:lo'≤hi':=by rw [hlo,hhi] at g2;exact Int.ofNat_le.1 g2
      have g3:hi'≤List.length xs.den:=by rw [hhi] at g3;exact Int.ofNat_le.1 g3
      simp only [hlt,hht] at ey;obtain ⟨k,hk⟩:∃ k,k=Nat.min (List.length ys.den) (hi'-lo'):=⟨_,rfl⟩;have hk1:k≤List.length ys.den:=by rw [hk];exact Nat.min_le_left _ _
      have hk2:k≤hi'-lo':=by rw [hk];exact Nat.min_le_right _ _
      have hkI:(Min.min (List.length ys.den:Int) ((hi.den:Int)-(lo.den:Int)))=(k:Int):=by
       rw [hk,hlo,hhi];show (Min.min (List.length ys.den:Int) ((hi':Int)-(lo':Int)))=((Min.min (List.length ys.den) (hi'-lo'):Nat):Int);omega
      let xs':E D (.list rt):=.app (.sub xs (.iL .i64 0) lo) (.app (.sub ys (.iL .i64 0) (.ib .min (.len ys) (.ib .sub hi lo))) (.sub xs (.ib .add lo (.ib .min (.len ys) (.ib .sub hi lo))) (.len xs)))
      have hden:(xs'.den:List rt.den)=(xs.den:List rt.den).take lo'++((ys.den:List rt.den).take k++(xs.den:List rt.den).drop (lo'+k)):=by
       show (((xs.den:List rt.den).take (lo.den:Int).toNat).drop (0:Int).toNat)++((((ys.den:List rt.den).take (Min.min (List.length ys.den:Int) ((hi.den:Int)-(lo.den:Int))).toNat).drop (0:Int).toNat)++(((xs.den:List rt.den).take ((List.length xs.den:Int)).toNat).drop ((lo.den:Int)+(Min.min (List.length ys.den:Int) ((hi.den:Int)-(lo.den:Int)))).toNat))=_;have e3:((lo':Int)+(k:Int)).toNat=lo'+k:=by omega
       rw [hkI,hlt,hlo,e3,Int.toNat_natCast,Int.toNat_natCast,List.take_length];rfl
      have hlen:List.length xs'.den=List.length xs.den:=by
       rw [hden];show List.length (List.append _ (List.append _ _))=_;simp only [List.append_eq,List.length_append,List.length_take,List.length_drop];omega
      have hop:=op_copyV (P:=P) (n:=n) (d:=d) (t':=t') (ty:=ty) (ps:=ps) (af:=af) (g:=g) ey hbb (rows_len _).symm rfl hsrc (allP_at hT.und hu) (allP_at hT.inf hI) hd;rw [rows_len,←hk] at hop;refine ⟨_,hop,?_⟩
      have hst:=hset_les (b:=.row (fr&&fr') rt xs' e' v') (b':=.row rt.size (((xs.den:List rt.den).map (rt.cells fr)).take lo'++(((ys.den:List rt.den).map (rt.cells fr')).take k++((xs.den:List rt.den).map (rt.cells fr)).drop (lo'+k))) e') hm (.refl _) (by rw [hb];exact SB.norm_row _ _ _ _ _) (SB.norm_row _ _ _ _ _) (memLe_set hb hlen) (refs_all st) (by
       rw [SB.enc];refine .rows ?_;rw [hden,List.map_append,List.map_append,←List.map_take,←List.map_take,←List.map_drop]
       exact (rows_le (by cases fr <;> cases fr' <;> rfl) rt _).append ((rows_le (by cases fr <;> cases fr' <;> rfl) rt _).append (rows_le (by cases fr <;> cases fr' <;> rfl) rt _))) hf
      refine ⟨m,nx,put_mok hst.1 d _,LeS.rle ?_,?_⟩
      ·show LeS (((st.hset id _).put d (.int .i64 (.ib .min (.len ys) (.ib .sub hi lo)))).enc m nx) _;rw [put_enc];refine hst.2.1.put ?_;rw [SV.enc];have:((E.ib IB.min (E.len ys) (E.ib IB.sub hi lo)).den:Int)=(k:Int):=hkI;rw [this];exact .refl _
      ·show FrOk m ((st.hset id _).put d (.int .i64 (.ib .min (.len ys) (.ib .sub hi lo)))).blk _ _;rw [put_blk];have:=hst.2.2
       cases d <;> exact this
     ·cases h
   ·cases h
  ·cases h
 ·cases h
theorem av_one {v:Value} (h:(avOf v).one=true):v.oneCell'=true:=by
 unfold avOf at h
 split at h <;> first | rfl | (cases h;done)
theorem zapS_ok {t':TypeId} (hT:T.ok P) (hm:MOk m nx st) (hf:FrOk m st.blk st.fr F) (h:zapS T st t t' (st.ev y) (st.ev z)=some (r,gd)) (hg:gd.den=true) (hs:memSt st d r=some st') (hd:dok d n=true):MemOk P n F ⟨d,.call ⟨.builtin .append,⟨[y,z]⟩,⟨[t,t']⟩⟩,ty,ps,af,g⟩ st st' m nx:=by
 have ey:=enc_ev st m nx y;have ez:=enc_ev st m nx z;generalize st.ev y=v0 at h ey;generalize st.ev z=u0 at h ez;unfold zapS at h;split at h
 ·rename_i e kn hu hu';split at h
  ·rename_i Z id ver kq L hI;split at h
   ·rename_i fr rt xs e' v hb
    cases hc:(Nat.beq ver v&&(Nat.beq e' e&&(Nat.beq rt.size 1&&(rt.flatA&&(allOne (Z.cells.toList.map avOf)&&Nat.beq Z.cells.toList.length 1))))) with
    | false=>rw [hc] at h;cases h
    | true =>
     rw [hc] at h;simp only [cond_true] at h;simp only [Bool.and_eq_true] at hc;obtain ⟨hv,he,hsz,hfl,h1,hl1⟩:=hc;have he:=Nat.eq_of_beq_eq_true he;have hsz:=Nat.eq_of_beq_eq_true hsz;have hl1:=Nat.eq_of_beq_eq_true hl1;subst he;split at h
     ·rename_i x0 hx0
      cases hr:st.refs (fun _=>true) (fun i w=>!(Nat.beq i id&&Nat.beq w (v+1))) with
      | false=>rw [hr] at h;cases h
      | true =>
       rw [hr] at h;simp only [cond_true,Option.some.injEq,Prod.mk.injEq] at h;obtain ⟨rfl,rfl⟩:=h;simp only [memSt,Option.some.injEq] at hs;subst hs;obtain ⟨g1,hg⟩:=andE_b hg;obtain ⟨g2,g3⟩:=andE_b hg;have g1:(0:Int)≤(L.den:Int):=leE_den g1;have g2:(List.length xs.den:Int)≤500000:=leE_den g2;have g3:(L.den:Int)≤500000:=leE_den g3
       obtain ⟨c,hc⟩:∃ c,Z.cells.toList=[c]:=by
        match hq:Z.cells.toList,hl1 with
        | [c],_=>exact ⟨c,rfl⟩
       have hcell:=exA_ok (m:=m) (H:=st.blk) hx0;rw [zeroS_enc,hc] at hcell;rw [hc] at h1;have h1c:c.oneCell'=true:=av_one (by simpa [allOne] using h1);have hlive:st.blk id≠.dead:=by rw [hb];simp
       have hbb:=enc_blk hm hlive;rw [hb,SB.enc,hsz] at hbb;rw [SV.enc,rowLen_eq hb hv] at ey;rw [SV.enc] at ez
       have hop:=op_append_zerosG (P:=P) (n:=n) (d:=d) (ty:=ty) (ps:=ps) (af:=af) (g:=g) ey hbb (rows_len _).symm ez g1 (allP_at hT.und hu) (allP_at hT.und hu') (allP_at hT.inf hI) hc rfl h1c (by
        rw [rows_len];obtain ⟨l,hl⟩:∃ l:Nat,(L.den:Int)=l:=Int.eq_ofNat_of_zero_le g1;rw [hl] at g3;have hl2:(L.den:Int).toNat=l:=by rw [hl];exact Int.toNat_natCast _
        have g4:l≤500000:=Int.ofNat_le.1 g3;have g5:List.length xs.den≤500000:=Int.ofNat_le.1 g2;rw [hl2]
        exact Nat.add_le_add g5 g4) hd
       rw [rows_len] at hop;refine ⟨_,hop,?_⟩
       have hlen:List.length ((E.app xs (.rep L x0)).den:List rt.den)=List.length xs.den+(L.den:Int).toNat:=by
        show List.length (List.append _ (List.replicate _ _))=_;rw [List.append_eq,List.length_append,List.length_replicate]
       have hnew:rowLen (st.hset id (.row fr rt (.app xs (.rep L x0)) e' (v+1))).blk id (v+1)=some (List.length xs.den+(L.den:Int).toNat):=by
        unfold rowLen;rw [hset_blk,if_pos rfl];simp only [Nat.beq_refl,cond_true];rw [hlen]
       have hle:MemLe m st.blk m (st.hset id (.row fr rt (.app xs (.rep L x0)) e' (v+1))).blk (fun _=>true) (fun i w=>!(Nat.beq i id&&Nat.beq w (v+1))):=by
        refine ⟨fun k _=>.inr ⟨?_,rfl⟩,fun k w hw=>?_⟩
        ·unfold isBox;rw [hset_blk];by_cases e1:id=k
         ·subst e1;rw [if_pos rfl,hb]
         ·rw [if_neg e1]
        ·by_cases e1:id=k
         ·subst e1;have hw:(!(Nat.beq id id&&Nat.beq w (v+1)))=true:=hw;rw [Nat.beq_refl,Bool.true_and] at hw;refine .inl ?_;unfold rowLen;rw [hset_blk,if_pos rfl]
          cases hq:Nat.beq w (v+1) with
          | true=>rw [hq] at hw;cases hw
          | false=>simp only [hq];rfl
         ·refine .inr ⟨?_,rfl⟩;unfold rowLen;rw [hset_blk,if_neg e1]
       have hst:=hset_les (b:=.row fr rt (.app xs (.rep L x0)) e' (v+1)) (b':=.row 1 ((xs.den:List rt.den).map (rt.cells fr)++List.replicate (L.den:Int).toNat [avOf c]) e') hm (.refl _) (by rw [hb];exact SB.norm_row _ _ _ _ _) (SB.norm_row _ _ _ _ _) hle hr (by
        rw [SB.enc,←hsz];refine .rows ?_;show LesRs (((xs.den:List rt.den)++List.replicate (L.den:Int).toNat (x0.den:rt.den)).map (rt.cells fr)) _;rw [List.map_append];refine (rows_le (by cases fr <;> rfl) rt _).append ?_;refine ⟨by rw [List.length_map,List.length_replicate,List.length_replicate],fun i row row' h1 h2=>?_⟩;rw [List.map_replicate,List.getElem?_replicate] at h1;rw [List.getElem?_replicate] at h2;split at h1
        ·rename_i hi;rw [if_pos hi] at h2;injection h1 with h1
         injection h2 with h2
         subst h1;subst h2
         exact hcell
        ·cases h1) hf
       refine ⟨m,nx,put_mok hst.1 d _,LeS.rle ?_,?_⟩
       ·show LeS (((st.hset id _).put d (.osl id (v+1))).enc m nx) _;rw [put_enc];refine hst.2.1.put ?_;rw [SV.enc,hnew];exact .refl _
       ·show FrOk m ((st.hset id _).put d (.osl id (v+1))).blk _ _;rw [put_blk];have:=hst.2.2
        cases d <;> exact this
     ·cases h
   ·cases h
  ·cases h
 ·cases h
theorem getD_set_self {α:Type} {l:List α} {k:Nat} {x d:α} (h:k<l.length):(l.set k x).getD k d=x:=by
 rw [List.getD_eq_getElem?_getD,List.getElem?_set_self h];rfl
theorem getD_set_ne {α:Type} {l:List α} {k i:Nat} {x d:α} (h:i≠k):(l.set k x).getD i d=l.getD i d:=by
 rw [List.getD_eq_getElem?_getD,List.getD_eq_getElem?_getD,List.getElem?_set_ne (Ne.symm h)]
theorem storeArn_ok (hT:T.ok P) (hm:MOk m nx st) (hf:FrOk m st.blk st.fr F) (h:storeArn T st t (st.ev y) (st.ev z)=some (r,gd)) (hg:gd.den=true) (hs:memSt st none r=some st'):MemOk P n F ⟨none,.store t y z,ty,ps,af,g⟩ st st' m nx:=by
 have ey:=enc_ev st m nx y;have ez:=enc_ev st m nx z;have hzc:=enc_cells (m:=m) (H:=st.blk) (st.ev z);rw [←ez] at hzc;have hone:allOneS st (st.ev z).cells=true→allOne ((st.enc m nx).ev z).cells=true:=fun h=>by rw [hzc];exact allOneS_enc h
 generalize st.ev y=v at h ey;unfold storeArn at h;generalize (st.ev z).cells=vs at h hzc hone;split at h
 ·rename_i Z s b e k i hI;split at h
  ·rename_i rt xs e' hb
   cases hc:(allOneS st vs&&Nat.beq vs.length s&&Nat.ble s rt.size) with
   | false=>rw [hc] at h;cases h
   | true =>
    rw [hc] at h;simp only [cond_true] at h;simp only [Bool.and_eq_true] at hc;obtain ⟨⟨c1,c2⟩,c3⟩:=hc;have hls:=Nat.eq_of_beq_eq_true c2;have h1:=hone c1;rw [hzc] at h1;split at h
    ·rename_i x hx;simp only [Option.some.injEq,Prod.mk.injEq] at h;obtain ⟨rfl,rfl⟩:=h;simp only [memSt,Option.some.injEq] at hs;subst hs;obtain ⟨a1,a2,a3,a4,a5⟩:=arn_at hm hb hg;rw [SV.enc,a4] at ey;have hcell:=exA_ok (m:=m) (H:=st.blk) hx;rw [setRS_enc,cellsE_enc] at hcell;have hk:(e.aixK'.den:Int).toNat=(e.den:Int×Int).1.toNat:=by rw [aixK'_den]
     have hrow:((E.at xs e.aixK').den:List rt.den)=(xs.den:List (List rt.den)).getD (e.den:Int×Int).1.toNat []:=by
      show (xs.den:List (List rt.den)).getD (e.aixK'.den:Int).toNat []=_;rw [hk]
     have hnew:((E.set xs e.aixK' (.set (.at xs e.aixK') i x)).den:List (List rt.den))=(xs.den:List (List rt.den)).set (e.den:Int×Int).1.toNat (((E.at xs e.aixK').den:List rt.den).set (i.den:Int).toNat x.den):=by
      show (xs.den:List (List rt.den)).set (e.aixK'.den:Int).toNat _=_;rw [hk];rfl
     refine ⟨_,op_store_elt' ey a2 (rows_len _).symm (fun row' hr=>at_row hr) hzc h1 (allP_at hT.inf hI) (by rw [encL_length];exact hls) (by rw [Nat.zero_add];exact Nat.le_of_ble_eq_true c3),?_⟩;obtain ⟨q1,q2,q3⟩:=hsetA_les (xs':=.set xs e.aixK' (.set (.at xs e.aixK') i x)) hm hf hb a5 (fun j hj=>by rw [hnew];exact getD_set_ne hj);refine ⟨m,nx,q1,(LeS.rle ?_),q3⟩;refine q2.trans ⟨fun d=>.refl _,fun j=>?_,rfl⟩;show LesB (look .dead ((_,arnRow rt e' _ _)::(st.enc m nx).heap) j) (look .dead ((_,_)::(st.enc m nx).heap) j);rw [look_cons,look_cons];split
     ·unfold arnRow;rw [hnew];by_cases hl:(e.den:Int×Int).1.toNat<(xs.den:List (List rt.den)).length
      ·rw [getD_set_self hl];exact .rows (rows_set (fr:=false) (fr':=false) rfl hcell)
      ·have he:((E.at xs e.aixK').den:List rt.den)=[]:=by
        rw [hrow,List.getD_eq_getElem?_getD,List.getElem?_eq_none (by omega)];rfl
       have e3:((xs.den:List (List rt.den)).set (e.den:Int×Int).1.toNat (((E.at xs e.aixK').den:List rt.den).set (i.den:Int).toNat x.den)).getD (e.den:Int×Int).1.toNat []=[]:=by
        rw [List.getD_eq_getElem?_getD,List.getElem?_eq_none (by rw [List.length_set];omega)];rfl
       rw [e3,he];exact .refl _
     ·exact .refl _
    ·cases h
  ·cases h
 ·cases h
theorem appArn_ok (hT:T.ok P) (hm:MOk m nx st) (hf:FrOk m st.blk st.fr F) (h:appArn T st t (st.ev y) (st.ev z)=some (r,gd)) (hg:gd.den=true) (hs:memSt st d r=some st') (hd:dok d n=true):MemOk P n F ⟨d,.call ⟨.builtin .append,⟨[y,z]⟩,⟨[t,t]⟩⟩,ty,ps,af,g⟩ st st' m nx:=by
 have ey:=enc_ev st m nx y;generalize st.ev y=v at h ey;unfold appArn at h;split at h
 ·rename_i el e hu;split at h
  ·rename_i Z sz b hI;split at h
   ·rename_i rt xs e' hb
    cases hc:(Nat.beq Z.cells.size sz&&(Nat.beq e' el&&(Nat.beq sz rt.size&&rt.flatA))) with
    | false=>rw [hc] at h;cases h
    | true =>
     rw [hc] at h;simp only [cond_true] at h;simp only [Bool.and_eq_true] at hc;obtain ⟨c1,c2,c3,hfl⟩:=hc;have hz:=Nat.eq_of_beq_eq_true c1;have he:=Nat.eq_of_beq_eq_true c2;have hsz:=Nat.eq_of_beq_eq_true c3;subst he;subst hsz;split at h
     ·rename_i fr' ys hy;simp only [Option.some.injEq,Prod.mk.injEq] at h;obtain ⟨rfl,rfl⟩:=h;simp only [memSt,Option.some.injEq] at hs;subst hs;obtain ⟨hg1,hg2⟩:=andE_b hg;obtain ⟨hgA,hgl⟩:=andE_b hg1;obtain ⟨hG,hg⟩:=andE_b hg2;obtain ⟨a1,a2,a3,a4,a5⟩:=arn_at hm hb hgA;have hsrc:=srcC_ok (nx:=nx) hfl hm hG hy;have hk:(e.aixK'.den:Int).toNat=(e.den:Int×Int).1.toNat:=by rw [aixK'_den]
      have hl:(e.den:Int×Int).1.toNat<(xs.den:List (List rt.den)).length:=by
       have h1:(e.den:Int×Int).1<((List.length (xs.den:List (List rt.den)):Nat):Int):=by rw [←aixK'_den];exact of_decide_eq_true hgl
       have h0:(0:Int)≤(e.den:Int×Int).1:=by rw [←aixK'_den];exact leF_den (andE_b hgA).1
       exact (Int.toNat_lt h0).2 h1
      have hrow:((E.at xs e.aixK').den:List rt.den)=(xs.den:List (List rt.den)).getD (e.den:Int×Int).1.toNat []:=by
       show (xs.den:List (List rt.den)).getD (e.aixK'.den:Int).toNat []=_;rw [hk]
      have hnew:((E.set xs e.aixK' (.app (.at xs e.aixK') ys)).den:List (List rt.den))=(xs.den:List (List rt.den)).set (e.den:Int×Int).1.toNat (((E.at xs e.aixK').den:List rt.den)++(ys.den:List rt.den)):=by
       show (xs.den:List (List rt.den)).set (e.aixK'.den:Int).toNat _=_;rw [hk];rfl
      rw [SV.enc,a1] at ey;have hg:=leE_den hg;have hg:((List.length ((E.at xs e.aixK').den:List rt.den):Int)+(List.length ys.den:Int))*((bmul b:Nat):Int)≤140737488355328:=hg;have h63:(List.length ((E.at xs e.aixK').den:List rt.den)+List.length ys.den)*bmul b≤140737488355328:=nat_of2 hg;refine ⟨_,op_append ey a2 rfl (rows_len _).symm rfl hsrc (allP_at hT.und hu) (allP_at hT.inf hI) hz (by rw [rows_len,rows_len];exact h63) hd,?_⟩;obtain ⟨q1,q2,q3⟩:=hsetA_les (xs':=.set xs e.aixK' (.app (.at xs e.aixK') ys)) hm hf hb a5 (fun j hj=>by rw [hnew];exact getD_set_ne hj);refine ⟨m,nx,put_mok q1 d _,LeS.rle ?_,?_⟩
      ·show LeS (((st.hset 0 _).put d (.aosl (.aixI e.aixK' (.ib .add e.aixN' (.len ys))))).enc m nx) _;rw [put_enc];refine LeS.put ?_ ?_
       ·refine q2.trans ⟨fun d=>.refl _,fun j=>?_,rfl⟩;show LesB (look .dead ((_,arnRow rt e' _ _)::(st.enc m nx).heap) j) (look .dead ((_,_)::(st.enc m nx).heap) j);rw [look_cons,look_cons];split
        ·unfold arnRow;rw [hnew,getD_set_self hl,List.map_append];exact .rows ((rows_le (fr:=false) (fr':=false) (by rfl) rt _).append (rows_le (by cases fr' <;> rfl) rt _))
        ·exact .refl _
       ·rw [SV.enc]
        have hn:((E.aixI e.aixK' (.ib .add e.aixN' (.len ys))).den:Int×Int)=((e.den:Int×Int).1,(e.den:Int×Int).2+(List.length ys.den:Int)):=by
         show ((e.aixK'.den:Int),(e.aixN'.den:Int)+(List.length ys.den:Int))=_;rw [aixK'_den,aixN'_den]
        have hr:aixAV ((e.den:Int×Int).1,(e.den:Int×Int).2+(List.length ys.den:Int))=.osl (e.den:Int×Int).1.toNat (((e.den:Int×Int).2+(List.length ys.den:Int)).toNat):=by
         have h0:(decide (0≤(e.den:Int×Int).1)&&decide ((e.den:Int×Int).1<(bigA:Int)))=true:=by
          have:=a1;unfold aixAV at this
          cases hq:(decide (0≤(e.den:Int×Int).1)&&decide ((e.den:Int×Int).1<(bigA:Int))) with
          | true=>rfl
          | false=>rw [hq] at this;cases this
         unfold aixAV;simp only;rw [h0];rfl
        have g3:(e.den:Int×Int).2=((List.length ((E.at xs e.aixK').den:List rt.den):Nat):Int):=(aixN'_den e).symm.trans (of_decide_eq_true (andE_b (andE_b hgA).2).2)
        have hlen:((e.den:Int×Int).2+(List.length ys.den:Int)).toNat=(((E.at xs e.aixK').den:List rt.den).map (rt.cells false)).length+((ys.den:List rt.den).map (rt.cells fr')).length:=by
         rw [rows_len,rows_len,g3,←Int.natCast_add,Int.toNat_natCast]
        rw [hn,hr,hlen];exact .refl _
      ·show FrOk m ((st.hset 0 _).put d (.aosl (.aixI e.aixK' (.ib .add e.aixN' (.len ys))))).blk _ _;rw [put_blk]
       cases d <;> exact q3
     ·cases h
   ·cases h
  ·cases h
 ·cases h
theorem mem_ok {o:Oper} (hT:T.ok P) (hm:MOk m nx st) (hf:FrOk m st.blk st.fr F) (h:mem T st o.dst o.op=some (r,gd)) (hg:gd.den=true) (hs:memSt st o.dst r=some st') (hd:dok o.dst n=true):MemOk P n F o st st' m nx:=by
 unfold mem at h;split at h
 ·rename_i r' h0;injection h with h
  subst h;obtain ⟨d,op,ty,ps,af,g⟩:=o;have hd:dok d n=true:=hd;simp only at h0 hs;unfold memN at h0;split at h0
  ·exact allocA_ok hT hm hf h0 hs hd
  ·exact boxA_ok hm hf h0 hs hd
  ·split at h0
   ·exact storeA_ok hT hm hf h0 hg hs
   ·cases h0
  ·rename_i x y t t';unfold copyB at h0;split at h0
   ·exact copyVS_ok hT hm hf h0 hg hs hd
   ·exact copyS_ok hT hm hf h0 hg hs hd
  ·exact zapS_ok hT hm hf h0 hg hs hd
  ·cases h0
 ·split at h
  ·rename_i r0 h0;injection h with h
   subst h;exact mem0_ok hT hm hf h0 hg hs hd
  ·obtain ⟨d,op,ty,ps,af,g⟩:=o;have hd:dok d n=true:=hd;simp only at h;unfold memArn at h;split at h
   ·split at h
    ·exact storeArn_ok hT hm hf h hg hs
    ·cases h
   ·rename_i x y t t' _ _
    cases ht:Nat.beq t' t with
    | false=>rw [ht] at h;cases h
    | true =>
     rw [ht] at h;have:=Nat.eq_of_beq_eq_true ht;subst this;exact appArn_ok hT hm hf h hg hs hd
   ·cases h
end
end Go.Proofs.Ytedmffbhklgloaa
/- Decompiling: cuts: what is carried through a place of the code,what is kept there as it is. No program in sight. -/
namespace Go.Proofs.Ytedmffbhklgloaa
open Go Go.RowKit

inductive SK where
 | any
 | und
 | int (k:IntKind)
 | bool
 | str
 | nilp
 | nils
 | nilf
 | ro (fr:Bool) (t:Ty)
 | pk (fr:Bool) (t:Ty) (off:Nat)
 | osl (b ver:Nat)
 | box (b off:Nat)
 | elt (b ver:Nat) (k:IntKind) (off:Nat)
 | arr (b ver off:Nat)
 | agg (l:List SK)
 | tup (l:List SK)
 | fn (f:FuncId) (l:List SK)
 | aosl
mutual
def SK.ty:SK→Ty
 | .int k=>.int k
 | .bool=>.bool
 | .str=>.str
 | .ro _ t=>.list t
 | .pk _ t _=>t
 | .elt _ _ k _=>.int k
 | .agg l=>SK.tyL l
 | .tup l=>SK.tyL l
 | .fn _ l=>SK.tyL l
 | .aosl=>.aix
 | _=>.unit
def SK.tyL:List SK→Ty
 | []=>.unit
 | s::l=>SK.tyC s.ty l.isEmpty (SK.tyL l)
def SK.tyC (a:Ty) (last:Bool) (b:Ty):Ty:=match last with
 | true=>a
 | false=>.pair a b
end
def mpI (mp:List (Nat×Nat)) (b:Nat):Nat:=match lk mp b with
 | some i=>i
 | none=>b
section
variable {V:Ty→Type}
def isBoxS (b:SB V):Bool:=match b with
 | .box ..=>true
 | _=>false
def isVer (b:SB V) (ver:Nat):Bool:=match b with
 | .row _ _ _ _ v=>Nat.beq ver v
 | _=>false
def pairC {a b:Ty} (last:Bool) (x:E V a) (y:E V b):E V (SK.tyC a last b):=match last with
 | true=>x
 | false=>.pair x y
def fstC {a b:Ty} (last:Bool) (x:E V (SK.tyC a last b)):E V a:=match last,x with
 | true,x=>x
 | false,x=>.fst' x
def sndC {a b:Ty} (last:Bool) (h:last=true→b=.unit) (x:E V (SK.tyC a last b)):E V b:=match last,h,x with
 | true,h,_=>(h rfl).symm ▸ .uni
 | false,_,x=>.snd' x
def prjInt (k:IntKind) (x:SV V):Option (E V (.int k)):=match x with
 | .int k' e=>if h:k'=k then some (h ▸ e) else none
 | _=>none
def prjBool (x:SV V):Option (E V .bool):=match x with
 | .bool e=>some e
 | _=>none
def prjStr (x:SV V):Option (E V .str):=match x with
 | .str e=>some e
 | _=>none
def uniIf (c:Bool):Option (E V .unit):=bif c then some .uni else none
def isUnd (x:SV V):Bool:=match x with
 | .und=>true
 | _=>false
def isNilp (x:SV V):Bool:=match x with
 | .nilp=>true
 | _=>false
def isNils (x:SV V):Bool:=match x with
 | .nils=>true
 | _=>false
def isNilf (x:SV V):Bool:=match x with
 | .nilf=>true
 | _=>false
def prjRo (fr:Bool) (t:Ty) (x:SV V):Option (E V (.list t)):=match x with
 | .ro fr' t' e=>bif !fr||fr' then (match Ty.eqd t' t with
  | some ⟨h⟩=>some (h ▸ e)
  | none=>none) else none
 | .nils=>some (.nil t)
 | _=>none
def prjPk (fr:Bool) (t:Ty) (o:Nat) (x:SV V):Option (E V t):=match x with
 | .pk fr' t' e o'=>bif (fr==fr')&&Nat.beq o o' then (match Ty.eqd t' t with
  | some ⟨h⟩=>some (h ▸ e)
  | none=>none) else none
 | _=>none
def isOsl (H:Nat→SB V) (mp:List (Nat×Nat)) (b:Nat) (x:SV V):Bool:=match x with
 | .osl id ver=>Nat.beq id (mpI mp b)&&isVer (H id) ver
 | _=>false
def isBoxA (H:Nat→SB V) (mp:List (Nat×Nat)) (b o:Nat) (x:SV V):Bool:=match x with
 | .box id o'=>Nat.beq id (mpI mp b)&&Nat.beq o o'&&isBoxS (H id)
 | _=>false
def prjElt (H:Nat→SB V) (mp:List (Nat×Nat)) (b:Nat) (k:IntKind) (o:Nat) (x:SV V):Option (E V (.int k)):=match x with
 | .elt (k:=k') id ver i o'=>bif Nat.beq id (mpI mp b)&&Nat.beq o o'&&isVer (H id) ver then (if h:k'=k then some (h ▸ i) else none) else none
 | _=>none
def isArr (H:Nat→SB V) (mp:List (Nat×Nat)) (b o:Nat) (x:SV V):Bool:=match x with
 | .elt id ver i o'=>Nat.beq id (mpI mp b)&&Nat.beq o o'&&isVer (H id) ver&&i.zero?
 | _=>false
def prjA (x:SV V):Option (E V .aix):=match x with
 | .aosl e=>some e
 | .nils=>some (.aixI (.iL .i64 (-1)) (.iL .i64 0))
 | _=>none
def inAgg {α:Type} (x:SV V) (f:List (SV V)→Option α):Option α:=match x with
 | .agg cs=>f cs
 | _=>none
def inTup {α:Type} (x:SV V) (f:List (SV V)→Option α):Option α:=match x with
 | .tup cs=>f cs
 | _=>none
def inFn {α:Type} (F:FuncId) (x:SV V) (f:List (SV V)→Option α):Option α:=match x with
 | .fn F' cs=>bif Nat.beq F F' then f cs else none
 | _=>none
mutual
def prjK (H:Nat→SB V) (mp:List (Nat×Nat)):(s:SK)→SV V→Option (E V s.ty)
 | .any,_=>some .uni
 | .und,x=>uniIf (isUnd x)
 | .int k,x=>prjInt k x
 | .bool,x=>prjBool x
 | .str,x=>prjStr x
 | .nilp,x=>uniIf (isNilp x)
 | .nils,x=>uniIf (isNils x)
 | .nilf,x=>uniIf (isNilf x)
 | .ro fr t,x=>prjRo fr t x
 | .pk fr t o,x=>prjPk fr t o x
 | .osl b _,x=>uniIf (isOsl H mp b x)
 | .box b o,x=>uniIf (isBoxA H mp b o x)
 | .elt b _ k o,x=>prjElt H mp b k o x
 | .arr b _ o,x=>uniIf (isArr H mp b o x)
 | .agg l,x=>inAgg x (prjL H mp l)
 | .tup l,x=>inTup x (prjL H mp l)
 | .fn f l,x=>inFn f x (prjL H mp l)
 | .aosl,x=>prjA x
def prjL (H:Nat→SB V) (mp:List (Nat×Nat)):(l:List SK)→List (SV V)→Option (E V (SK.tyL l))
 | [],[]=>some .uni
 | [],_::_=>none
 | _::_,[]=>none
 | s::l,c::cs=>match prjK H mp s c,prjL H mp l cs with
  | some x,some y=>some (pairC l.isEmpty x y)
  | _,_=>none
end
theorem tyL_nil {l:List SK} (h:l.isEmpty=true):SK.tyL l=.unit:=by
 cases l with
 | nil=>rfl
 | cons _ _=>cases h
mutual
def injK:(s:SK)→E V s.ty→SV V
 | .any,_=>.any
 | .und,_=>.und
 | .int k,e=>.int k e
 | .bool,e=>.bool e
 | .str,e=>.str e
 | .nilp,_=>.nilp
 | .nils,_=>.nils
 | .nilf,_=>.nilf
 | .ro fr t,e=>.ro fr t e
 | .pk fr t o,e=>.pk fr t e o
 | .osl b v,_=>.osl b v
 | .box b o,_=>.box b o
 | .elt b v _ o,e=>.elt b v e o
 | .arr b v o,_=>.elt (k:=.i64) b v (.iL .i64 0) o
 | .agg l,e=>.agg (injL l e)
 | .tup l,e=>.tup (injL l e)
 | .fn f l,e=>.fn f (injL l e)
 | .aosl,e=>.aosl e
def injL:(l:List SK)→E V (SK.tyL l)→List (SV V)
 | [],_=>[]
 | s::l,e=>injK s (fstC l.isEmpty e)::injL l (sndC l.isEmpty tyL_nil e)
end
end
inductive Itm where
 | reg (d:Nat) (s:SK)
 | box (b:Nat) (l:List SK) (e:TypeId)
 | row (b:Nat) (fr:Bool) (t:Ty) (e:TypeId) (ver:Nat)
 | arn (t:Ty) (e:TypeId)
def Itm.ty:Itm→Ty
 | .reg _ s=>s.ty
 | .box _ l _=>SK.tyL l
 | .row _ _ t _ _=>.list t
 | .arn t _=>.list (.list t)
def itmsTy:List Itm→Ty
 | []=>.unit
 | i::l=>SK.tyC i.ty l.isEmpty (itmsTy l)
theorem itmsTy_nil {l:List Itm} (h:l.isEmpty=true):itmsTy l=.unit:=by
 cases l with
 | nil=>rfl
 | cons _ _=>cases h
structure Sig where
 keep:List Nat
 keepB:List Nat
 stat:List (Nat×SK)
 items:List Itm
 ex:Nat
 nl:List (Nat×Ty×TypeId)
section
variable {V:Ty→Type}
def prjI (st:SSt V) (mp:List (Nat×Nat)):(i:Itm)→Option (E V i.ty)
 | .reg d s=>prjK st.blk mp s (st.get d)
 | .box b l e=>match st.blk (mpI mp b) with
  | .box cs e'=>bif Nat.beq e e' then prjL st.blk mp l cs else none
  | _=>none
 | .row b fr t e _=>match st.blk (mpI mp b) with
  | .row fr' t' xs e' _=>bif Nat.beq e e'&&(!fr||fr') then (match Ty.eqd t' t with
   | some ⟨h⟩=>some (h ▸ xs)
   | none=>none) else none
  | _=>none
 | .arn t e=>match st.blk 0 with
  | .arn t' xs e'=>bif Nat.beq e e'&&Nat.beq (mpI mp 0) 0 then (match Ty.eqd t' t with
   | some ⟨h⟩=>some (h ▸ xs)
   | none=>none) else none
  | _=>none
def prjIs (st:SSt V) (mp:List (Nat×Nat)):(l:List Itm)→Option (E V (itmsTy l))
 | []=>some .uni
 | i::l=>match prjI st mp i,prjIs st mp l with
  | some x,some y=>some (pairC l.isEmpty x y)
  | _,_=>none
def injR:(l:List Itm)→E V (itmsTy l)→List (Nat×SV V)
 | [],_=>[]
 | .reg d s::l,e=>(d,injK s (fstC l.isEmpty e))::injR l (sndC l.isEmpty itmsTy_nil e)
 | .box ..::l,e=>injR l (sndC l.isEmpty itmsTy_nil e)
 | .row ..::l,e=>injR l (sndC l.isEmpty itmsTy_nil e)
 | .arn ..::l,e=>injR l (sndC l.isEmpty itmsTy_nil e)
def injH:(l:List Itm)→E V (itmsTy l)→List (Nat×SB V)
 | [],_=>[]
 | .reg ..::l,e=>injH l (sndC l.isEmpty itmsTy_nil e)
 | .box b ks ty::l,e=>(b,.box (injL ks (fstC l.isEmpty e)) ty)::injH l (sndC l.isEmpty itmsTy_nil e)
 | .row b fr t ty v::l,e=>(b,.row fr t (fstC l.isEmpty e) ty v)::injH l (sndC l.isEmpty itmsTy_nil e)
 | .arn t ty::l,e=>(0,.arn t (fstC l.isEmpty e) ty)::injH l (sndC l.isEmpty itmsTy_nil e)
def injS (s:SK):SV V:=match Ty.eqd .unit s.ty with
 | some ⟨h⟩=>injK s (h ▸ .uni)
 | none=>.any
def statR (l:List (Nat×SK)):List (Nat×SV V):=l.map fun p=>(p.1,injS p.2)
def keepR (st:SSt V) (l:List Nat):List (Nat×SV V):=l.map fun d=>(d,st.get d)
def keepH (st:SSt V) (l:List Nat):List (Nat×SB V):=l.map fun b=>(b,st.blk b)
def inj (st:SSt V) (sg:Sig) (e:E V (itmsTy sg.items)):SSt V :=
 ⟨statR sg.stat++injR sg.items e,keepR st sg.keep++st.kp,injH sg.items e,keepH st sg.keepB++st.hk,st.fr,st.nx+sg.ex⟩
def matB (d:Nat):Option (Nat×Nat):=bif Nat.blt d 1000000 then none else some ((d-1000000) / 1000,(d-1000000) % 1000)
def mat:List (Nat×Ty×TypeId)→SSt V→SSt V
 | [],st=>st
 |(d,t,e)::l,st=>match matB d with
  | none=>(match st.get d with
   | .nils=>bif Nat.blt 0 t.size&&(st.refs (fun id=>!Nat.beq id st.nx) (fun id _=>!Nat.beq id st.nx)) then mat l ((st.hnew (.row true t (.nil t) e 0)).put (some d) (.osl st.nx 0)) else mat l st
   | _=>mat l st)
  | some (id,k)=>(match st.blk id with
   | .box cs e'=>match cs[k]? with
    | some .nils=>bif Nat.blt 0 t.size&&(st.refs (fun id=>!Nat.beq id st.nx) (fun id _=>!Nat.beq id st.nx))&&SV.refsL (fun id=>!Nat.beq id st.nx) (fun id _=>!Nat.beq id st.nx) cs then mat l ((st.hnew (.row true t (.nil t) e 0)).hset id (.box (setRS cs k [.osl st.nx 0]) e')) else mat l st
    | _=>mat l st
   | _=>mat l st)
def lay (st:SSt V) (sg:Sig):SSt V :=
 ⟨st.regs.filter fun p=>!hasN sg.keep p.1,keepR st sg.keep++st.kp,st.heap.filter fun p=>!hasN sg.keepB p.1,keepH st sg.keepB++st.hk,st.fr,st.nx⟩
def unlay (st:SSt V) (st':SSt V) (sg:Sig):SSt V :=
 ⟨st'.regs++keepR st sg.keep,st.kp,st'.heap++keepH st sg.keepB,st.hk,st.fr,st'.nx⟩
def itemB:List Itm→List Nat
 | []=>[]
 | .reg ..::l=>itemB l
 | .box b ..::l=>b::itemB l
 | .row b ..::l=>b::itemB l
 | .arn ..::l=>0::itemB l
def disj (l m:List Nat):Bool:=l.all fun a=>!hasN m a
def nodupN:List Nat→Bool
 | []=>true
 | a::l=>!hasN l a&&nodupN l
def mapK (mp:List (Nat×Nat)) (b id:Nat):List (Nat×Nat):=match lk mp b with
 | some _=>mp
 | none=>(b,id)::mp
mutual
def mapS (mp:List (Nat×Nat)):SK→SV V→List (Nat×Nat)
 | .osl b _,.osl id _=>mapK mp b id
 | .box b _,.box id _=>mapK mp b id
 | .elt b _ _ _,.elt id _ _ _=>mapK mp b id
 | .arr b _ _,.elt id _ _ _=>mapK mp b id
 | .agg l,.agg cs=>mapL mp l cs
 | .tup l,.tup cs=>mapL mp l cs
 | .fn _ l,.fn _ cs=>mapL mp l cs
 | _,_=>mp
def mapL (mp:List (Nat×Nat)):List SK→List (SV V)→List (Nat×Nat)
 | s::l,c::cs=>mapL (mapS mp s c) l cs
 | _,_=>mp
end
def mapSt (st:SSt V):List (Nat×SK)→List (Nat×Nat)→List (Nat×Nat)
 | [],mp=>mp
 |(d,s)::l,mp=>mapSt st l (mapS mp s (st.get d))
def mapIs (st:SSt V):List Itm→List (Nat×Nat)→List (Nat×Nat)
 | [],mp=>mp
 | .reg d s::l,mp=>mapIs st l (mapS mp s (st.get d))
 | .box b ks _::l,mp=>mapIs st l (match st.blk (mpI mp b) with
  | .box cs _=>mapL mp ks cs
  | _=>mp)
 | .row ..::l,mp=>mapIs st l mp
 | .arn ..::l,mp=>mapIs st l mp
def mapOf (st:SSt V) (sg:Sig):List (Nat×Nat):=(mapIs st sg.items (mapSt st sg.stat [])).filter fun p=>hasN (itemB sg.items) p.1
def cutB (Hs:Nat→SB V) (mp:List (Nat×Nat)) (H:Nat→SB V) (id:Nat):Bool:=!isBoxS (Hs id)||(Nat.beq (mpI mp id) id&&isBoxS (H id))
def cutR (Hs:Nat→SB V) (mp:List (Nat×Nat)) (H:Nat→SB V) (id v:Nat):Bool:=!isVer (Hs id) v||(Nat.beq (mpI mp id) id&&isVer (H id) v)
def cutOk (base:SSt V) (sg:Sig) (mp:List (Nat×Nat)) (st:SSt V) (Hs:Nat→SB V):Bool :=
 disj (st.regs.map (·.1)) ((keepR base sg.keep++base.kp).map (·.1)) &&
 (disj (st.heap.map (·.1)) ((keepH base sg.keepB++base.hk).map (·.1)) &&
 ((sg.stat.all fun p=>(Ty.eqd .unit p.2.ty).isSome&&(prjK st.blk mp p.2 (st.get p.1)).isSome) &&
 (nodupN (itemB sg.items++(keepH base sg.keepB++base.hk).map (·.1)) &&
 (nodupN ((itemB sg.items).map (mpI mp)++(keepH base sg.keepB++base.hk).map (·.1)) &&
 (((itemB sg.items).all fun b=>Nat.blt b (base.nx+sg.ex)) &&
 ((mp.all fun p=>hasN (itemB sg.items) p.1) &&
 (refsR (cutB Hs mp st.blk) (cutR Hs mp st.blk) (keepR base sg.keep++base.kp) &&
 (refsH (cutB Hs mp st.blk) (cutR Hs mp st.blk) (keepH base sg.keepB++base.hk) &&
 (refsF (cutB Hs mp st.blk) (cutR Hs mp st.blk) base.fr &&
 ((keepH base sg.keepB++base.hk).all fun p=>Nat.blt p.1 base.nx))))))))))
def arr (base:SSt V) (sg:Sig) (mp:List (Nat×Nat)) (st:SSt V):Option (E V (itmsTy sg.items)) :=
 match prjIs st mp sg.items with
 | none=>none
 | some e=>bif cutOk base sg mp st (inj base sg e).blk then some e else none
end
theorem pairC_den {a b:Ty} (last:Bool) (x:E D a) (y:E D b) (x':E D (SK.tyC a last b)) (h:x'.den=(pairC last x y).den):(fstC last x').den=x.den:=by
 cases last with
 | true=>exact h
 | false=>exact (fst'_den (a:=a) (b:=b) x').trans (congrArg Prod.fst h)
theorem den_uni {t:Ty} (h:t=.unit) (x y:t.den):x=y:=by subst h;rfl
theorem sndC_den {a b:Ty} (last:Bool) (x:E D a) (y:E D b) (x':E D (SK.tyC a last b)) (h:x'.den=(pairC last x y).den) (hl:last=true→b=.unit):(sndC last hl x').den=y.den:=by
 cases last with
 | true=>exact den_uni (hl rfl) _ _
 | false=>exact (snd'_den (a:=a) (b:=b) x').trans (congrArg Prod.snd h)
theorem uniIf_some {c:Bool} {e:E D .unit} (h:uniIf c=some e):c=true:=by
 cases c with
 | true=>rfl
 | false=>cases h
structure CutM (H:Nat→SB D) (Hs:Nat→SB D) (mp:List (Nat×Nat)):Prop where
 row:∀ b v n id ver,rowLen Hs b v=some n→id=mpI mp b→isVer (H id) ver=true→rowLen H id ver=some n
theorem isBoxS_eq {H:Nat→SB D} (id:Nat):isBox H id=isBoxS (H id):=by unfold isBox isBoxS;cases H id <;> rfl
theorem inAgg_some {α:Type} {x:SV D} {f:List (SV D)→Option α} {y:α} (h:inAgg x f=some y):∃ cs,x=.agg cs∧f cs=some y:=by
 cases x <;> first | (cases h;done) | exact ⟨_,rfl,h⟩
theorem inTup_some {α:Type} {x:SV D} {f:List (SV D)→Option α} {y:α} (h:inTup x f=some y):∃ cs,x=.tup cs∧f cs=some y:=by
 cases x <;> first | (cases h;done) | exact ⟨_,rfl,h⟩
theorem inFn_some {α:Type} {F:FuncId} {x:SV D} {f:List (SV D)→Option α} {y:α} (h:inFn F x f=some y):∃ cs,x=.fn F cs∧f cs=some y:=by
 cases x <;> try (cases h;done)
 rename_i F' cs;unfold inFn at h
 cases hb:Nat.beq F F' with
 | false=>simp only [hb] at h;cases h
 | true =>
  simp only [hb] at h;have:=Nat.eq_of_beq_eq_true hb;subst this;exact ⟨cs,rfl,h⟩
section
variable {m:Nat→Nat} {H Hs:Nat→SB D} {mp:List (Nat×Nat)} {x:SV D}
abbrev mM (m:Nat→Nat) (mp:List (Nat×Nat)) (b:Nat):Nat:=m (mpI mp b)
theorem inj_int {k:IntKind} {e e':E D (.int k)} (h:prjInt k x=some e) (hd:e'.den=e.den):Les (SV.enc (mM m mp) Hs (.int k e')) (x.enc m H):=by
 unfold prjInt at h;split at h
 ·rename_i k' e0;split at h
  ·rename_i hk;subst hk;injection h with h
   subst h;rw [SV.enc,SV.enc];exact .of (congrArg (AV.int k') hd)
  ·cases h
 ·cases h
theorem inj_bool {e e':E D .bool} (h:prjBool x=some e) (hd:e'.den=e.den):Les (SV.enc (mM m mp) Hs (.bool e')) (x.enc m H):=by
 unfold prjBool at h;split at h
 ·injection h with h
  subst h;rw [SV.enc,SV.enc];exact .of (congrArg AV.bool hd)
 ·cases h
theorem inj_str {e e':E D .str} (h:prjStr x=some e) (hd:e'.den=e.den):Les (SV.enc (mM m mp) Hs (.str e')) (x.enc m H):=by
 unfold prjStr at h;split at h
 ·injection h with h
  subst h;rw [SV.enc,SV.enc];exact .of (congrArg (fun l:List UInt8=>AV.str ⟨⟨l⟩⟩) hd)
 ·cases h
theorem inj_ro {fr:Bool} {t:Ty} {e e':E D (.list t)} (h:prjRo fr t x=some e) (hd:e'.den=e.den):Les (SV.enc (mM m mp) Hs (.ro fr t e')) (x.enc m H):=by
 unfold prjRo at h;split at h
 ·rename_i fr' t' e0
  cases hc:(!fr||fr') with
  | false=>rw [hc] at h;cases h
  | true =>
   rw [hc] at h;simp only [cond_true] at h;split at h
   ·rename_i ht _;subst ht;injection h with h
    subst h;rw [SV.enc,SV.enc];have hd:(e'.den:List t'.den)=e0.den:=hd;rw [hd]
    cases fr <;> cases fr' <;> first | exact .refl _ | (cases hc;done) | exact .unfr _ _
   ·cases h
 ·injection h with h
  subst h;rw [SV.enc,SV.enc];have hd:(e'.den:List t.den)=[]:=hd;rw [hd];exact .nilro fr t.size
 ·cases h
theorem inj_pk {fr:Bool} {t:Ty} {o:Nat} {e e':E D t} (h:prjPk fr t o x=some e) (hd:e'.den=e.den):Les (SV.enc (mM m mp) Hs (.pk fr t e' o)) (x.enc m H):=by
 unfold prjPk at h;split at h
 ·rename_i fr' t' e0 o'
  cases hc:((fr==fr')&&Nat.beq o o') with
  | false=>rw [hc] at h;cases h
  | true =>
   rw [hc] at h;simp only [cond_true] at h;rw [Bool.and_eq_true] at hc;have h1:fr=fr':=by simpa using hc.1
   have h2:=Nat.eq_of_beq_eq_true hc.2;subst h1;subst h2
   split at h
   ·rename_i ht _;subst ht;injection h with h
    subst h;rw [SV.enc,SV.enc];have hd:(e'.den:t'.den)=e0.den:=hd;rw [hd];exact .refl _
   ·cases h
 ·cases h
theorem inj_osl (hc:CutM H Hs mp) {b v:Nat} (h:isOsl H mp b x=true):Les (SV.enc (mM m mp) Hs (.osl b v)) (x.enc m H):=by
 unfold isOsl at h;split at h
 ·rename_i id ver;rw [Bool.and_eq_true] at h;have hid:=Nat.eq_of_beq_eq_true h.1;rw [SV.enc,SV.enc]
  cases hl:rowLen Hs b v with
  | none=>exact .any _
  | some n=>rw [hc.row b v n id ver hl hid h.2,hid];exact .refl _
 ·cases h
theorem inj_box {b o:Nat} (h:isBoxA H mp b o x=true):Les (SV.enc (mM m mp) Hs (.box b o)) (x.enc m H):=by
 unfold isBoxA at h;split at h
 ·rename_i id o';rw [Bool.and_eq_true,Bool.and_eq_true] at h;have hid:=Nat.eq_of_beq_eq_true h.1.1;have ho:=Nat.eq_of_beq_eq_true h.1.2;subst ho;rw [SV.enc,SV.enc]
  cases hl:isBox Hs b with
  | false=>exact .any _
  | true=>rw [isBoxS_eq,h.2,hid];exact .refl _
 ·cases h
theorem inj_elt (hc:CutM H Hs mp) {b v o:Nat} {k:IntKind} {e e':E D (.int k)} (h:prjElt H mp b k o x=some e) (hd:e'.den=e.den):Les (SV.enc (mM m mp) Hs (.elt b v e' o)) (x.enc m H):=by
 unfold prjElt at h;split at h
 ·rename_i id ver k' i o'
  cases hb:(Nat.beq id (mpI mp b)&&Nat.beq o o'&&isVer (H id) ver) with
  | false=>rw [hb] at h;cases h
  | true =>
   rw [hb] at h;simp only [cond_true] at h;rw [Bool.and_eq_true,Bool.and_eq_true] at hb;have hid:=Nat.eq_of_beq_eq_true hb.1.1;have ho:=Nat.eq_of_beq_eq_true hb.1.2;subst ho;split at h
   ·rename_i hk;subst hk;injection h with h
    subst h;rw [SV.enc,SV.enc]
    cases hl:rowLen Hs b v with
    | none=>exact .any _
    | some n =>
     rw [hc.row b v n id ver hl hid hb.2,hid];have hd:(e'.den:Int)=i.den:=hd;rw [hd];exact .refl _
   ·cases h
 ·cases h
theorem inj_arr (hc:CutM H Hs mp) {b v o:Nat} (h:isArr H mp b o x=true):Les (SV.enc (mM m mp) Hs (.elt (k:=.i64) b v (.iL .i64 0) o)) (x.enc m H):=by
 unfold isArr at h;split at h
 ·rename_i id ver k' i o';rw [Bool.and_eq_true,Bool.and_eq_true,Bool.and_eq_true] at h;have hid:=Nat.eq_of_beq_eq_true h.1.1.1;have ho:=Nat.eq_of_beq_eq_true h.1.1.2;subst ho;rw [SV.enc,SV.enc]
  cases hl:rowLen Hs b v with
  | none=>exact .any _
  | some n =>
   rw [hc.row b v n id ver hl hid h.1.2,hid,zero_den h.2];exact .refl _
 ·cases h
end
theorem inj_aosl {m:Nat→Nat} {H Hs:Nat→SB D} {mp:List (Nat×Nat)} {x:SV D} {e e':E D .aix} (h:prjA x=some e) (hd:e'.den=e.den):Les (SV.enc (mM m mp) Hs (.aosl e')) (x.enc m H):=by
 unfold prjA at h;split at h
 ·injection h with h
  subst h;rw [SV.enc,SV.enc,hd];exact .refl _
 ·injection h with h
  subst h;rw [SV.enc,SV.enc,hd];exact .refl _
 ·cases h
mutual
theorem injK_les {m:Nat→Nat} {H Hs:Nat→SB D} {mp:List (Nat×Nat)} (hc:CutM H Hs mp):∀ (s:SK) (x:SV D) (e e':E D s.ty),prjK H mp s x=some e→e'.den=e.den→Les ((injK s e').enc (mM m mp) Hs) (x.enc m H)
 | .any,x,e,e',h,hd=>by rw [injK,SV.enc];exact .any _
 | .und,x,e,e',h,hd=>by
  rw [prjK] at h;have:=uniIf_some h;unfold isUnd at this;split at this
  ·rw [injK,SV.enc,SV.enc];exact .refl _
  ·cases this
 | .int k,x,e,e',h,hd=>by rw [prjK] at h;rw [injK];exact inj_int h hd
 | .bool,x,e,e',h,hd=>by rw [prjK] at h;rw [injK];exact inj_bool h hd
 | .str,x,e,e',h,hd=>by rw [prjK] at h;rw [injK];exact inj_str h hd
 | .nilp,x,e,e',h,hd=>by
  rw [prjK] at h;have:=uniIf_some h;unfold isNilp at this;split at this
  ·rw [injK,SV.enc,SV.enc];exact .refl _
  ·cases this
 | .nils,x,e,e',h,hd=>by
  rw [prjK] at h;have:=uniIf_some h;unfold isNils at this;split at this
  ·rw [injK,SV.enc,SV.enc];exact .refl _
  ·cases this
 | .nilf,x,e,e',h,hd=>by
  rw [prjK] at h;have:=uniIf_some h;unfold isNilf at this;split at this
  ·rw [injK,SV.enc,SV.enc];exact .refl _
  ·cases this
 | .ro fr t,x,e,e',h,hd=>by rw [prjK] at h;rw [injK];exact inj_ro h hd
 | .pk fr t o,x,e,e',h,hd=>by rw [prjK] at h;rw [injK];exact inj_pk h hd
 | .osl b v,x,e,e',h,hd=>by rw [prjK] at h;rw [injK];exact inj_osl hc (uniIf_some h)
 | .box b o,x,e,e',h,hd=>by rw [prjK] at h;rw [injK];exact inj_box (uniIf_some h)
 | .elt b v k o,x,e,e',h,hd=>by rw [prjK] at h;rw [injK];exact inj_elt hc h hd
 | .arr b v o,x,e,e',h,hd=>by rw [prjK] at h;rw [injK];exact inj_arr hc (uniIf_some h)
 | .agg l,x,e,e',h,hd=>by
  rw [prjK] at h;obtain ⟨cs,rfl,h2⟩:=inAgg_some h;rw [injK,SV.enc,SV.enc];exact .agg (injL_les hc l _ e e' h2 hd)
 | .tup l,x,e,e',h,hd=>by
  rw [prjK] at h;obtain ⟨cs,rfl,h2⟩:=inTup_some h;rw [injK,SV.enc,SV.enc];exact .tup (injL_les hc l _ e e' h2 hd)
 | .fn f l,x,e,e',h,hd=>by
  rw [prjK] at h;obtain ⟨cs,rfl,h2⟩:=inFn_some h;rw [injK,SV.enc,SV.enc];exact .fn f (injL_les hc l _ e e' h2 hd)
 | .aosl,x,e,e',h,hd=>by rw [prjK] at h;rw [injK];exact inj_aosl h hd
theorem injL_les {m:Nat→Nat} {H Hs:Nat→SB D} {mp:List (Nat×Nat)} (hc:CutM H Hs mp):∀ (l:List SK) (cs:List (SV D)) (e e':E D (SK.tyL l)),prjL H mp l cs=some e→e'.den=e.den→LesL (SV.encL (mM m mp) Hs (injL l e')) (SV.encL m H cs)
 | [],[],e,e',h,hd=>by rw [injL,SV.encL,SV.encL];exact .nil
 | [],_::_,e,e',h,hd=>by rw [prjL] at h;cases h
 | _::_,[],e,e',h,hd=>by rw [prjL] at h;cases h
 | s::l,c::cs,e,e',h,hd=>by
  rw [prjL] at h;split at h
  ·rename_i x y h1 h2;injection h with h
   subst h;rw [injL,SV.encL,SV.encL];exact .cons (injK_les hc s c x _ h1 (pairC_den _ x y e' hd)) (injL_les hc l cs y _ h2 (sndC_den _ x y e' hd tyL_nil))
  ·cases h
end
end Go.Proofs.Ytedmffbhklgloaa
/- Decompiling: a cut passed: the state behind it says no more than the one ahead of it. No program in sight. -/
namespace Go.Proofs.Ytedmffbhklgloaa
open Go Go.RowKit

structure Fix (st st':SSt D):Prop where
 kp:st'.kp=st.kp
 hk:st'.hk=st.hk
 fr:st'.fr=st.fr
theorem Fix.refl (st:SSt D):Fix st st:=⟨rfl,rfl,rfl⟩
theorem Fix.trans {a b c:SSt D} (h:Fix a b) (k:Fix b c):Fix a c:=⟨k.kp.trans h.kp,k.hk.trans h.hk,k.fr.trans h.fr⟩
theorem hasN_of {l:List Nat} {i:Nat} (h:i ∈ l):hasN l i=true:=by
 induction l with
 | nil=>cases h
 | cons a l ih =>
  rw [hasN];rcases List.mem_cons.1 h with rfl | h
  ·rw [Nat.beq_refl];rfl
  ·rw [ih h];cases Nat.beq a i <;> rfl
theorem disj_at {l m:List Nat} (h:disj l m=true) {a:Nat} (ha:a ∈ l):a ∉ m:=fun hm=>by
 have:=List.all_eq_true.1 h a ha;rw [hasN_of hm] at this;cases this
theorem nodupN_cons {a:Nat} {l:List Nat} (h:nodupN (a::l)=true):a ∉ l∧nodupN l=true:=by
 rw [nodupN,Bool.and_eq_true] at h;refine ⟨fun hm=>?_,h.2⟩;rw [hasN_of hm] at h;exact absurd h.1 (by decide)
theorem look_none {α:Type} {d:α} {l:List (Nat×α)} {i:Nat} (h:i ∉ l.map (·.1)):look d l i=d:=by
 induction l with
 | nil=>rfl
 | cons p l ih =>
  obtain ⟨j,v⟩:=p;rw [look_cons,if_neg (fun e=>h (by simp [e])),ih (fun e=>h (by simp;right;simpa using e))]
theorem look_rel {α:Type} {d:α} {l:List (Nat×α)} {i:Nat} {R:α→Prop} (hd:R d) (h:∀ p ∈ l,p.1=i→R p.2):R (look d l i):=by
 induction l with
 | nil=>exact hd
 | cons p l ih =>
  obtain ⟨j,v⟩:=p;rw [look_cons];split
  ·rename_i e;exact h (j,v) (by simp) e
  ·exact ih (fun p hp=>h p (List.mem_cons_of_mem _ hp))
theorem look_nodup {α:Type} {d:α} {l:List (Nat×α)} (h:nodupN (l.map (·.1))=true) {p:Nat×α} (hp:p ∈ l):look d l p.1=p.2:=by
 induction l with
 | nil=>cases hp
 | cons q l ih =>
  obtain ⟨j,v⟩:=q;have h:nodupN (j::l.map (·.1))=true:=h;obtain ⟨h1,h2⟩:=nodupN_cons h;rw [look_cons];rcases List.mem_cons.1 hp with rfl | hp
  ·rw [if_pos rfl]
  ·rw [if_neg,ih h2 hp];intro e;exact h1 (by rw [e];exact List.mem_map.2 ⟨p,hp,rfl⟩)
theorem look_encH_rel {m:Nat→Nat} {H:Nat→SB D} {l:List (Nat×SB D)} {k:Nat} {B:AB} (h:∀ p ∈ l,m p.1=k→LesB (p.2.enc m H) B):LesB (look .dead (encH m H l) k) B:=by
 refine look_rel (R:=fun b=>LesB b B) (.dead B) fun p hp e=>?_
 obtain ⟨q,hq,rfl⟩:=List.mem_map.1 hp;exact h q hq e
section
variable {m:Nat→Nat} {st:SSt D} {Hs:Nat→SB D} {mp:List (Nat×Nat)}
theorem injR_ok (hc:CutM st.blk Hs mp):∀ (l:List Itm) (e e':E D (itmsTy l)),prjIs st mp l=some e→e'.den=e.den→∀ p ∈ injR l e',Les (p.2.enc (mM m mp) Hs) ((st.get p.1).enc m st.blk)
 | [],_,_,_,_,p,hp=>by rw [injR] at hp;cases hp
 | .reg d s::l,e,e',h,hd,p,hp=>by
  rw [prjIs] at h;split at h
  ·rename_i x y h1 h2;injection h with h
   subst h;rw [injR] at hp;rcases List.mem_cons.1 hp with rfl | hp
   ·exact injK_les hc s _ x _ h1 (pairC_den _ x y e' hd)
   ·exact injR_ok hc l y _ h2 (sndC_den _ x y e' hd itmsTy_nil) p hp
  ·cases h
 | .box b ks ty::l,e,e',h,hd,p,hp=>by
  rw [prjIs] at h;split at h
  ·rename_i x y h1 h2;injection h with h
   subst h;rw [injR] at hp;exact injR_ok hc l y _ h2 (sndC_den _ x y e' hd itmsTy_nil) p hp
  ·cases h
 | .row b fr t ty v::l,e,e',h,hd,p,hp=>by
  rw [prjIs] at h;split at h
  ·rename_i x y h1 h2;injection h with h
   subst h;rw [injR] at hp;exact injR_ok hc l y _ h2 (sndC_den _ x y e' hd itmsTy_nil) p hp
  ·cases h
 | .arn t ty::l,e,e',h,hd,p,hp=>by
  rw [prjIs] at h;split at h
  ·rename_i x y h1 h2;injection h with h
   subst h;rw [injR] at hp;exact injR_ok hc l y _ h2 (sndC_den _ x y e' hd itmsTy_nil) p hp
  ·cases h
theorem injH_rows:∀ (l:List Itm) (e e':E D (itmsTy l)),prjIs st mp l=some e→e'.den=e.den→∀ p ∈ injH l e',st.blk (mpI mp p.1)≠.dead∧(∀ fr t xs ty v,p.2=.row fr t xs ty v→∃ fr' xs' v',st.blk (mpI mp p.1)=.row fr' t xs' ty v'∧(xs.den:List t.den)=xs'.den∧(!fr||fr')=true)∧p.1 ∈ itemB l∧p.2≠.dead
 | [],_,_,_,_,p,hp=>by rw [injH] at hp;cases hp
 | .reg d s::l,e,e',h,hd,p,hp=>by
  rw [prjIs] at h;split at h
  ·rename_i x y h1 h2;injection h with h
   subst h;rw [injH] at hp;obtain ⟨g1,g2,g3,g4⟩:=injH_rows l y _ h2 (sndC_den _ x y e' hd itmsTy_nil) p hp;exact ⟨g1,g2,by rw [itemB];exact g3,g4⟩
  ·cases h
 | .box b ks ty::l,e,e',h,hd,p,hp=>by
  rw [prjIs] at h;split at h
  ·rename_i x y h1 h2;injection h with h
   subst h;rw [injH] at hp;rcases List.mem_cons.1 hp with rfl | hp
   ·refine ⟨?_,fun fr t xs ty v e=>(by cases e),by rw [itemB];simp,by simp⟩;unfold prjI at h1;simp only at h1;split at h1
    ·rename_i hb;rw [hb];simp
    ·cases h1
   ·obtain ⟨g1,g2,g3,g4⟩:=injH_rows l y _ h2 (sndC_den _ x y e' hd itmsTy_nil) p hp;exact ⟨g1,g2,by rw [itemB];exact List.mem_cons_of_mem _ g3,g4⟩
  ·cases h
 | .row b fr t ty v::l,e,e',h,hd,p,hp=>by
  rw [prjIs] at h;split at h
  ·rename_i x y h1 h2;injection h with h
   subst h;rw [injH] at hp;rcases List.mem_cons.1 hp with rfl | hp
   ·have hx:=pairC_den _ x y e' hd;unfold prjI at h1;simp only at h1;split at h1
    ·rename_i fr' t' xs' ty' v' hb
     cases hc:(Nat.beq ty ty'&&(!fr||fr')) with
     | false=>rw [hc] at h1;cases h1
     | true =>
      rw [hc] at h1;simp only [cond_true] at h1;rw [Bool.and_eq_true] at hc;have hty:=Nat.eq_of_beq_eq_true hc.1;subst hty;split at h1
      ·rename_i ht _;subst ht;injection h1 with h1
       subst h1;refine ⟨by rw [hb];simp,fun fr1 t1 xs1 ty1 v1 e1=>?_,by rw [itemB];simp,by simp⟩;injection e1 with a1 a2 a3 a4 a5
       subst a1;subst a2
       have a3:=eq_of_heq a3;subst a3;subst a4;subst a5
       exact ⟨fr',xs',v',hb,hx,hc.2⟩
      ·cases h1
    ·cases h1
   ·obtain ⟨g1,g2,g3,g4⟩:=injH_rows l y _ h2 (sndC_den _ x y e' hd itmsTy_nil) p hp;exact ⟨g1,g2,by rw [itemB];exact List.mem_cons_of_mem _ g3,g4⟩
  ·cases h
 | .arn t ty::l,e,e',h,hd,p,hp=>by
  rw [prjIs] at h;split at h
  ·rename_i x y h1 h2;injection h with h
   subst h;rw [injH] at hp;rcases List.mem_cons.1 hp with rfl | hp
   ·refine ⟨?_,fun fr t xs ty v e=>(by cases e),by rw [itemB];simp,by simp⟩;unfold prjI at h1;simp only at h1;split at h1
    ·rename_i t' xs ty' hb
     cases hc:(Nat.beq ty ty'&&Nat.beq (mpI mp 0) 0) with
     | false=>rw [hc] at h1;cases h1
     | true =>
      rw [Bool.and_eq_true] at hc;show st.blk (mpI mp 0)≠.dead;rw [Nat.eq_of_beq_eq_true hc.2,hb];simp
    ·cases h1
   ·obtain ⟨g1,g2,g3,g4⟩:=injH_rows l y _ h2 (sndC_den _ x y e' hd itmsTy_nil) p hp;exact ⟨g1,g2,by rw [itemB];exact List.mem_cons_of_mem _ g3,g4⟩
  ·cases h
theorem injH_arn:∀ (l:List Itm) (e e':E D (itmsTy l)),prjIs st mp l=some e→e'.den=e.den→∀ p ∈ injH l e',∀ t xs ty,p.2=.arn t xs ty→p.1=0∧mpI mp 0=0∧∃ xs',st.blk 0=.arn t xs' ty∧(xs.den:List (List t.den))=xs'.den
 | [],_,_,_,_,p,hp=>by rw [injH] at hp;cases hp
 | .reg d s::l,e,e',h,hd,p,hp=>by
  rw [prjIs] at h;split at h
  ·rename_i x y h1 h2;injection h with h
   subst h;rw [injH] at hp;exact injH_arn l y _ h2 (sndC_den _ x y e' hd itmsTy_nil) p hp
  ·cases h
 | .box b ks ty::l,e,e',h,hd,p,hp=>by
  rw [prjIs] at h;split at h
  ·rename_i x y h1 h2;injection h with h
   subst h;rw [injH] at hp;rcases List.mem_cons.1 hp with rfl | hp
   ·intro t xs ty e;cases e
   ·exact injH_arn l y _ h2 (sndC_den _ x y e' hd itmsTy_nil) p hp
  ·cases h
 | .row b fr t ty v::l,e,e',h,hd,p,hp=>by
  rw [prjIs] at h;split at h
  ·rename_i x y h1 h2;injection h with h
   subst h;rw [injH] at hp;rcases List.mem_cons.1 hp with rfl | hp
   ·intro t xs ty e;cases e
   ·exact injH_arn l y _ h2 (sndC_den _ x y e' hd itmsTy_nil) p hp
  ·cases h
 | .arn t ty::l,e,e',h,hd,p,hp=>by
  rw [prjIs] at h;split at h
  ·rename_i x y h1 h2;injection h with h
   subst h;rw [injH] at hp;rcases List.mem_cons.1 hp with rfl | hp
   ·intro t1 xs1 ty1 e1;have hx:=pairC_den _ x y e' hd;unfold prjI at h1;simp only at h1;split at h1
    ·rename_i t' xs ty' hb
     cases hc:(Nat.beq ty ty'&&Nat.beq (mpI mp 0) 0) with
     | false=>rw [hc] at h1;cases h1
     | true =>
      rw [hc] at h1;simp only [cond_true] at h1;rw [Bool.and_eq_true] at hc;have hty:=Nat.eq_of_beq_eq_true hc.1;subst hty;split at h1
      ·rename_i ht _;subst ht;injection h1 with h1
       subst h1;injection e1 with a1 a2 a3
       subst a1;have a2:=eq_of_heq a2;subst a2;subst a3
       exact ⟨rfl,Nat.eq_of_beq_eq_true hc.2,xs,hb,hx⟩
      ·cases h1
    ·cases h1
   ·exact injH_arn l y _ h2 (sndC_den _ x y e' hd itmsTy_nil) p hp
  ·cases h
theorem injH_boxes (hc:CutM st.blk Hs mp):∀ (l:List Itm) (e e':E D (itmsTy l)),prjIs st mp l=some e→e'.den=e.den→∀ p ∈ injH l e',LesB (p.2.enc (mM m mp) Hs) ((st.blk (mpI mp p.1)).enc m st.blk)
 | [],_,_,_,_,p,hp=>by rw [injH] at hp;cases hp
 | .reg d s::l,e,e',h,hd,p,hp=>by
  rw [prjIs] at h;split at h
  ·rename_i x y h1 h2;injection h with h
   subst h;rw [injH] at hp;exact injH_boxes hc l y _ h2 (sndC_den _ x y e' hd itmsTy_nil) p hp
  ·cases h
 | .box b ks ty::l,e,e',h,hd,p,hp=>by
  rw [prjIs] at h;split at h
  ·rename_i x y h1 h2;injection h with h
   subst h;rw [injH] at hp;rcases List.mem_cons.1 hp with rfl | hp
   ·have hx:=pairC_den _ x y e' hd;unfold prjI at h1;simp only at h1;split at h1
    ·rename_i cs ty' hb
     cases hc2:Nat.beq ty ty' with
     | false=>rw [hc2] at h1;cases h1
     | true =>
      rw [hc2] at h1;have hty:=Nat.eq_of_beq_eq_true hc2;subst hty;rw [hb,SB.enc,SB.enc];exact .box ty (injL_les hc ks cs x _ h1 hx)
    ·cases h1
   ·exact injH_boxes hc l y _ h2 (sndC_den _ x y e' hd itmsTy_nil) p hp
  ·cases h
 | .row b fr t ty v::l,e,e',h,hd,p,hp=>by
  have h0:=h;rw [prjIs] at h;split at h
  ·rename_i x y h1 h2;injection h with h
   subst h;rw [injH] at hp;rcases List.mem_cons.1 hp with rfl | hp
   ·obtain ⟨_,g2,_⟩:=injH_rows _ _ e' h0 hd (b,.row fr t (fstC l.isEmpty e') ty v) (by rw [injH];simp);obtain ⟨fr',xs',v',hb,hxs,hfr⟩:=g2 _ _ _ _ _ rfl;rw [hb,SB.enc,SB.enc,hxs];exact .rows (rows_le hfr t _)
   ·exact injH_boxes hc l y _ h2 (sndC_den _ x y e' hd itmsTy_nil) p hp
  ·cases h
 | .arn t ty::l,e,e',h,hd,p,hp=>by
  rw [prjIs] at h;split at h
  ·rename_i x y h1 h2;injection h with h
   subst h;rw [injH] at hp;rcases List.mem_cons.1 hp with rfl | hp
   ·rw [SB.enc];exact .dead _
   ·exact injH_boxes hc l y _ h2 (sndC_den _ x y e' hd itmsTy_nil) p hp
  ·cases h
theorem injH_keys:∀ (l:List Itm) (e:E D (itmsTy l)),(injH l e).map (·.1)=itemB l
 | [],_=>by rw [injH];rfl
 | .reg ..::l,e=>by rw [injH,itemB,injH_keys l]
 | .box ..::l,e=>by rw [injH,itemB,List.map_cons,injH_keys l]
 | .row ..::l,e=>by rw [injH,itemB,List.map_cons,injH_keys l]
 | .arn ..::l,e=>by rw [injH,itemB,List.map_cons,injH_keys l]
theorem injH_same:∀ (l:List Itm) (e e':E D (itmsTy l)) (b:Nat) (d:SB D),isBoxS (look d (injH l e) b)=isBoxS (look d (injH l e') b)∧∀ v,isVer (look d (injH l e) b) v=isVer (look d (injH l e') b) v
 | [],_,_,b,d=>by rw [injH,injH];exact ⟨rfl,fun _=>rfl⟩
 | .reg ..::l,e,e',b,d=>by rw [injH,injH];exact injH_same l _ _ b d
 | .box b' ..::l,e,e',b,d=>by
  rw [injH,injH,look_cons,look_cons];split
  ·exact ⟨rfl,fun _=>rfl⟩
  ·exact injH_same l _ _ b d
 | .row b' ..::l,e,e',b,d=>by
  rw [injH,injH,look_cons,look_cons];split
  ·exact ⟨rfl,fun _=>rfl⟩
  ·exact injH_same l _ _ b d
 | .arn ..::l,e,e',b,d=>by
  rw [injH,injH,look_cons,look_cons];split
  ·exact ⟨rfl,fun _=>rfl⟩
  ·exact injH_same l _ _ b d
theorem nodupN_append {l r:List Nat} (h:nodupN (l++r)=true):nodupN l=true∧nodupN r=true∧∀ a ∈ l,a ∉ r:=by
 induction l with
 | nil=>exact ⟨rfl,h,fun a ha=>by cases ha⟩
 | cons a l ih =>
  obtain ⟨h1,h2⟩:=nodupN_cons (a:=a) (l:=l++r) h;obtain ⟨g1,g2,g3⟩:=ih h2;refine ⟨?_,g2,fun b hb=>?_⟩
  ·rw [nodupN,g1,Bool.and_true]
   cases hh:hasN l a with
   | true=>exact absurd (List.mem_append_left r (hasN_mem hh)) h1
   | false=>rfl
  ·rcases List.mem_cons.1 hb with rfl | hb
   ·exact fun e=>h1 (List.mem_append_right l e)
   ·exact g3 b hb
theorem nodupN_map {f:Nat→Nat} {l:List Nat} (h:nodupN (l.map f)=true):∀ a ∈ l,∀ b ∈ l,f a=f b→a=b:=by
 induction l with
 | nil=>intro a ha;cases ha
 | cons c l ih =>
  have h:nodupN (f c::l.map f)=true:=h;obtain ⟨h1,h2⟩:=nodupN_cons h;intro a ha b hb e;rcases List.mem_cons.1 ha with ha1 | ha1
  ·rcases List.mem_cons.1 hb with hb1 | hb1
   ·rw [ha1,hb1]
   ·exact absurd (List.mem_map.2 ⟨b,hb1,by rw [←e,ha1]⟩) h1
  ·rcases List.mem_cons.1 hb with hb1 | hb1
   ·exact absurd (List.mem_map.2 ⟨a,ha1,by rw [e,hb1]⟩) h1
   ·exact ih h2 a ha1 b hb1 e
theorem lk_keys {mp:List (Nat×Nat)} {b:Nat} (h:b ∉ mp.map (·.1)):mpI mp b=b:=by
 unfold mpI
 have:lk mp b=none:=by
  induction mp with
  | nil=>rfl
  | cons p l ih =>
   obtain ⟨j,v⟩:=p;rw [lk]
   have hne:Nat.beq j b=false:=by
    rw [←Bool.not_eq_true];intro e;exact h (by simp [Nat.eq_of_beq_eq_true e])
   rw [hne];exact ih (fun e=>h (by simp;right;simpa using e))
 rw [this]
theorem isVer_row {b:SB D} {v:Nat} (h:isVer b v=true):∃ fr t xs e,b=.row fr t xs e v:=by
 cases b with
 | row fr t xs e v'=>exact ⟨fr,t,xs,e,by rw [Nat.eq_of_beq_eq_true h]⟩
 | _=>cases h
theorem rowLen_some {H:Nat→SB D} {id v n:Nat} (h:rowLen H id v=some n):isVer (H id) v=true∧∃ fr t xs e,H id=.row fr t xs e v∧n=List.length xs.den:=by
 unfold rowLen at h;split at h
 ·rename_i fr t xs e v' hb
  cases hv:Nat.beq v v' with
  | false=>rw [hv] at h;cases h
  | true =>
   rw [hv] at h;injection h with h
   have e1:=Nat.eq_of_beq_eq_true hv;subst e1;exact ⟨by rw [hb];exact hv,fr,t,xs,e,hb,h.symm⟩
 ·cases h
theorem rowLen_ver {H:Nat→SB D} {id v:Nat} (h:isVer (H id) v=false):rowLen H id v=none:=by
 unfold rowLen;split
 ·rename_i fr t xs e v' hb;rw [hb] at h;have h:Nat.beq v v'=false:=h;rw [h];rfl
 ·rfl
theorem cut_raw {F:List (Nat→AV)} {base st:SSt D} {sg:Sig} {mp:List (Nat×Nat)} {m:Nat→Nat} {nx:Nat} {e e':E D (itmsTy sg.items)} (ha:arr base sg mp st=some e) (hd:e'.den=e.den) (hfix:Fix (lay base sg) st) (hm:MOk m nx st) (hf:FrOk m st.blk st.fr F) :
  MOk (mM m mp) nx (inj base sg e')∧LeS ((inj base sg e').enc (mM m mp) nx) (st.enc m nx)∧FrOk (mM m mp) (inj base sg e').blk base.fr F∧∀ b,(inj base sg e').blk b≠.dead→st.blk (mpI mp b)≠.dead:=by
 unfold arr at ha;split at ha
 ·cases ha
 ·rename_i e0 hp
  cases hc:cutOk base sg mp st (inj base sg e0).blk with
  | false=>rw [hc] at ha;cases ha
  | true =>
   rw [hc] at ha;injection ha with ha
   subst ha;unfold cutOk at hc;simp only [Bool.and_eq_true] at hc;obtain ⟨c1,c2,c3,c4,c5,c6,c7,c8,c9,c10,c11⟩:=hc;have hkp:st.kp=keepR base sg.keep++base.kp:=hfix.kp;have hhk:st.hk=keepH base sg.keepB++base.hk:=hfix.hk;have hfr:st.fr=base.fr:=hfix.fr;generalize hK:keepR base sg.keep++base.kp=KP at *
   generalize hH:keepH base sg.keepB++base.hk=HK at *
   have hblk:∀ (e1:E D (itmsTy sg.items)) b,(inj base sg e1).blk b=look (look .dead HK b) (injH sg.items e1) b:=by
    intro e1 b;show look (look .dead (keepH base sg.keepB++base.hk) b) _ _=_;rw [hH];rfl
   obtain ⟨n1,n2,n3⟩:=nodupN_append c4;obtain ⟨m1,_,m3⟩:=nodupN_append c5
   have hmpk:∀ b,b ∉ itemB sg.items→mpI mp b=b:=by
    intro b hb;refine lk_keys fun hk=>hb ?_
    obtain ⟨p,hp1,e1⟩:=List.mem_map.1 hk;rw [←e1];exact hasN_mem (List.all_eq_true.1 c7 p hp1)
   have hHKst:∀ p ∈ HK,st.blk p.1=p.2:=by
    intro p hp1;have hno:p.1 ∉ st.heap.map (·.1):=fun hh=>disj_at c2 hh (List.mem_map.2 ⟨p,hp1,rfl⟩)
    show look (look .dead st.hk p.1) st.heap p.1=_;rw [look_none hno,hhk];exact look_nodup n2 hp1
   have hHKlive:∀ p ∈ HK,p.2≠.dead:=fun p hp1=>(hm.keys p (List.mem_append_right _ (by rw [hhk];exact hp1))).2

   have hIn:∀ (e1:E D (itmsTy sg.items)) b,b ∉ itemB sg.items→(inj base sg e1).blk b=look .dead HK b:=by
    intro e1 b hb;rw [hblk,look_none];rw [injH_keys];exact hb
   have hcase:∀ b,(inj base sg e').blk b≠.dead→(b ∈ itemB sg.items∧(b,(inj base sg e').blk b) ∈ injH sg.items e')∨(b ∉ itemB sg.items∧mpI mp b=b∧(b,(inj base sg e').blk b) ∈ HK∧st.blk b=(inj base sg e').blk b):=by
    intro b hb;by_cases hbi:b ∈ itemB sg.items
    ·refine .inl ⟨hbi,?_⟩;have hbm:b ∈ (injH sg.items e').map (·.1):=by rw [injH_keys];exact hbi
     obtain ⟨q,hq,e1⟩:=List.mem_map.1 hbm
     have:(inj base sg e').blk b=q.2:=by
      rw [hblk,←e1];exact look_nodup (by rw [injH_keys];exact n1) hq
     rw [this,←e1];exact hq
    ·refine .inr ⟨hbi,hmpk b hbi,?_⟩;rw [hIn e' b hbi] at hb ⊢;have:=look_mem (rfl:look SB.dead HK b=_) hb;exact ⟨this,hHKst _ this⟩
   have hIR:=injH_rows sg.items e0 e' hp hd
   have hcut:CutM st.blk (inj base sg e').blk mp:=by
    refine ⟨fun b v n id ver hrl hid hver=>?_⟩;obtain ⟨_,fr,t,xs,ty,hb,hn⟩:=rowLen_some hrl;subst hid;rcases hcase b (by rw [hb];simp) with ⟨_,g⟩ | ⟨_,g1,g2,g3⟩
    ·rw [hb] at g;obtain ⟨_,g2,_⟩:=hIR _ g;obtain ⟨fr',xs',v',h1,h2,_⟩:=g2 _ _ _ _ _ rfl;unfold rowLen;have hver':=hver;rw [h1] at hver';have hver':Nat.beq ver v'=true:=hver';rw [h1];simp only [hver',cond_true];rw [hn,h2]
    ·rw [g1] at hver ⊢;have g3':=g3;rw [hb] at g3;rw [g3] at hver;have hver':Nat.beq ver v=true:=hver;unfold rowLen;rw [g3];simp only [hver',cond_true];rw [hn]
   have hle:MemLe m st.blk (mM m mp) (inj base sg e').blk (cutB (inj base sg e0).blk mp st.blk) (cutR (inj base sg e0).blk mp st.blk):=by
    have same:∀ b,isBoxS ((inj base sg e').blk b)=isBoxS ((inj base sg e0).blk b)∧∀ v,isVer ((inj base sg e').blk b) v=isVer ((inj base sg e0).blk b) v:=by
     intro b;rw [hblk,hblk];exact injH_same _ _ _ _ _
    refine ⟨fun id h=>?_,fun id v h=>?_⟩
    ·unfold cutB at h
     cases h1:isBoxS ((inj base sg e0).blk id) with
     | false=>exact .inl (by rw [isBoxS_eq,(same id).1,h1])
     | true =>
      rw [h1] at h;have h:(Nat.beq (mpI mp id) id&&isBoxS (st.blk id))=true:=h;rw [Bool.and_eq_true] at h;have hid:=Nat.eq_of_beq_eq_true h.1;exact .inr ⟨by rw [isBoxS_eq,(same id).1,h1,isBoxS_eq,h.2],by show m (mpI mp id)=m id;rw [hid]⟩
    ·unfold cutR at h
     cases h1:isVer ((inj base sg e0).blk id) v with
     | false=>exact .inl (rowLen_ver (by rw [(same id).2,h1]))
     | true =>
      rw [h1] at h;have h:(Nat.beq (mpI mp id) id&&isVer (st.blk id) v)=true:=h;rw [Bool.and_eq_true] at h;have hid:=Nat.eq_of_beq_eq_true h.1;refine .inr ⟨?_,by show m (mpI mp id)=m id;rw [hid]⟩;have h1':isVer ((inj base sg e').blk id) v=true:=by rw [(same id).2,h1]
      obtain ⟨fr,t,xs,ty,hb⟩:=isVer_row h1';have hrl:rowLen (inj base sg e').blk id v=some (List.length xs.den):=rowLen_eq hb (by rw [hb] at h1';exact h1');rw [hrl];exact (hcut.row id v _ id v hrl hid.symm h.2).symm
   have hlive:∀ b,(inj base sg e').blk b≠.dead→st.blk (mpI mp b)≠.dead:=by
    intro b hb;rcases hcase b hb with ⟨_,g⟩ | ⟨_,g1,g2,g3⟩
    ·exact (hIR _ g).1
    ·rw [g1,g3];exact hb
   have hArn:((inj base sg e').blk 0).isA=true→mpI mp 0=0∧(st.blk 0).isA=true∧∀ B,((inj base sg e').blk 0).rows B=(st.blk 0).rows B:=by
    intro hA;have hne:(inj base sg e').blk 0≠.dead:=fun e1=>by rw [e1] at hA;cases hA
    rcases hcase 0 hne with ⟨_,g⟩ | ⟨_,g1,_,g3⟩
    ·cases hb0:(inj base sg e').blk 0 with
     | arn t xs ty =>
      rw [hb0] at g;obtain ⟨_,q2,xs',q3,q4⟩:=injH_arn sg.items e0 e' hp hd _ g t xs ty rfl;refine ⟨q2,by rw [q3];rfl,fun B=>?_⟩;rw [q3];show (List.range B).map _=(List.range B).map _;rw [q4]
     | dead=>exact absurd hb0 hne
     | box=>rw [hb0] at hA;cases hA
     | row=>rw [hb0] at hA;cases hA
    ·exact ⟨g1,by rw [g3];exact hA,fun B=>by rw [g3]⟩
   have hmk:MOk (mM m mp) nx (inj base sg e'):=by
    refine ⟨fun b hb=>hm.lt _ (hlive b hb),fun b b' hb hb' e1=>?_,fun p hp1=>?_,fun hA=>?_,hm.ge.1,fun k hk=>hm.ge.2 _ (hlive k hk)⟩
    rotate_left 2
    ·obtain ⟨q1,q2,_⟩:=hArn hA;have h0:mM m mp 0=m 0:=by show m (mpI mp 0)=m 0;rw [q1]
     rw [h0];exact hm.ar' q2
    ·have e2:mpI mp b=mpI mp b':=hm.inj _ _ (hlive b hb) (hlive b' hb') e1;rcases hcase b hb with ⟨g0,_⟩ | ⟨_,g1,g2,_⟩
     ·rcases hcase b' hb' with ⟨k0,_⟩ | ⟨_,k1,k2,_⟩
      ·exact nodupN_map m1 b g0 b' k0 e2
      ·refine absurd ?_ (m3 (mpI mp b) (List.mem_map.2 ⟨b,g0,rfl⟩));rw [e2,k1];exact List.mem_map.2 ⟨_,k2,rfl⟩
     ·rcases hcase b' hb' with ⟨k0,_⟩ | ⟨_,k1,k2,_⟩
      ·refine absurd ?_ (m3 (mpI mp b') (List.mem_map.2 ⟨b',k0,rfl⟩));rw [←e2,g1];exact List.mem_map.2 ⟨_,g2,rfl⟩
      ·rw [g1,k1] at e2;exact e2
    ·have hp1:p ∈ injH sg.items e'++(keepH base sg.keepB++base.hk):=hp1;rw [hH] at hp1;rcases List.mem_append.1 hp1 with hp1 | hp1
     ·obtain ⟨_,_,g3,g4⟩:=hIR p hp1;exact ⟨Nat.le_of_ble_eq_true (List.all_eq_true.1 c6 _ g3),g4⟩
     ·have:p.1<base.nx:=Nat.le_of_ble_eq_true (List.all_eq_true.1 c11 _ hp1);exact ⟨Nat.lt_of_lt_of_le this (Nat.le_add_right _ _),hHKlive p hp1⟩
   refine ⟨hmk,⟨fun d=>?_,fun k=>?_,rfl⟩,?_,hlive⟩
   ·rw [enc_get,enc_get];show Les ((look (look .any (keepR base sg.keep++base.kp) d) (statR sg.stat++injR sg.items e') d).enc _ _) _;rw [hK];refine look_rel (R:=fun x=>Les (SV.enc (mM m mp) (inj base sg e').blk x) ((st.get d).enc m st.blk)) ?_ (fun p hp1 e1=>?_)
    ·by_cases hdk:d ∈ KP.map (·.1)
     ·have hno:d ∉ st.regs.map (·.1):=fun hh=>disj_at c1 hh hdk
      have:st.get d=look .any KP d:=by
       show look (look .any st.kp d) st.regs d=_;rw [look_none hno,hkp]
      rw [this];exact enc_les hle _ (refsR_look c8 d)
     ·rw [look_none hdk,SV.enc];exact .any _
    ·rw [←e1];rcases List.mem_append.1 hp1 with hp1 | hp1
     ·obtain ⟨q,hq,rfl⟩:=List.mem_map.1 hp1;have h3:=List.all_eq_true.1 c3 q hq;rw [Bool.and_eq_true] at h3;obtain ⟨x,hx⟩:=Option.isSome_iff_exists.1 h3.2;show Les (SV.enc (mM m mp) _ (injS q.2)) _;unfold injS;split
      ·rename_i ht _;refine injK_les hcut q.2 _ x _ hx ?_;exact den_uni ht.symm _ _
      ·rw [SV.enc];exact .any _
     ·exact injR_ok hcut sg.items e0 e' hp hd p hp1
   ·rw [enc_look hmk]
    cases hcA:(((inj base sg e').blk 0).isA&&Nat.blt k (mM m mp 0)) with
    | true =>
     rw [Bool.and_eq_true] at hcA;obtain ⟨q1,q2,q3⟩:=hArn hcA.1;have h0:mM m mp 0=m 0:=by show m (mpI mp 0)=m 0;rw [q1]
     have hk:=hcA.2;rw [h0] at hk;rw [cond_true,enc_look hm,q2,hk,q3,h0];exact .refl _
    | false =>
    rw [cond_false];show LesB (look .dead (encH (mM m mp) (inj base sg e').blk (injH sg.items e'++(keepH base sg.keepB++base.hk))) k) _;rw [hH];refine look_encH_rel fun p hp1 e1=>?_
    rw [←e1];rcases List.mem_append.1 hp1 with hp1 | hp1
    ·show LesB _ (look .dead (st.enc m nx).heap (m (mpI mp p.1)));rw [enc_blk hm (hIR p hp1).1];exact injH_boxes hcut sg.items e0 e' hp hd p hp1
    ·have hpi:p.1 ∉ itemB sg.items:=fun hh=>n3 _ hh (List.mem_map.2 ⟨p,hp1,rfl⟩)
     show LesB _ (look .dead (st.enc m nx).heap (m (mpI mp p.1)));have hsb:=hHKst p hp1;rw [hmpk _ hpi,enc_blk hm (by rw [hsb];exact hHKlive p hp1),hsb];refine encB_les hle _ ?_
     have:∀ (l:List (Nat×SB D)),refsH (cutB (inj base sg e0).blk mp st.blk) (cutR (inj base sg e0).blk mp st.blk) l=true→∀ q ∈ l,q.2.refs (cutB (inj base sg e0).blk mp st.blk) (cutR (inj base sg e0).blk mp st.blk)=true:=by
      intro l
      induction l with
      | nil=>intro _ q hq;cases hq
      | cons a l ih =>
       intro h q hq;rw [refsH,Bool.and_eq_true] at h;rcases List.mem_cons.1 hq with rfl | hq
       ·exact h.1
       ·exact ih h.2 q hq
     exact this HK c9 p hp1
   ·show FrOk (mM m mp) (inj base sg e').blk base.fr F;rw [hfr] at hf;exact hf.les' hle c10
theorem cut_ok {F:List (Nat→AV)} {base st:SSt D} {sg:Sig} {mp:List (Nat×Nat)} {s:ASt} {e e':E D (itmsTy sg.items)} (ha:arr base sg mp st=some e) (hd:e'.den=e.den) (hfix:Fix (lay base sg) st) (hst:StL F st s):StL F (inj base sg e') s:=by
 obtain ⟨m,nx,hm,hl,hf⟩:=hst;obtain ⟨h1,h2,h3,_⟩:=cut_raw ha hd hfix hm hf;exact ⟨_,_,h1,hl.trans (LeS.rle h2),h3⟩
end
section
variable {F:List (Nat→AV)} {st st':SSt D} {s:ASt} {m:Nat→Nat} {nx:Nat}
theorem heap_cases (hm:MOk m nx st) (k:Nat):look .dead (st.enc m nx).heap k=.dead∨(∃ b,st.blk b≠.dead∧k=m b)∨((st.blk 0).isA=true∧k<m 0∧look .dead (st.enc m nx).heap k=look .dead ((st.blk 0).rows (m 0)) k):=by
 cases hA:((st.blk 0).isA&&Nat.blt k (m 0)) with
 | true =>
  have h1:=enc_look hm k;rw [hA,cond_true] at h1;rw [Bool.and_eq_true,Nat.blt_eq] at hA;exact .inr (.inr ⟨hA.1,hA.2,h1⟩)
 | false =>
  rw [enc_look hm,hA,cond_false];by_cases h:look .dead (encH m st.blk (st.heap++st.hk)) k=.dead
  ·exact .inl h
  ·refine .inr (.inl ?_);have:=look_mem (rfl:look AB.dead (encH m st.blk (st.heap++st.hk)) k=_) h;obtain ⟨p,hp,e⟩:=List.mem_map.1 this;injection e with e1 _
   exact ⟨p.1,hm.key_live hp,e1.symm⟩
theorem same_les (hm:MOk m nx st) (hm':MOk m nx st') (hg:∀ d,st'.get d=st.get d) (hb:st'.blk=st.blk):LeS (st'.enc m nx) (st.enc m nx):=by
 refine ⟨fun d=>?_,fun k=>?_,rfl⟩
 ·rw [enc_get,enc_get,hg,hb];exact .refl _
 ·rcases heap_cases hm' k with h | ⟨b,h,e⟩ | ⟨h1,h2,h3⟩
  ·rw [h];exact .dead _
  ·subst e;rw [enc_blk hm' h,enc_blk hm (by rw [←hb];exact h),hb];exact .refl _
  ·rw [h3,enc_look hm,←hb,h1,show Nat.blt k (m 0)=true by rw [Nat.blt_eq];exact h2];exact .refl _
theorem StL.same (h:StL F st s) (hg:∀ d,st'.get d=st.get d) (hb:st'.blk=st.blk) (hk:∀ p ∈ st'.heap++st'.hk,p ∈ st.heap++st.hk∨(p.2=st.blk p.1∧p.2≠.dead)) (hn:st'.nx=st.nx) (hf:st'.fr=st.fr):StL F st' s:=by
 obtain ⟨m,nx,hm,hl,hfr⟩:=h
 have hm':MOk m nx st':=⟨fun k hk=>hm.lt k (by rw [←hb];exact hk),fun k k' h1 h2 e=>hm.inj k k' (by rw [←hb];exact h1) (by rw [←hb];exact h2) e,fun p hp=>by
  rw [hn];rcases hk p hp with h | ⟨h1,h2⟩
  ·exact hm.keys p h
  ·exact ⟨hm.live (by rw [←h1];exact h2),h2⟩,fun h=>by rw [hb] at h;exact hm.ar' h,by rw [hb];exact hm.ge⟩
 exact ⟨m,nx,hm',hl.trans (same_les hm hm' hg hb).rle,by rw [hb,hf];exact hfr⟩
end
section
variable {V:Ty→Type}
def isLive (b:SB V):Bool:=match b with
 | .dead=>false
 | _=>true
def layOk (st:SSt V) (sg:Sig):Bool:=sg.keepB.all fun b=>isLive (st.blk b)
end
section
variable {F:List (Nat→AV)} {base st:SSt D} {s:ASt} {sg:Sig}
theorem look_keepR (l:List Nat) (x:SV D) (d:Nat):look x (keepR base l) d=bif hasN l d then base.get d else x:=by
 induction l with
 | nil=>rfl
 | cons a l ih =>
  show look x ((a,base.get a)::keepR base l) d=_;rw [look_cons,ih,hasN];by_cases e:a=d
  ·subst e;rw [if_pos rfl,Nat.beq_refl];rfl
  ·rw [if_neg e];have:Nat.beq a d=false:=by rw [←Bool.not_eq_true];intro h;exact e (Nat.eq_of_beq_eq_true h)
   rw [this];rfl
theorem look_keepH (l:List Nat) (x:SB D) (d:Nat):look x (keepH base l) d=bif hasN l d then base.blk d else x:=by
 induction l with
 | nil=>rfl
 | cons a l ih =>
  show look x ((a,base.blk a)::keepH base l) d=_;rw [look_cons,ih,hasN];by_cases e:a=d
  ·subst e;rw [if_pos rfl,Nat.beq_refl];rfl
  ·rw [if_neg e];have:Nat.beq a d=false:=by rw [←Bool.not_eq_true];intro h;exact e (Nat.eq_of_beq_eq_true h)
   rw [this];rfl
theorem lay_get (d:Nat):(lay base sg).get d=base.get d:=by
 show look (look .any (keepR base sg.keep++base.kp) d) (base.regs.filter fun p=>!hasN sg.keep p.1) d=_;rw [look_filt (f:=fun d=>!hasN sg.keep d),look_append,look_keepR]
 cases hasN sg.keep d <;> rfl
theorem lay_blk:(lay base sg).blk=base.blk:=by
 funext d
 show look (look .dead (keepH base sg.keepB++base.hk) d) (base.heap.filter fun p=>!hasN sg.keepB p.1) d=_;rw [look_filt (f:=fun d=>!hasN sg.keepB d),look_append,look_keepH]
 cases hasN sg.keepB d <;> rfl
theorem lay_ok (h:StL F base s) (hk:layOk base sg=true):StL F (lay base sg) s:=by
 refine h.same lay_get lay_blk (fun p hp=>?_) rfl rfl;rcases List.mem_append.1 hp with hp | hp
 ·exact .inl (List.mem_append_left _ (List.mem_filter.1 hp).1)
 ·rcases List.mem_append.1 hp with hp | hp
  ·obtain ⟨b,hb,rfl⟩:=List.mem_map.1 hp;refine .inr ⟨rfl,?_⟩;have:=List.all_eq_true.1 hk b hb;intro e;have e:base.blk b=.dead:=e;rw [e] at this;cases this
  ·exact .inl (List.mem_append_right _ hp)
theorem unlay_ok (hfix:Fix (lay base sg) st) (h:StL F st s):StL F (unlay base st sg) s∧Fix base (unlay base st sg):=by
 have hkp:st.kp=keepR base sg.keep++base.kp:=hfix.kp;have hhk:st.hk=keepH base sg.keepB++base.hk:=hfix.hk;have hfr:st.fr=base.fr:=hfix.fr;refine ⟨h.same (fun d=>?_) ?_ (fun p hp=>.inl ?_) rfl hfr.symm,⟨rfl,rfl,rfl⟩⟩
 ·show look (look .any base.kp d) (st.regs++keepR base sg.keep) d=look (look .any st.kp d) st.regs d;rw [look_append,hkp,look_append]
 ·funext d
  show look (look .dead base.hk d) (st.heap++keepH base sg.keepB) d=look (look .dead st.hk d) st.heap d;rw [look_append,hhk,look_append]
 ·rw [hhk];have hp:p ∈ (st.heap++keepH base sg.keepB)++base.hk:=hp;rw [List.append_assoc] at hp;exact hp
theorem inj_fix {e:E D (itmsTy sg.items)} {st':SSt D} (h:Fix (inj base sg e) st'):Fix (lay base sg) st':=⟨h.kp,h.hk,h.fr⟩
end
end Go.Proofs.Ytedmffbhklgloaa
/- Decompiling: a row of the call's own becomes data that is only read. No program in sight. -/
namespace Go.Proofs.Ytedmffbhklgloaa
open Go Go.RowKit

def Ty.noL:Ty→Bool
 | .list _=>false
 | .ptr _=>false
 | .pair a b=>a.noL&&b.noL
 | .agg t=>t.noL
 | _=>true
theorem Ty.cells_noL (fr fr':Bool):∀ (t:Ty) (x:t.den),t.noL=true→t.cells fr x=t.cells fr' x
 | .int _,_,_=>rfl
 | .bool,_,_=>rfl
 | .str,_,_=>rfl
 | .unit,_,_=>rfl
 | .list _,_,h=>by cases h
 | .ptr _,_,h=>by cases h
 | .pair a b,x,h=>by
  rw [Ty.noL,Bool.and_eq_true] at h;rw [Ty.cells,Ty.cells,Ty.cells_noL fr fr' a x.1 h.1,Ty.cells_noL fr fr' b x.2 h.2]
 | .agg t,x,h=>by
  rw [Ty.cells,Ty.cells];exact Ty.cells_noL fr fr' t x h
 | .aix,_,_=>rfl
theorem rows_noL (fr fr':Bool) (t:Ty) (xs:List t.den) (h:t.noL=true):xs.map (t.cells fr)=xs.map (t.cells fr'):=List.map_congr_left fun x _=>Ty.cells_noL fr fr' t x h
theorem rows_fl (fr:Bool) (t:Ty) (xs:List t.den):xs.map (t.cells (fr||t.noL))=xs.map (t.cells fr):=by
 cases h:t.noL with
 | true=>exact rows_noL _ _ t xs h
 | false=>rw [Bool.or_false]
def Gh.fz (G:Gh) (id:Nat):Gh:=⟨fun i=>if i=id then .slice Option.none 0 0 else G.ρ i,fun b=>G.own b∧ownBlk (G.ρ id)≠some b,fun i=>if i=id then G.ln i+1 else G.ln i,G.sz,G.nx,G.bs,G.far⟩
section
variable {w0 w:World} {G:Gh} {hp:List (Nat×AB)} {id:Nat}
theorem fz_ρ {i:Nat} (h:i≠id):(G.fz id).ρ i=G.ρ i:=if_neg h
theorem fz_ln {i:Nat} (h:i≠id):(G.fz id).ln i=G.ln i:=if_neg h
theorem Ext.fz (hs:0<G.sz id):Ext w G w (G.fz id):=⟨Nat.le_refl _,fun _ _ _=>rfl,fun b h=>.inl h.1,Nat.le_refl _,⟨rfl,rfl⟩,fun i hi=>by
 by_cases e:i=id
 ·subst e;have e1:(G.fz i).ln i=G.ln i+1:=if_pos rfl;exact ⟨by omega,rfl,fun h=>by omega,fun h=>by omega⟩
 ·rw [fz_ρ e,fz_ln e]
  exact ⟨Nat.le_refl _,rfl,fun _=>rfl,fun _=>rfl⟩⟩
theorem row_frozen {n sz:Nat} {rows:List (List AV)} {e:TypeId} {fr:Bool} {v:Value} (hHR:HR w0 w G hp) (h:look .dead hp id=.row sz rows e) (hn:n=rows.length) (hv:RelV w G (.osl id n) v) (hd:∀ row ∈ rows,∀ a ∈ row,isD a=true):RelV w (G.fz id) (.ro fr sz rows) v:=by
 have hk:=hHR.blk id;rw [h] at hk;obtain ⟨q1,q2,q3,q4,flat,q5,q6,q7⟩:=hk;have hs:0<G.sz id:=by rw [q3];exact q2
 have ev:v=G.ρ id:=by
  cases hv with
  | dat h=>cases h
  | osl _ _ _ _ _ _ _ hh=>exact hh (by rw [q4,hn])
 subst ev;rcases q5.2 with ⟨e1,e2⟩ | ⟨gg,cap,cur,e1,hbs,hh,hcap,hcm,_,_⟩
 ·rw [e1];have hr0:rows=[]:=List.eq_nil_of_length_eq_zero (by omega);subst hr0;exact .dat (.ro fr sz [] none 0 (fun _ _=>undef) (Nat.le_refl _) (by simp [maxLen]) (fun i hi=>by simp at hi) (fun i row j a g=>by simp at g) (fun i row j a g=>by simp at g))
 ·have hog:G.own gg:=hHR.ownhas id gg q1 (by rw [e1];rfl);have q5':=q5;rw [e1] at q5';have e0:=e1;rw [e1]
  have key:∀ (i:Nat) (row:List AV) (j:Nat) (a:AV),rows[i]?=some row→row[j]?=some a→∃ u,flat[i*sz+j]?=some u∧w.cell? ⟨gg,i*sz+j,none⟩=some u∧RelD w (G.fz id).own (G.fz id).bs a u:=by
   intro i row j a g1 g2;obtain ⟨u,g6,g7⟩:=(q7 i row g1).2 j a g2;refine ⟨u,g6,?_,(g7.isD (hd row (List.mem_of_getElem? g1) a (List.mem_of_getElem? g2))).ext (Ext.fz (w:=w) hs)⟩;rw [q5'.cellAt _ (by have:=(List.getElem?_eq_some_iff.1 g6).1;rw [q5.1] at this;exact this),g6]
  refine .dat (.ro fr sz rows (some ⟨gg,0,none⟩) cap (fun i j=>flat.getD (i*sz+j) undef) (by omega) hcm (fun _ _=>by simp) (fun i row j a g1 g2=>?_) (fun i row j a g1 g2=>?_))
  ·obtain ⟨u,g3,g4,_⟩:=key i row j a g1 g2;refine ⟨gg,0,rfl,fun ho=>ho.2 (by rw [e0];rfl),fun _=>?_,?_⟩
   ·show G.bs≤gg;rw [hHR.bs];exact hbs
   ·rw [Nat.zero_add,g4,List.getD_eq_getElem?_getD,g3];rfl
  ·obtain ⟨u,g3,_,g5⟩:=key i row j a g1 g2;rw [List.getD_eq_getElem?_getD,g3];exact g5
theorem view_frozen {n lo len sz:Nat} {rows:List (List AV)} {e:TypeId} {fr:Bool} {v:Value} (hHR:HR w0 w G hp) (h:look .dead hp id=.row sz rows e) (hn:n=rows.length) (hv:RelV w G (.vsl id n lo len) v) (hd:∀ row ∈ rows,∀ a ∈ row,isD a=true):RelV w (G.fz id) (.ro fr sz ((rows.drop lo).take len)) v:=by
 have hk:=hHR.blk id;rw [h] at hk;obtain ⟨q1,q2,q3,q4,flat,q5,q6,q7⟩:=hk;have hs:0<G.sz id:=by rw [q3];exact q2
 cases hv with
 | dat h=>cases h
 | vsl _ _ _ _ _ p1 p2 p3 hle p4 p5 =>
  obtain ⟨A,c,rfl,hc,hcm,hA⟩:=p5 (by rw [q4,hn]);have hlen:((rows.drop lo).take len).length=len:=by rw [List.length_take,List.length_drop];omega
  have key:∀ (i:Nat) (row:List AV) (j:Nat) (a:AV),((rows.drop lo).take len)[i]?=some row→row[j]?=some a→∃ g,A=some ⟨g,lo*sz,none⟩∧¬ (G.fz id).own g∧G.bs≤g∧w.cell? ⟨g,(lo+i)*sz+j,none⟩=some (flat.getD ((lo+i)*sz+j) undef)∧RelD w (G.fz id).own (G.fz id).bs a (flat.getD ((lo+i)*sz+j) undef):=by
   intro i row j a g1 g2;have hil:i<len:=by rw [←hlen];exact (List.getElem?_eq_some_iff.1 g1).1
   obtain ⟨g,c',e1,e2⟩:=hA (by omega);rw [List.getElem?_take_of_lt hil,List.getElem?_drop] at g1;obtain ⟨u,g6,g7⟩:=(q7 _ row g1).2 j a g2
   have hbs:w0.heap.size≤g:=by
    rcases q5.2 with ⟨e3,e4⟩ | ⟨gg,cap,cur,e3,hbs,_⟩
    ·rw [e1] at e3;cases e3
    ·rw [e1] at e3;injection e3 with e3;injection e3 with e3;injection e3 with e3;rw [e3];exact hbs
   have q5':=q5;rw [e1,hn] at q5';refine ⟨g,by rw [e2,q3],fun ho=>ho.2 (by rw [e1];rfl),by rw [hHR.bs];exact hbs,?_,?_⟩
   ·rw [q5'.cellAt _ (by have:=(List.getElem?_eq_some_iff.1 g6).1;rw [q5.1] at this;exact this),List.getD_eq_getElem?_getD,g6];rfl
   ·rw [List.getD_eq_getElem?_getD,g6];exact (g7.isD (hd row (List.mem_of_getElem? g1) a (List.mem_of_getElem? g2))).ext (Ext.fz (w:=w) hs)
  have fin:=RelD.ro (w:=w) (own:=(G.fz id).own) (bs:=(G.fz id).bs) fr sz ((rows.drop lo).take len) A c (fun i j=>flat.getD ((lo+i)*sz+j) undef) (by rw [hlen];exact hc) hcm (fun i hi=>by
    rw [hlen] at hi;obtain ⟨g,c',e1,e2⟩:=hA (by omega)
    rw [e2];simp) (fun i row j a g1 g2=>by
    obtain ⟨g,e1,e2,e3,e4,_⟩:=key i row j a g1 g2;refine ⟨g,lo*sz,e1,e2,fun _=>e3,?_⟩;rw [show lo*sz+i*sz+j=(lo+i)*sz+j by rw [Nat.add_mul]]
    exact e4) (fun i row j a g1 g2=>(by
    obtain ⟨g,_,_,_,_,e5⟩:=key i row j a g1 g2
    exact e5))
  rw [hlen] at fin;exact .dat fin
end
section
variable {V:Ty→Type}
mutual
def SV.fz (id ver:Nat) (fr:Bool) (t:Ty) (xs:E V (.list t)):SV V→SV V
 | .osl i v=>bif Nat.beq i id&&Nat.beq v ver then .ro fr t xs else .osl i v
 | .vsl i v lo hi=>bif Nat.beq i id&&Nat.beq v ver then .ro fr t (.sub xs lo hi) else .vsl i v lo hi
 | .agg cs=>.agg (SV.fzL id ver fr t xs cs)
 | .tup cs=>.tup (SV.fzL id ver fr t xs cs)
 | .fn f cs=>.fn f (SV.fzL id ver fr t xs cs)
 | x=>x
def SV.fzL (id ver:Nat) (fr:Bool) (t:Ty) (xs:E V (.list t)):List (SV V)→List (SV V)
 | []=>[]
 | c::l=>SV.fz id ver fr t xs c::SV.fzL id ver fr t xs l
end
def SB.fz (id ver:Nat) (fr:Bool) (t:Ty) (xs:E V (.list t)):SB V→SB V
 | .box cs e=>.box (SV.fzL id ver fr t xs cs) e
 | b=>b
def SSt.frz (st:SSt V) (id:Nat):SSt V:=match st.blk id with
 | .row fr t xs _ ver=>bif hasN (st.hk.map (·.1)) id||!t.dat then st else
   ⟨st.regs.map (fun p=>(p.1,p.2.fz id ver (fr||t.noL) t xs)),st.kp,(st.heap.filter fun p=>!Nat.beq p.1 id).map (fun p=>(p.1,p.2.fz id ver (fr||t.noL) t xs)),st.hk,st.fr,st.nx⟩
 | _=>st
def SSt.frzL (st:SSt V):List Nat→SSt V
 | []=>st
 | id::l=>SSt.frzL (st.frz id) l
end
mutual
theorem sv_all:∀ (x:SV D),x.refs (fun _=>true) (fun _ _=>true)=true
 | .any=>by rw [SV.refs];all_goals simp
 | .und=>by rw [SV.refs];all_goals simp
 | .int ..=>by rw [SV.refs];all_goals simp
 | .bool ..=>by rw [SV.refs];all_goals simp
 | .str ..=>by rw [SV.refs];all_goals simp
 | .nilp=>by rw [SV.refs];all_goals simp
 | .nils=>by rw [SV.refs];all_goals simp
 | .nilf=>by rw [SV.refs];all_goals simp
 | .pk ..=>by rw [SV.refs];all_goals simp
 | .ro ..=>by rw [SV.refs];all_goals simp
 | .aosl ..=>by rw [SV.refs];all_goals simp
 | .aelt ..=>by rw [SV.refs];all_goals simp
 | .box ..=>by rw [SV.refs]
 | .elt ..=>by rw [SV.refs]
 | .osl ..=>by rw [SV.refs]
 | .vsl ..=>by rw [SV.refs]
 | .agg cs=>by rw [SV.refs];exact svL_all cs
 | .tup cs=>by rw [SV.refs];exact svL_all cs
 | .fn f cs=>by rw [SV.refs];exact svL_all cs
theorem svL_all:∀ (l:List (SV D)),SV.refsL (fun _=>true) (fun _ _=>true) l=true
 | []=>by rw [SV.refsL]
 | c::l=>by rw [SV.refsL,sv_all c,svL_all l];rfl
end
theorem refsF_all (h:∀ x:SV D,x.refs (fun _=>true) (fun _ _=>true)=true):∀ (l:List (List (Nat×SV D))),refsF (fun _=>true) (fun _ _=>true) l=true
 | []=>rfl
 | p::l=>by rw [refsF,refsR_all p h,refsF_all h l];rfl
theorem fzL_get (id ver:Nat) (fr:Bool) (t:Ty) (xs:E D (.list t)):∀ (l:List (SV D)) (i:Nat),(SV.fzL id ver fr t xs l)[i]?=(l[i]?).map (SV.fz id ver fr t xs)
 | [],i=>by rw [SV.fzL];rfl
 | c::l,0=>by rw [SV.fzL];rfl
 | c::l,i+1=>by rw [SV.fzL];exact fzL_get id ver fr t xs l i
theorem fzL_length (id ver:Nat) (fr:Bool) (t:Ty) (xs:E D (.list t)):∀ (l:List (SV D)),(SV.fzL id ver fr t xs l).length=l.length
 | []=>by rw [SV.fzL]
 | c::l=>by rw [SV.fzL,List.length_cons,List.length_cons,fzL_length id ver fr t xs l]
section
variable {F:List (Nat→AV)} {st:SSt D} {m:Nat→Nat} {nx id ver:Nat} {fr:Bool} {t:Ty} {xs:E D (.list t)} {e:TypeId} {w:World} {G:Gh} {H H':Nat→SB D}
mutual
theorem fz_rel (hs:0<G.sz (m id)) (hle:MemLe m H m H' (fun _=>true) (fun _ _=>true)) (hb:rowLen H id ver=some (List.length xs.den)) (hfz:∀ v,RelV w G (.osl (m id) (List.length xs.den)) v→RelV w (G.fz (m id)) (.ro fr t.size ((xs.den:List t.den).map (t.cells fr))) v) (hfzV:∀ lo len v,RelV w G (.vsl (m id) (List.length xs.den) lo len) v→RelV w (G.fz (m id)) (.ro fr t.size (((xs.den:List t.den).map (t.cells fr)).drop lo |>.take len)) v) :
  ∀ (x:SV D) (v:Value),RelV w G (x.enc m H) v→RelV w (G.fz (m id)) ((x.fz id ver fr t xs).enc m H') v
 | .osl i v',v,r=>by
  rw [SV.fz]
  cases hc:(Nat.beq i id&&Nat.beq v' ver) with
  | true =>
   rw [Bool.and_eq_true] at hc;have e1:=Nat.eq_of_beq_eq_true hc.1;have e2:=Nat.eq_of_beq_eq_true hc.2;subst e1;subst e2
   rw [SV.enc,hb] at r;show RelV w _ (SV.enc m H' (.ro fr t xs)) v;rw [SV.enc];exact hfz v r
  | false=>exact (enc_les hle (.osl i v') (sv_all _)).rel (r.ext (Ext.fz hs))
 | .agg cs,v,r=>by
  rw [SV.enc] at r;rw [SV.fz,SV.enc];obtain ⟨us,rfl,hsz,hr⟩:=r.agg';rw [encL_map,List.length_map] at hsz;refine .agg _ _ (by rw [encL_map,List.length_map,fzL_length,hsz]) fun i a u ha hu=>?_
  exact fzL_rel hs hle hb hfz hfzV cs us hr i a u ha hu
 | .tup cs,v,r=>by
  rw [SV.enc] at r;rw [SV.fz,SV.enc];obtain ⟨us,rfl,hsz,hr⟩:=r.tup';rw [encL_map,List.length_map] at hsz;refine .tup _ _ (by rw [encL_map,List.length_map,fzL_length,hsz]) fun i a u ha hu=>?_
  exact fzL_rel hs hle hb hfz hfzV cs us hr i a u ha hu
 | .fn f cs,v,r=>by
  rw [SV.enc] at r;rw [SV.fz,SV.enc];obtain ⟨us,rfl,hsz,hr⟩:=r.fn';rw [encL_map,List.length_map] at hsz;refine .fn _ _ _ _ rfl (by rw [encL_map,List.length_map,fzL_length,hsz]) fun i a u ha hu=>?_
  exact fzL_rel hs hle hb hfz hfzV cs us hr i a u ha hu
 | .any,v,r=>by rw [SV.fz];exact (enc_les hle _ (sv_all _)).rel (r.ext (Ext.fz hs));all_goals simp
 | .und,v,r=>by rw [SV.fz];exact (enc_les hle _ (sv_all _)).rel (r.ext (Ext.fz hs));all_goals simp
 | .int ..,v,r=>by rw [SV.fz];exact (enc_les hle _ (sv_all _)).rel (r.ext (Ext.fz hs));all_goals simp
 | .bool ..,v,r=>by rw [SV.fz];exact (enc_les hle _ (sv_all _)).rel (r.ext (Ext.fz hs));all_goals simp
 | .str ..,v,r=>by rw [SV.fz];exact (enc_les hle _ (sv_all _)).rel (r.ext (Ext.fz hs));all_goals simp
 | .nilp,v,r=>by rw [SV.fz];exact (enc_les hle _ (sv_all _)).rel (r.ext (Ext.fz hs));all_goals simp
 | .nils,v,r=>by rw [SV.fz];exact (enc_les hle _ (sv_all _)).rel (r.ext (Ext.fz hs));all_goals simp
 | .nilf,v,r=>by rw [SV.fz];exact (enc_les hle _ (sv_all _)).rel (r.ext (Ext.fz hs));all_goals simp
 | .pk ..,v,r=>by rw [SV.fz];exact (enc_les hle _ (sv_all _)).rel (r.ext (Ext.fz hs));all_goals simp
 | .ro ..,v,r=>by rw [SV.fz];exact (enc_les hle _ (sv_all _)).rel (r.ext (Ext.fz hs));all_goals simp
 | .aosl ..,v,r=>by rw [SV.fz];exact (enc_les hle _ (sv_all _)).rel (r.ext (Ext.fz hs));all_goals simp
 | .aelt ..,v,r=>by rw [SV.fz];exact (enc_les hle _ (sv_all _)).rel (r.ext (Ext.fz hs));all_goals simp
 | .box ..,v,r=>by rw [SV.fz];exact (enc_les hle _ (sv_all _)).rel (r.ext (Ext.fz hs));all_goals simp
 | .vsl i v' lo hi,v,r=>by
  rw [SV.fz]
  cases hc:(Nat.beq i id&&Nat.beq v' ver) with
  | true =>
   rw [Bool.and_eq_true] at hc;have e1:=Nat.eq_of_beq_eq_true hc.1;have e2:=Nat.eq_of_beq_eq_true hc.2;subst e1;subst e2
   rw [SV.enc,hb] at r;show RelV w _ (SV.enc m H' (.ro fr t (.sub xs lo hi))) v;rw [SV.enc];have k:=hfzV _ _ v r;rw [←List.map_drop,←List.map_take,←List.drop_take] at k;exact k
  | false=>exact (enc_les hle (.vsl i v' lo hi) (sv_all _)).rel (r.ext (Ext.fz hs))
 | .elt ..,v,r=>by rw [SV.fz];exact (enc_les hle _ (sv_all _)).rel (r.ext (Ext.fz hs));all_goals simp
theorem fzL_rel (hs:0<G.sz (m id)) (hle:MemLe m H m H' (fun _=>true) (fun _ _=>true)) (hb:rowLen H id ver=some (List.length xs.den)) (hfz:∀ v,RelV w G (.osl (m id) (List.length xs.den)) v→RelV w (G.fz (m id)) (.ro fr t.size ((xs.den:List t.den).map (t.cells fr))) v) (hfzV:∀ lo len v,RelV w G (.vsl (m id) (List.length xs.den) lo len) v→RelV w (G.fz (m id)) (.ro fr t.size (((xs.den:List t.den).map (t.cells fr)).drop lo |>.take len)) v) :
  ∀ (cs:List (SV D)) (us:Array Value),(∀ (i:Nat) (a:AV) (u:Value),(SV.encL m H cs)[i]?=some a→us[i]?=some u→RelV w G a u)→∀ (i:Nat) (a:AV) (u:Value),(SV.encL m H' (SV.fzL id ver fr t xs cs))[i]?=some a→us[i]?=some u→RelV w (G.fz (m id)) a u
 | [],us,hr,i,a,u,ha,hu=>by rw [SV.fzL,SV.encL] at ha;simp at ha
 | c::l,us,hr,0,a,u,ha,hu=>by
  rw [SV.fzL,SV.encL] at ha;simp only [List.getElem?_cons_zero,Option.some.injEq] at ha;subst ha;exact fz_rel hs hle hb hfz hfzV c u (hr 0 _ u (by rw [SV.encL];rfl) hu)
 | c::l,us,hr,i+1,a,u,ha,hu=>by
  rw [SV.fzL,SV.encL] at ha
  have:=fzL_rel hs hle hb hfz hfzV l (us.extract 1 us.size) (fun j b y hb' hy=>hr (j+1) b y (by rw [SV.encL];exact hb') (by
   rw [Array.getElem?_extract] at hy;split at hy
   ·rw [Nat.add_comm];exact hy
   ·cases hy)) i a u (by simpa using ha) (by
   rw [Array.getElem?_extract];have hi:i+1<us.size:=(Array.getElem?_eq_some_iff.1 hu).1
   rw [if_pos (by omega),Nat.add_comm];exact hu)
  exact this
end
end
theorem look_fm {α:Type} (d:α) (f:α→α) {id k:Nat} (hk:k≠id):∀ (l:List (Nat×α)),look d ((l.filter fun p=>!Nat.beq p.1 id).map fun p=>(p.1,f p.2)) k=f (look d l k)∨(look d ((l.filter fun p=>!Nat.beq p.1 id).map fun p=>(p.1,f p.2)) k=d∧look d l k=d)
 | []=>.inr ⟨rfl,rfl⟩
 |(j,v)::l=>by
  have ih:=look_fm d f hk l;by_cases e:j=id
  ·subst e
   have e1:(((j,v)::l).filter fun p=>!Nat.beq p.1 j)=l.filter fun p=>!Nat.beq p.1 j:=by
    rw [List.filter_cons];simp
   rw [e1,look_cons,if_neg (fun h=>hk h.symm)];exact ih
  ·have hbq:Nat.beq j id=false:=by rw [←Bool.not_eq_true];intro h;exact e (Nat.eq_of_beq_eq_true h)
   have e1:(((j,v)::l).filter fun p=>!Nat.beq p.1 id)=(j,v)::l.filter fun p=>!Nat.beq p.1 id:=by
    rw [List.filter_cons];simp [hbq]
   rw [e1,List.map_cons,look_cons,look_cons];split
   ·exact .inl rfl
   ·exact ih
theorem look_fid {α:Type} (d:α) (f:α→α) (id:Nat) (l:List (Nat×α)):look d ((l.filter fun p=>!Nat.beq p.1 id).map fun p=>(p.1,f p.2)) id=d:=by
 refine look_none fun h=>?_
 obtain ⟨p,hp,e⟩:=List.mem_map.1 h;obtain ⟨q,hq,rfl⟩:=List.mem_map.1 hp;have:=(List.mem_filter.1 hq).2;have e:q.1=id:=e;rw [e,Nat.beq_refl] at this;cases this
theorem look_mp {α:Type} (d:α) (f:α→α) (k:Nat):∀ (l:List (Nat×α)),look d (l.map fun p=>(p.1,f p.2)) k=f (look d l k)∨look d (l.map fun p=>(p.1,f p.2)) k=look d l k
 | []=>.inr rfl
 |(j,v)::l=>by
  rw [List.map_cons,look_cons,look_cons];split
  ·exact .inl rfl
  ·exact look_mp d f k l
section
variable {F:List (Nat→AV)} {st:SSt D} {s:ASt} {m:Nat→Nat} {nx id ver:Nat} {fr:Bool} {t:Ty} {xs:E D (.list t)} {e:TypeId}
theorem frz_eq (hb:st.blk id=.row fr t xs e ver) (hk:hasN (st.hk.map (·.1)) id=false) (hdt:t.dat=true):st.frz id=⟨st.regs.map (fun p=>(p.1,p.2.fz id ver (fr||t.noL) t xs)),st.kp,(st.heap.filter fun p=>!Nat.beq p.1 id).map (fun p=>(p.1,p.2.fz id ver (fr||t.noL) t xs)),st.hk,st.fr,st.nx⟩:=by
 unfold SSt.frz;rw [hb];simp only [hk,hdt,Bool.not_true,Bool.or_false,cond_false]
theorem frz_blk (hb:st.blk id=.row fr t xs e ver) (hk:hasN (st.hk.map (·.1)) id=false) (hdt:t.dat=true) (k:Nat):(k=id∧(st.frz id).blk k=.dead)∨(k≠id∧((st.frz id).blk k=(st.blk k).fz id ver (fr||t.noL) t xs∨(st.frz id).blk k=st.blk k)):=by
 rw [frz_eq hb hk hdt];by_cases e1:k=id
 ·subst e1;refine .inl ⟨rfl,?_⟩;show look (look .dead st.hk k) _ k=_;rw [look_fid];refine look_none fun h=>?_
  rw [hasN_of h] at hk;cases hk
 ·refine .inr ⟨e1,?_⟩;show look (look .dead st.hk k) _ k=SB.fz id ver (fr||t.noL) t xs (look (look .dead st.hk k) st.heap k)∨look (look .dead st.hk k) _ k=look (look .dead st.hk k) st.heap k;rcases look_fm (look SB.dead st.hk k) (SB.fz id ver (fr||t.noL) t xs) e1 st.heap with h | ⟨h1,h2⟩
  ·exact .inl h
  ·exact .inr (h1.trans h2.symm)
theorem fz_box (b:SB D):(match b.fz id ver fr t xs with | .box ..=>true | _=>false)=(match b with | .box ..=>true | _=>false):=by cases b <;> rfl
theorem frz_ok (hm:MOk m nx st) (hf:FrOk m st.blk st.fr F) (id:Nat):StL F (st.frz id) (st.enc m nx)∧Fix st (st.frz id):=by
 have same:st.frz id=st→StL F (st.frz id) (st.enc m nx)∧Fix st (st.frz id):=fun h=>by rw [h];exact ⟨⟨m,nx,hm,.refl _,hf⟩,.refl st⟩
 cases hb:st.blk id with
 | dead=>exact same (by unfold SSt.frz;rw [hb])
 | box cs e=>exact same (by unfold SSt.frz;rw [hb])
 | arn=>exact same (by unfold SSt.frz;rw [hb])
 | row fr t xs e ver =>
  cases hk:hasN (st.hk.map (·.1)) id with
  | true=>exact same (by unfold SSt.frz;rw [hb];simp only [hk,Bool.true_or,cond_true])
  | false =>
   cases hdt:t.dat with
   | false=>exact same (by unfold SSt.frz;rw [hb];simp only [hk,hdt,Bool.not_false,Bool.or_true,cond_true])
   | true =>
   have hbk:=frz_blk hb hk hdt;have heq:=frz_eq hb hk hdt;have hlive:st.blk id≠.dead:=by rw [hb];simp
   have hlv:∀ k,(st.frz id).blk k≠.dead→st.blk k≠.dead∧k≠id:=by
    intro k h;rcases hbk k with ⟨_,h2⟩ | ⟨h1,h2 | h2⟩
    ·exact absurd h2 h
    ·refine ⟨fun h3=>h ?_,h1⟩;rw [h2,h3];rfl
    ·exact ⟨by rw [←h2];exact h,h1⟩
   have hA0:((st.frz id).blk 0).isA=true→(st.blk 0).isA=true∧(st.frz id).blk 0=st.blk 0:=by
    intro h;rcases hbk 0 with ⟨_,h2⟩ | ⟨_,h2 | h2⟩
    ·rw [h2] at h;cases h
    ·rw [h2] at h ⊢
     cases hb0:st.blk 0 with
     | arn=>exact ⟨rfl,by rw [SB.fz];all_goals simp⟩
     | dead=>rw [hb0] at h;cases h
     | box=>rw [hb0] at h;cases h
     | row=>rw [hb0,SB.fz] at h;cases h;all_goals simp
    ·rw [h2] at h ⊢;exact ⟨h,rfl⟩
   have hm':MOk m nx (st.frz id):=by
    refine ⟨fun k h=>hm.lt k (hlv k h).1,fun k k' h h'=>hm.inj k k' (hlv k h).1 (hlv k' h').1,fun p hp=>?_,fun h=>hm.ar' (hA0 h).1,hm.ge.1,fun k hk=>hm.ge.2 k (hlv k hk).1⟩;rw [heq] at hp ⊢;rcases List.mem_append.1 hp with hp | hp
    ·obtain ⟨q,hq,rfl⟩:=List.mem_map.1 hp;have:=hm.keys q (List.mem_append_left _ (List.mem_filter.1 hq).1);refine ⟨this.1,?_⟩;have h2:=this.2;show SB.fz id ver (fr||t.noL) t xs q.2≠.dead
     cases hq2:q.2 with
     | dead=>exact absurd hq2 h2
     | box=>rw [SB.fz];simp
     | row=>rw [SB.fz];all_goals simp
     | arn=>rw [SB.fz];all_goals simp
    ·exact hm.keys p (List.mem_append_right _ hp)
   have hle:MemLe m st.blk m (st.frz id).blk (fun _=>true) (fun _ _=>true):=by
    refine ⟨fun k _=>.inr ⟨?_,rfl⟩,fun k v _=>?_⟩
    ·unfold isBox;rcases hbk k with ⟨h1,h2⟩ | ⟨_,h2 | h2⟩
     ·rw [h2,h1,hb]
     ·rw [h2];exact fz_box _
     ·rw [h2]
    ·unfold rowLen;rcases hbk k with ⟨h1,h2⟩ | ⟨_,h2 | h2⟩
     ·rw [h2];exact .inl rfl
     ·refine .inr ⟨?_,rfl⟩;rw [h2]
      cases st.blk k <;> rfl
     ·rw [h2];exact .inr ⟨rfl,rfl⟩
   have hbb:=enc_blk hm hlive;rw [hb,SB.enc] at hbb;refine ⟨⟨m,nx,hm',⟨fun {K n a w} ⟨G,r⟩=>?_⟩,?_⟩,by rw [heq];exact ⟨rfl,rfl,rfl⟩⟩
   ·have hkb:=r.hr.blk (m id);rw [hbb] at hkb;have hs:0<G.sz (m id):=by rw [hkb.2.2.1];exact hkb.2.1
    have hx:Ext w G w (G.fz (m id)):=Ext.fz hs;have hrl:rowLen st.blk id ver=some (List.length xs.den):=rowLen_eq hb (Nat.beq_refl _)
    have hfz:∀ v,RelV w G (.osl (m id) (List.length xs.den)) v→RelV w (G.fz (m id)) (.ro (fr||t.noL) t.size ((xs.den:List t.den).map (t.cells (fr||t.noL)))) v:=fun v hv=>by
     rw [rows_fl]
     exact row_frozen r.hr hbb (rows_len _).symm hv (fun row hr a ha=>by
      obtain ⟨x,_,rfl⟩:=List.mem_map.1 hr
      exact t.cells_isD _ x hdt a ha)
    have hfzV:∀ lo len v,RelV w G (.vsl (m id) (List.length xs.den) lo len) v→RelV w (G.fz (m id)) (.ro (fr||t.noL) t.size (((xs.den:List t.den).map (t.cells (fr||t.noL))).drop lo |>.take len)) v:=fun lo len v hv=>by
     rw [rows_fl]
     exact view_frozen r.hr hbb (rows_len _).symm hv (fun row hr a ha=>by
      obtain ⟨x,_,rfl⟩:=List.mem_map.1 hr
      exact t.cells_isD _ x hdt a ha)
    refine ⟨G.fz (m id),r.nx,⟨r.hr.bs,r.hr.below,fun b=>⟨fun h=>r.hr.ownlt b h.1,fun hf=>⟨r.hr.farown b hf,fun e=>r.hr.nofar (m id) b hkb.1 e hf⟩⟩,fun k=>?_,fun i i' g h1 h2 hne hg=>?_,fun i g h1 hg=>?_⟩,r.ext.trans hx,r.size,r.defers,fun d=>?_⟩
    ·rcases heap_cases hm' k with h | ⟨b,hbl,rfl⟩ | ⟨h1,h2,h3⟩
     ·rw [h];trivial
     rotate_left
     ·obtain ⟨q1,q2⟩:=hA0 h1;rw [h3,q2];have o:=r.hr.blk k;rw [enc_look hm,q1,show Nat.blt k (m 0)=true by rw [Nat.blt_eq];exact h2] at o;have hne:k≠m id:=fun e1=>by have:=(hm.ar q1).2 id hlive;omega
      exact o.step hx (fun _=>⟨fz_ρ hne,fz_ln hne,fun _ _=>rfl⟩)
     ·obtain ⟨hl1,hl2⟩:=hlv b hbl;have hmne:m b≠m id:=fun e1=>hl2 (hm.inj b id hl1 hlive e1)
      have o:=r.hr.blk (m b);rw [enc_blk hm hl1] at o;rw [enc_blk hm' hbl];have hstep:ABok K.w0 w (G.fz (m id)) (m b) ((st.blk b).enc m st.blk):=o.step hx (fun _=>⟨fz_ρ hmne,fz_ln hmne,fun _ _=>rfl⟩)
      have hsame:ABok K.w0 w (G.fz (m id)) (m b) ((st.blk b).enc m (st.frz id).blk):=by
       refine (encB_les hle (st.blk b) ?_).ok hstep
       cases st.blk b with
       | dead=>rfl
       | box cs e=>exact svL_all cs
       | row=>rfl
       | arn=>rfl
      rcases hbk b with ⟨h1,_⟩ | ⟨_,h2 | h2⟩
      ·exact absurd h1 hl2
      ·rw [h2]
       cases hbx:st.blk b with
       | dead=>exact absurd hbx hl1
       | row=>rw [hbx] at hsame;exact hsame
       | arn=>rw [SB.fz];trivial;all_goals simp
       | box cs e' =>
        rw [hbx,SB.enc] at o;obtain ⟨o1,o2,g,vs,o3,o4,o5,o6⟩:=o;rw [SB.fz,SB.enc];rw [encL_map,List.length_map] at o5;refine ⟨o1,o2,g,vs,by rw [fz_ρ hmne];exact o3,o4,by rw [encL_map,List.length_map,fzL_length];exact o5,fun i y hi=>?_⟩
        have hil:i<cs.length:=by
         have:=(List.getElem?_eq_some_iff.1 hi).1;rw [encL_map,List.length_map,fzL_length] at this;exact this
        have hci:(SV.encL m st.blk cs)[i]?=some (SV.enc m st.blk cs[i]):=by
         rw [encL_map,List.getElem?_map,List.getElem?_eq_getElem hil];rfl
        obtain ⟨v,p1,p2,p3⟩:=o6 i _ hci;refine ⟨v,p1,p2,?_⟩;rw [encL_map,List.getElem?_map,fzL_get,List.getElem?_eq_getElem hil] at hi;have hi:SV.enc m (st.frz id).blk (SV.fz id ver (fr||t.noL) t xs cs[i])=y:=by injection hi
        rw [←hi];exact fz_rel hs hle hrl hfz hfzV _ v p3
      ·rw [h2];exact hsame
    ·by_cases e1:i=m id
     ·subst e1;have:(G.fz (m id)).ρ (m id)=.slice none 0 0:=if_pos rfl;rw [this] at hg;simp [ownBlk] at hg
     ·rw [fz_ρ e1] at hg;by_cases e2:i'=m id
      ·subst e2;have:(G.fz (m id)).ρ (m id)=.slice none 0 0:=if_pos rfl;rw [this];simp [ownBlk]
      ·rw [fz_ρ e2];exact r.hr.dist i i' g h1 h2 hne hg
    ·by_cases e1:i=m id
     ·subst e1;have:(G.fz (m id)).ρ (m id)=.slice none 0 0:=if_pos rfl;rw [this] at hg;simp [ownBlk] at hg
     ·rw [fz_ρ e1] at hg;exact ⟨⟨r.hr.ownhas i g h1 hg,fun h=>r.hr.dist i (m id) g h1 hkb.1 e1 hg h⟩,r.hr.nofar i g h1 hg⟩
    ·rw [enc_get];have ho:=r.regs d;rw [enc_get] at ho
     have hget:(st.frz id).get d=(st.get d).fz id ver (fr||t.noL) t xs∨(st.frz id).get d=st.get d:=by
      rw [heq];exact look_mp (look .any st.kp d) (SV.fz id ver (fr||t.noL) t xs) d st.regs
     rcases hget with h | h
     ·rw [h];exact fz_rel hs hle hrl hfz hfzV _ _ ho
     ·rw [h];exact (enc_les hle _ (sv_all _)).rel (ho.ext hx)
   ·have:(st.frz id).fr=st.fr:=by rw [heq]
    rw [this];exact hf.les' hle (refsF_all sv_all _)
theorem frzL_ok:∀ (l:List Nat) (st:SSt D) {s:ASt},StL F st s→StL F (st.frzL l) s
 | [],st,s,h=>h
 | id::l,st,s,h=>by
  obtain ⟨m,nx,hm,hr,hf⟩:=h;obtain ⟨m',nx',g1,g2,g3⟩:=(frz_ok hm hf id).1;exact frzL_ok l _ ⟨m',nx',g1,hr.trans g2,g3⟩
theorem frz_fix (st:SSt D) (id:Nat):Fix st (st.frz id):=by
 unfold SSt.frz;split
 ·rename_i t _ _ _ _
  cases (hasN (st.hk.map (·.1)) id||!t.dat) with
  | true=>exact .refl st
  | false=>exact ⟨rfl,rfl,rfl⟩
 ·exact .refl st
theorem frzL_fix:∀ (l:List Nat) (st:SSt D),Fix st (st.frzL l)
 | [],st=>.refl st
 | id::l,st=>(frz_fix st id).trans (frzL_fix l _)
end
section
variable {V:Ty→Type}
mutual
def wantK:SK→SV V→List Nat
 | .ro ..,.osl id _=>[id]
 | .ro ..,.vsl id _ _ _=>[id]
 | .agg l,.agg cs=>wantKL l cs
 | .tup l,.tup cs=>wantKL l cs
 | .fn _ l,.fn _ cs=>wantKL l cs
 | _,_=>[]
def wantKL:List SK→List (SV V)→List Nat
 | s::l,c::cs=>wantK s c++wantKL l cs
 | _,_=>[]
end
def wantI (st:SSt V) (mp:List (Nat×Nat)):List Itm→List Nat
 | []=>[]
 | .reg d s::l=>wantK s (st.get d)++wantI st mp l
 | .box b ks _::l=>(match st.blk (mpI mp b) with
  | .box cs _=>wantKL ks cs
  | _=>[])++wantI st mp l
 | .row ..::l=>wantI st mp l
 | .arn ..::l=>wantI st mp l
def matF (sg:Sig) (st:SSt V):SSt V:=(mat sg.nl st).frzL (wantI (mat sg.nl st) (mapOf (mat sg.nl st) sg) sg.items)
mutual
def SV.osls:SV V→List Nat
 | .osl id _=>[id]
 | .agg cs=>SV.oslsL cs
 | .tup cs=>SV.oslsL cs
 | _=>[]
def SV.oslsL:List (SV V)→List Nat
 | []=>[]
 | c::l=>c.osls++SV.oslsL l
end
def needF (st:SSt V):Op→List Nat
 | .store _ a v=>match st.ev a with
  | .elt ..=>(st.ev v).osls
  | _=>[]
 | .buildSlice _ _ parts=>SV.oslsL (parts.toList.map fun p=>st.ev p.2)
 | _=>[]
end
end Go.Proofs.Ytedmffbhklgloaa
/- Decompiling: residual programs;arguments and results as data. No program in sight. -/
namespace Go.Proofs.Ytedmffbhklgloaa
open Go Go.RowKit

inductive G (V W:Ty→Type) (ρ:Ty) where
 | ret (e:E V ρ)
 | fail
 | ite (c:E V .bool) (a b:G V W ρ)
 | grd (c:E V .bool) (a:G V W ρ)
 | lt {t:Ty} (e:E V t) (k:V t→G V W ρ)
 | call {a r:Ty} (f:Nat→a.den→Option r.den) (nm:Nat) (x:E V a) (k:V r→G V W ρ)
 | join {t:Ty} (J:V t→G V W ρ) (body:W t→G V W ρ)
 | loop {t:Ty} (body:W t→V t→G V W ρ) (e:E V t)
 | jump {t:Ty} (j:W t) (e:E V t)
abbrev KD (ρ:Ty):Ty→Type:=fun t=>t.den→Option ρ.den
def loopF {α β:Type} (f:(α→Option β)→α→Option β):Nat→α→Option β
 | 0,_=>none
 | n+1,x=>f (loopF f n) x
def joinF {α β:Type} (J:α→Option β) (b:(α→Option β)→Option β):Option β:=b J
def bindO {α β:Type} (x:Option α) (k:α→Option β):Option β:=match x with
 | some y=>k y
 | none=>none
def G.den {ρ:Ty} (fu:Nat):G D (KD ρ) ρ→Option ρ.den
 | .ret e=>some e.den
 | .fail=>none
 | .ite c a b=>bif c.den then a.den fu else b.den fu
 | .grd c a=>bif c.den then a.den fu else none
 | .lt e k=>(k e.den).den fu
 | .call f _ x k=>bindO (f fu x.den) fun y=>(k y).den fu
 | .join J b=>joinF (fun x=>(J x).den fu) fun j=>(b j).den fu
 | .loop b e=>loopF (fun j x=>(b j x).den fu) fu e.den
 | .jump j e=>j e.den
section
variable {V W:Ty→Type} {ρ:Ty}
def grdG (c:E V .bool) (g:G V W ρ):G V W ρ:=match c with
 | .bL true=>g
 | .bL false=>.fail
 | c=>.grd c g
def iteG (c:E V .bool) (a b:G V W ρ):G V W ρ:=match c with
 | .bL true=>a
 | .bL false=>b
 | c=>.ite c a b
def E.atomic {t:Ty} (e:E V t):Bool:=match e with
 | .var _=>true
 | .iL _ _=>true
 | .bL _=>true
 | .sL _=>true
 | .nil _=>true
 | .uni=>true
 | _=>false
def letV (x:SV V) (K:SV V→G V W ρ):G V W ρ:=match x with
 | .int k e=>bif e.atomic then K (.int k e) else .lt e fun v=>K (.int k (.var v))
 | .bool e=>bif e.atomic then K (.bool e) else .lt e fun v=>K (.bool (.var v))
 | .str e=>bif e.atomic then K (.str e) else .lt e fun v=>K (.str (.var v))
 | .pk fr t e o=>bif e.atomic then K (.pk fr t e o) else .lt e fun v=>K (.pk fr t (.var v) o)
 | .ro fr t e=>bif e.atomic then K (.ro fr t e) else .lt e fun v=>K (.ro fr t (.var v))
 | x=>K x
end
section
variable {ρ:Ty} {fu:Nat}
theorem grdG_den {c:E D .bool} {g:G D (KD ρ) ρ} {r:ρ.den} (h:(grdG c g).den fu=some r):c.den=true∧g.den fu=some r:=by
 unfold grdG at h;split at h
 ·exact ⟨rfl,h⟩
 ·cases h
 ·rw [G.den] at h
  cases hc:(c.den:Bool) with
  | true=>rw [hc] at h;exact ⟨rfl,h⟩
  | false=>rw [hc] at h;cases h
theorem iteG_den {c:E D .bool} {a b:G D (KD ρ) ρ} {r:ρ.den} (h:(iteG c a b).den fu=some r):(c.den=true∧a.den fu=some r)∨(c.den=false∧b.den fu=some r):=by
 unfold iteG at h;split at h
 ·exact .inl ⟨rfl,h⟩
 ·exact .inr ⟨rfl,h⟩
 ·rw [G.den] at h
  cases hc:(c.den:Bool) with
  | true=>rw [hc] at h;exact .inl ⟨rfl,h⟩
  | false=>rw [hc] at h;exact .inr ⟨rfl,h⟩
theorem letV_den {x:SV D} {K:SV D→G D (KD ρ) ρ} {r:ρ.den} (h:(letV x K).den fu=some r):∃ y,(∀ m H,y.enc m H=x.enc m H)∧(K y).den fu=some r:=by
 unfold letV at h;split at h
 ·rename_i k e
  cases ha:e.atomic with
  | true=>rw [ha] at h;exact ⟨_,fun _ _=>rfl,h⟩
  | false=>rw [ha] at h;exact ⟨_,fun _ _=>by rw [SV.enc,SV.enc];rfl,h⟩
 ·rename_i e
  cases ha:e.atomic with
  | true=>rw [ha] at h;exact ⟨_,fun _ _=>rfl,h⟩
  | false=>rw [ha] at h;exact ⟨_,fun _ _=>by rw [SV.enc,SV.enc];rfl,h⟩
 ·rename_i e
  cases ha:e.atomic with
  | true=>rw [ha] at h;exact ⟨_,fun _ _=>rfl,h⟩
  | false=>rw [ha] at h;exact ⟨_,fun _ _=>by rw [SV.enc,SV.enc];rfl,h⟩
 ·rename_i fr t e o
  cases ha:e.atomic with
  | true=>rw [ha] at h;exact ⟨_,fun _ _=>rfl,h⟩
  | false=>rw [ha] at h;exact ⟨_,fun _ _=>by rw [SV.enc,SV.enc];rfl,h⟩
 ·rename_i fr t e
  cases ha:e.atomic with
  | true=>rw [ha] at h;exact ⟨_,fun _ _=>rfl,h⟩
  | false=>rw [ha] at h;exact ⟨_,fun _ _=>by rw [SV.enc,SV.enc];rfl,h⟩
 ·exact ⟨_,fun _ _=>rfl,h⟩
end
section
variable {V:Ty→Type}
def srcV (st:SSt V) (t:Ty) (x:SV V):Option (E V (.list t)):=match x with
 | .vsl id ver lo hi=>match st.blk id with
  | .row _ t' xs _ v=>bif Nat.beq ver v then (match Ty.eqd t' t with
   | some ⟨h⟩=>some (.sub (h ▸ xs) lo hi)
   | none=>none) else none
  | _=>none
 | x=>match srcS st t x with
  | some (_,e)=>some e
  | none=>none
def exF (st:SSt V):(t:Ty)→List (SV V)→Option (E V t×List (SV V))
 | .int k,l=>match l with
  | .int k' e::l=>if h:k'=k then some (h ▸ e,l) else none
  | _=>none
 | .bool,l=>match l with
  | .bool e::l=>some (e,l)
  | _=>none
 | .str,l=>match l with
  | .str e::l=>some (e,l)
  | _=>none
 | .list t,l=>bif t.dat then (match l with
  | c::l=>match srcV st t c with
   | some e=>some (e,l)
   | none=>none
  | []=>none) else none
 | .unit,l=>some (.uni,l)
 | .pair a b,l=>match exF st a l with
  | some (x,l')=>match exF st b l' with
   | some (y,l'')=>some (.pair x y,l'')
   | none=>none
  | none=>none
 | .agg t,l=>match exF st t l with
  | some (x,l')=>some (.aggI x,l')
  | none=>none
 | .ptr _,_=>none
 | .aix,_=>none
def exFA (st:SSt V) (t:Ty) (l:List (SV V)):Option (E V t):=match exF st t l with
 | some (x,[])=>some x
 | _=>none
def exAggA (st:SSt V) (t:Ty) (x:SV V):Option (E V (.agg t)):=match x with
 | .agg cs=>match exFA st t cs with
  | some e=>some (.aggI e)
  | none=>none
 | _=>none
def exPtrA (st:SSt V) (t:Ty) (x:SV V):Option (E V (.ptr t)):=match x with
 | .pk _ t' e o=>bif Nat.beq o 0&&(Nat.blt 0 t.size&&t.dat) then (match Ty.eqd t' t with
  | some ⟨h⟩=>some (.ptrI (h ▸ e))
  | none=>none) else none
 | .box id o=>match st.blk id with
  | .box cs _=>bif Nat.beq o 0&&(Nat.blt 0 t.size&&t.dat) then (match exFA st t cs with
   | some e=>some (.ptrI e)
   | none=>none) else none
  | _=>none
 | _=>none
def partC (o n:Nat) (cs:List (SV V)):List (SV V):=(cs.drop o).take n
def exPtrO (st:SSt V) (t:Ty) (x:SV V):Option (E V (.ptr t)):=bif Nat.blt 0 t.size&&t.dat then (match x with
 | .pk fr t' e o=>match exFA st t (partC o t.size (cellsE fr t' e)) with
  | some e=>some (.ptrI e)
  | none=>none
 | .box id o=>match st.blk id with
  | .box cs _=>match exFA st t (partC o t.size cs) with
   | some e=>some (.ptrI e)
   | none=>none
  | _=>none
 | .elt id ver i o=>match st.blk id with
  | .row fr ty xs _ v=>bif Nat.beq ver v then (match exFA st t (partC o t.size (cellsE fr ty (.at xs i))) with
   | some e=>some (.ptrI e)
   | none=>none) else none
  | _=>none
 | _=>none) else none
def exG (st:SSt V):(t:Ty)→SV V→Option (E V t)
 | .int k,x=>prjInt k x
 | .bool,x=>prjBool x
 | .str,x=>prjStr x
 | .list t,x=>bif t.flat then (match srcV st t x with
  | some e=>some e
  | none=>none) else none
 | .agg t,x=>exAggA st t x
 | .ptr t,x=>match exPtrA st t x with
  | some e=>some e
  | none=>exPtrO st t x
 | _,_=>none
def exArgs (st:SSt V):(t:Ty)→List (SV V)→Option (E V t)
 | .unit,l=>match l with
  | []=>some .uni
  | _=>none
 | .pair a b,l=>match l with
  | c::l=>match exG st a c,exArgs st b l with
   | some x,some y=>some (.pair x y)
   | _,_=>none
  | []=>none
 | _,_=>none
def svE (fr:Bool):(t:Ty)→E V t→SV V
 | .int k,e=>.int k e
 | .bool,e=>.bool e
 | .str,e=>.str e
 | .list t,e=>.ro fr t e
 | .agg t,e=>.agg (cellsE fr t e.aggE')
 | .ptr t,e=>.pk fr t e.ptrE' 0
 | .unit,_=>.any
 | .pair _ _,_=>.any
 | .aix,e=>.aosl e
def svsE (fr:Bool):(t:Ty)→E V t→List (SV V)
 | .pair a b,e=>svE fr a e.fst'::svsE fr b e.snd'
 | _,_=>[]
def oneOfS (xs:List (SV V)):SV V:=match xs with
 | [x]=>x
 | xs=>.tup xs
end
section
variable {m:Nat→Nat} {nx:Nat} {H:Nat→SB D} {st:SSt D}
theorem svE_enc (fr:Bool):∀ (t:Ty) (e:E D t),(svE fr t e).enc m H=t.av fr e.den
 | .int k,e=>by rw [svE,SV.enc,Ty.av]
 | .bool,e=>by rw [svE,SV.enc,Ty.av]
 | .str,e=>by rw [svE,SV.enc,Ty.av]
 | .list t,e=>by rw [svE,SV.enc,Ty.av]
 | .agg t,e=>by rw [svE,SV.enc,Ty.av,cellsE_enc,aggE'_den]
 | .ptr t,e=>by rw [svE,SV.enc,Ty.av,ptrE'_den]
 | .unit,e=>by rw [svE,SV.enc,Ty.av]
 | .pair a b,e=>by rw [svE,SV.enc,Ty.av]
 | .aix,e=>by rw [svE,SV.enc,Ty.av]
theorem svsE_enc (fr:Bool):∀ (t:Ty) (e:E D t),SV.encL m H (svsE fr t e)=t.avs fr e.den
 | .pair a b,e=>by rw [svsE,SV.encL,svE_enc,svsE_enc fr b,fst'_den,snd'_den,Ty.avs]
 | .int k,e=>by rw [svsE,SV.encL,Ty.avs];all_goals simp
 | .bool,e=>by rw [svsE,SV.encL,Ty.avs];all_goals simp
 | .str,e=>by rw [svsE,SV.encL,Ty.avs];all_goals simp
 | .list t,e=>by rw [svsE,SV.encL,Ty.avs];all_goals simp
 | .agg t,e=>by rw [svsE,SV.encL,Ty.avs];all_goals simp
 | .ptr t,e=>by rw [svsE,SV.encL,Ty.avs];all_goals simp
 | .aix,e=>by rw [svsE,SV.encL,Ty.avs];all_goals simp
 | .unit,e=>by rw [svsE,SV.encL,Ty.avs];all_goals simp
theorem oneOfS_enc (xs:List (SV D)):(oneOfS xs).enc m H=oneOf (SV.encL m H xs):=by
 match xs with
 | [] =>
  rw [oneOfS,SV.enc,SV.encL]
  ·rfl
  ·simp
 | [x]=>rw [oneOfS,SV.encL,SV.encL];rfl
 | a::b::l =>
  rw [oneOfS,SV.enc,SV.encL,SV.encL]
  ·rfl
  ·simp
theorem frz_list {rt:Ty} {x:SV D} {fr:Bool} {ys:E D (.list rt)} (hdt:rt.dat=true) (hm:MOk m nx st) (h:srcS st rt x=some (fr,ys)):FrzA (st.enc m nx).heap (x.enc m st.blk) (.ro false rt.size ((ys.den:List rt.den).map (rt.cells false))):=by
 unfold srcS at h;split at h
 ·rename_i fr' t' xs;split at h
  ·rename_i ht _;subst ht;simp only [Option.some.injEq,Prod.mk.injEq] at h;obtain ⟨rfl,rfl⟩:=h;rw [SV.enc];exact .dat _ rfl _ (by rw [AV.old,Ty.rows_old])
  ·cases h
 ·rename_i id ver;split at h
  ·rename_i fr' t' xs e v hb
   cases hv:Nat.beq ver v with
   | false=>rw [hv] at h;cases h
   | true =>
    rw [hv] at h;simp only [cond_true] at h;split at h
    ·rename_i ht _;subst ht;simp only [Option.some.injEq,Prod.mk.injEq] at h;obtain ⟨rfl,rfl⟩:=h;rw [SV.enc,rowLen_eq hb hv];have hbb:=enc_blk hm (k:=id) (by rw [hb];simp);rw [hb,SB.enc] at hbb;refine .osl _ _ _ _ _ _ hbb (rows_len _).symm (fun row hr a ha=>?_) (Ty.rows_old _ _ _);obtain ⟨x,_,rfl⟩:=List.mem_map.1 hr;exact t'.cells_isD _ x hdt a ha
    ·cases h
  ·cases h
 ·simp only [Option.some.injEq,Prod.mk.injEq] at h;obtain ⟨rfl,rfl⟩:=h;rw [SV.enc];exact .nilro _
 ·cases h
theorem frz_listV {rt:Ty} {x:SV D} {ys:E D (.list rt)} (hdt:rt.dat=true) (hm:MOk m nx st) (h:srcV st rt x=some ys):FrzA (st.enc m nx).heap (x.enc m st.blk) (.ro false rt.size ((ys.den:List rt.den).map (rt.cells false))):=by
 unfold srcV at h;split at h
 ·rename_i id ver lo hi;split at h
  ·rename_i fr' t' xs e v hb
   cases hv:Nat.beq ver v with
   | false=>rw [hv] at h;cases h
   | true =>
    rw [hv] at h;simp only [cond_true] at h;split at h
    ·rename_i ht _;subst ht;simp only [Option.some.injEq] at h;subst h;rw [SV.enc,rowLen_eq hb hv];have hbb:=enc_blk hm (k:=id) (by rw [hb];simp);rw [hb,SB.enc] at hbb;refine .vsl _ _ _ _ _ _ _ _ hbb (rows_len _).symm (fun row hr a ha=>?_) ?_
     ·obtain ⟨x,_,rfl⟩:=List.mem_map.1 hr;exact t'.cells_isD _ x hdt a ha
     ·rw [←List.map_drop,←List.map_take,Ty.rows_old];show _=((((xs.den:List t'.den).take (hi.den:Int).toNat).drop (lo.den:Int).toNat)).map (t'.cells false);rw [List.drop_take]
    ·cases h
  ·cases h
 ·split at h
  ·rename_i fr e h1;injection h with h
   subst h;exact frz_list hdt hm h1
  ·cases h
theorem FrzL.append {hp:List (Nat×AB)} {a b c d:List AV} (h:FrzL hp a b) (k:FrzL hp c d):FrzL hp (a++c) (b++d):=by
 induction h with
 | nil=>exact k
 | cons h _ ih=>exact .cons h ih
theorem exF_ok (hm:MOk m nx st):∀ (t:Ty) (cs:List (SV D)) (e:E D t) (rest:List (SV D)),exF st t cs=some (e,rest)→∃ pre,cs=pre++rest∧FrzL (st.enc m nx).heap (SV.encL m st.blk pre) (t.cells false e.den)
 | .int k,cs,e,rest,h=>by
  unfold exF at h;split at h
  ·rename_i k' e0 l;split at h
   ·rename_i hk;subst hk;simp only [Option.some.injEq,Prod.mk.injEq] at h;obtain ⟨rfl,rfl⟩:=h;exact ⟨[.int k' e0],rfl,by rw [SV.encL,SV.encL,SV.enc,Ty.cells];exact .cons .int .nil⟩
   ·cases h
  ·cases h
 | .bool,cs,e,rest,h=>by
  unfold exF at h;split at h
  ·rename_i e0 l;simp only [Option.some.injEq,Prod.mk.injEq] at h;obtain ⟨rfl,rfl⟩:=h;exact ⟨[.bool e0],rfl,by rw [SV.encL,SV.encL,SV.enc,Ty.cells];exact .cons .bool .nil⟩
  ·cases h
 | .str,cs,e,rest,h=>by
  unfold exF at h;split at h
  ·rename_i e0 l;simp only [Option.some.injEq,Prod.mk.injEq] at h;obtain ⟨rfl,rfl⟩:=h;exact ⟨[.str e0],rfl,by rw [SV.encL,SV.encL,SV.enc,Ty.cells];exact .cons .str .nil⟩
  ·cases h
 | .list t,cs,e,rest,h=>by
  unfold exF at h
  cases hdt:t.dat with
  | false=>rw [hdt] at h;cases h
  | true =>
  rw [hdt] at h;simp only [cond_true] at h;split at h
  ·rename_i c l;split at h
   ·rename_i e0 h1;simp only [Option.some.injEq,Prod.mk.injEq] at h;obtain ⟨rfl,rfl⟩:=h;exact ⟨[c],rfl,by rw [SV.encL,SV.encL,Ty.cells];exact .cons (frz_listV hdt hm h1) .nil⟩
   ·cases h
  ·cases h
 | .aix,cs,e,rest,h=>by rw [exF] at h;cases h
 | .unit,cs,e,rest,h=>by
  rw [exF] at h;simp only [Option.some.injEq,Prod.mk.injEq] at h;obtain ⟨rfl,rfl⟩:=h;exact ⟨[],rfl,by rw [SV.encL,Ty.cells];exact .nil⟩
 | .pair a b,cs,e,rest,h=>by
  rw [exF] at h;split at h
  ·rename_i x l' h1;split at h
   ·rename_i y l'' h2;simp only [Option.some.injEq,Prod.mk.injEq] at h;obtain ⟨rfl,rfl⟩:=h;obtain ⟨p1,e1,g1⟩:=exF_ok hm a cs x l' h1;obtain ⟨p2,e2,g2⟩:=exF_ok hm b l' y l'' h2;refine ⟨p1++p2,by rw [e1,e2,List.append_assoc],?_⟩;rw [encL_map,List.map_append,←encL_map,←encL_map,Ty.cells];exact g1.append g2
   ·cases h
  ·cases h
 | .agg t,cs,e,rest,h=>by
  rw [exF] at h;split at h
  ·rename_i x l' h1;simp only [Option.some.injEq,Prod.mk.injEq] at h;obtain ⟨rfl,rfl⟩:=h;obtain ⟨p1,e1,g1⟩:=exF_ok hm t cs x l' h1;exact ⟨p1,e1,by rw [Ty.cells];exact g1⟩
  ·cases h
 | .ptr t,cs,e,rest,h=>by rw [exF] at h;cases h
theorem exFA_ok {t:Ty} {cs:List (SV D)} {e:E D t} (hm:MOk m nx st) (h:exFA st t cs=some e):FrzL (st.enc m nx).heap (SV.encL m st.blk cs) (t.cells false e.den):=by
 unfold exFA at h;split at h
 ·rename_i x h1;injection h with h
  subst h;obtain ⟨pre,e1,g⟩:=exF_ok hm t cs x [] h1;rw [e1,List.append_nil];exact g
 ·cases h
theorem cells_frzL {hp:List (Nat×AB)} (fr:Bool) (t:Ty) (x:t.den) (hdt:t.dat=true):∀ (i:Nat) (a b:AV),(t.cells fr x)[i]?=some a→(t.cells false x)[i]?=some b→FrzA hp a b:=by
 intro i a b ha hb;refine .dat a (t.cells_isD fr x hdt a (List.mem_of_getElem? ha)) b ?_;rw [←t.cells_old fr x,oldR_map,List.getElem?_map,ha] at hb;injection hb
theorem part_at {α:Type} {l:List α} {o n i:Nat} {a:α} (h:l[o+i]?=some a) (hi:i<n):((l.drop o).take n)[i]?=some a:=by
 rw [List.getElem?_take_of_lt hi,List.getElem?_drop];exact h
theorem partC_enc (o n:Nat) (cs:List (SV D)):SV.encL m H (partC o n cs)=((SV.encL m H cs).drop o).take n:=by
 unfold partC;rw [encL_map,encL_map,List.map_take,List.map_drop]
theorem exPtrO_ok (hm:MOk m nx st) {t:Ty} {x:SV D} {e:E D (.ptr t)} (h:exPtrO st t x=some e):FrzA (st.enc m nx).heap (x.enc m st.blk) ((Ty.ptr t).av false e.den):=by
 unfold exPtrO at h
 cases hz:(Nat.blt 0 t.size&&t.dat) with
 | false=>rw [hz] at h;cases h
 | true =>
  rw [hz] at h;simp only [cond_true] at h;rw [Bool.and_eq_true] at hz;obtain ⟨hz,hdt⟩:=hz;have hpos:0<t.size:=by simpa using hz
  have fin:∀ (cs:List (SV D)) (o:Nat) (e0:E D t),exFA st t (partC o t.size cs)=some e0→o+(t.cells false e0.den).length≤(SV.encL m st.blk cs).length∧(∀ (i:Nat) (a b:AV),(SV.encL m st.blk cs)[o+i]?=some a→(t.cells false e0.den)[i]?=some b→FrzA (st.enc m nx).heap a b)∧t.cells false e0.den≠[]:=by
   intro cs o e0 h1;have hl:=exFA_ok hm h1;rw [partC_enc] at hl;have hlen:=hl.len;rw [Ty.cells_length,List.length_take,List.length_drop] at hlen;refine ⟨by rw [Ty.cells_length];omega,fun i a b ha hb=>?_,fun e1=>?_⟩
   ·have hi:i<t.size:=by have:=(List.getElem?_eq_some_iff.1 hb).1;rw [Ty.cells_length] at this;exact this
    exact hl.at i a b (part_at ha hi) hb
   ·have:=t.cells_length false e0.den;rw [e1] at this;rw [←this] at hpos;cases hpos
  split at h
  ·rename_i fr t' e1 o;split at h
   ·rename_i e0 h1;injection h with h
    subst h;obtain ⟨f1,f2,f3⟩:=fin _ _ _ h1;rw [cellsE_enc] at f1 f2;rw [SV.enc,Ty.av];exact .peekO _ _ o f1 f2 (t.cells_isD _ _ hdt) f3
   ·cases h
  ·rename_i id o;split at h
   ·rename_i cs ty hb;split at h
    ·rename_i e0 h1;injection h with h
     subst h;obtain ⟨f1,f2,f3⟩:=fin _ _ _ h1;have hi:isBox st.blk id=true:=by unfold isBox;rw [hb]
     rw [SV.enc,hi,Ty.av];have hbb:=enc_blk hm (k:=id) (by rw [hb];simp);rw [hb,SB.enc] at hbb;exact .peekBoxO (m id) o _ _ ty hbb f1 f2 (t.cells_isD _ _ hdt) f3
    ·cases h
   ·cases h
  ·rename_i id ver k i o;split at h
   ·rename_i fr ty xs ety v hb
    cases hv:Nat.beq ver v with
    | false=>rw [hv] at h;cases h
    | true =>
     rw [hv] at h;simp only [cond_true] at h;split at h
     ·rename_i e0 h1;injection h with h
      subst h;obtain ⟨f1,f2,f3⟩:=fin _ _ _ h1;rw [cellsE_enc] at f1 f2;rw [SV.enc,rowLen_eq hb hv,Ty.av];have hbb:=enc_blk hm (k:=id) (by rw [hb];simp);rw [hb,SB.enc] at hbb;exact .peekEltO (m id) _ _ o _ _ _ _ ety hbb (rows_len _).symm (fun row hr=>at_row hr) f1 f2 (t.cells_isD _ _ hdt) f3
     ·cases h
   ·cases h
  ·cases h
theorem exG_ok (hm:MOk m nx st):∀ (t:Ty) (x:SV D) (e:E D t),exG st t x=some e→FrzA (st.enc m nx).heap (x.enc m st.blk) (t.av false e.den)
 | .int k,x,e,h=>by
  rw [exG] at h;unfold prjInt at h;split at h
  ·split at h
   ·rename_i hk;subst hk;injection h with h
    subst h;rw [SV.enc,Ty.av];exact .int
   ·cases h
  ·cases h
 | .bool,x,e,h=>by
  rw [exG] at h;unfold prjBool at h;split at h
  ·injection h with h
   subst h;rw [SV.enc,Ty.av];exact .bool
  ·cases h
 | .str,x,e,h=>by
  rw [exG] at h;unfold prjStr at h;split at h
  ·injection h with h
   subst h;rw [SV.enc,Ty.av];exact .str
  ·cases h
 | .list t,x,e,h=>by
  rw [exG] at h
  cases hf:t.flat with
  | false=>rw [hf] at h;cases h
  | true =>
   rw [hf] at h;simp only [cond_true] at h;split at h
   ·rename_i e0 h1;injection h with h
    subst h;rw [Ty.av];exact frz_listV (Ty.flat_dat _ hf) hm h1
   ·cases h
 | .agg t,x,e,h=>by
  rw [exG] at h;unfold exAggA at h;split at h
  ·rename_i cs;split at h
   ·rename_i e0 h1;injection h with h
    subst h;rw [SV.enc,Ty.av];exact FrzA.agg' (exFA_ok hm h1)
   ·cases h
  ·cases h
 | .ptr t,x,e,h=>by
  rw [exG] at h
  cases hA:exPtrA st t x with
  | none =>
   rw [hA] at h;exact exPtrO_ok hm h
  | some e' =>
  rw [hA] at h;injection h with h
  subst h;have h:=hA;clear hA;unfold exPtrA at h;split at h
  ·rename_i fr t' e0 o
   cases hc:(Nat.beq o 0&&(Nat.blt 0 t.size&&t.dat)) with
   | false=>rw [hc] at h;cases h
   | true =>
    rw [hc] at h;simp only [cond_true] at h;rw [Bool.and_eq_true,Bool.and_eq_true] at hc;have ho:=Nat.eq_of_beq_eq_true hc.1;subst ho;split at h
    ·rename_i ht _;subst ht;injection h with h
     subst h;rw [SV.enc,Ty.av]
     have hne:∀ fr,t'.cells fr (E.ptrI e0).den≠[]:=by
      intro fr e1;have:=t'.cells_length fr (E.ptrI e0).den;rw [e1] at this;have h2:=hc.2.1;rw [←this] at h2;cases h2
     exact .peek _ _ 0 (by rw [Ty.cells_length,Ty.cells_length]) (cells_frzL fr t' _ hc.2.2) (t'.cells_isD _ _ hc.2.2) (hne false) (t'.cells_isD _ _ hc.2.2)
    ·cases h
  ·rename_i id o;split at h
   ·rename_i cs ty hb
    cases hc:(Nat.beq o 0&&(Nat.blt 0 t.size&&t.dat)) with
    | false=>rw [hc] at h;cases h
    | true =>
     rw [hc] at h;simp only [cond_true] at h;rw [Bool.and_eq_true,Bool.and_eq_true] at hc;have ho:=Nat.eq_of_beq_eq_true hc.1;subst ho;split at h
     ·rename_i e0 h1;injection h with h
      subst h;have hi:isBox st.blk id=true:=by unfold isBox;rw [hb]
      rw [SV.enc,hi,Ty.av];have hbb:=enc_blk hm (k:=id) (by rw [hb];simp);rw [hb,SB.enc] at hbb;have hl:=exFA_ok hm h1;refine .peekBox (m id) _ _ ty hbb hl.len hl.at (t.cells_isD _ _ hc.2.2) ?_;intro e1;have:=t.cells_length false (E.ptrI e0).den;rw [e1] at this;have h2:=hc.2.1;rw [←this] at h2;cases h2
     ·cases h
   ·cases h
  ·cases h
 | .unit,x,e,h=>by rw [exG] at h;cases h;all_goals simp
 | .pair a b,x,e,h=>by rw [exG] at h;cases h;all_goals simp
theorem exArgs_ok (hm:MOk m nx st):∀ (t:Ty) (xs:List (SV D)) (e:E D t),exArgs st t xs=some e→FrzL (st.enc m nx).heap (SV.encL m st.blk xs) (t.avs false e.den)
 | .unit,xs,e,h=>by
  unfold exArgs at h;split at h
  ·rw [SV.encL,Ty.avs]
   ·exact .nil
   ·simp
  ·cases h
 | .pair a b,xs,e,h=>by
  rw [exArgs.eq_def] at h;simp only at h;split at h
  ·rename_i c l;split at h
   ·rename_i x y h1 h2;injection h with h
    subst h;rw [SV.encL,Ty.avs];exact .cons (exG_ok hm a c x h1) (exArgs_ok hm b l y h2)
   ·cases h
  ·cases h
 | .int k,xs,e,h=>by rw [exArgs.eq_def] at h;cases h
 | .bool,xs,e,h=>by rw [exArgs.eq_def] at h;cases h
 | .str,xs,e,h=>by rw [exArgs.eq_def] at h;cases h
 | .list t,xs,e,h=>by rw [exArgs.eq_def] at h;cases h
 | .agg t,xs,e,h=>by rw [exArgs.eq_def] at h;cases h
 | .ptr t,xs,e,h=>by rw [exArgs.eq_def] at h;cases h
end
section
variable {V:Ty→Type}
def isOslS (x:SV V):Bool:=match x with
 | .osl ..=>true
 | _=>false
def resL0 (st:SSt V) (t:Ty) (x:SV V):Option (E V (.list t)):=bif t.flat then (match srcS st t x with
 | some (true,e)=>some e
 | some (false,e)=>bif t.noL&&isOslS x then some e else none
 | none=>none) else none
def resL1 (st:SSt V) (t:Ty) (x:SV V):Option (E V (.list t)):=match x with
 | .vsl id ver lo hi=>bif t.flat then (match st.blk id with
  | .row fr t' xs _ v=>bif Nat.beq ver v&&(fr||t.noL) then (match Ty.eqd t' t with
   | some ⟨h⟩=>some (.sub (h ▸ xs) lo hi)
   | none=>none) else none
  | _=>none) else none
 | x=>resL0 st t x
def exR (st:SSt V):(t:Ty)→List (SV V)→Option (E V t×List (SV V))
 | .int k,l=>match l with
  | .int k' e::l=>if h:k'=k then some (h ▸ e,l) else none
  | _=>none
 | .bool,l=>match l with
  | .bool e::l=>some (e,l)
  | _=>none
 | .str,l=>match l with
  | .str e::l=>some (e,l)
  | _=>none
 | .list t,l=>match l with
  | c::l=>match resL1 st t c with
   | some e=>some (e,l)
   | none=>none
  | []=>none
 | .unit,l=>some (.uni,l)
 | .pair a b,l=>match exR st a l with
  | some (x,l')=>match exR st b l' with
   | some (y,l'')=>some (.pair x y,l'')
   | none=>none
  | none=>none
 | .agg t,l=>match exR st t l with
  | some (x,l')=>some (.aggI x,l')
  | none=>none
 | .ptr _,_=>none
 | .aix,_=>none
def exRA (st:SSt V) (t:Ty) (l:List (SV V)):Option (E V t):=match exR st t l with
 | some (x,[])=>some x
 | _=>none
def exRAgg (st:SSt V) (t:Ty) (x:SV V):Option (E V (.agg t)):=match x with
 | .agg cs=>match exRA st t cs with
  | some e=>some (.aggI e)
  | none=>none
 | _=>none
def exRG (st:SSt V):(t:Ty)→SV V→Option (E V t)
 | .int k,x=>prjInt k x
 | .bool,x=>prjBool x
 | .str,x=>prjStr x
 | .list t,x=>resL1 st t x
 | .agg t,x=>exRAgg st t x
 | _,_=>none
def exRs (st:SSt V):(t:Ty)→List (SV V)→Option (E V t)
 | .unit,l=>match l with
  | []=>some .uni
  | _=>none
 | .pair a b,l=>match l with
  | c::l=>match exRG st a c,exRs st b l with
   | some x,some y=>some (.pair x y)
   | _,_=>none
  | []=>none
 | _,_=>none
end
section
variable {m:Nat→Nat} {nx:Nat} {st:SSt D}
theorem cells_frzR {hp:List (Nat×AB)}:∀ (t:Ty) (x:t.den),t.flat=true→∀ a ∈ t.cells true x,FrzR hp a a
 | .int k,x,_,a,ha=>by rw [Ty.cells] at ha;simp at ha;subst ha;exact .dat _ rfl (fun _ _ _=>by simp)
 | .bool,x,_,a,ha=>by rw [Ty.cells] at ha;simp at ha;subst ha;exact .dat _ rfl (fun _ _ _=>by simp)
 | .str,x,_,a,ha=>by rw [Ty.cells] at ha;simp at ha;subst ha;exact .dat _ rfl (fun _ _ _=>by simp)
 | .list t,xs,hf,a,ha=>by
  rw [Ty.cells] at ha;rw [List.mem_singleton] at ha;subst ha;refine .ro _ _ (fun row hr b hb=>?_) (fun row hr b hb=>?_)
  ·obtain ⟨y,_,rfl⟩:=List.mem_map.1 hr;exact cells_frzR t y (by rw [Ty.flat] at hf;exact hf) b hb
  ·obtain ⟨y,_,rfl⟩:=List.mem_map.1 hr;exact t.cells_isD true y (Ty.flat_dat _ (by rw [Ty.flat] at hf;exact hf)) b hb
 | .unit,x,_,a,ha=>by rw [Ty.cells] at ha;cases ha
 | .pair c d,x,hf,a,ha=>by
  rw [Ty.flat,Bool.and_eq_true] at hf;rw [Ty.cells] at ha;rcases List.mem_append.1 ha with ha | ha
  ·exact cells_frzR c x.1 hf.1 a ha
  ·exact cells_frzR d x.2 hf.2 a ha
 | .agg t,x,hf,a,ha=>by rw [Ty.cells] at ha;exact cells_frzR t x (by rw [Ty.flat] at hf;exact hf) a ha
 | .ptr t,x,hf,a,ha=>by rw [Ty.flat] at hf;cases hf
 | .aix,x,hf,a,ha=>by rw [Ty.flat] at hf;cases hf
theorem resL0_ok {rt:Ty} {x:SV D} {ys:E D (.list rt)} (hm:MOk m nx st) (h:resL0 st rt x=some ys):FrzR (st.enc m nx).heap (x.enc m st.blk) (.ro true rt.size ((ys.den:List rt.den).map (rt.cells true))):=by
 unfold resL0 at h
 cases hf:rt.flat with
 | false=>rw [hf] at h;cases h
 | true =>
  rw [hf] at h;simp only [cond_true] at h
  have hrow:∀ (zs:List rt.den),(∀ row ∈ zs.map (rt.cells true),∀ a ∈ row,FrzR (st.enc m nx).heap a a)∧(∀ row ∈ zs.map (rt.cells true),∀ a ∈ row,isD a=true):=by
   intro zs;refine ⟨fun row hr b hb=>?_,fun row hr b hb=>?_⟩
   ·obtain ⟨y,_,rfl⟩:=List.mem_map.1 hr;exact cells_frzR rt y hf b hb
   ·obtain ⟨y,_,rfl⟩:=List.mem_map.1 hr;exact rt.cells_isD true y (Ty.flat_dat _ hf) b hb
  split at h
  ·rename_i e h1;injection h with h
   subst h;unfold srcS at h1;split at h1
   ·rename_i fr' t' xs;split at h1
    ·rename_i ht _;subst ht;simp only [Option.some.injEq,Prod.mk.injEq] at h1;obtain ⟨rfl,rfl⟩:=h1;rw [SV.enc];exact .ro _ _ (hrow _).1 (hrow _).2
    ·cases h1
   ·rename_i id ver;split at h1
    ·rename_i fr' t' xs e v hb
     cases hv:Nat.beq ver v with
     | false=>rw [hv] at h1;cases h1
     | true =>
      rw [hv] at h1;simp only [cond_true] at h1;split at h1
      ·rename_i ht _;subst ht;simp only [Option.some.injEq,Prod.mk.injEq] at h1;obtain ⟨rfl,rfl⟩:=h1;rw [SV.enc,rowLen_eq hb hv];have hbb:=enc_blk hm (k:=id) (by rw [hb];simp);rw [hb,SB.enc] at hbb;exact .osl _ _ _ _ _ hbb (rows_len _).symm (hrow _).1 (hrow _).2
      ·cases h1
    ·cases h1
   ·simp only [Option.some.injEq,Prod.mk.injEq] at h1;obtain ⟨_,rfl⟩:=h1;rw [SV.enc];exact .nilro _
   ·cases h1
  ·rename_i e h1
   cases hn:rt.noL with
   | false=>rw [hn] at h;cases h
   | true =>
    rw [hn] at h
    cases hx:isOslS x with
    | false=>rw [hx] at h;cases h
    | true =>
     rw [hx] at h;injection h with h
     subst h;unfold isOslS at hx;split at hx
     ·rename_i id ver;unfold srcS at h1;split at h1
      ·rename_i hq;cases hq
      ·rename_i id' ver' hq;injection hq with e1 e2
       subst e1;subst e2
       split at h1
       ·rename_i fr' t' xs e v hb
        cases hv:Nat.beq ver v with
        | false=>rw [hv] at h1;cases h1
        | true =>
         rw [hv] at h1;simp only [cond_true] at h1;split at h1
         ·rename_i ht _;subst ht;simp only [Option.some.injEq,Prod.mk.injEq] at h1;obtain ⟨rfl,rfl⟩:=h1;rw [SV.enc,rowLen_eq hb hv];have hbb:=enc_blk hm (k:=id) (by rw [hb];simp);rw [hb,SB.enc,rows_noL false true _ _ hn] at hbb;exact .osl _ _ _ _ _ hbb (rows_len _).symm (hrow _).1 (hrow _).2
         ·cases h1
       ·cases h1
      ·rename_i hq;cases hq
      ·rename_i q1 q2 q3;exact absurd rfl (q2 _ _)
     ·cases hx
  ·cases h
theorem resL1_ok {rt:Ty} {x:SV D} {ys:E D (.list rt)} (hm:MOk m nx st) (h:resL1 st rt x=some ys):FrzR (st.enc m nx).heap (x.enc m st.blk) (.ro true rt.size ((ys.den:List rt.den).map (rt.cells true))):=by
 unfold resL1 at h;split at h
 ·rename_i id ver lo hi
  cases hf:rt.flat with
  | false=>rw [hf] at h;cases h
  | true =>
   rw [hf] at h;simp only [cond_true] at h;split at h
   ·rename_i fr t' xs e v hb
    cases hv:(Nat.beq ver v&&(fr||rt.noL)) with
    | false=>rw [hv] at h;cases h
    | true =>
     rw [hv] at h;simp only [cond_true] at h;rw [Bool.and_eq_true] at hv;split at h
     ·rename_i ht _;subst ht;injection h with h
      subst h;rw [SV.enc,rowLen_eq hb hv.1];have hbb:=enc_blk hm (k:=id) (by rw [hb];simp)
      have hrows:(xs.den:List t'.den).map (t'.cells fr)=(xs.den:List t'.den).map (t'.cells true):=by
       cases fr with
       | true=>rfl
       | false=>exact rows_noL false true t' _ (by simpa using hv.2)
      rw [hb,SB.enc,hrows] at hbb;refine .vsl _ _ _ _ _ _ _ _ hbb (rows_len _).symm ?_ (fun row hr b hb=>?_) (fun row hr b hb=>?_)
      ·rw [←List.map_drop,←List.map_take,←List.drop_take];rfl
      ·obtain ⟨y,_,rfl⟩:=List.mem_map.1 hr;exact cells_frzR t' y hf b hb
      ·obtain ⟨y,_,rfl⟩:=List.mem_map.1 hr;exact t'.cells_isD true y (Ty.flat_dat _ hf) b hb
     ·cases h
   ·cases h
 ·exact resL0_ok hm h
inductive FrzRL (hp:List (Nat×AB)):List AV→List AV→Prop
 | nil:FrzRL hp [] []
 | cons {a b:AV} {l m:List AV} (h:FrzR hp a b) (t:FrzRL hp l m):FrzRL hp (a::l) (b::m)
theorem FrzRL.len {hp:List (Nat×AB)} {l m:List AV} (h:FrzRL hp l m):l.length=m.length:=by
 induction h with
 | nil=>rfl
 | cons _ _ ih=>simp [ih]
theorem FrzRL.at {hp:List (Nat×AB)} {l m:List AV} (h:FrzRL hp l m):∀ (i:Nat) (a b:AV),l[i]?=some a→m[i]?=some b→FrzR hp a b:=by
 induction h with
 | nil=>intro i a b h;simp at h
 | cons h _ ih =>
  intro i a b h1 h2
  cases i with
  | zero=>simp at h1 h2;subst h1;subst h2;exact h
  | succ i=>exact ih i a b (by simpa using h1) (by simpa using h2)
theorem FrzRL.append {hp:List (Nat×AB)} {a b c d:List AV} (h:FrzRL hp a b) (k:FrzRL hp c d):FrzRL hp (a++c) (b++d):=by
 induction h with
 | nil=>exact k
 | cons h _ ih=>exact .cons h ih
theorem exR_ok (hm:MOk m nx st):∀ (t:Ty) (cs:List (SV D)) (e:E D t) (rest:List (SV D)),exR st t cs=some (e,rest)→∃ pre,cs=pre++rest∧FrzRL (st.enc m nx).heap (SV.encL m st.blk pre) (t.cells true e.den)
 | .int k,cs,e,rest,h=>by
  unfold exR at h;split at h
  ·rename_i k' e0 l;split at h
   ·rename_i hk;subst hk;simp only [Option.some.injEq,Prod.mk.injEq] at h;obtain ⟨rfl,rfl⟩:=h;exact ⟨[.int k' e0],rfl,by rw [SV.encL,SV.encL,SV.enc,Ty.cells];exact .cons (.int rfl) .nil⟩
   ·cases h
  ·cases h
 | .bool,cs,e,rest,h=>by
  unfold exR at h;split at h
  ·rename_i e0 l;simp only [Option.some.injEq,Prod.mk.injEq] at h;obtain ⟨rfl,rfl⟩:=h;exact ⟨[.bool e0],rfl,by rw [SV.encL,SV.encL,SV.enc,Ty.cells];exact .cons (.bool rfl) .nil⟩
  ·cases h
 | .str,cs,e,rest,h=>by
  unfold exR at h;split at h
  ·rename_i e0 l;simp only [Option.some.injEq,Prod.mk.injEq] at h;obtain ⟨rfl,rfl⟩:=h;exact ⟨[.str e0],rfl,by rw [SV.encL,SV.encL,SV.enc,Ty.cells];exact .cons (.dat _ rfl (fun _ _ _=>by simp)) .nil⟩
  ·cases h
 | .list t,cs,e,rest,h=>by
  unfold exR at h;split at h
  ·rename_i c l;split at h
   ·rename_i e0 h1;simp only [Option.some.injEq,Prod.mk.injEq] at h;obtain ⟨rfl,rfl⟩:=h;exact ⟨[c],rfl,by rw [SV.encL,SV.encL,Ty.cells];exact .cons (resL1_ok hm h1) .nil⟩
   ·cases h
  ·cases h
 | .unit,cs,e,rest,h=>by
  rw [exR] at h;simp only [Option.some.injEq,Prod.mk.injEq] at h;obtain ⟨rfl,rfl⟩:=h;exact ⟨[],rfl,by rw [SV.encL,Ty.cells];exact .nil⟩
 | .pair a b,cs,e,rest,h=>by
  rw [exR] at h;split at h
  ·rename_i x l' h1;split at h
   ·rename_i y l'' h2;simp only [Option.some.injEq,Prod.mk.injEq] at h;obtain ⟨rfl,rfl⟩:=h;obtain ⟨p1,e1,g1⟩:=exR_ok hm a cs x l' h1;obtain ⟨p2,e2,g2⟩:=exR_ok hm b l' y l'' h2;refine ⟨p1++p2,by rw [e1,e2,List.append_assoc],?_⟩;rw [encL_map,List.map_append,←encL_map,←encL_map,Ty.cells];exact g1.append g2
   ·cases h
  ·cases h
 | .agg t,cs,e,rest,h=>by
  rw [exR] at h;split at h
  ·rename_i x l' h1;simp only [Option.some.injEq,Prod.mk.injEq] at h;obtain ⟨rfl,rfl⟩:=h;obtain ⟨p1,e1,g1⟩:=exR_ok hm t cs x l' h1;exact ⟨p1,e1,by rw [Ty.cells];exact g1⟩
  ·cases h
 | .ptr t,cs,e,rest,h=>by rw [exR] at h;cases h
 | .aix,cs,e,rest,h=>by rw [exR] at h;cases h
theorem exRG_ok (hm:MOk m nx st):∀ (t:Ty) (x:SV D) (e:E D t),exRG st t x=some e→FrzR (st.enc m nx).heap (x.enc m st.blk) (t.av true e.den)
 | .int k,x,e,h=>by
  rw [exRG] at h;unfold prjInt at h;split at h
  ·split at h
   ·rename_i hk;subst hk;injection h with h
    subst h;rw [SV.enc,Ty.av];exact .int rfl
   ·cases h
  ·cases h
 | .bool,x,e,h=>by
  rw [exRG] at h;unfold prjBool at h;split at h
  ·injection h with h
   subst h;rw [SV.enc,Ty.av];exact .bool rfl
  ·cases h
 | .str,x,e,h=>by
  rw [exRG] at h;unfold prjStr at h;split at h
  ·injection h with h
   subst h;rw [SV.enc,Ty.av];exact .dat _ rfl (fun _ _ _=>by simp)
  ·cases h
 | .list t,x,e,h=>by
  rw [exRG] at h;rw [Ty.av];exact resL1_ok hm h
 | .agg t,x,e,h=>by
  rw [exRG] at h;unfold exRAgg at h;split at h
  ·rename_i cs;split at h
   ·rename_i e0 h1;injection h with h
    subst h;unfold exRA at h1;split at h1
    ·rename_i x h2;injection h1 with h1
     subst h1;obtain ⟨pre,e1,g⟩:=exR_ok hm t cs x [] h2;rw [List.append_nil] at e1;subst e1;rw [SV.enc,Ty.av];exact .agg _ _ g.len g.at
    ·cases h1
   ·cases h
  ·cases h
 | .unit,x,e,h=>by rw [exRG] at h;cases h;all_goals simp
 | .ptr _,x,e,h=>by rw [exRG] at h;cases h;all_goals simp
 | .pair a b,x,e,h=>by rw [exRG] at h;cases h;all_goals simp
theorem exRs_ok (hm:MOk m nx st):∀ (t:Ty) (xs:List (SV D)) (e:E D t),exRs st t xs=some e→FrzRL (st.enc m nx).heap (SV.encL m st.blk xs) (t.avs true e.den)
 | .unit,xs,e,h=>by
  unfold exRs at h;split at h
  ·rw [SV.encL,Ty.avs]
   ·exact .nil
   ·simp
  ·cases h
 | .pair a b,xs,e,h=>by
  rw [exRs.eq_def] at h;simp only at h;split at h
  ·rename_i c l;split at h
   ·rename_i x y h1 h2;injection h with h
    subst h;rw [SV.encL,Ty.avs];exact .cons (exRG_ok hm a c x h1) (exRs_ok hm b l y h2)
   ·cases h
  ·cases h
 | .int k,xs,e,h=>by rw [exRs.eq_def] at h;cases h
 | .bool,xs,e,h=>by rw [exRs.eq_def] at h;cases h
 | .str,xs,e,h=>by rw [exRs.eq_def] at h;cases h
 | .list t,xs,e,h=>by rw [exRs.eq_def] at h;cases h
 | .agg t,xs,e,h=>by rw [exRs.eq_def] at h;cases h
 | .ptr t,xs,e,h=>by rw [exRs.eq_def] at h;cases h
theorem exRs_one (hm:MOk m nx st) {t:Ty} {xs:List (SV D)} {e:E D t} (h:exRs st t xs=some e):FrzR (st.enc m nx).heap (oneOf (SV.encL m st.blk xs)) (oneOf (t.avs true e.den)):=by
 have k:=exRs_ok hm t xs e h;generalize SV.encL m st.blk xs=l at k;generalize t.avs true e.den=r at k
 cases k with
 | nil=>exact .tup _ _ rfl (fun i a b h=>by simp at h)
 | cons h1 t1 =>
  cases t1 with
  | nil=>exact h1
  | cons h2 t2=>exact .tup _ _ (FrzRL.cons h1 (.cons h2 t2)).len (FrzRL.cons h1 (.cons h2 t2)).at
end
end Go.Proofs.Ytedmffbhklgloaa
/- Plain facts for residual programs. No program in sight. -/
namespace Go.Proofs.Ytedmffbhklgloaa
open Go Go.RowKit
theorem bif_pos {α:Type} {p:Prop} [Decidable p] {a b:α} (h:p):(bif decide p then a else b)=a:=by rw [decide_eq_true h];rfl
theorem bif_neg {α:Type} {p:Prop} [Decidable p] {a b:α} (h:¬ p):(bif decide p then a else b)=b:=by rw [decide_eq_false h];rfl
theorem bif_and {α:Type} {p q:Prop} [Decidable p] [Decidable q] {a b:α} (h:p) (k:q):(bif decide p&&decide q then a else b)=a:=by rw [decide_eq_true h,decide_eq_true k];rfl
theorem bif_nand {α:Type} {p q:Prop} [Decidable p] [Decidable q] {a b:α} (h:¬ (p∧q)):(bif decide p&&decide q then a else b)=b:=by
 by_cases hp:p
 ·rw [decide_eq_false (fun hq=>h ⟨hp,hq⟩:¬ q),Bool.and_false];rfl
 ·rw [decide_eq_false hp];rfl
theorem joinF_eq {α β:Type} (J:α→Option β) (b:(α→Option β)→Option β):joinF J b=b J:=rfl
theorem bindO_some {α β:Type} (x:α) (k:α→Option β):bindO (some x) k=k x:=rfl
def FU:Nat:=18446744073709551616
end Go.Proofs.Ytedmffbhklgloaa
/- Plain facts on whole numbers: rounding,floor division. No program in sight. -/
namespace Go.Proofs.Ytedmffbhklgloaa

theorem div_uniq {a b q r:Int} (hb:0<b) (h:r+b*q=a) (h0:0≤r) (h1:r<b):a / b=q :=
 ((Int.ediv_emod_unique hb).2 ⟨h,h0,h1⟩).1

theorem tdiv_neg {a b:Int} (hb:0<b) (h:a.tmod b<0):a.tdiv b-1=a / b:=by
 have h1:=Int.tmod_add_mul_tdiv a b
 have h2:-b<a.tmod b:=by
  have:=Int.lt_tmod_of_pos a hb;omega
 refine (div_uniq (r:=a.tmod b+b) hb ?_ (by omega) (by omega)).symm;rw [Int.mul_sub];omega

theorem tdiv_pos {a b:Int} (hb:0<b) (h:0≤a.tmod b):a.tdiv b=a / b:=by
 have h1:=Int.tmod_add_mul_tdiv a b;have h2:a.tmod b<b:=Int.tmod_lt_of_pos a hb;exact (div_uniq (r:=a.tmod b) hb (by omega) (by omega) (by omega)).symm

theorem tdiv_over {a b:Int} (hb:0<b) (h:a<a.tdiv b*b):a.tdiv b-1=a / b:=by
 have h1:=Int.tmod_add_mul_tdiv a b;refine tdiv_neg hb ?_;rw [Int.mul_comm] at h1;omega

theorem tdiv_under {a b:Int} (hb:0<b) (h:a.tdiv b*b≤a):a.tdiv b=a / b:=by
 have h1:=Int.tmod_add_mul_tdiv a b;refine tdiv_pos hb ?_;rw [Int.mul_comm] at h1;omega

theorem tdiv_abs {n m:Int} (d:Int) (h1:-m≤n) (h2:n≤m):-m≤n.tdiv d∧n.tdiv d≤m:=by
 have:=Int.natAbs_tdiv_le_natAbs n d;omega

end Go.Proofs.Ytedmffbhklgloaa
/- Rewriting of residual programs by facts of arithmetic. No program in sight. -/
namespace Go.Proofs.Ytedmffbhklgloaa
open Go Go.RowKit
theorem s_pos {p:Prop} [Decidable p] (h:p):decide p=true:=decide_eq_true h
theorem s_neg {p:Prop} [Decidable p] (h:¬ p):decide p=false:=decide_eq_false h
theorem s_wr {x:Int} (h0:-9223372036854775808≤x) (h1:x≤9223372036854775807):IntKind.i64.wrap x=x:=wr64 h0 h1
theorem s_td {a b:Int} (h:0≤a):Int.tdiv a b=a / b:=Int.tdiv_eq_ediv_of_nonneg h
theorem s_tm {a b:Int} (h:0≤a):Int.tmod a b=a % b:=Int.tmod_eq_emod_of_nonneg h
def firstE (E:Nat→Int):Nat→Nat→Int
 | 0,_=>0
 | n+1,i=>if E i=0 then firstE E n (i+1) else E i
theorem firstE_step {E:Nat→Int} {i m:Nat} (hi:i<m):firstE E (m-i) i=if E i=0 then firstE E (m-(i+1)) (i+1) else E i:=by
 rw [show m-i=(m-(i+1))+1 by omega,firstE]
section
variable {α:Type} {n:Nat} {G G':Int→α}
end
end Go.Proofs.Ytedmffbhklgloaa
/- Loops by their first error,by what is found,by a postcondition. No program in sight. -/
namespace Go.Proofs.Ytedmffbhklgloaa
open Go Go.RowKit
set_option linter.unusedSimpArgs false
set_option linter.unusedSectionVars false
set_option linter.unusedVariables false
theorem postLoop {X β:Type} {f:(X→Option β)→X→Option β} (μ:X→Nat) (I:X→Prop) (Q:Option β→Prop)
  (h:∀ j x,I x→(∃ x',I x'∧μ x'<μ x∧f j x=j x')∨Q (f j x)):∀ (fu:Nat) (x:X),I x→μ x<fu→Q (loopF f fu x)
 | 0,_,_,h0=>absurd h0 (Nat.not_lt_zero _)
 | fu+1,x,hI,hm=>by
  rw [loopF];rcases h (loopF f fu) x hI with ⟨x',h1,h2,h3⟩ | h3
  ·rw [h3];exact postLoop μ I Q h fu x' h1 (by omega)
  ·exact h3
section
variable {β:Type} {f:(Int→Option β)→Int→Option β} {n fu:Nat} (hn:n<fu)
include hn
end
theorem firstE_all {E:Nat→Int}:∀ (m i0:Nat),(∀ k,i0≤k→k<i0+m→E k=0)→firstE E m i0=0
 | 0,_,_=>rfl
 | m+1,i0,h=>by
  rw [firstE,if_pos (h i0 (Nat.le_refl _) (by omega))];exact firstE_all m (i0+1) fun k g1 g2=>h k (by omega) (by omega)
theorem errGen {X β:Type} {f:(X→Option β)→X→Option β} {n:Nat} {st:Nat→X} {E:Nat→Int} {out:Int→Option β} {fin:Option β}
  (step:∀ j (i:Nat),i<n→(∀ k,k<i→E k=0)→f j (st i)=if E i=0 then j (st (i+1)) else out (E i)) (last:(∀ k,k<n→E k=0)→∀ j,f j (st n)=fin) :
  ∀ (fu i:Nat),i≤n→n-i<fu→(∀ k,k<i→E k=0)→loopF f fu (st i)=if firstE E (n-i) i=0 then fin else out (firstE E (n-i) i)
 | 0,i,_,h,_=>by omega
 | fu+1,i,h0,h1,hE=>by
  rw [loopF];by_cases hi:i<n
  ·rw [step _ i hi hE,firstE_step hi];by_cases e:E i=0
   ·rw [if_pos e];simp only [if_pos e]
    exact errGen step last fu (i+1) (by omega) (by omega) fun k hk=>by
     by_cases q:k=i
     ·rw [q];exact e
     ·exact hE k (by omega)
   ·rw [if_neg e];simp only [if_neg e]
  ·have e:i=n:=by omega
   subst e;rw [last hE,Nat.sub_self];rfl
theorem foldLoop {σ β:Type} {f:(Int×σ→Option β)→Int×σ→Option β} {n fu:Nat} (hn:n<fu) (I:Nat→σ→Prop) {fin:σ→Option β} {s0:σ} (h0:I 0 s0)
  (step:∀ j (i:Nat) s,i<n→I i s→∃ s',I (i+1) s'∧f j (i,s)=j ((i:Int)+1,s')) (last:∀ j s,I n s→f j (n,s)=fin s):∃ s,I n s∧loopF f fu (0,s0)=fin s:=by
 refine postLoop (f:=f) (fun x:Int×σ=>((n:Int)-x.1).toNat) (fun x=>∃ k:Nat,x.1=k∧k≤n∧I k x.2) (fun r=>∃ s,I n s∧r=fin s) ?_ fu (0,s0) ⟨0,rfl,by omega,h0⟩ (by simp only;omega)
 rintro j ⟨_,s⟩ ⟨i,rfl,k1,k2⟩
 by_cases hi:i<n
 ·obtain ⟨s',g1,g2⟩:=step j i s hi k2;exact .inl ⟨((i:Int)+1,s'),⟨i+1,by simp,by omega,g1⟩,by simp only;omega,g2⟩
 ·have e:i=n:=by omega
  subst e;exact .inr ⟨s,k2,last j s k2⟩
end Go.Proofs.Ytedmffbhklgloaa
/- The field of 256 elements: fast functions. No program in sight. -/
namespace Go.Proofs.Ytedmffbhklgloaa
open Go Go.RowKit
set_option linter.unusedSimpArgs false
set_option linter.unusedSectionVars false
set_option linter.unusedVariables false
def xtN (a:Nat):Nat:=if a<128 then 2*a else (2*a-256) ^^^ 29
def mulS:Nat→Nat→Nat→Nat→Nat
 | 0,p,_,_=>p
 | f+1,p,a,b=>mulS f (if b % 2=1 then p ^^^ a else p) (xtN a) (b / 2)
def mulN (a b:Nat):Nat:=mulS 8 0 a b
def powS:Nat→Nat→Nat→Nat→Nat
 | 0,p,_,_=>p
 | f+1,p,a,n=>powS f (if n % 2=1 then mulN p a else p) (mulN a a) (n / 2)
def tAN (a b:Nat):Nat→Nat
 | 0=>0
 | i+1=>if b / 2 ^ i % 2=1 then tAN a b i ^^^ (a*2 ^ i) else tAN a b i
def tQN (p:Nat):Nat→Nat
 | 0=>p
 | j+1=>if tQN p j / 2 ^ (14-j) % 2=1 then tQN p j ^^^ (285*2 ^ (6-j)) else tQN p j
def timN (a b:Nat):Nat:=tQN (tAN a b 8) 7 % 256
theorem xt_lt {a:Nat} (h:a<256):xtN a<256:=by
 unfold xtN;split
 ·omega
 ·exact Nat.xor_lt_two_pow (n:=8) (by omega) (by decide)
theorem mulS_lt:∀ f {p a b:Nat},p<256→a<256→mulS f p a b<256
 | 0,_,_,_,h,_=>h
 | f+1,p,a,b,hp,ha=>by
  rw [mulS];refine mulS_lt f ?_ (xt_lt ha);split
  ·exact Nat.xor_lt_two_pow (n:=8) hp ha
  ·exact hp
theorem mulN_lt {a b:Nat} (ha:a<256):mulN a b<256:=mulS_lt 8 (by decide) ha
theorem mulS_zero:∀ f (p a:Nat),mulS f p a 0=p
 | 0,_,_=>rfl
 | f+1,p,a=>by rw [mulS,if_neg (by decide)];exact mulS_zero f _ _
theorem powS_zero:∀ f (p a:Nat),powS f p a 0=p
 | 0,_,_=>rfl
 | f+1,p,a=>by rw [powS,if_neg (by decide)];exact powS_zero f _ _
end Go.Proofs.Ytedmffbhklgloaa
/- The field of 256 elements: its laws. -/
namespace Go.Proofs.Ytedmffbhklgloaa
open Go Go.RowKit
set_option linter.unusedSimpArgs false
set_option linter.unusedSectionVars false
set_option linter.unusedVariables false
namespace Gf
theorem xlt {a b:Nat} (ha:a<256) (hb:b<256):a ^^^ b<256:=Nat.xor_lt_two_pow (n:=8) ha hb
theorem xor4 (a b c d:Nat):(a ^^^ b) ^^^ (c ^^^ d)=(a ^^^ c) ^^^ (b ^^^ d):=by
 rw [Nat.xor_assoc,Nat.xor_assoc,←Nat.xor_assoc b c d,Nat.xor_comm b c,Nat.xor_assoc c b d]
theorem xt_all:∀ a:Nat,a<256→∀ b:Nat,b<256→xtN (a ^^^ b)=xtN a ^^^ xtN b:=by decide +kernel
theorem mulS_p:∀ (f p a b:Nat),mulS f p a b=p ^^^ mulS f 0 a b
 | 0,p,a,b=>by rw [mulS,mulS,Nat.xor_zero]
 | f+1,p,a,b=>by
  rw [mulS,mulS,mulS_p f (if b % 2=1 then p ^^^ a else p),mulS_p f (if b % 2=1 then 0 ^^^ a else 0)];by_cases h:b % 2=1
  ·rw [if_pos h,if_pos h,Nat.zero_xor,Nat.xor_assoc]
  ·rw [if_neg h,if_neg h,Nat.zero_xor]
theorem mulS_a:∀ (f a a' b:Nat),a<256→a'<256→mulS f 0 (a ^^^ a') b=mulS f 0 a b ^^^ mulS f 0 a' b
 | 0,_,_,_,_,_=>by rw [mulS,mulS,mulS,Nat.xor_self]
 | f+1,a,a',b,h,h'=>by
  rw [mulS,mulS,mulS,mulS_p f (if b % 2=1 then 0 ^^^ (a ^^^ a') else 0),mulS_p f (if b % 2=1 then 0 ^^^ a else 0),mulS_p f (if b % 2=1 then 0 ^^^ a' else 0),xt_all a h a' h',mulS_a f _ _ _ (xt_lt h) (xt_lt h'),xor4];by_cases e:b % 2=1
  ·rw [if_pos e,if_pos e,if_pos e,Nat.zero_xor,Nat.zero_xor,Nat.zero_xor]
  ·rw [if_neg e,if_neg e,if_neg e,Nat.xor_self,Nat.zero_xor]
theorem xor_half (b c:Nat):(b ^^^ c) / 2=b / 2 ^^^ c / 2:=by
 have h:=Nat.shiftRight_xor_distrib (a:=b) (b:=c) (i:=1);simpa [Nat.shiftRight_eq_div_pow] using h
theorem xor_par (b c:Nat):(b ^^^ c) % 2=(b % 2+c % 2) % 2:=by
 have h:=Nat.xor_mod_two_pow (a:=b) (b:=c) (n:=1);rw [Nat.pow_one] at h;rw [h]
 rcases Nat.mod_two_eq_zero_or_one b with e | e <;> rcases Nat.mod_two_eq_zero_or_one c with g | g <;> rw [e,g] <;> rfl
theorem mulS_b:∀ (f a b c:Nat),mulS f 0 a (b ^^^ c)=mulS f 0 a b ^^^ mulS f 0 a c
 | 0,_,_,_=>by rw [mulS,mulS,mulS,Nat.xor_self]
 | f+1,a,b,c=>by
  rw [mulS,mulS,mulS,mulS_p f (if (b ^^^ c) % 2=1 then 0 ^^^ a else 0),mulS_p f (if b % 2=1 then 0 ^^^ a else 0),mulS_p f (if c % 2=1 then 0 ^^^ a else 0),xor_half,mulS_b f,xor4,xor_par]
  rcases Nat.mod_two_eq_zero_or_one b with e | e <;> rcases Nat.mod_two_eq_zero_or_one c with g | g <;> rw [e,g] <;> simp
section
variable {a b c:Nat}
theorem mul_lt (ha:a<256):mulN a b<256:=mulN_lt ha
theorem xor_mul (ha:a<256) (hb:b<256):mulN (a ^^^ b) c=mulN a c ^^^ mulN b c:=mulS_a 8 a b c ha hb
theorem mul_xor:mulN a (b ^^^ c)=mulN a b ^^^ mulN a c:=mulS_b 8 a b c
end
theorem hi_bit:∀ n:Nat,n<8→∀ x:Nat,x<2 ^ n→(x+2 ^ n)=x ^^^ 2 ^ n:=by decide +kernel
theorem lin_ext {f g:Nat→Nat} (hf:∀ x y,x<256→y<256→f (x ^^^ y)=f x ^^^ f y) (hg:∀ x y,x<256→y<256→g (x ^^^ y)=g x ^^^ g y) (h:∀ i,i<8→f (2 ^ i)=g (2 ^ i)):∀ x,x<256→f x=g x:=by
 have key:∀ n,n≤8→∀ x,x<2 ^ n→f x=g x:=by
  intro n
  induction n with
  | zero =>
   intro _ x hx;obtain rfl:x=0:=by rw [Nat.pow_zero] at hx;omega
   have h1:=hf 0 0 (by decide) (by decide);have h2:=hg 0 0 (by decide) (by decide);rw [Nat.xor_self] at h1 h2;rw [h1,h2,Nat.xor_self,Nat.xor_self]
  | succ n ih =>
   intro hn x hx;have hp:2 ^ n≤2 ^ 7:=Nat.pow_le_pow_right (by decide) (by omega);rw [Nat.pow_succ] at hx;by_cases c:x<2 ^ n
   ·exact ih (by omega) x c
   ·have e:=hi_bit n (by omega) (x-2 ^ n) (by omega);rw [Nat.sub_add_cancel (by omega)] at e;rw [e,hf _ _ (by omega) (by omega),hg _ _ (by omega) (by omega),ih (by omega) _ (by omega),h n (by omega)]
 exact fun x hx=>key 8 (Nat.le_refl _) x hx
theorem comm0:∀ i:Nat,i<8→∀ j:Nat,j<8→mulN (2 ^ i) (2 ^ j)=mulN (2 ^ j) (2 ^ i):=by decide +kernel
theorem assoc0:∀ i:Nat,i<8→∀ j:Nat,j<8→∀ k:Nat,k<8→mulN (mulN (2 ^ i) (2 ^ j)) (2 ^ k)=mulN (2 ^ i) (mulN (2 ^ j) (2 ^ k)):=by decide +kernel
theorem pow_lt8 {i:Nat} (h:i<8):2 ^ i<256:=Nat.lt_of_le_of_lt (Nat.pow_le_pow_right (by decide) (show i≤7 by omega)) (by decide)
theorem mul_comm {a b:Nat} (ha:a<256) (hb:b<256):mulN a b=mulN b a:=by
 refine lin_ext (f:=fun a=>mulN a b) (g:=fun a=>mulN b a) (fun x y hx hy=>xor_mul hx hy) (fun x y _ _=>mul_xor) (fun i hi=>?_) a ha;exact lin_ext (f:=fun b=>mulN (2 ^ i) b) (g:=fun b=>mulN b (2 ^ i)) (fun x y _ _=>mul_xor) (fun x y hx hy=>xor_mul hx hy) (fun j hj=>comm0 i hi j hj) b hb
theorem mul_assoc {a b c:Nat} (ha:a<256) (hb:b<256) (hc:c<256):mulN (mulN a b) c=mulN a (mulN b c):=by
 refine lin_ext (f:=fun a=>mulN (mulN a b) c) (g:=fun a=>mulN a (mulN b c)) (fun x y hx hy=>by rw [xor_mul hx hy,xor_mul (mul_lt hx) (mul_lt hy)]) (fun x y hx hy=>xor_mul hx hy) (fun i hi=>?_) a ha;have hi':=pow_lt8 hi;refine lin_ext (f:=fun b=>mulN (mulN (2 ^ i) b) c) (g:=fun b=>mulN (2 ^ i) (mulN b c)) (fun x y hx hy=>by rw [mul_xor,xor_mul (mul_lt hi') (mul_lt hi')]) (fun x y hx hy=>by rw [xor_mul hx hy,mul_xor]) (fun j hj=>?_) b hb;exact lin_ext (f:=fun c=>mulN (mulN (2 ^ i) (2 ^ j)) c) (g:=fun c=>mulN (2 ^ i) (mulN (2 ^ j) c)) (fun x y _ _=>mul_xor) (fun x y _ _=>by rw [mul_xor,mul_xor]) (fun k hk=>assoc0 i hi j hj k hk) c hc
theorem mul_one:∀ a:Nat,a<256→mulN a 1=a:=by decide +kernel
theorem one_mul {a:Nat} (ha:a<256):mulN 1 a=a:=by rw [mul_comm (by decide) ha,mul_one a ha]
theorem mul_zero (a:Nat):mulN a 0=0:=mulS_zero 8 0 a
theorem zero_mul {a:Nat} (ha:a<256):mulN 0 a=0:=by rw [mul_comm (by decide) ha,mul_zero]
def inv (a:Nat):Nat:=powS 8 1 a 254
theorem inv_all:∀ a:Nat,a<256→a≠0→mulN a (inv a)=1∧inv a<256:=by decide +kernel
theorem mul_eq_zero {a b:Nat} (ha:a<256) (hb:b<256) (h:mulN a b=0):a=0∨b=0:=by
 by_cases c:a=0
 ·exact .inl c
 ·right
  obtain ⟨h1,h2⟩:=inv_all a ha c;have h3:mulN (inv a) (mulN a b)=b:=by rw [←mul_assoc h2 ha hb,mul_comm h2 ha,h1,one_mul hb]
  rw [h,mul_zero] at h3;exact h3.symm
def sum (n:Nat) (f:Nat→Nat):Nat:=(List.range n).foldl (fun s i=>s ^^^ f i) 0
theorem sum_zero (f:Nat→Nat):sum 0 f=0:=rfl
theorem sum_succ (n:Nat) (f:Nat→Nat):sum (n+1) f=sum n f ^^^ f n:=by unfold sum;rw [List.range_succ,List.foldl_append];rfl
section
variable {n:Nat} {f g:Nat→Nat} {a:Nat}
theorem sum_lt (h:∀ i,i<n→f i<256):sum n f<256:=by
 induction n with
 | zero=>rw [sum_zero];decide
 | succ n ih=>rw [sum_succ];exact xlt (ih fun i hi=>h i (by omega)) (h n (by omega))
theorem sum_congr (h:∀ i,i<n→f i=g i):sum n f=sum n g:=by
 induction n with
 | zero=>rfl
 | succ n ih=>rw [sum_succ,sum_succ,ih fun i hi=>h i (by omega),h n (by omega)]
theorem sum_mul:sum n (fun i=>mulN a (f i))=mulN a (sum n f):=by
 induction n with
 | zero=>rw [sum_zero,sum_zero,mul_zero]
 | succ n ih=>rw [sum_succ,sum_succ,ih,mul_xor]
theorem mul_sum (ha:a<256) (hf:∀ i,i<n→f i<256):sum n (fun i=>mulN (f i) a)=mulN (sum n f) a:=by
 rw [mul_comm (sum_lt hf) ha,←sum_mul];exact sum_congr fun i hi=>mul_comm (hf i hi) ha
end
def pw (x:Nat):Nat→Nat
 | 0=>1
 | n+1=>mulN (pw x n) x
theorem pw_lt {x:Nat} (hx:x<256):∀ n,pw x n<256
 | 0=>by show (1:Nat)<256;decide
 | n+1=>mul_lt (pw_lt hx n)
theorem pw_add {x:Nat} (hx:x<256) (m:Nat):∀ n,pw x (m+n)=mulN (pw x m) (pw x n)
 | 0=>(mul_one _ (pw_lt hx m)).symm
 | n+1=>by rw [←Nat.add_assoc,pw,pw,pw_add hx m n,mul_assoc (pw_lt hx m) (pw_lt hx n) hx]
end Gf
end Go.Proofs.Ytedmffbhklgloaa
/- The field of 256 elements as a type: laws,sums,powers,independence of powers,roots. No program in sight. -/
namespace Go.Proofs.Ytedmffbhklgloaa
open Go Go.RowKit
set_option linter.unusedSimpArgs false
set_option linter.unusedSectionVars false
set_option linter.unusedVariables false
namespace Gf
def GF:Type:={ n:Nat // n<256 }
instance:Add GF:=⟨fun a b=>⟨a.1 ^^^ b.1,xlt a.2 b.2⟩⟩
instance:Mul GF:=⟨fun a b=>⟨mulN a.1 b.1,mul_lt a.2⟩⟩
instance:OfNat GF 0:=⟨⟨0,by decide⟩⟩
instance:OfNat GF 1:=⟨⟨1,by decide⟩⟩
instance:DecidableEq GF:=fun a b=>if h:a.1=b.1 then isTrue (Subtype.ext h) else isFalse fun e=>h (congrArg Subtype.val e)
theorem inv_lt:∀ a:Nat,a<256→inv a<256:=by decide +kernel
namespace GF
variable (a b c:GF)
theorem ext {a b:GF} (h:a.1=b.1):a=b:=Subtype.ext h
theorem add_comm:a+b=b+a:=ext (Nat.xor_comm _ _)
theorem add_assoc:a+b+c=a+(b+c):=ext (Nat.xor_assoc _ _ _)
theorem add_self:a+a=0:=ext (Nat.xor_self _)
theorem zero_add:0+a=a:=ext (Nat.zero_xor _)
theorem add_zero:a+0=a:=ext (Nat.xor_zero _)
theorem add_left_comm:a+(b+c)=b+(a+c):=by rw [←add_assoc,add_comm a b,add_assoc]
theorem add_self_left:a+(a+b)=b:=by rw [←add_assoc,add_self,zero_add]
theorem mul_comm:a*b=b*a:=ext (Gf.mul_comm a.2 b.2)
theorem mul_assoc:a*b*c=a*(b*c):=ext (Gf.mul_assoc a.2 b.2 c.2)
theorem mul_left_comm:a*(b*c)=b*(a*c):=by rw [←mul_assoc,mul_comm a b,mul_assoc]
theorem mul_add:a*(b+c)=a*b+a*c:=ext Gf.mul_xor
theorem add_mul:(a+b)*c=a*c+b*c:=ext (Gf.xor_mul a.2 b.2)
theorem mul_zero:a*0=0:=ext (Gf.mul_zero a.1)
theorem zero_mul:0*a=0:=ext (Gf.zero_mul a.2)
theorem mul_one:a*1=a:=ext (Gf.mul_one _ a.2)
theorem one_mul:1*a=a:=ext (Gf.one_mul a.2)
theorem one_ne:(1:GF)≠0:=fun h=>absurd (congrArg Subtype.val h) (by decide)
def iv (a:GF):GF:=⟨inv a.1,inv_lt a.1 a.2⟩
theorem mul_iv {a:GF} (h:a≠0):a*iv a=1:=ext (inv_all a.1 a.2 fun e=>h (ext e)).1
theorem mul_eq_zero {a b:GF} (h:a*b=0):a=0∨b=0:=(Gf.mul_eq_zero a.2 b.2 (congrArg Subtype.val h)).imp ext ext
theorem mul_ne {a b:GF} (h:a≠0) (k:b≠0):a*b≠0:=fun e=>(mul_eq_zero e).elim h k
theorem add_eq {a b:GF} (h:a+b=0):a=b:=by
 have:=congrArg (·+b) h;simp only [add_assoc,add_self,add_zero,zero_add] at this;exact this
end GF
def sm:Nat→(Nat→GF)→GF
 | 0,_=>0
 | n+1,f=>sm n f+f n
theorem sm_succ (n:Nat) (f:Nat→GF):sm (n+1) f=sm n f+f n:=rfl
section
variable {n:Nat} {f g:Nat→GF} {a:GF}
theorem sm_congr (h:∀ i,i<n→f i=g i):sm n f=sm n g:=by
 induction n with
 | zero=>rfl
 | succ n ih=>rw [sm,sm,ih fun i hi=>h i (by omega),h n (by omega)]
theorem sm_add:sm n (fun i=>f i+g i)=sm n f+sm n g:=by
 induction n with
 | zero=>exact (GF.add_self 0).symm
 | succ n ih=>rw [sm,sm,sm,ih];simp only [GF.mul_add,GF.add_mul,GF.mul_assoc,GF.mul_comm,GF.mul_left_comm,GF.add_assoc,GF.add_comm,GF.add_left_comm,GF.add_self,GF.add_self_left,GF.add_zero,GF.zero_add,GF.mul_zero,GF.zero_mul,GF.mul_one,GF.one_mul]
theorem sm_mul:sm n (fun i=>a*f i)=a*sm n f:=by
 induction n with
 | zero=>rw [sm,sm,GF.mul_zero]
 | succ n ih=>rw [sm,sm,ih,GF.mul_add]
theorem sm_mulr:sm n (fun i=>f i*a)=sm n f*a:=by rw [GF.mul_comm,←sm_mul];exact sm_congr fun i _=>GF.mul_comm _ _
theorem sm_0 (h:∀ i,i<n→f i=0):sm n f=0:=by
 induction n with
 | zero=>rfl
 | succ n ih=>rw [sm,ih fun i hi=>h i (by omega),h n (by omega)];rfl
theorem sm_one {k:Nat} (hk:k<n) (h:∀ i,i<n→i≠k→f i=0):sm n f=f k:=by
 induction n with
 | zero=>omega
 | succ n ih =>
  rw [sm];by_cases e:k=n
  ·subst e;rw [sm_0 fun i hi=>h i (by omega) (by omega),GF.zero_add]
  ·rw [ih (by omega) fun i hi=>h i (by omega),h n (by omega) (by omega),GF.add_zero]
theorem sm_swap {m:Nat} {F:Nat→Nat→GF}:sm n (fun i=>sm m (fun j=>F i j))=sm m (fun j=>sm n (fun i=>F i j)):=by
 induction n with
 | zero=>rw [sm];exact (sm_0 fun i _=>rfl).symm
 | succ n ih=>rw [sm,ih,←sm_add];rfl
theorem sm_val:∀ n,(sm n f).1=sum n fun i=>(f i).1
 | 0=>rfl
 | n+1=>by rw [sum_succ,←sm_val n];rfl
end
def px (x:GF):Nat→GF
 | 0=>1
 | n+1=>px x n*x
section
variable {x y:GF}
theorem px_ne (h:x≠0):∀ n,px x n≠0
 | 0=>GF.one_ne
 | n+1=>GF.mul_ne (px_ne h n) h
theorem px_inv (h:x*y=1):∀ n,px x n*px y n=1
 | 0=>GF.mul_one _
 | n+1=>by
  have e:px x (n+1)*px y (n+1)=(px x n*px y n)*(x*y):=by rw [px,px];simp only [GF.mul_add,GF.add_mul,GF.mul_assoc,GF.mul_comm,GF.mul_left_comm,GF.add_assoc,GF.add_comm,GF.add_left_comm,GF.add_self,GF.add_self_left,GF.add_zero,GF.zero_add,GF.mul_zero,GF.zero_mul,GF.mul_one,GF.one_mul]
  rw [e,h,px_inv h n,GF.mul_one]
theorem px_val:∀ n,(px x n).1=pw x.1 n
 | 0=>rfl
 | n+1=>by rw [pw,←px_val n];rfl
end
def wpr (x z:Nat→GF):List Nat→Nat→GF
 | [],k=>z k
 | j::J,k=>(x k+x j)*wpr x z J k
section
variable {n:Nat} {x z:Nat→GF}
theorem wpr_H (q:Nat):∀ (J:List Nat),(∀ i,i<q+J.length→sm n (fun k=>px (x k) i*z k)=0)→∀ i,i<q→sm n (fun k=>px (x k) i*wpr x z J k)=0:=by
 intro J
 induction J generalizing q with
 | nil=>intro h i hi;exact h i (by simpa using hi)
 | cons j J ih =>
  intro h i hi;have h1:=ih (q+1) (fun i hi=>h i (by rw [List.length_cons];omega))
  have e:sm n (fun k=>px (x k) i*wpr x z (j::J) k)=sm n (fun k=>px (x k) (i+1)*wpr x z J k+x j*(px (x k) i*wpr x z J k)) :=
   sm_congr fun k hk=>by rw [wpr,px];simp only [GF.mul_add,GF.add_mul,GF.mul_assoc,GF.mul_comm,GF.mul_left_comm,GF.add_assoc,GF.add_comm,GF.add_left_comm,GF.add_self,GF.add_self_left,GF.add_zero,GF.zero_add,GF.mul_zero,GF.zero_mul,GF.mul_one,GF.one_mul]
  rw [e,sm_add,sm_mul,h1 (i+1) (by omega),h1 i (by omega)];simp only [GF.mul_add,GF.add_mul,GF.mul_assoc,GF.mul_comm,GF.mul_left_comm,GF.add_assoc,GF.add_comm,GF.add_left_comm,GF.add_self,GF.add_self_left,GF.add_zero,GF.zero_add,GF.mul_zero,GF.zero_mul,GF.mul_one,GF.one_mul]
theorem wpr_zero {k:Nat}:∀ {J:List Nat},k ∈ J→wpr x z J k=0
 | [],h=>by cases h
 | j::J,h=>by
  rw [wpr];rcases List.mem_cons.1 h with rfl | h
  ·rw [GF.add_self,GF.zero_mul]
  ·rw [wpr_zero h,GF.mul_zero]
theorem wpr_z0 {k:Nat} (h:z k=0):∀ J:List Nat,wpr x z J k=0
 | []=>h
 | j::J=>by rw [wpr,wpr_z0 h J,GF.mul_zero]
theorem wpr_ne {k:Nat}:∀ {J:List Nat},(∀ j ∈ J,x k≠x j)→wpr x z J k=0→z k=0
 | [],_,h=>h
 | j::J,hd,h=>by
  rw [wpr] at h;rcases GF.mul_eq_zero h with h | h
  ·exact absurd (GF.add_eq h) (hd j (by simp))
  ·exact wpr_ne (fun j hj=>hd j (List.mem_cons_of_mem _ hj)) h
theorem vand (hd:∀ j k,j<n→k<n→x j=x k→j=k) {F:List Nat} (hF:∀ k,k<n→z k≠0→k ∈ F) (hFn:∀ k ∈ F,k<n) (hnd:F.Nodup) (h:∀ i,i<F.length→sm n (fun k=>px (x k) i*z k)=0) {k:Nat} (hk:k<n):z k=0:=by
 refine Classical.byContradiction fun hne=>hne ?_
 have hkF:=hF k hk hne
 have hlen:(F.erase k).length+1=F.length:=by
  have:=List.length_erase_of_mem hkF;have:=List.length_pos_of_mem hkF;omega
 have h1:=wpr_H (x:=x) (z:=z) 1 (F.erase k) (fun i hi=>h i (by omega)) 0 (by omega)
 have e:sm n (fun i=>px (x i) 0*wpr x z (F.erase k) i)=wpr x z (F.erase k) k:=by
  rw [sm_one hk]
  ·exact GF.one_mul _
  ·intro i hi hik;show px (x i) 0*wpr x z (F.erase k) i=0;by_cases c:i ∈ F
   ·rw [wpr_zero ((List.mem_erase_of_ne hik).2 c),GF.mul_zero]
   ·have:z i=0:=Classical.byContradiction fun h=>c (hF i hi h)
    rw [wpr_z0 this,GF.mul_zero]
 rw [e] at h1;refine wpr_ne (fun j hj e=>?_) h1;have hj':=(List.Nodup.mem_erase_iff hnd).1 hj;exact hj'.1 (hd k j hk (hFn j hj'.2) e).symm
end
def E (X:GF) (c:Nat→GF):Nat→GF
 | 0=>c 0
 | l+1=>c (l+1)+X*E X c l
section
variable {X Y u:GF} {b c:Nat→GF}
theorem E_div:∀ l,E X c (l+1)=(X+Y)*E X (E Y c) l+E Y c (l+1)
 | 0=>by
  show c 1+X*c 0=(X+Y)*c 0+(c 1+Y*c 0);simp only [GF.mul_add,GF.add_mul,GF.mul_assoc,GF.mul_comm,GF.mul_left_comm,GF.add_assoc,GF.add_comm,GF.add_left_comm,GF.add_self,GF.add_self_left,GF.add_zero,GF.zero_add,GF.mul_zero,GF.zero_mul,GF.mul_one,GF.one_mul]
 | l+1=>by rw [E,E_div l];simp only [E];simp only [GF.mul_add,GF.add_mul,GF.mul_assoc,GF.mul_comm,GF.mul_left_comm,GF.add_assoc,GF.add_comm,GF.add_left_comm,GF.add_self,GF.add_self_left,GF.add_zero,GF.zero_add,GF.mul_zero,GF.zero_mul,GF.mul_one,GF.one_mul]
theorem roots:∀ (l:Nat) (c:Nat→GF) (Xs:List GF),Xs.Nodup→Xs.length=l+1→(∀ X ∈ Xs,E X c l=0)→c 0=0
 | 0,c,X::_,_,_,h=>h X (by simp)
 | l+1,c,X::Xs,hn,hl,h=>by
  have h0:=h X (by simp);refine roots l (E X c) Xs (List.nodup_cons.1 hn).2 (by simpa using hl) fun Z hZ=>?_
  have h1:=h Z (List.mem_cons_of_mem _ hZ);rw [E_div (Y:=X),h0,GF.add_zero] at h1;rcases GF.mul_eq_zero h1 with h2 | h2
  ·exact absurd (GF.add_eq h2 ▸ hZ) (List.nodup_cons.1 hn).1
  ·exact h2
theorem roots_ge {l:Nat} {c:Nat→GF} {Xs:List GF} (hn:Xs.Nodup) (hl:l+1≤Xs.length) (h:∀ X ∈ Xs,E X c l=0):c 0=0 :=
 roots l c (Xs.take (l+1)) (hn.sublist (List.take_sublist _ _)) (by rw [List.length_take];omega) fun X hX=>h X (List.mem_of_mem_take hX)
theorem E_lin:∀ l,E X (fun j=>c j+u*b j) l=E X c l+u*E X b l
 | 0=>rfl
 | l+1=>by rw [E,E_lin l,E,E];simp only [GF.mul_add,GF.add_mul,GF.mul_assoc,GF.mul_comm,GF.mul_left_comm,GF.add_assoc,GF.add_comm,GF.add_left_comm,GF.add_self,GF.add_self_left,GF.add_zero,GF.zero_add,GF.mul_zero,GF.zero_mul,GF.mul_one,GF.one_mul]
theorem E_shift (g:Nat):∀ l,E X (fun j=>if j<g then 0 else b (j-g)) (l+g)=E X b l
 | 0=>by
  have key:∀ m,m≤g→E X (fun j=>if j<g then 0 else b (j-g)) m=if m<g then 0 else b 0:=by
   intro m
   induction m with
   | zero =>
    intro hm;show (if 0<g then (0:GF) else b (0-g))=_;by_cases h:0<g
    ·rw [if_pos h,if_pos h]
    ·rw [if_neg h,if_neg h,Nat.zero_sub]
   | succ m ih =>
    intro hm;rw [E,ih (by omega),if_pos (show m<g by omega),GF.mul_zero,GF.add_zero];by_cases h:m+1<g
    ·rw [if_pos h,if_pos h]
    ·rw [if_neg h,if_neg h,show m+1-g=0 by omega]
  rw [Nat.zero_add,key g (Nat.le_refl _),if_neg (by omega)];rfl
 | l+1=>by
  rw [show l+1+g=(l+g)+1 by omega,E,E_shift g l,if_neg (by omega),show l+g+1-g=l+1 by omega];rfl
def Root (X:GF) (c:Nat→GF) (L:Nat):Prop:=∀ l,L≤l→E X c l=0
theorem Root.of {L:Nat} (h:∀ j,L<j→c j=0) (h0:E X c L=0):Root X c L:=by
 intro l hl;obtain ⟨m,rfl⟩:∃ m,l=L+m:=⟨l-L,by omega⟩;clear hl
 induction m with
 | zero=>exact h0
 | succ m ih=>rw [←Nat.add_assoc,E,ih,h _ (by omega)];simp only [GF.mul_add,GF.add_mul,GF.mul_assoc,GF.mul_comm,GF.mul_left_comm,GF.add_assoc,GF.add_comm,GF.add_left_comm,GF.add_self,GF.add_self_left,GF.add_zero,GF.zero_add,GF.mul_zero,GF.zero_mul,GF.mul_one,GF.one_mul]
theorem E_pow (h:X*Y=1):∀ l,E X c l=px X l*sm (l+1) fun j=>c j*px Y j
 | 0=>by
  show c 0=1*(0+c 0*1);simp only [GF.mul_add,GF.add_mul,GF.mul_assoc,GF.mul_comm,GF.mul_left_comm,GF.add_assoc,GF.add_comm,GF.add_left_comm,GF.add_self,GF.add_self_left,GF.add_zero,GF.zero_add,GF.mul_zero,GF.zero_mul,GF.mul_one,GF.one_mul]
 | l+1=>by
  rw [E,E_pow h l,sm_succ (l+1),GF.mul_add];have e:px X (l+1)*(c (l+1)*px Y (l+1))=c (l+1):=by rw [GF.mul_left_comm,px_inv h,GF.mul_one]
  rw [e,GF.add_comm,px];congr 1;simp only [GF.mul_add,GF.add_mul,GF.mul_assoc,GF.mul_comm,GF.mul_left_comm,GF.add_assoc,GF.add_comm,GF.add_left_comm,GF.add_self,GF.add_self_left,GF.add_zero,GF.zero_add,GF.mul_zero,GF.zero_mul,GF.mul_one,GF.one_mul]
theorem E_sum:∀ l,E X c l=sm (l+1) fun j=>c j*px X (l-j)
 | 0=>by
  show c 0=0+c 0*1;simp only [GF.mul_add,GF.add_mul,GF.mul_assoc,GF.mul_comm,GF.mul_left_comm,GF.add_assoc,GF.add_comm,GF.add_left_comm,GF.add_self,GF.add_self_left,GF.add_zero,GF.zero_add,GF.mul_zero,GF.zero_mul,GF.mul_one,GF.one_mul]
 | l+1=>by
  rw [E,E_sum l,sm_succ (l+1),←sm_mul,Nat.sub_self,GF.add_comm];congr 1
  ·exact sm_congr fun j hj=>by rw [show l+1-j=(l-j)+1 by omega,px];simp only [GF.mul_add,GF.add_mul,GF.mul_assoc,GF.mul_comm,GF.mul_left_comm,GF.add_assoc,GF.add_comm,GF.add_left_comm,GF.add_self,GF.add_self_left,GF.add_zero,GF.zero_add,GF.mul_zero,GF.zero_mul,GF.mul_one,GF.one_mul]
  ·exact (GF.mul_one _).symm
end
end Gf
end Go.Proofs.Ytedmffbhklgloaa
/- The polynomial of the places of errors,and their values. No program in sight. -/
namespace Go.Proofs.Ytedmffbhklgloaa
open Go Go.RowKit
set_option linter.unusedSimpArgs false
set_option linter.unusedSectionVars false
set_option linter.unusedVariables false
namespace Gf
def Fl (N:Nat) (e:Nat→GF) (lost:List Nat):List Nat:=(List.range N).filter fun a=>decide (a ∉ lost∧e a≠0)
def D (N:Nat) (X e:Nat→GF) (c:Nat→GF) (n:Nat):GF:=sm N fun a=>e a*E (X a) c n
def cv (c s:Nat→GF) (n:Nat):GF:=sm (n+1) fun i=>c i*s (n-i)
def sy (N:Nat) (X e:Nat→GF) (j:Nat):GF:=sm N fun a=>e a*px (X a) j
def sh (g:Nat) (b:Nat→GF) (j:Nat):GF:=if j<g then 0 else b (j-g)
section
variable {N:Nat} {X e c b:Nat→GF} {u:GF} {lost:List Nat}
theorem mem_Fl {a:Nat}:a ∈ Fl N e lost↔a<N∧a ∉ lost∧e a≠0:=by
 unfold Fl;rw [List.mem_filter,List.mem_range,decide_eq_true_eq]
theorem Fl_nodup:(Fl N e lost).Nodup:=List.nodup_range.filter _
theorem cv_D (n:Nat):cv c (sy N X e) n=D N X e c n:=by
 unfold cv sy D;rw [show (sm (n+1) fun i=>c i*sm N fun a=>e a*px (X a) (n-i))=sm (n+1) fun i=>sm N fun a=>c i*(e a*px (X a) (n-i)) from sm_congr fun i _=>sm_mul.symm,sm_swap];refine sm_congr fun a _=>?_
 rw [E_sum,←sm_mul];exact sm_congr fun i _=>by simp only [GF.mul_add,GF.add_mul,GF.mul_assoc,GF.mul_comm,GF.mul_left_comm,GF.add_assoc,GF.add_comm,GF.add_left_comm,GF.add_self,GF.add_self_left,GF.add_zero,GF.zero_add,GF.mul_zero,GF.zero_mul,GF.mul_one,GF.one_mul]
theorem D_lin (n:Nat):D N X e (fun j=>c j+u*b j) n=D N X e c n+u*D N X e b n:=by
 unfold D;rw [←sm_mul,←sm_add];exact sm_congr fun a _=>by rw [E_lin];simp only [GF.mul_add,GF.add_mul,GF.mul_assoc,GF.mul_comm,GF.mul_left_comm,GF.add_assoc,GF.add_comm,GF.add_left_comm,GF.add_self,GF.add_self_left,GF.add_zero,GF.zero_add,GF.mul_zero,GF.zero_mul,GF.mul_one,GF.one_mul]
theorem D_shift (g l:Nat):D N X e (sh g b) (l+g)=D N X e b l:=sm_congr fun a _=>congrArg (e a*·) (E_shift g l)
theorem E_up {Y:GF} {L:Nat} (h:∀ j,L<j→c j=0):∀ i,E Y c (L+i)=px Y i*E Y c L
 | 0=>(GF.one_mul _).symm
 | i+1=>by rw [←Nat.add_assoc,E,E_up h i,h _ (by omega),px];simp only [GF.mul_add,GF.add_mul,GF.mul_assoc,GF.mul_comm,GF.mul_left_comm,GF.add_assoc,GF.add_comm,GF.add_left_comm,GF.add_self,GF.add_self_left,GF.add_zero,GF.zero_add,GF.mul_zero,GF.zero_mul,GF.mul_one,GF.one_mul]
theorem D_up {L:Nat} (h:∀ j,L<j→c j=0) (i:Nat):D N X e c (L+i)=sm N fun a=>px (X a) i*(e a*E (X a) c L):=sm_congr fun a _=>by rw [E_up h];simp only [GF.mul_add,GF.add_mul,GF.mul_assoc,GF.mul_comm,GF.mul_left_comm,GF.add_assoc,GF.add_comm,GF.add_left_comm,GF.add_self,GF.add_self_left,GF.add_zero,GF.zero_add,GF.mul_zero,GF.zero_mul,GF.mul_one,GF.one_mul]
end
structure BM (N:Nat) (X e:Nat→GF) (lost:List Nat) (n:Nat) (c b:Nat→GF) (L Lb g:Nat) (last:GF):Prop where
 c0:c 0=1
 cd:∀ j,L<j→c j=0
 kL:lost.length≤L
 Ln:L≤n
 Lf:L≤lost.length+(Fl N e lost).length
 cr:∀ a ∈ lost,E (X a) c L=0
 cz:∀ j,L≤j→j<n→D N X e c j=0
 l0:last≠0
 g1:1≤g
 bd:∀ j,Lb<j→b j=0
 sm:Lb+L+g=n+1+lost.length
 br:∀ a ∈ lost,E (X a) b Lb=0
 ph:L=lost.length∨(g≤n∧D N X e b (n-g)=last∧∀ j,Lb≤j→j<n-g→D N X e b j=0)
section
variable {N:Nat} {X e c b:Nat→GF} {lost:List Nat} {n L Lb g:Nat} {last:GF}
theorem BM.bound (h:BM N X e lost n c b L Lb g last) (xd:∀ i j,i<N→j<N→X i=X j→i=j) (hd:D N X e c n≠0):n+1≤L+(Fl N e lost).length:=by
 refine Classical.byContradiction fun hc=>hd ?_
 have z0:∀ a,a<N→e a*E (X a) c L=0:=fun a ha=>by
  refine vand (n:=N) (x:=X) (z:=fun a=>e a*E (X a) c L) xd (F:=Fl N e lost) (fun k hk hz=>?_) (fun k hk=>(mem_Fl.1 hk).1) Fl_nodup (fun i hi=>?_) ha
  ·refine mem_Fl.2 ⟨hk,fun hl=>hz ?_,fun h0=>hz ?_⟩
   ·show e k*E (X k) c L=0;rw [h.cr k hl,GF.mul_zero]
   ·show e k*E (X k) c L=0;rw [h0,GF.zero_mul]
  ·rw [←D_up h.cd];exact h.cz _ (by omega) (by omega)
 obtain ⟨i,rfl⟩:∃ i,n=L+i:=⟨n-L,by have:=h.Ln;omega⟩;rw [D_up h.cd];exact sm_0 fun a ha=>by rw [z0 a ha,GF.mul_zero]
theorem BM.start {er:Nat→GF} {k:Nat} (hk:k=lost.length) (h0:er 0=1) (hd:∀ j,k<j→er j=0) (hr:∀ a ∈ lost,E (X a) er k=0):BM N X e lost k er er k k 1 1:=by
 subst hk;exact ⟨h0,hd,Nat.le_refl _,Nat.le_refl _,Nat.le_add_right _ _,hr,fun j h1 h2=>by omega,GF.one_ne,Nat.le_refl _,hd,by omega,hr,.inl rfl⟩
theorem BM.skip (h:BM N X e lost n c b L Lb g last) (hd:D N X e c n=0):BM N X e lost (n+1) c b L Lb (g+1) last:=by
 have hs:=h.sm;refine ⟨h.c0,h.cd,h.kL,by have:=h.Ln;omega,h.Lf,h.cr,fun j h1 h2=>?_,h.l0,by omega,h.bd,by omega,h.br,?_⟩
 ·by_cases e:j=n
  ·rw [e];exact hd
  ·exact h.cz j h1 (by omega)
 ·refine h.ph.imp id fun h=>⟨by omega,?_,?_⟩
  ·rw [show n+1-(g+1)=n-g by omega];exact h.2.1
  ·rw [show n+1-(g+1)=n-g by omega];exact h.2.2
def nx (c b:Nat→GF) (g:Nat) (u:GF) (j:Nat):GF:=c j+u*sh g b j
theorem nx_0 {u:GF} (hg:1≤g):nx c b g u 0=c 0:=by
 unfold nx sh;rw [if_pos (by omega)];simp only [GF.mul_add,GF.add_mul,GF.mul_assoc,GF.mul_comm,GF.mul_left_comm,GF.add_assoc,GF.add_comm,GF.add_left_comm,GF.add_self,GF.add_self_left,GF.add_zero,GF.zero_add,GF.mul_zero,GF.zero_mul,GF.mul_one,GF.one_mul]
theorem nx_high {u:GF} {M:Nat} (hc:∀ j,L<j→c j=0) (hb:∀ j,Lb<j→b j=0) (h1:L≤M) (h2:Lb+g≤M) (j:Nat) (hj:M<j):nx c b g u j=0:=by
 unfold nx sh;rw [hc j (by omega),if_neg (by omega),hb _ (by omega)];simp only [GF.mul_add,GF.add_mul,GF.mul_assoc,GF.mul_comm,GF.mul_left_comm,GF.add_assoc,GF.add_comm,GF.add_left_comm,GF.add_self,GF.add_self_left,GF.add_zero,GF.zero_add,GF.mul_zero,GF.zero_mul,GF.mul_one,GF.one_mul]
theorem nx_root {u Y:GF} {M:Nat} (hc:∀ j,L<j→c j=0) (hb:∀ j,Lb<j→b j=0) (h1:L≤M) (h2:Lb+g≤M) (r1:E Y c L=0) (r2:E Y b Lb=0):E Y (nx c b g u) M=0:=by
 have e1:E Y (nx c b g u) M=E Y c M+u*E Y (sh g b) M:=E_lin M;obtain ⟨l,rfl⟩:∃ l,M=l+g:=⟨M-g,by omega⟩;have e2:E Y (sh g b) (l+g)=E Y b l:=E_shift g l;rw [e1,e2,Root.of hc r1 _ h1,Root.of hb r2 _ (by omega)];simp only [GF.mul_add,GF.add_mul,GF.mul_assoc,GF.mul_comm,GF.mul_left_comm,GF.add_assoc,GF.add_comm,GF.add_left_comm,GF.add_self,GF.add_self_left,GF.add_zero,GF.zero_add,GF.mul_zero,GF.zero_mul,GF.mul_one,GF.one_mul]
theorem nx_D {u:GF} {j:Nat} (hj:g≤j):D N X e (nx c b g u) j=D N X e c j+u*D N X e b (j-g):=by
 have e1:D N X e (nx c b g u) j=D N X e c j+u*D N X e (sh g b) j:=D_lin j;obtain ⟨l,rfl⟩:∃ l,j=l+g:=⟨j-g,by omega⟩;rw [e1,D_shift,Nat.add_sub_cancel]
theorem BM.zero (h:BM N X e lost n c b L Lb g last) (h3:g≤n∧D N X e b (n-g)=last∧∀ j,Lb≤j→j<n-g→D N X e b j=0) {M:Nat} (h1:L≤M) (h2:Lb+g≤M) (j:Nat) (hj:M≤j) (hn:j<n+1):D N X e (nx c b g (D N X e c n*GF.iv last)) j=0:=by
 rw [nx_D (by omega)];by_cases c1:j=n
 ·rw [c1,h3.2.1,GF.mul_assoc,GF.mul_comm (GF.iv last),GF.mul_iv h.l0,GF.mul_one,GF.add_self]
 ·rw [h.cz j (by omega) (by omega),h3.2.2 (j-g) (by omega) (by omega)];simp only [GF.mul_add,GF.add_mul,GF.mul_assoc,GF.mul_comm,GF.mul_left_comm,GF.add_assoc,GF.add_comm,GF.add_left_comm,GF.add_self,GF.add_self_left,GF.add_zero,GF.zero_add,GF.mul_zero,GF.zero_mul,GF.mul_one,GF.one_mul]
theorem BM.grow (h:BM N X e lost n c b L Lb g last) (xd:∀ i j,i<N→j<N→X i=X j→i=j) (hd:D N X e c n≠0) (h2:2*L≤n+lost.length):BM N X e lost (n+1) (nx c b g (D N X e c n*GF.iv last)) c (n+1+lost.length-L) L 1 (D N X e c n):=by
 have hs:=h.sm;have hk:=h.kL;have hb:=h.bound xd hd;have hLn:=h.Ln;refine ⟨(nx_0 h.g1).trans h.c0,nx_high h.cd h.bd (by omega) (by omega),by omega,by omega,by omega,fun a ha=>nx_root h.cd h.bd (by omega) (by omega) (h.cr a ha) (h.br a ha),fun j h1 h3=>?_,hd,Nat.le_refl _,h.cd,by omega,h.cr,.inr ⟨by omega,rfl,fun j h1 h3=>h.cz j h1 (by omega)⟩⟩;rcases h.ph with p | p
 ·omega
 ·exact h.zero p (M:=n+1+lost.length-L) (by omega) (by omega) j h1 h3
theorem BM.stay (h:BM N X e lost n c b L Lb g last) (h2:¬ 2*L≤n+lost.length):BM N X e lost (n+1) (nx c b g (D N X e c n*GF.iv last)) b L Lb (g+1) last:=by
 have hs:=h.sm;have hk:=h.kL;have hLn:=h.Ln;have p:g≤n∧D N X e b (n-g)=last∧∀ j,Lb≤j→j<n-g→D N X e b j=0:=h.ph.resolve_left fun p=>by omega
 refine ⟨(nx_0 h.g1).trans h.c0,nx_high h.cd h.bd (by omega) (by omega),h.kL,by omega,h.Lf,fun a ha=>nx_root h.cd h.bd (by omega) (by omega) (h.cr a ha) (h.br a ha),h.zero p (Nat.le_refl _) (by omega),h.l0,by omega,h.bd,by omega,h.br,.inr ⟨by omega,?_,?_⟩⟩
 ·rw [show n+1-(g+1)=n-g by omega];exact p.2.1
 ·rw [show n+1-(g+1)=n-g by omega];exact p.2.2
structure Lc (N p:Nat) (X e:Nat→GF) (A:List Nat) (c:Nat→GF) (L:Nat):Prop where
 c0:c 0=1
 cd:∀ j,L<j→c j=0
 Ll:L≤A.length
 cr:∀ a ∈ A,E (X a) c L=0
 cz:∀ j,L≤j→j<p→D N X e c j=0
 xd:∀ i j,i<N→j<N→X i=X j→i=j
 an:A.Nodup
 al:∀ a ∈ A,a<N
 ae:∀ a,a<N→e a≠0→a ∈ A
theorem BM.done {p:Nat} (h:BM N X e lost p c b L Lb g last) (xd:∀ i j,i<N→j<N→X i=X j→i=j) (ln:lost.Nodup) (ll:∀ a ∈ lost,a<N) (hf:lost.length+2*(Fl N e lost).length≤p):Lc N p X e (lost++Fl N e lost) c L:=by
 have hLf:=h.Lf
 have z0:∀ a,a<N→e a*E (X a) c L=0:=fun a ha=>by
  refine vand (n:=N) (x:=X) (z:=fun a=>e a*E (X a) c L) xd (F:=Fl N e lost) (fun k hk hz=>?_) (fun k hk=>(mem_Fl.1 hk).1) Fl_nodup (fun i hi=>?_) ha
  ·refine mem_Fl.2 ⟨hk,fun hl=>hz ?_,fun h0=>hz ?_⟩
   ·show e k*E (X k) c L=0;rw [h.cr k hl,GF.mul_zero]
   ·show e k*E (X k) c L=0;rw [h0,GF.zero_mul]
  ·rw [←D_up h.cd];exact h.cz _ (by omega) (by omega)
 refine ⟨h.c0,h.cd,by rw [List.length_append];exact hLf,fun a ha=>?_,h.cz,xd,List.nodup_append.2 ⟨ln,Fl_nodup,fun a ha b hb e=>?_⟩,fun a ha=>?_,fun a ha he=>?_⟩
 ·rcases List.mem_append.1 ha with ha | ha
  ·exact h.cr a ha
  ·have:=mem_Fl.1 ha;exact (GF.mul_eq_zero (z0 a this.1)).resolve_left this.2.2
 ·exact (mem_Fl.1 hb).2.1 (e ▸ ha)
 ·rcases List.mem_append.1 ha with ha | ha
  ·exact ll a ha
  ·exact (mem_Fl.1 ha).1
 ·by_cases hl:a ∈ lost
  ·exact List.mem_append_left _ hl
  ·exact List.mem_append_right _ (mem_Fl.2 ⟨ha,hl,he⟩)
end
section
variable {N p L:Nat} {X e c:Nat→GF} {A:List Nat}
theorem map_nodup {α β:Type} {f:α→β}:∀ {l:List α},(∀ a ∈ l,∀ b ∈ l,f a=f b→a=b)→l.Nodup→(l.map f).Nodup
 | [],_,_=>List.nodup_nil
 | a::l,hi,hn=>by
  rw [List.map_cons,List.nodup_cons];refine ⟨fun hm=>?_,map_nodup (fun x hx y hy=>hi x (List.mem_cons_of_mem _ hx) y (List.mem_cons_of_mem _ hy)) (List.nodup_cons.1 hn).2⟩;obtain ⟨x,hx,ex⟩:=List.mem_map.1 hm;exact (List.nodup_cons.1 hn).1 (hi x (List.mem_cons_of_mem _ hx) a (by simp) ex ▸ hx)
theorem Lc.other (h:Lc N p X e A c L) {i:Nat} (hi:i<N) (hA:i ∉ A):E (X i) c L≠0:=fun h0=>by
 have h1:c 0=0:=roots_ge (Xs:=(i::A).map X) (map_nodup (fun a ha b hb e=>?_) (List.nodup_cons.2 ⟨hA,h.an⟩)) (l:=L) (by rw [List.length_map,List.length_cons];have:=h.Ll;omega) fun Y hY=>?_
 ·rw [h.c0] at h1;exact GF.one_ne h1
 ·have al':∀ a ∈ i::A,a<N:=fun a ha=>(List.mem_cons.1 ha).elim (fun e=>e ▸ hi) (h.al a)
  exact h.xd a b (al' a ha) (al' b hb) e
 ·obtain ⟨a,ha,rfl⟩:=List.mem_map.1 hY;rcases List.mem_cons.1 ha with rfl | ha
  ·exact h0
  ·exact h.cr a ha
theorem Lc.pos (h:Lc N p X e A c L) {i:Nat} (hi:i ∈ A):∃ l,L=l+1:=by
 cases L with
 | succ l=>exact ⟨l,rfl⟩
 | zero =>
  have h1:c 0=0:=h.cr i hi;rw [h.c0] at h1;exact absurd h1 GF.one_ne
theorem Lc.cross (h:Lc N p X e A c L) {i a l:Nat} (hi:i ∈ A) (ha:a ∈ A) (hne:i≠a) (hl:L=l+1):E (X i) (E (X a) c) l=0:=by
 subst hl;have h1:=E_div (X:=X i) (Y:=X a) (c:=c) l;rw [h.cr i hi,h.cr a ha,GF.add_zero] at h1;rcases GF.mul_eq_zero h1.symm with h2 | h2
 ·exact absurd (h.xd i a (h.al i hi) (h.al a ha) (GF.add_eq h2)) hne
 ·exact h2
theorem Lc.simple (h:Lc N p X e A c L) {i l:Nat} (hi:i ∈ A) (hl:L=l+1):E (X i) (E (X i) c) l≠0:=fun h0=>by
 have h1:E (X i) c 0=0:=roots_ge (Xs:=A.map X) (map_nodup (fun a ha b hb e=>h.xd a b (h.al a ha) (h.al b hb) e) h.an) (l:=l) (by rw [List.length_map];have:=h.Ll;omega) fun Y hY=>?_
 ·have h2:c 0=0:=h1;rw [h.c0] at h2;exact GF.one_ne h2
 ·obtain ⟨a,ha,rfl⟩:=List.mem_map.1 hY;by_cases e1:a=i
  ·rw [e1];exact h0
  ·exact h.cross ha hi e1 hl
theorem slope_q {x y:GF} (hxy:x*y=1):∀ t,sm t (fun u=>c (2*u+1)*px y (2*u))=x*sm (2*t) fun j=>E x c j*px y j
 | 0=>(GF.mul_zero x).symm
 | t+1=>by
  have e1:c (2*t+1)=E x c (2*t+1)+x*E x c (2*t):=by rw [E];simp only [GF.mul_add,GF.add_mul,GF.mul_assoc,GF.mul_comm,GF.mul_left_comm,GF.add_assoc,GF.add_comm,GF.add_left_comm,GF.add_self,GF.add_self_left,GF.add_zero,GF.zero_add,GF.mul_zero,GF.zero_mul,GF.mul_one,GF.one_mul]
  have e2:x*(E x c (2*t+1)*px y (2*t+1))=E x c (2*t+1)*px y (2*t):=by
   have:x*(E x c (2*t+1)*px y (2*t+1))=(x*y)*(E x c (2*t+1)*px y (2*t)):=by rw [px];simp only [GF.mul_add,GF.add_mul,GF.mul_assoc,GF.mul_comm,GF.mul_left_comm,GF.add_assoc,GF.add_comm,GF.add_left_comm,GF.add_self,GF.add_self_left,GF.add_zero,GF.zero_add,GF.mul_zero,GF.zero_mul,GF.mul_one,GF.one_mul]
   rw [this,hxy,GF.one_mul]
  rw [sm_succ t,slope_q hxy t,show 2*(t+1)=2*t+1+1 by omega,sm_succ (2*t+1),sm_succ (2*t),GF.mul_add,GF.mul_add,e2,e1];simp only [GF.mul_add,GF.add_mul,GF.mul_assoc,GF.mul_comm,GF.mul_left_comm,GF.add_assoc,GF.add_comm,GF.add_left_comm,GF.add_self,GF.add_self_left,GF.add_zero,GF.zero_add,GF.mul_zero,GF.zero_mul,GF.mul_one,GF.one_mul]
theorem E_sum_lin {h:Nat→Nat→GF} {Y:GF}:∀ l,E Y (fun m=>sm N fun a=>e a*h a m) l=sm N fun a=>e a*E Y (h a) l
 | 0=>rfl
 | l+1=>by
  rw [E,E_sum_lin l,←sm_mul,←sm_add];exact sm_congr fun a _=>by rw [E];simp only [GF.mul_add,GF.add_mul,GF.mul_assoc,GF.mul_comm,GF.mul_left_comm,GF.add_assoc,GF.add_comm,GF.add_left_comm,GF.add_self,GF.add_self_left,GF.add_zero,GF.zero_add,GF.mul_zero,GF.zero_mul,GF.mul_one,GF.one_mul]
theorem sm_cut {f:Nat→GF} {m n:Nat} (h:∀ j,n≤j→j<m→f j=0) (hm:n≤m):sm m f=sm n f:=by
 obtain ⟨d,rfl⟩:∃ d,m=n+d:=⟨m-n,by omega⟩;clear hm
 induction d with
 | zero=>rfl
 | succ d ih=>rw [←Nat.add_assoc,sm_succ,h _ (by omega) (by omega),GF.add_zero,ih fun j h1 h2=>h j h1 (by omega)]
theorem Lc.value (h:Lc N p X e A c L) (hp:L≤p) {i:Nat} (hi:i ∈ A) {y:GF} (hy:X i*y=1) {t:Nat} (ht:L≤2*t) :
  sm t (fun u=>c (2*u+1)*px y (2*u))≠0∧(X i*sm p fun m=>D N X e c m*px y m)*GF.iv (sm t fun u=>c (2*u+1)*px y (2*u))=e i:=by
 obtain ⟨l,hl⟩:=h.pos hi;have hx:X i≠0:=fun h0=>by rw [h0,GF.zero_mul] at hy;exact GF.one_ne hy.symm
 obtain ⟨S,hS⟩:∃ S,S=sm (l+1) fun j=>E (X i) c j*px y j:=⟨_,rfl⟩
 have hq:sm t (fun u=>c (2*u+1)*px y (2*u))=X i*S:=by
  rw [slope_q hy,hS];congr 1;exact sm_cut (fun j h1 _=>by rw [Root.of h.cd (h.cr i hi) j (by omega),GF.zero_mul]) (by omega)
 have hE:=E_pow (c:=E (X i) c) hy l;rw [←hS] at hE;have hS0:S≠0:=fun h0=>h.simple hi hl (by rw [hE,h0,GF.mul_zero])
 have hv:sm p (fun m=>D N X e c m*px y m)=sm (l+1) fun m=>D N X e c m*px y m:=sm_cut (fun j h1 h2=>by rw [h.cz j (by omega) h2,GF.zero_mul]) (by omega)
 have hE2:=E_pow (c:=D N X e c) hy l
 have hE3:E (X i) (D N X e c) l=e i*E (X i) (E (X i) c) l:=by
  have h1:E (X i) (D N X e c) l=sm N fun a=>e a*E (X i) (E (X a) c) l:=E_sum_lin l
  rw [h1,sm_one (h.al i hi)];intro a ha hne;show e a*E (X i) (E (X a) c) l=0;by_cases ea:e a=0
  ·rw [ea,GF.zero_mul]
  ·rw [h.cross hi (h.ae a ha ea) (Ne.symm hne) hl,GF.mul_zero]
 have hv2:sm p (fun m=>D N X e c m*px y m)=e i*S:=by
  rw [hv];refine GF.add_eq ?_;refine (GF.mul_eq_zero (a:=px (X i) l) ?_).resolve_left (px_ne hx l);rw [GF.mul_add,←hE2,hE3,hE];simp only [GF.mul_add,GF.add_mul,GF.mul_assoc,GF.mul_comm,GF.mul_left_comm,GF.add_assoc,GF.add_comm,GF.add_left_comm,GF.add_self,GF.add_self_left,GF.add_zero,GF.zero_add,GF.mul_zero,GF.zero_mul,GF.mul_one,GF.one_mul]
 rw [hq,hv2];refine ⟨GF.mul_ne hx hS0,?_⟩;have e1:X i*(e i*S)*GF.iv (X i*S)=e i*((X i*S)*GF.iv (X i*S)):=by simp only [GF.mul_add,GF.add_mul,GF.mul_assoc,GF.mul_comm,GF.mul_left_comm,GF.add_assoc,GF.add_comm,GF.add_left_comm,GF.add_self,GF.add_self_left,GF.add_zero,GF.zero_add,GF.mul_zero,GF.zero_mul,GF.mul_one,GF.one_mul]
 rw [e1,GF.mul_iv (GF.mul_ne hx hS0),GF.mul_one]
end
end Gf
end Go.Proofs.Ytedmffbhklgloaa
/- Linear equations over the field of 256 elements. No program in sight. -/
namespace Go.Proofs.Ytedmffbhklgloaa
open Go Go.RowKit
set_option linter.unusedSimpArgs false
set_option linter.unusedSectionVars false
set_option linter.unusedVariables false
namespace Gf
section
variable {n:Nat} {x z:Nat→Nat}
end
section
variable {p c:Nat} {M:Nat→Nat→Nat} {y:Nat→Nat}
end
end Gf
end Go.Proofs.Ytedmffbhklgloaa
/- The generator of a code and the register that divides by it. No program in sight. -/
namespace Go.Proofs.Ytedmffbhklgloaa
open Go Go.RowKit
set_option linter.unusedSimpArgs false
set_option linter.unusedSectionVars false
set_option linter.unusedVariables false
namespace Gf
theorem lt_ite1 {c:Prop} [Decidable c] {a:Nat} (h:a<256):(if c then a else 0)<256:=by
 split
 ·exact h
 ·decide
theorem pw_mul {x:Nat} (hx:x<256) (m:Nat):∀ n,pw (pw x m) n=pw x (m*n)
 | 0=>rfl
 | n+1=>by rw [pw,pw_mul hx m n,Nat.mul_succ,pw_add hx]
def gen:Nat→Nat→Nat
 | 0,k=>if k=0 then 1 else 0
 | m+1,k=>mulN (gen m k) (pw 2 m) ^^^ (if k=0 then 0 else gen m (k-1))
theorem p2 (m:Nat):pw 2 m<256:=pw_lt (by decide) m
def ev (g:Nat→Nat) (n x:Nat):Nat:=sum n fun k=>mulN (g k) (pw x k)
def step (p:Nat) (g:Nat→Nat) (c:Nat) (R:Nat→Nat) (k:Nat):Nat:=(if k+1<p then R (k+1) else 0) ^^^ mulN (c ^^^ R 0) (g (p-1-k))
def rv (p:Nat) (R:Nat→Nat) (x:Nat):Nat:=sum p fun k=>mulN (R k) (pw x (p-1-k))
section
variable {p:Nat} {g R:Nat→Nat} {c x:Nat}
def regs (p:Nat) (g:Nat→Nat) (d:Nat→Nat):Nat→Nat→Nat
 | 0,_=>0
 | t+1,k=>step p g (d t) (regs p g d t) k
def horner (d:Nat→Nat) (x:Nat):Nat→Nat
 | 0=>0
 | t+1=>mulN (horner d x t) x ^^^ d t
variable {d:Nat→Nat}
theorem horner_lt (hd:∀ k,d k<256) (hx:x<256):∀ t,horner d x t<256
 | 0=>by show (0:Nat)<256;decide
 | t+1=>xlt (mul_lt (horner_lt hd hx t)) (hd t)
theorem horner_sum (hd:∀ k,d k<256) (hx:x<256):∀ t,horner d x t=sum t (fun j=>mulN (d j) (pw x (t-1-j)))
 | 0=>rfl
 | t+1=>by
  rw [horner,horner_sum hd hx t,sum_succ];have e1:t+1-1-t=0:=by omega
  rw [e1,show pw x 0=1 from rfl,mul_one _ (hd t),←mul_sum hx fun i _=>mul_lt (hd i)];congr 1;refine sum_congr fun j hj=>?_
  have e2:t+1-1-j=(t-1-j)+1:=by omega
  rw [e2,pw,mul_assoc (hd j) (pw_lt hx _) hx]
end
end Gf
end Go.Proofs.Ytedmffbhklgloaa
/- The check bytes of a code solve its equations. No program in sight. -/
namespace Go.Proofs.Ytedmffbhklgloaa
open Go Go.RowKit
set_option linter.unusedSimpArgs false
set_option linter.unusedSectionVars false
set_option linter.unusedVariables false
namespace Gf
theorem pw_sq {a:Nat} (ha:a<256) (m:Nat):pw (mulN a a) m=pw a (2*m):=by
 have e:pw a 2=mulN a a:=by
  show mulN (mulN 1 a) a=mulN a a;rw [one_mul ha]
 rw [←e,pw_mul ha]
theorem pow_gen:∀ (f:Nat) {p a n:Nat},p<256→a<256→n<2 ^ f→powS f p a n=mulN p (pw a n)
 | 0,p,a,n,hp,ha,hn=>by
  obtain rfl:n=0:=by rw [Nat.pow_zero] at hn;omega
  exact (mul_one p hp).symm
 | f+1,p,a,n,hp,ha,hn=>by
  rw [Nat.pow_succ] at hn
  have hq:(if n % 2=1 then mulN p a else p)<256:=by
   split
   ·exact mul_lt hp
   ·exact hp
  rw [powS,pow_gen f hq (mul_lt ha) (by omega),pw_sq ha];by_cases c:n % 2=1
  ·rw [if_pos c];have e:n=2*(n / 2)+1:=by omega
   have e2:pw a n=mulN (pw a (2*(n / 2))) a:=by
    have:pw a n=pw a (2*(n / 2)+1):=by rw [←e]
    rw [this,pw]
   rw [e2,mul_assoc hp ha (pw_lt ha _),mul_comm ha (pw_lt ha _)]
  ·rw [if_neg c];have e:2*(n / 2)=n:=by omega
   rw [e]
theorem pow_2 {n:Nat} (h:n<256):powS 8 1 2 n=pw 2 n:=by
 rw [pow_gen 8 (by decide) (by decide) h,one_mul (pw_lt (by decide) n)]
theorem pw_one:∀ n,pw 1 n=1
 | 0=>rfl
 | n+1=>by rw [pw,pw_one n];decide
theorem pw_255:pw 2 255=1:=by decide +kernel
theorem pw_mod (n:Nat):pw 2 (n % 255)=pw 2 n:=by
 have e:=Nat.div_add_mod n 255;have h2:(2:Nat)<256:=by decide
 have e2:pw 2 n=pw 2 (255*(n / 255)+n % 255):=by rw [e]
 rw [e2,pw_add h2,←pw_mul h2,pw_255,pw_one,one_mul (pw_lt h2 _)]
theorem pw_inj:∀ a:Nat,a<16→∀ b:Nat,b<16→pw 2 a=pw 2 b→a=b:=by decide +kernel
section
variable {p d:Nat} {dt:Nat→Nat}
def rest (p d:Nat) (dt:Nat→Nat):Nat→Nat:=regs p (gen p) dt d
end
end Gf
end Go.Proofs.Ytedmffbhklgloaa
/- Lists of small numbers,as residual programs hold them. -/
namespace Go.Proofs.Ytedmffbhklgloaa
open Go Go.RowKit
set_option linter.unusedSimpArgs false
set_option linter.unusedSectionVars false
set_option linter.unusedVariables false
namespace Gf
def nb (n:Nat) (f:Nat→Nat):List Int:=(List.range n).map fun i=>((f i:Nat):Int)
section
variable {n:Nat} {f g:Nat→Nat}
theorem nb_len (n:Nat) (f:Nat→Nat):(nb n f).length=n:=by unfold nb;rw [List.length_map,List.length_range]
theorem nb_getElem {i:Nat} (h:i<(nb n f).length):(nb n f)[i]=(f i:Int):=by simp only [nb,List.getElem_map,List.getElem_range]
theorem nb_getD {i:Nat} (h:i<n) {d:Int}:(nb n f).getD i d=(f i:Int):=by
 rw [List.getD_eq_getElem?_getD,List.getElem?_eq_getElem (by rw [nb_len];exact h),Option.getD_some,nb_getElem]
theorem nb_congr (h:∀ i,i<n→f i=g i):nb n f=nb n g:=List.map_congr_left fun i hi=>by rw [h i (List.mem_range.1 hi)]
theorem nb_set {k v:Nat}:(nb n f).set k (v:Int)=nb n fun i=>if i=k then v else f i:=by
 refine List.ext_getElem (by rw [List.length_set,nb_len,nb_len]) fun i h1 h2=>?_
 rw [List.getElem_set];by_cases e:k=i
 ·rw [if_pos e,nb_getElem,if_pos e.symm]
 ·rw [if_neg e,nb_getElem,nb_getElem,if_neg (Ne.symm e)]
theorem nb_set' {k v:Nat} (hk:∀ i,i<n→i≠k→f i=g i) (hv:k<n→v=g k):(nb n f).set k (v:Int)=nb n g:=by
 rw [nb_set];refine nb_congr fun i hi=>?_
 by_cases e:i=k
 ·subst e;rw [if_pos rfl];exact hv hi
 ·rw [if_neg e];exact hk i hi e
theorem nb_rep:List.replicate n (0:Int)=nb n fun _=>0:=by
 refine List.ext_getElem (by rw [List.length_replicate,nb_len]) fun i h1 h2=>?_
 rw [List.getElem_replicate,nb_getElem];rfl
end
end Gf
end Go.Proofs.Ytedmffbhklgloaa
