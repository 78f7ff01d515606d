/- Decompiling: a call that works on its caller's blocks, said of the caller's state. No program in sight. -/
import Derived.Test.YtljebnobajmjnaaZDM3
import Derived.Scope
/- Decompiling: a call that works on its caller's blocks,said of the caller's state. No program in sight. -/
namespace Go.Proofs.Ytljebnobajmjnaa
open Go Go.RowKit

theorem sv_refs_all (x:SV D):x.refs (fun _=>true) (fun _ _=>true)=true:=by
 have:=refs_all (⟨[(0,x)],[],[],[],[],0⟩:SSt D);unfold SSt.refs at this;simp only [refsR,Bool.and_eq_true] at this;exact this.1.1
theorem svL_refs_all (l:List (SV D)):SV.refsL (fun _=>true) (fun _ _=>true) l=true:=by
 induction l with
 | nil=>rw [SV.refsL]
 | cons c l ih=>rw [SV.refsL,sv_refs_all,ih];rfl
theorem sb_refs_all (b:SB D):b.refs (fun _=>true) (fun _ _=>true)=true:=by
 cases b with
 | box cs e=>exact svL_refs_all cs
 | _=>rfl
section
variable {m:Nat→Nat} {H:Nat→SB D} {q:Nat→Bool} {pB:Nat→Bool} {pR:Nat→Nat→Bool}
mutual
theorem enc_nmd (hB:∀ id,pB id=true→isBox H id=true→q (m id)=true) (hR:∀ id v n,pR id v=true→rowLen H id v=some n→q (m id)=true):∀ (x:SV D),x.refs pB pR=true→(x.noA=true∨∀ k,k<bigA→q k=true)→(x.enc m H).nmd q=true
 | .any,_,_=>by rw [SV.enc];rfl
 | .und,_,_=>by rw [SV.enc];rfl
 | .int ..,_,_=>by rw [SV.enc];rfl
 | .bool ..,_,_=>by rw [SV.enc];rfl
 | .str ..,_,_=>by rw [SV.enc];rfl
 | .nilp,_,_=>by rw [SV.enc];rfl
 | .nils,_,_=>by rw [SV.enc];rfl
 | .nilf,_,_=>by rw [SV.enc];rfl
 | .pk ..,_,_=>by rw [SV.enc];rfl
 | .ro ..,_,_=>by rw [SV.enc];rfl
 | .aosl e,_,hA=>by
  rw [SV.enc];rcases hA with hA | hA
  ·rw [SV.noA] at hA;cases hA
  ·unfold aixAV;by_cases c0:(0:Int)≤(e.den:Int×Int).1
   ·by_cases c1:(e.den:Int×Int).1<(bigA:Int)
    ·rw [decide_eq_true c0,decide_eq_true c1];show q (e.den:Int×Int).1.toNat=true;refine hA _ ?_;generalize (e.den:Int×Int).1=z at c0 c1;generalize bigA=B at c1 ⊢;omega
    ·rw [decide_eq_false c1,Bool.and_false];rfl
   ·rw [decide_eq_false c0,Bool.false_and];rfl
 | .aelt e i,_,hA=>by
  rcases hA with hA | hA
  ·rw [SV.noA] at hA;cases hA
  ·rw [SV.enc];unfold aeltAV;by_cases c0:(0:Int)≤(e.den:Int×Int).1
   ·by_cases c1:(e.den:Int×Int).1<(bigA:Int)
    ·rw [decide_eq_true c0,decide_eq_true c1];show q (e.den:Int×Int).1.toNat=true;refine hA _ ?_;generalize (e.den:Int×Int).1=z at c0 c1;generalize bigA=B at c1 ⊢;omega
    ·rw [decide_eq_false c1,Bool.and_false];rfl
   ·rw [decide_eq_false c0,Bool.false_and];rfl
 | .box id off,h,_=>by
  rw [SV.refs] at h;rw [SV.enc]
  cases hb:isBox H id with
  | true=>exact hB id h hb
  | false=>rfl
 | .elt id ver i off,h,_=>by
  rw [SV.refs] at h;rw [SV.enc]
  cases hb:rowLen H id ver with
  | some n=>exact hR id ver n h hb
  | none=>rfl
 | .osl id ver,h,_=>by
  rw [SV.refs] at h;rw [SV.enc]
  cases hb:rowLen H id ver with
  | some n=>exact hR id ver n h hb
  | none=>rfl
 | .vsl id ver lo hi,h,_=>by
  rw [SV.refs] at h;rw [SV.enc]
  cases hb:rowLen H id ver with
  | some n=>exact hR id ver n h hb
  | none=>rfl
 | .agg cs,h,hA=>by
  rw [SV.refs] at h;rw [SV.noA] at hA;rw [SV.enc];exact encL_nmd hB hR cs h hA
 | .tup cs,h,hA=>by
  rw [SV.refs] at h;rw [SV.noA] at hA;rw [SV.enc];exact encL_nmd hB hR cs h hA
 | .fn f cs,h,hA=>by
  rw [SV.refs] at h;rw [SV.noA] at hA;rw [SV.enc];exact encL_nmd hB hR cs h hA
theorem encL_nmd (hB:∀ id,pB id=true→isBox H id=true→q (m id)=true) (hR:∀ id v n,pR id v=true→rowLen H id v=some n→q (m id)=true):∀ (l:List (SV D)),SV.refsL pB pR l=true→(SV.noAL l=true∨∀ k,k<bigA→q k=true)→AV.nmd.go q (SV.encL m H l)=true
 | [],_,_=>by rw [SV.encL];rfl
 | c::l,h,hA=>by
  rw [SV.refsL,Bool.and_eq_true] at h;rw [SV.noAL,Bool.and_eq_true] at hA;rw [SV.encL,AV.nmd.go,enc_nmd hB hR c h.1 (hA.imp (·.1) id),encL_nmd hB hR l h.2 (hA.imp (·.2) id)];rfl
end
end
theorem les_box_inj {i j:Nat} (h:Les (.box i 0) (.box j 0)):i=j:=by
 have hr:RelV (default:World) ⟨fun id=>if id=j then .pointer (some ⟨0,0,none⟩) else undef,fun _=>False,fun _=>0,fun _=>0,i+j+1,0,fun _=>False⟩ (.box j 0) (.pointer (some ⟨0,0,none⟩)) :=
  .box j 0 0 (by show j<i+j+1;omega) rfl (if_pos rfl)
 have:=h.rel hr
 cases this with
 | dat h=>cases h
 | box _ _ g h1 h2 h3 =>
  have h3:(if i=j then Value.pointer (some ⟨0,0,none⟩) else undef)=.pointer (some ⟨0,0,none⟩):=h3;by_cases e:i=j
  ·exact e
  ·rw [if_neg e] at h3;simp [undef] at h3
theorem les_osl_inj {i j n n':Nat} (h:Les (.osl i n) (.osl j n')):i=j∧n=n':=by
 have hr:RelV (default:World) ⟨fun id=>if id=j then .slice none n' n' else undef,fun _=>False,fun id=>if id=j then n' else n'+n,fun id=>if id=j then 1 else 0,i+j+1,0,fun _=>False⟩ (.osl j n') (.slice none n' n') :=
  .osl j n' _ (by show j<i+j+1;omega) (by show 0<(if j=j then 1 else 0);rw [if_pos rfl];exact Nat.one_pos) (by show n'≤(if j=j then n' else n'+n);rw [if_pos rfl];exact Nat.le_refl _) ⟨none,n',rfl⟩ (fun _=>(if_pos rfl:(if j=j then Value.slice none n' n' else undef)=_).symm)
 have:=h.rel hr
 cases this with
 | dat h=>cases h
 | osl _ _ _ h1 h2 h3 h4 h5 =>
  have h2:0<(if i=j then 1 else 0):=h2;by_cases e:i=j
  ·obtain ⟨A,c,h4⟩:=h4;injection h4 with _ h4
   exact ⟨e,h4.symm⟩
  ·rw [if_neg e] at h2;exact absurd h2 (Nat.lt_irrefl _)
theorem AC.args {P:Program} {F:FuncId} {xs xs':List AV} {hp:List (Nat×AB)} {nx:Nat} {post:AV→List (Nat×AB)→Nat→Prop} (h:AC P F xs' hp nx post) (hl:LesL xs' xs):AC P F xs hp nx post:=fun w0 w G vs h1 h2 h3 =>
 h w0 w G vs h1 h2 ⟨by rw [h3.size,hl.len],fun i x v g1 g2=>by
  have hi:i<xs.length:=by rw [←hl.len];exact (List.getElem?_eq_some_iff.1 g1).1
  exact (hl.at' i x _ g1 (List.getElem?_eq_getElem hi)).rel (h3.rel i _ v (List.getElem?_eq_getElem hi) g2)⟩
section
variable {V:Ty→Type}
theorem itemK_some:∀ (l:List Itm) (e:E V (itmsTy l)) (b:Nat),noArn l=true→b ∈ itemB l→(itemK l b=some true∧∃ cs ty,look .dead (injH l e) b=.box cs ty)∨(itemK l b=some false∧∃ fr t xs ty,look .dead (injH l e) b=.row fr t xs ty (verI l b))
 | [],_,b,_,h=>by cases h
 | .reg ..::l,e,b,hA,h=>by
  rw [itemB] at h;rw [itemK,verI,injH];exact itemK_some l _ b (by rw [noArn,Bool.and_eq_true] at hA;exact hA.2) h
 | .box c ks ty::l,e,b,hA,h=>by
  rw [itemB] at h;rw [itemK,verI,injH,look_cons];by_cases hc:c=b
  ·subst hc;rw [Nat.beq_refl,if_pos rfl];exact .inl ⟨rfl,_,_,rfl⟩
  ·rw [if_neg hc,show Nat.beq c b=false by rw [←Bool.not_eq_true];intro e;exact hc (Nat.eq_of_beq_eq_true e)];exact itemK_some l _ b (by rw [noArn,Bool.and_eq_true] at hA;exact hA.2) ((List.mem_cons.1 h).resolve_left fun e=>hc e.symm)
 | .row c fr t ty v::l,e,b,hA,h=>by
  rw [itemB] at h;rw [itemK,verI,injH,look_cons];by_cases hc:c=b
  ·subst hc;rw [Nat.beq_refl,if_pos rfl];exact .inr ⟨rfl,_,_,_,_,rfl⟩
  ·rw [if_neg hc,show Nat.beq c b=false by rw [←Bool.not_eq_true];intro e;exact hc (Nat.eq_of_beq_eq_true e)];exact itemK_some l _ b (by rw [noArn,Bool.and_eq_true] at hA;exact hA.2) ((List.mem_cons.1 h).resolve_left fun e=>hc e.symm)
 | .arn ..::l,e,b,hA,h=>by rw [noArn] at hA;cases hA
theorem refsI_look:∀ (l:List Itm) (b:Nat),(itemK l b=some true→look (SV.any:SV V) (refsI l) b=.box b 0)∧(itemK l b=some false→look (SV.any:SV V) (refsI l) b=.osl b (verI l b))
 | [],b=>⟨fun h=>(by cases h),fun h=>(by cases h)⟩
 | .reg ..::l,b=>by rw [itemK,verI,refsI];exact refsI_look l b
 | .box c ks ty::l,b=>by
  rw [itemK,verI,refsI,look_cons];by_cases hc:c=b
  ·subst hc;rw [Nat.beq_refl,if_pos rfl];exact ⟨fun _=>rfl,fun h=>(by cases h)⟩
  ·rw [if_neg hc,show Nat.beq c b=false by rw [←Bool.not_eq_true];intro e;exact hc (Nat.eq_of_beq_eq_true e)];exact refsI_look l b
 | .row c fr t ty v::l,b=>by
  rw [itemK,verI,refsI,look_cons];by_cases hc:c=b
  ·subst hc;rw [Nat.beq_refl,if_pos rfl];exact ⟨fun h=>(by cases h),fun _=>rfl⟩
  ·rw [if_neg hc,show Nat.beq c b=false by rw [←Bool.not_eq_true];intro e;exact hc (Nat.eq_of_beq_eq_true e)];exact refsI_look l b
 | .arn ..::l,b=>by rw [itemK,verI,refsI];exact refsI_look l b
theorem injH_live:∀ (l:List Itm) (e:E V (itmsTy l)),∀ p ∈ injH l e,p.2≠.dead
 | [],_,p,hp=>by rw [injH] at hp;cases hp
 | .reg ..::l,e,p,hp=>by rw [injH] at hp;exact injH_live l _ p hp
 | .box ..::l,e,p,hp=>by
  rw [injH] at hp;rcases List.mem_cons.1 hp with rfl | hp
  ·simp
  ·exact injH_live l _ p hp
 | .row ..::l,e,p,hp=>by
  rw [injH] at hp;rcases List.mem_cons.1 hp with rfl | hp
  ·simp
  ·exact injH_live l _ p hp
 | .arn ..::l,e,p,hp=>by
  rw [injH] at hp;rcases List.mem_cons.1 hp with rfl | hp
  ·simp
  ·exact injH_live l _ p hp
theorem keyB:∀ (l:List Itm) (e:E V (itmsTy l)),(injH l e).map (·.1)=itemB l
 | [],_=>by rw [injH];rfl
 | .reg ..::l,e=>by rw [injH,itemB,keyB l]
 | .box ..::l,e=>by rw [injH,itemB,List.map_cons,keyB l]
 | .row ..::l,e=>by rw [injH,itemB,List.map_cons,keyB l]
 | .arn ..::l,e=>by rw [injH,itemB,List.map_cons,keyB l]
end
section
variable {V:Ty→Type}
mutual
theorem injK_noA:∀ (k:SK) (e:E V k.ty),k.noA=true→(injK k e).noA=true
 | .any,_,_=>by rw [injK];rfl
 | .und,_,_=>by rw [injK];rfl
 | .int k,e,_=>by rw [injK];rfl
 | .bool,e,_=>by rw [injK];rfl
 | .str,e,_=>by rw [injK];rfl
 | .nilp,_,_=>by rw [injK];rfl
 | .nils,_,_=>by rw [injK];rfl
 | .nilf,_,_=>by rw [injK];rfl
 | .ro fr t,e,_=>by rw [injK];rfl
 | .pk fr t o,e,_=>by rw [injK];rfl
 | .osl b v,_,_=>by rw [injK];rfl
 | .box b o,_,_=>by rw [injK];rfl
 | .elt b v _ o,e,_=>by rw [injK];rfl
 | .arr b v o,_,_=>by rw [injK];rfl
 | .aosl,_,h=>by rw [SK.noA] at h;cases h
 | .agg l,e,h=>by rw [SK.noA] at h;rw [injK,SV.noA];exact injL_noA l e h
 | .tup l,e,h=>by rw [SK.noA] at h;rw [injK,SV.noA];exact injL_noA l e h
 | .fn f l,e,h=>by rw [SK.noA] at h;rw [injK,SV.noA];exact injL_noA l e h
theorem injL_noA:∀ (l:List SK) (e:E V (SK.tyL l)),SK.noAL l=true→SV.noAL (injL l e)=true
 | [],_,_=>by rw [injL,SV.noAL]
 | k::l,e,h=>by
  rw [SK.noAL,Bool.and_eq_true] at h;rw [injL,SV.noAL,injK_noA k _ h.1,injL_noA l _ h.2];rfl
end
theorem injR_noA:∀ (l:List Itm) (e:E V (itmsTy l)),noArn l=true→∀ p ∈ injR l e,p.2.noA=true
 | [],_,_,p,hp=>by rw [injR] at hp;cases hp
 | .reg d k::l,e,h,p,hp=>by
  rw [noArn,Bool.and_eq_true] at h;rw [injR] at hp;rcases List.mem_cons.1 hp with rfl | hp
  ·exact injK_noA k _ h.1
  ·exact injR_noA l _ h.2 p hp
 | .box ..::l,e,h,p,hp=>by
  rw [noArn,Bool.and_eq_true] at h;rw [injR] at hp;exact injR_noA l _ h.2 p hp
 | .row ..::l,e,h,p,hp=>by
  rw [noArn,Bool.and_eq_true] at h;rw [injR] at hp;exact injR_noA l _ h.2 p hp
 | .arn ..::l,e,h,p,hp=>by rw [noArn] at h;cases h
def SB.noA:SB V→Bool
 | .dead=>true
 | .box cs _=>SV.noAL cs
 | .row _ t _ _ _=>t.dat
 | .arn ..=>false
theorem injH_noA:∀ (l:List Itm) (e:E V (itmsTy l)),noArn l=true→∀ p ∈ injH l e,p.2.noA=true
 | [],_,_,p,hp=>by rw [injH] at hp;cases hp
 | .reg d k::l,e,h,p,hp=>by
  rw [noArn,Bool.and_eq_true] at h;rw [injH] at hp;exact injH_noA l _ h.2 p hp
 | .box b ks ty::l,e,h,p,hp=>by
  rw [noArn,Bool.and_eq_true] at h;rw [injH] at hp;rcases List.mem_cons.1 hp with rfl | hp
  ·exact injL_noA ks _ h.1
  ·exact injH_noA l _ h.2 p hp
 | .row b fr t ty v::l,e,h,p,hp=>by
  rw [noArn,Bool.and_eq_true] at h;rw [injH] at hp;rcases List.mem_cons.1 hp with rfl | hp
  ·exact h.1
  ·exact injH_noA l _ h.2 p hp
 | .arn ..::l,e,h,p,hp=>by rw [noArn] at h;cases h
theorem look_noA {l:List (Nat×SB V)} (h:∀ p ∈ l,p.2.noA=true) (b:Nat):(look .dead l b).noA=true:=by
 induction l with
 | nil=>rfl
 | cons p l ih =>
  obtain ⟨j,x⟩:=p;rw [look_cons];split
  ·exact h (j,x) (by simp)
  ·exact ih fun p hp=>h p (List.mem_cons_of_mem _ hp)
theorem lookV_noA {l:List (Nat×SV V)} (h:∀ p ∈ l,p.2.noA=true) (b:Nat):(look .any l b).noA=true:=by
 induction l with
 | nil=>rfl
 | cons p l ih =>
  obtain ⟨j,x⟩:=p;rw [look_cons];split
  ·exact h (j,x) (by simp)
  ·exact ih fun p hp=>h p (List.mem_cons_of_mem _ hp)
theorem injS_noA (k:SK) (h:k.noA=true):(injS k:SV V).noA=true:=by
 unfold injS;split
 ·exact injK_noA k _ h
 ·rfl
theorem statR_noA {l:List (Nat×SK)} (h:(l.all fun p=>p.2.noA)=true):∀ p ∈ (statR l:List (Nat×SV V)),p.2.noA=true:=by
 intro p hp;obtain ⟨q,hq,rfl⟩:=List.mem_map.1 hp;exact injS_noA q.2 (List.all_eq_true.1 h q hq)
theorem noA_isA {b:SB V} (h:b.noA=true):b.isA=false:=by cases b <;> first | rfl | cases h
end
theorem prjIs_kind {st:SSt D} {mp:List (Nat×Nat)}:∀ (l:List Itm) (e:E D (itmsTy l)),prjIs st mp l=some e→∀ b,(itemK l b=some true→∃ cs ty,st.blk (mpI mp b)=.box cs ty)∧(itemK l b=some false→∃ fr t xs ty v,st.blk (mpI mp b)=.row fr t xs ty v)
 | [],_,_,b=>⟨fun h=>(by cases h),fun h=>(by cases h)⟩
 | .reg d s::l,e,h,b=>by
  rw [prjIs] at h;split at h
  ·rename_i x y h1 h2;rw [itemK];exact prjIs_kind l y h2 b
  ·cases h
 | .box c ks ty::l,e,h,b=>by
  rw [prjIs] at h;split at h
  ·rename_i x y h1 h2;rw [itemK];by_cases hc:c=b
   ·subst hc;rw [Nat.beq_refl];refine ⟨fun _=>?_,fun h=>(by cases h)⟩;unfold prjI at h1;simp only at h1;split at h1
    ·rename_i hb;exact ⟨_,_,hb⟩
    ·cases h1
   ·rw [show Nat.beq c b=false by rw [←Bool.not_eq_true];intro e;exact hc (Nat.eq_of_beq_eq_true e)];exact prjIs_kind l y h2 b
  ·cases h
 | .row c fr t ty v::l,e,h,b=>by
  rw [prjIs] at h;split at h
  ·rename_i x y h1 h2;rw [itemK];by_cases hc:c=b
   ·subst hc;rw [Nat.beq_refl];refine ⟨fun h=>(by cases h),fun _=>?_⟩;unfold prjI at h1;simp only at h1;split at h1
    ·rename_i hb;exact ⟨_,_,_,_,_,hb⟩
    ·cases h1
   ·rw [show Nat.beq c b=false by rw [←Bool.not_eq_true];intro e;exact hc (Nat.eq_of_beq_eq_true e)];exact prjIs_kind l y h2 b
  ·cases h
 | .arn t ty::l,e,h,b=>by
  rw [prjIs] at h;split at h
  ·rename_i x y h1 h2;rw [itemK];exact prjIs_kind l y h2 b
  ·cases h
section
variable {q:Nat→Bool} {κ:Nat→Nat} {ν:Nat→Nat→Nat} {m1 m2:Nat→Nat} {H1 H2:Nat→SB D}
structure RenOk (q:Nat→Bool) (κ:Nat→Nat) (ν:Nat→Nat→Nat) (m1:Nat→Nat) (H1:Nat→SB D) (m2:Nat→Nat) (H2:Nat→SB D):Prop where
 box:∀ b,q b=true→isBox H2 (κ b)=isBox H1 b∧m2 (κ b)=m1 b
 row:∀ b v,q b=true→rowLen H2 (κ b) (ν b v)=none∨rowLen H2 (κ b) (ν b v)=rowLen H1 b v
mutual
theorem ren_les (h:RenOk q κ ν m1 H1 m2 H2):∀ (x:SV D),Les ((x.ren q κ ν).enc m2 H2) (x.enc m1 H1)
 | .any=>by rw [SV.ren,SV.enc];exact .any _
 | .und=>by rw [SV.ren,SV.enc,SV.enc];exact .refl _
 | .int ..=>by rw [SV.ren,SV.enc,SV.enc];exact .refl _
 | .bool ..=>by rw [SV.ren,SV.enc,SV.enc];exact .refl _
 | .str ..=>by rw [SV.ren,SV.enc,SV.enc];exact .refl _
 | .nilp=>by rw [SV.ren,SV.enc,SV.enc];exact .refl _
 | .nils=>by rw [SV.ren,SV.enc,SV.enc];exact .refl _
 | .nilf=>by rw [SV.ren,SV.enc,SV.enc];exact .refl _
 | .pk ..=>by rw [SV.ren,SV.enc,SV.enc];exact .refl _
 | .ro ..=>by rw [SV.ren,SV.enc,SV.enc];exact .refl _
 | .box id off=>by
  rw [SV.ren]
  cases hq:q id with
  | false=>show Les (SV.enc m2 H2 .any) _;rw [SV.enc];exact .any _
  | true =>
   obtain ⟨h1,h2⟩:=h.box id hq;show Les (SV.enc m2 H2 (.box (κ id) off)) _;rw [SV.enc,SV.enc,h1,h2];exact .refl _
 | .elt id v i off=>by
  rw [SV.ren]
  cases hq:q id with
  | false=>show Les (SV.enc m2 H2 .any) _;rw [SV.enc];exact .any _
  | true =>
   show Les (SV.enc m2 H2 (.elt (κ id) (ν id v) i off)) _;rw [SV.enc,SV.enc,(h.box id hq).2];rcases h.row id v hq with e | e
   ·rw [e];exact .any _
   ·rw [e];exact .refl _
 | .osl id v=>by
  rw [SV.ren]
  cases hq:q id with
  | false=>show Les (SV.enc m2 H2 .any) _;rw [SV.enc];exact .any _
  | true =>
   show Les (SV.enc m2 H2 (.osl (κ id) (ν id v))) _;rw [SV.enc,SV.enc,(h.box id hq).2];rcases h.row id v hq with e | e
   ·rw [e];exact .any _
   ·rw [e];exact .refl _
 | .vsl id v lo hi=>by
  rw [SV.ren]
  cases hq:q id with
  | false=>show Les (SV.enc m2 H2 .any) _;rw [SV.enc];exact .any _
  | true =>
   show Les (SV.enc m2 H2 (.vsl (κ id) (ν id v) lo hi)) _;rw [SV.enc,SV.enc,(h.box id hq).2];rcases h.row id v hq with e | e
   ·rw [e];exact .any _
   ·rw [e];exact .refl _
 | .agg cs=>by rw [SV.ren,SV.enc,SV.enc];exact .agg (renL_les h cs)
 | .tup cs=>by rw [SV.ren,SV.enc,SV.enc];exact .tup (renL_les h cs)
 | .fn f cs=>by rw [SV.ren,SV.enc,SV.enc];exact .fn f (renL_les h cs)
 | .aosl _=>by rw [SV.ren,SV.enc];exact .any _
 | .aelt _ _=>by rw [SV.ren,SV.enc];exact .any _
theorem renL_les (h:RenOk q κ ν m1 H1 m2 H2):∀ (l:List (SV D)),LesL (SV.encL m2 H2 (SV.renL q κ ν l)) (SV.encL m1 H1 l)
 | []=>by rw [SV.renL,SV.encL,SV.encL];exact .nil
 | c::l=>by rw [SV.renL,SV.encL,SV.encL];exact .cons (ren_les h c) (renL_les h l)
end
theorem renB_les (h:RenOk q κ ν m1 H1 m2 H2) (b:Nat) (B:SB D):LesB ((B.ren q κ ν b).enc m2 H2) (B.enc m1 H1):=by
 cases B with
 | dead=>exact .dead _
 | box cs e=>rw [SB.ren,SB.enc,SB.enc];exact .box e (renL_les h cs)
 | row fr t xs e v=>rw [SB.ren,SB.enc,SB.enc];exact .refl _
 | arn=>rw [SB.ren,SB.enc];exact .dead _
end
end Go.Proofs.Ytljebnobajmjnaa
/- Decompiling: a call that works on its caller's blocks: the caller's state behind it. No program in sight. -/
namespace Go.Proofs.Ytljebnobajmjnaa
open Go Go.RowKit

theorem beq_ne {a b:Nat} (h:a≠b):Nat.beq a b=false:=by rw [←Bool.not_eq_true];intro e;exact h (Nat.eq_of_beq_eq_true e)
theorem isNil_of {α:Type} {l:List α} (h:l.isEmpty=true):l=[]:=by cases l with | nil=>rfl | cons _ _=>cases h
structure SigP (si so:Sig) (nb:Nat):Prop where
 k1:si.keep=[]
 k2:si.keepB=[]
 k3:so.keep=[]
 k4:so.keepB=[]
 ex:si.ex=0
 nd:nodupN (itemB so.items)=true
 ndi:nodupN (itemB si.items)=true
 lt:∀ b ∈ itemB so.items,b<nb+so.ex
 lti:∀ b ∈ itemB si.items,b<nb
 sub:∀ b ∈ itemB si.items,b ∈ itemB so.items
 old:∀ b ∈ itemB so.items,b<nb→b ∈ itemB si.items∧itemK si.items b=itemK so.items b
 nai:noArn si.items=true
 nao:noArn so.items=true
 nsi:(si.stat.all fun p=>p.2.noA)=true
 nso:(so.stat.all fun p=>p.2.noA)=true
theorem sigOk_at {si so:Sig} {nb:Nat} (h:sigOk si so nb=true):SigP si so nb:=by
 unfold sigOk at h;simp only [Bool.and_eq_true] at h;obtain ⟨⟨⟨n1,n2⟩,n3,n4⟩,h1,h2,h3,h4,h5,h6,h7,h8,⟨h9,h10⟩,h11⟩:=h;refine ⟨isNil_of h1,isNil_of h2,isNil_of h3,isNil_of h4,Nat.eq_of_beq_eq_true h5,h6,h7,fun b hb=>Nat.le_of_ble_eq_true (List.all_eq_true.1 h8 b hb),fun b hb=>Nat.le_of_ble_eq_true (List.all_eq_true.1 h9 b hb),fun b hb=>hasN_mem (List.all_eq_true.1 h10 b hb),fun b hb hlt=>?_,n1,n2,n3,n4⟩;have:=List.all_eq_true.1 h11 b hb;rw [show Nat.blt b nb=true by simpa using hlt] at this;simp only [Bool.not_true,Bool.false_or,Bool.and_eq_true] at this;exact ⟨hasN_mem this.1,by simpa using this.2⟩
section
variable {P:Program} {F:FuncId} {ce:CtrE} {st:SSt D} {m:Nat→Nat} {nx:Nat} {Fs:List (Nat→AV)} {vs:List (SV D)}
theorem argRS_look:∀ (vs:List (SV D)) (i j:Nat),look .any (argRS i vs) (i+j)=(vs[j]?).getD .any
 | [],i,j=>by rw [argRS];rfl
 | v::l,i,j=>by
  rw [argRS,look_cons]
  cases j with
  | zero=>rw [if_pos (by omega)];rfl
  | succ j =>
   rw [if_neg (by omega),show i+(j+1)=(i+1)+j by omega,argRS_look l (i+1) j];rfl
structure EntR (ce:CtrE) (st:SSt D) (m:Nat→Nat) (nx:Nat) (vs:List (SV D)) (mp:List (Nat×Nat)) (e:E D (itmsTy ce.si.items)):Prop where
 mok:MOk (mM m mp) nx (ent ce.si ce.nb (.var e.den:E D (itmsTy ce.si.items)))
 args:LesL (SV.encL (mM m mp) (ent ce.si ce.nb (.var e.den:E D (itmsTy ce.si.items))).blk (argsI ce.si ce.na (.var e.den))) (SV.encL m st.blk vs)
 heap:∀ id,LesB (look .dead ((ent ce.si ce.nb (.var e.den:E D (itmsTy ce.si.items))).enc (mM m mp) nx).heap id) (look .dead (st.enc m nx).heap id)
 live:∀ b ∈ itemB ce.si.items,(ent ce.si ce.nb (.var e.den:E D (itmsTy ce.si.items))).blk b≠.dead∧st.blk (mpI mp b)≠.dead
 dead:∀ b,(ent ce.si ce.nb (.var e.den:E D (itmsTy ce.si.items))).blk b≠.dead→b ∈ itemB ce.si.items
 kind:∀ b,(itemK ce.si.items b=some true→∃ cs ty,st.blk (mpI mp b)=.box cs ty)∧(itemK ce.si.items b=some false→∃ fr t xs ty v,st.blk (mpI mp b)=.row fr t xs ty v)
 len:∀ b,b ∈ itemB ce.si.items→itemK ce.si.items b=some false→rowLen (ent ce.si ce.nb (.var e.den:E D (itmsTy ce.si.items))).blk b (verI ce.si.items b)=rowLen st.blk (mpI mp b) (curVer st (mpI mp b))
theorem ent_blk (si:Sig) (nb:Nat) (x:E D (itmsTy si.items)) (b:Nat):(ent si nb x).blk b=look .dead (injH si.items x) b:=rfl
theorem entR {e:E D (itmsTy ce.si.items)} (hs:SigP ce.si ce.so ce.nb) (hm:MOk m nx st) (hna:ce.na=vs.length) (ha:arr (base0 ce.nb) ce.si (mapE ce.si st vs) (argSt st vs)=some e):EntR ce st m nx vs (mapE ce.si st vs) e:=by
 have hblk:(argSt st vs).blk=st.blk:=by
  funext k
  show look (look .dead [] k) (st.heap++st.hk) k=_;rw [blk_look];rfl
 have hmA:MOk m nx (argSt st vs):=⟨fun k h=>hm.lt k (by rw [←hblk];exact h),fun k k' h h'=>hm.inj k k' (by rw [←hblk];exact h) (by rw [←hblk];exact h'),fun p hp=>hm.keys p (by
  have hp:p ∈ (st.heap++st.hk)++[]:=hp
  rwa [List.append_nil] at hp),by rw [hblk];exact hm.ar',by rw [hblk];exact hm.ge⟩
 have hfix:Fix (lay (base0 ce.nb) ce.si) (argSt st vs):=by
  refine ⟨?_,?_,rfl⟩
  ·show []=keepR (base0 ce.nb) ce.si.keep++[];rw [hs.k1];rfl
  ·show []=keepH (base0 ce.nb) ce.si.keepB++[];rw [hs.k2];rfl
 obtain ⟨h1,h2,_,h4⟩:=cut_raw (F:=[]) (e':=.var e.den) ha rfl hfix hmA ⟨rfl,fun i l f h=>by simp [argSt] at h⟩
 have hprj:prjIs (argSt st vs) (mapE ce.si st vs) ce.si.items=some e:=by
  unfold arr at ha;split at ha
  ·cases ha
  ·rename_i e0 hp
   cases hc:cutOk (base0 ce.nb) ce.si (mapE ce.si st vs) (argSt st vs) (inj (base0 ce.nb) ce.si e0).blk with
   | false=>rw [hc] at ha;cases ha
   | true =>
    rw [hc] at ha;injection ha with ha
    subst ha;exact hp
 have hb:(inj (base0 ce.nb) ce.si (.var e.den:E D (itmsTy ce.si.items))).blk=(ent ce.si ce.nb (.var e.den:E D (itmsTy ce.si.items))).blk:=by
  funext k
  show look (look .dead (keepH (base0 ce.nb) ce.si.keepB++[]) k) _ k=look (look .dead [] k) _ k;rw [hs.k2];rfl
 have hlk:∀ b ∈ itemB ce.si.items,(ent ce.si ce.nb (.var e.den:E D (itmsTy ce.si.items))).blk b≠.dead:=by
  intro b hbi;rw [ent_blk]
  rcases itemK_some ce.si.items (.var e.den:E D (itmsTy ce.si.items)) b hs.nai hbi with ⟨_,cs,ty,h⟩ | ⟨_,fr,t,xs,ty,h⟩ <;> rw [h] <;> simp
 have hk:=prjIs_kind ce.si.items e hprj;refine ⟨⟨fun k h=>h1.lt k (by rw [hb];exact h),fun k k' h h'=>h1.inj k k' (by rw [hb];exact h) (by rw [hb];exact h'),fun p hp=>?_,by rw [←hb];exact h1.ar',by rw [←hb];exact h1.ge⟩,⟨?_,fun i a b g1 g2=>?_⟩,fun id=>?_,fun b hbi=>⟨hlk b hbi,?_⟩,fun b h=>?_,fun b=>⟨fun h=>?_,fun h=>?_⟩,fun b hbi hkb=>?_⟩
 ·have hp:p ∈ injH ce.si.items (.var e.den:E D (itmsTy ce.si.items))++[]:=hp;rw [List.append_nil] at hp;exact ⟨hs.lti p.1 (by rw [←keyB ce.si.items (.var e.den:E D (itmsTy ce.si.items))];exact List.mem_map.2 ⟨p,hp,rfl⟩),injH_live _ _ p hp⟩
 ·rw [encL_length,encL_length];unfold argsI;rw [List.length_map,List.length_range,hna]
 ·rw [encL_map,List.getElem?_map] at g1 g2;obtain ⟨x1,y1,e1⟩:=Option.map_eq_some_iff.1 g1;obtain ⟨x2,y2,e2⟩:=Option.map_eq_some_iff.1 g2;subst e1;subst e2
  unfold argsI at y1;rw [List.getElem?_map] at y1;obtain ⟨k,z1,e1⟩:=Option.map_eq_some_iff.1 y1;subst e1;obtain ⟨hlt,z1⟩:=List.getElem?_eq_some_iff.1 z1;rw [List.getElem_range] at z1;subst z1;have hr:=h2.regs i;rw [enc_get,enc_get,hb,hblk] at hr
  have q1:(inj (base0 ce.nb) ce.si (.var e.den:E D (itmsTy ce.si.items))).get i=look .any (statR ce.si.stat++injR ce.si.items (.var e.den:E D (itmsTy ce.si.items))) i:=by
   show look (look .any (keepR (base0 ce.nb) ce.si.keep++[]) i) _ i=_;rw [hs.k1];rfl
  have q2:(argSt st vs).get i=x2:=by
   show look (look .any [] i) (argRS 0 vs) i=x2;have:=argRS_look vs 0 i;rw [Nat.zero_add,y2] at this;exact this
  rw [q1,q2] at hr;exact hr
 ·have hh:=h2.heap id
  have q1:(inj (base0 ce.nb) ce.si (.var e.den:E D (itmsTy ce.si.items))).hk=[]:=by
   show keepH (base0 ce.nb) ce.si.keepB++[]=[];rw [hs.k2];rfl
  have e1:((inj (base0 ce.nb) ce.si (.var e.den:E D (itmsTy ce.si.items))).enc (mM m (mapE ce.si st vs)) nx).heap=((ent ce.si ce.nb (.var e.den:E D (itmsTy ce.si.items))).enc (mM m (mapE ce.si st vs)) nx).heap:=by
   show encH _ (inj (base0 ce.nb) ce.si (.var e.den:E D (itmsTy ce.si.items))).blk (injH ce.si.items (.var e.den)++(inj (base0 ce.nb) ce.si (.var e.den:E D (itmsTy ce.si.items))).hk)++((inj (base0 ce.nb) ce.si (.var e.den:E D (itmsTy ce.si.items))).blk 0).rows _=_;rw [hb,q1];rfl
  have e2:((argSt st vs).enc m nx).heap=(st.enc m nx).heap:=by
   show encH m (argSt st vs).blk ((st.heap++st.hk)++[])++((argSt st vs).blk 0).rows (m 0)=encH m st.blk (st.heap++st.hk)++(st.blk 0).rows (m 0);rw [hblk,List.append_nil]
  rw [e1,e2] at hh;exact hh
 ·have:=h4 b (by rw [hb];exact hlk b hbi);rw [hblk] at this;exact this
 ·rw [ent_blk] at h;rw [←keyB ce.si.items (.var e.den:E D (itmsTy ce.si.items))];exact List.mem_map.2 ⟨_,look_mem (rfl:look SB.dead (injH ce.si.items (.var e.den:E D (itmsTy ce.si.items))) b=_) h,rfl⟩
 ·have:=(hk b).1 h;rw [hblk] at this;exact this
 ·have:=(hk b).2 h;rw [hblk] at this;exact this
 ·rcases itemK_some ce.si.items (.var e.den:E D (itmsTy ce.si.items)) b hs.nai hbi with ⟨h,_⟩ | ⟨_,fr,t,xs,ty,h⟩
  ·rw [hkb] at h;cases h
  ·have hmem:=look_mem (rfl:look SB.dead (injH ce.si.items (.var e.den:E D (itmsTy ce.si.items))) b=_) (by rw [h];simp);rw [h] at hmem;obtain ⟨_,g2,_⟩:=injH_rows ce.si.items e (.var e.den) hprj rfl _ hmem;obtain ⟨fr',xs',v',g3,g4,_⟩:=g2 _ _ _ _ _ rfl;rw [hblk] at g3;have c0:curVer st (mpI (mapE ce.si st vs) b)=v':=by unfold curVer;rw [g3]
   have e1:rowLen (ent ce.si ce.nb (.var e.den:E D (itmsTy ce.si.items))).blk b (verI ce.si.items b)=some (List.length xs.den):=by
    unfold rowLen;rw [ent_blk,h];simp
   have e2:rowLen st.blk (mpI (mapE ce.si st vs) b) v'=some (List.length xs'.den):=by
    unfold rowLen;rw [g3];simp
   rw [e1,c0,e2,g4]
structure EffR (so:Sig) (st st':SSt D) (m:Nat→Nat) (nx:Nat) (Fs:List (Nat→AV)) (r:SV D) (v:AV) (hp':List (Nat×AB)) (nx':Nat) (m2:Nat→Nat):Prop where
 mok:MOk m2 nx' st'
 les:LeS (st'.enc m2 nx') ⟨(st.enc m nx).regs,hp',nx'⟩
 fr:FrOk m2 st'.blk st'.fr Fs
 res:Les (r.enc m2 st'.blk) v
theorem kap_inj {mp:List (Nat×Nat)} {e:E D (itmsTy ce.si.items)} (hs:SigP ce.si ce.so ce.nb) (hE:EntR ce st m nx vs mp e) (hlt:∀ b ∈ itemB ce.si.items,mpI mp b<st.nx):∀ b ∈ itemB ce.so.items,∀ b' ∈ itemB ce.so.items,kapE ce.nb mp st.nx b=kapE ce.nb mp st.nx b'→b=b':=by
 have κo:∀ b,b<ce.nb→kapE ce.nb mp st.nx b=mpI mp b:=fun b h=>by
  show (bif Nat.blt b ce.nb then mpI mp b else st.nx+(b-ce.nb))=_;rw [show Nat.blt b ce.nb=true by simpa using h];rfl
 have κn:∀ b,¬ b<ce.nb→kapE ce.nb mp st.nx b=st.nx+(b-ce.nb):=fun b h=>by
  show (bif Nat.blt b ce.nb then mpI mp b else st.nx+(b-ce.nb))=_;rw [show Nat.blt b ce.nb=false by rw [←Bool.not_eq_true];simpa using h];rfl
 intro b hb b' hb' h;by_cases c:b<ce.nb
 ·have i1:=(hs.old b hb c).1;have:=hlt b i1;rw [κo b c] at h;by_cases c':b'<ce.nb
  ·have i2:=(hs.old b' hb' c').1;rw [κo b' c'] at h;exact hE.mok.inj b b' (hE.live b i1).1 (hE.live b' i2).1 (by show m (mpI mp b)=m (mpI mp b');rw [h])
  ·rw [κn b' c'] at h;omega
 ·rw [κn b c] at h;by_cases c':b'<ce.nb
  ·have:=hlt b' (hs.old b' hb' c').1;rw [κo b' c'] at h;omega
  ·rw [κn b' c'] at h;omega
theorem effCore (hnA:(st.blk 0).isA=false) {nx':Nat} {m1 m2:Nat→Nat} {mp:List (Nat×Nat)} {e:E D (itmsTy ce.si.items)} {y:(itmsTy ce.so.items).den} {p:Nat→Bool} {hp':List (Nat×AB)} (hs:SigP ce.si ce.so ce.nb) (hm:MOk m nx st) (hf:FrOk m st.blk st.fr Fs) (hE:EntR ce st m nx vs mp e) (hlt:∀ b ∈ itemB ce.si.items,mpI mp b<st.nx)
  (c3:refE ce.si ce.so ce.nb mp st=true) (hpI:∀ id,p id=true↔∃ b ∈ itemB ce.si.items,mM m mp b=id) (k1:MOk m1 nx' (exi ce.si ce.so ce.nb (.var y:E D (itmsTy ce.so.items))))
  (k4:FrOk m1 (exi ce.si ce.so ce.nb (.var y:E D (itmsTy ce.so.items))).blk [refsI ce.si.items] [fun d=>look .any ((ent ce.si ce.nb (.var e.den:E D (itmsTy ce.si.items))).enc (mM m mp) nx).regs d])
  (hle:nx≤nx') (hlive:∀ j,look .dead ((exi ce.si ce.so ce.nb (.var y:E D (itmsTy ce.so.items))).enc m1 nx').heap j≠.dead→orQ p nx nx' j=true)
  (hhp:∀ j,look .dead hp' j=bif orQ p nx nx' j then look .dead ((exi ce.si ce.so ce.nb (.var y:E D (itmsTy ce.so.items))).enc m1 nx').heap j else look .dead (st.enc m nx).heap j)
  (hm2:∀ b ∈ itemB ce.so.items,m2 (kapE ce.nb mp st.nx b)=m1 b) (hm2':∀ k,(∀ b ∈ itemB ce.so.items,kapE ce.nb mp st.nx b≠k)→m2 k=m k) :
  EffR ce.so st (outE ce.si ce.so ce.nb mp st (.var y)) m nx Fs (resE ce.si ce.so ce.nb mp st (.var y)) ((look SV.any (statR ce.so.stat++injR ce.so.items (.var y:E D (itmsTy ce.so.items))) 0).enc m1 (exi ce.si ce.so ce.nb (.var y:E D (itmsTy ce.so.items))).blk) hp' nx' m2:=by

 generalize hX:(exi ce.si ce.so ce.nb (.var y:E D (itmsTy ce.so.items)))=X at k1 k4 hlive hhp ⊢
 have hXb:∀ b,X.blk b=look .dead (injH ce.so.items (.var y:E D (itmsTy ce.so.items))) b:=by
  intro b;rw [←hX];show look (look .dead (keepH (baseE ce.si ce.nb) ce.so.keepB++[]) b) _ b=_;rw [hs.k4];rfl
 have hXk:∀ b,X.blk b≠.dead→b ∈ itemB ce.so.items:=by
  intro b h;rw [hXb] at h;rw [←keyB ce.so.items (.var y:E D (itmsTy ce.so.items))];exact List.mem_map.2 ⟨_,look_mem (rfl:look SB.dead (injH ce.so.items (.var y:E D (itmsTy ce.so.items))) b=_) h,rfl⟩
 have hXl:∀ b ∈ itemB ce.so.items,X.blk b≠.dead:=by
  intro b hb;rw [hXb]
  rcases itemK_some ce.so.items (.var y:E D (itmsTy ce.so.items)) b hs.nao hb with ⟨_,cs,ty,h⟩ | ⟨_,fr,t,xs,ty,h⟩ <;> rw [h] <;> simp
 have hXn:∀ b,(X.blk b).noA=true:=fun b=>by
  rw [hXb];exact look_noA (injH_noA _ _ hs.nao) b
 let κ:=kapE ce.nb mp st.nx
 let ν:=nuE ce.si ce.so ce.nb mp st
 let q:=hasN (itemB ce.so.items)
 have κo:∀ b,b<ce.nb→κ b=mpI mp b:=fun b h=>by
  show (bif Nat.blt b ce.nb then mpI mp b else st.nx+(b-ce.nb))=_;rw [show Nat.blt b ce.nb=true by simpa using h];rfl
 have κn:∀ b,¬ b<ce.nb→κ b=st.nx+(b-ce.nb):=fun b h=>by
  show (bif Nat.blt b ce.nb then mpI mp b else st.nx+(b-ce.nb))=_;rw [show Nat.blt b ce.nb=false by rw [←Bool.not_eq_true];simpa using h];rfl
 have κinj:∀ b ∈ itemB ce.so.items,∀ b' ∈ itemB ce.so.items,κ b=κ b'→b=b':=by
  intro b hb b' hb' h;by_cases c:b<ce.nb
  ·have i1:=(hs.old b hb c).1;have:=hlt b i1;rw [κo b c] at h;by_cases c':b'<ce.nb
   ·have i2:=(hs.old b' hb' c').1;rw [κo b' c'] at h;exact hE.mok.inj b b' (hE.live b i1).1 (hE.live b' i2).1 (by show m (mpI mp b)=m (mpI mp b');rw [h])
   ·rw [κn b' c'] at h;omega
  ·rw [κn b c] at h;by_cases c':b'<ce.nb
   ·have:=hlt b' (hs.old b' hb' c').1;rw [κo b' c'] at h;omega
   ·rw [κn b' c'] at h;omega

 generalize hS:outE ce.si ce.so ce.nb mp st (.var y:E D (itmsTy ce.so.items))=st'
 have hlook:∀ (d:SB D) (l:List (Nat×SB D)),(∀ p ∈ l,p.1 ∈ itemB ce.so.items)→∀ b ∈ itemB ce.so.items,look d (renHE ce.si ce.so ce.nb mp st l) (κ b)=(if b ∈ l.map (·.1) then (look .dead l b).ren q κ ν b else d):=by
  intro d l
  induction l with
  | nil=>intro _ b _;rw [if_neg (by simp)];rfl
  | cons a l ih =>
   intro hl b hb;obtain ⟨j,B⟩:=a;show look d ((κ j,B.ren q κ ν j)::renHE ce.si ce.so ce.nb mp st l) (κ b)=_;rw [look_cons,look_cons];by_cases hj:j=b
   ·subst hj;rw [if_pos rfl,if_pos rfl,if_pos (by simp)]
   ·rw [if_neg (fun e1=>hj (κinj j (hl (j,B) (by simp)) b hb e1)),if_neg hj,ih (fun p hp=>hl p (List.mem_cons_of_mem _ hp)) b hb]
    have:(b ∈ l.map (·.1))↔b ∈ ((j,B)::l).map (·.1):=by
     rw [List.map_cons,List.mem_cons];exact ⟨fun h=>.inr h,fun h=>h.resolve_left fun e1=>hj e1.symm⟩
    simp only [this]
 have hlook2:∀ (d:SB D) (l:List (Nat×SB D)) (k:Nat),(∀ p ∈ l,κ p.1≠k)→look d (renHE ce.si ce.so ce.nb mp st l) k=d:=by
  intro d l k
  induction l with
  | nil=>intro _;rfl
  | cons a l ih =>
   intro hl;obtain ⟨j,B⟩:=a;show look d ((κ j,B.ren q κ ν j)::renHE ce.si ce.so ce.nb mp st l) k=_;rw [look_cons,if_neg (hl (j,B) (by simp)),ih fun p hp=>hl p (List.mem_cons_of_mem _ hp)]
 have hkeys:∀ p ∈ injH ce.so.items (.var y:E D (itmsTy ce.so.items)),p.1 ∈ itemB ce.so.items:=fun p hp=>by
  rw [←keyB ce.so.items (.var y:E D (itmsTy ce.so.items))];exact List.mem_map.2 ⟨p,hp,rfl⟩
 have hB1:∀ b ∈ itemB ce.so.items,st'.blk (κ b)=(X.blk b).ren q κ ν b:=by
  intro b hb;rw [←hS];show look (look .dead st.hk (κ b)) (renHE ce.si ce.so ce.nb mp st (injH ce.so.items (.var y))++st.heap) (κ b)=_;rw [look_append,hlook _ _ hkeys b hb,if_pos (by rw [keyB];exact hb),←hXb]
 have hB2:∀ k,(∀ b ∈ itemB ce.so.items,κ b≠k)→st'.blk k=st.blk k:=by
  intro k hk;rw [←hS];show look (look .dead st.hk k) (renHE ce.si ce.so ce.nb mp st (injH ce.so.items (.var y))++st.heap) k=_;rw [look_append,hlook2 _ _ k (fun p hp=>hk p.1 (hkeys p hp))];rfl
 have hnu:∀ b v,ν b v=if v=verI ce.so.items b then newVer ce.si ce.so ce.nb mp st b else newVer ce.si ce.so ce.nb mp st b+1:=by
  intro b v;show (bif Nat.beq v (verI ce.so.items b) then _ else _)=_;by_cases h:v=verI ce.so.items b
  ·subst h;rw [Nat.beq_refl,if_pos rfl];rfl
  ·rw [beq_ne h,if_neg h];rfl
 have hrow:∀ b ∈ itemB ce.so.items,(itemK ce.so.items b=some true∧∃ cs ty,X.blk b=.box cs ty)∨(itemK ce.so.items b=some false∧∃ fr t xs ty,X.blk b=.row fr t xs ty (verI ce.so.items b)):=by
  intro b hb;rw [hXb];exact itemK_some _ _ b hs.nao hb

 have hfrm:∀ b ∈ itemB ce.so.items,b<ce.nb→(itemK ce.so.items b=some true→m1 b=mM m mp b)∧(itemK ce.so.items b=some false→verI ce.so.items b=verI ce.si.items b→m1 b=mM m mp b∧rowLen X.blk b (verI ce.so.items b)=rowLen (ent ce.si ce.nb (.var e.den:E D (itmsTy ce.si.items))).blk b (verI ce.si.items b)):=by
  intro b hb hbn;obtain ⟨hbi,hkk⟩:=hs.old b hb hbn;have hl:=k4.les 0 _ _ rfl rfl b;rw [enc_get] at hl;have hg:(ent ce.si ce.nb (.var e.den:E D (itmsTy ce.si.items))).get b=look .any (refsI ce.si.items) b:=rfl;rw [hg] at hl;rcases itemK_some ce.si.items (.var e.den:E D (itmsTy ce.si.items)) b hs.nai hbi with ⟨i1,cs,ty,i2⟩ | ⟨i1,fr,t,xs,ty,i2⟩
  ·refine ⟨fun _=>?_,fun h=>by rw [←hkk,i1] at h;cases h⟩;rw [(refsI_look ce.si.items b).1 i1,SV.enc,SV.enc] at hl;have b1:isBox (ent ce.si ce.nb (.var e.den:E D (itmsTy ce.si.items))).blk b=true:=by unfold isBox;rw [ent_blk,i2]
   have b2:isBox X.blk b=true:=by
    rcases hrow b hb with ⟨_,cs,ty,h⟩ | ⟨h,_⟩
    ·unfold isBox;rw [h]
    ·rw [←hkk,i1] at h;cases h
   rw [b1,b2] at hl;exact les_box_inj hl
  ·refine ⟨fun h=>(by rw [←hkk,i1] at h;cases h),fun _ hv=>?_⟩;rw [(refsI_look ce.si.items b).2 i1,SV.enc,SV.enc] at hl;have b1:rowLen (ent ce.si ce.nb (.var e.den:E D (itmsTy ce.si.items))).blk b (verI ce.si.items b)=some (List.length xs.den):=by unfold rowLen;rw [ent_blk,i2];simp
   obtain ⟨fr',t',xs',ty',hx⟩:∃ fr t xs ty,X.blk b=.row fr t xs ty (verI ce.so.items b):=by
    rcases hrow b hb with ⟨h,_⟩ | ⟨_,h⟩
    ·rw [←hkk,i1] at h;cases h
    ·exact h
   have b2:rowLen X.blk b (verI ce.si.items b)=some (List.length xs'.den):=by unfold rowLen;rw [hx,hv];simp
   rw [b1,b2] at hl;have:=les_osl_inj hl;rw [hv,b1,b2];exact ⟨this.1,by rw [this.2]⟩
 have hRen:RenOk q κ ν m1 X.blk m2 st'.blk:=by
  refine ⟨fun b hq=>?_,fun b v hq=>?_⟩
  ·have hb:=hasN_mem hq;refine ⟨?_,hm2 b hb⟩;unfold isBox;rw [hB1 b hb]
   cases X.blk b <;> rfl
  ·have hb:=hasN_mem hq;unfold rowLen;rw [hB1 b hb];rcases hrow b hb with ⟨_,cs,ty,h⟩ | ⟨_,fr,t,xs,ty,h⟩
   ·rw [h];exact .inl rfl
   ·rw [h];have e1:(SB.row fr t xs ty (verI ce.so.items b)).ren q κ ν b=.row fr t xs ty (ν b (verI ce.so.items b)):=rfl;rw [e1];show (bif Nat.beq (ν b v) (ν b (verI ce.so.items b)) then some (List.length xs.den) else none)=none∨(bif Nat.beq (ν b v) (ν b (verI ce.so.items b)) then some (List.length xs.den) else none)=(bif Nat.beq v (verI ce.so.items b) then some (List.length xs.den) else none);rw [hnu b v,hnu b (verI ce.so.items b),if_pos rfl];by_cases hv:v=verI ce.so.items b
    ·rw [if_pos hv,Nat.beq_refl,hv,Nat.beq_refl];exact .inr rfl
    ·rw [if_neg hv,beq_ne (Nat.succ_ne_self _)];exact .inl rfl
 have hMem:MemLe m st.blk m2 st'.blk (fun id=>Nat.blt id st.nx) (fun id v=>Nat.blt id st.nx&&!((itemB ce.so.items).any fun b=>Nat.blt b ce.nb&&(!Nat.beq (verI ce.so.items b) (verI ce.si.items b)&&(Nat.beq id (mpI mp b)&&Nat.beq v (newVer ce.si ce.so ce.nb mp st b))))):=by
  have old:∀ b ∈ itemB ce.so.items,κ b<st.nx→b<ce.nb:=fun b _ h=>by
   rcases Nat.lt_or_ge b ce.nb with c | c
   ·exact c
   ·rw [κn b (by omega)] at h;omega
  refine ⟨fun id hid=>?_,fun id v hid=>?_⟩
  ·have hid:id<st.nx:=by simpa using hid
   by_cases hk:∃ b ∈ itemB ce.so.items,κ b=id
   ·obtain ⟨b,hb,rfl⟩:=hk;have hbn:=old b hb hid;obtain ⟨hbi,hkk⟩:=hs.old b hb hbn;rcases hrow b hb with ⟨h1,cs,ty,h2⟩ | ⟨h1,fr,t,xs,ty,h2⟩
    ·right
     refine ⟨?_,?_⟩
     ·obtain ⟨cs',ty',h3⟩:=(hE.kind b).1 (by rw [hkk];exact h1);unfold isBox;rw [hB1 b hb,h2,κo b hbn,h3];rfl
     ·rw [hm2 b hb,(hfrm b hb hbn).1 h1,κo b hbn]
    ·left
     unfold isBox;rw [hB1 b hb,h2];rfl
   ·have hk:∀ b ∈ itemB ce.so.items,κ b≠id:=fun b hb h=>hk ⟨b,hb,h⟩
    right
    refine ⟨?_,hm2' id hk⟩;unfold isBox;rw [hB2 id hk]
  ·rw [Bool.and_eq_true] at hid;obtain ⟨hid1,hid2⟩:=hid;have hid1:id<st.nx:=by simpa using hid1
   by_cases hk:∃ b ∈ itemB ce.so.items,κ b=id
   ·obtain ⟨b,hb,rfl⟩:=hk;have hbn:=old b hb hid1;obtain ⟨hbi,hkk⟩:=hs.old b hb hbn;rcases hrow b hb with ⟨h1,cs,ty,h2⟩ | ⟨h1,fr,t,xs,ty,h2⟩
    ·left
     unfold rowLen;rw [hB1 b hb,h2];rfl
    ·have hst:rowLen st'.blk (κ b) v=(bif Nat.beq v (newVer ce.si ce.so ce.nb mp st b) then some (List.length xs.den) else none):=by
      unfold rowLen;rw [hB1 b hb,h2];show (bif Nat.beq v (ν b (verI ce.so.items b)) then _ else _)=_;rw [hnu,if_pos rfl]
     by_cases hv:v=newVer ce.si ce.so ce.nb mp st b
     ·right
      have hsame:verI ce.so.items b=verI ce.si.items b:=by
       refine Classical.byContradiction fun hne=>?_
       have:((itemB ce.so.items).any fun b=>Nat.blt b ce.nb&&(!Nat.beq (verI ce.so.items b) (verI ce.si.items b)&&(Nat.beq (κ b) (mpI mp b)&&Nat.beq v (newVer ce.si ce.so ce.nb mp st b))))=true:=by
        refine List.any_eq_true.2 ⟨b,hb,?_⟩;rw [show Nat.blt b ce.nb=true by simpa using hbn,beq_ne hne,κo b hbn,Nat.beq_refl,hv,Nat.beq_refl];rfl
       have h3:((itemB ce.so.items).any fun b'=>Nat.blt b' ce.nb&&(!Nat.beq (verI ce.so.items b') (verI ce.si.items b')&&(Nat.beq (κ b) (mpI mp b')&&Nat.beq v (newVer ce.si ce.so ce.nb mp st b'))))=true:=by
        refine List.any_eq_true.2 ⟨b,hb,?_⟩;rw [show Nat.blt b ce.nb=true by simpa using hbn,beq_ne hne,κo b hbn,Nat.beq_refl,hv,Nat.beq_refl];rfl
       rw [h3] at hid2;cases hid2
      obtain ⟨g1,g2⟩:=(hfrm b hb hbn).2 h1 hsame;refine ⟨?_,by rw [hm2 b hb,g1,κo b hbn]⟩
      have hnv:newVer ce.si ce.so ce.nb mp st b=curVer st (mpI mp b):=by
       unfold newVer;rw [show Nat.blt b ce.nb=true by simpa using hbn,hsame,Nat.beq_refl];rfl
      have hx:rowLen X.blk b (verI ce.so.items b)=some (List.length xs.den):=by unfold rowLen;rw [h2];simp
      rw [hst,hv,Nat.beq_refl,hnv,κo b hbn,←hE.len b hbi (by rw [hkk];exact h1),←g2,hx];rfl
     ·left;rw [hst,beq_ne hv];rfl
   ·have hk:∀ b ∈ itemB ce.so.items,κ b≠id:=fun b hb h=>hk ⟨b,hb,h⟩
    right
    refine ⟨?_,hm2' id hk⟩;unfold rowLen;rw [hB2 id hk]
 have hr:=c3;unfold refE SSt.refs at hr;simp only [Bool.and_eq_true] at hr;obtain ⟨r1,r2,r3,r4,r5⟩:=hr
 have hin:∀ b ∈ itemB ce.so.items,orQ p nx nx' (m1 b)=true:=by
  intro b hb;refine hlive (m1 b) ?_;rw [enc_blk k1 (hXl b hb)];have:=hXl b hb
  cases hxx:X.blk b with
  | dead=>exact absurd hxx this
  | box cs ty=>rw [SB.enc];simp
  | row=>rw [SB.enc];simp
  | arn=>have:=hXn b;rw [hxx] at this;cases this
 have hoth:∀ k,st.blk k≠.dead→(∀ b ∈ itemB ce.so.items,κ b≠k)→orQ p nx nx' (m k)=false:=by
  intro k hk hne;rw [Bool.eq_false_iff];intro h;rcases orQ_iff.1 h with h | h
  ·obtain ⟨b,hb,he⟩:=(hpI _).1 h;have:=hm.inj _ _ (hE.live b hb).2 hk he;exact hne b (hs.sub b hb) (by rw [κo b (hs.lti b hb)];exact this)
  ·have:=hm.lt k hk;omega
 have hlive':∀ k,st'.blk k≠.dead→(∃ b ∈ itemB ce.so.items,κ b=k)∨((∀ b ∈ itemB ce.so.items,κ b≠k)∧st.blk k≠.dead):=by
  intro k hk;by_cases h:∃ b ∈ itemB ce.so.items,κ b=k
  ·exact .inl h
  ·have h:∀ b ∈ itemB ce.so.items,κ b≠k:=fun b hb h'=>h ⟨b,hb,h'⟩
   exact .inr ⟨h,by rw [hB2 k h] at hk;exact hk⟩
 have hmok:MOk m2 nx' st':=by
  refine ⟨fun k hk=>?_,fun k k' hk hk' e1=>?_,fun p' hp'=>?_,fun hA=>?_,?_⟩
  rotate_left 3
  ·exfalso
   by_cases h:∃ b ∈ itemB ce.so.items,κ b=0
   ·obtain ⟨b,hb,h0⟩:=h;rw [←h0,hB1 b hb] at hA;have:=hXn b
    cases hxx:X.blk b with
    | arn=>rw [hxx] at this;cases this
    | dead=>rw [hxx] at hA;cases hA
    | box=>rw [hxx] at hA;cases hA
    | row=>rw [hxx] at hA;cases hA
   ·rw [hB2 0 (fun b hb h'=>h ⟨b,hb,h'⟩),hnA] at hA;cases hA
  ·have:=hm.ge.1;refine ⟨by omega,fun k hk=>?_⟩;rcases hlive' k hk with ⟨b,hb,rfl⟩ | ⟨h1,h2⟩
   ·rw [hm2 b hb];exact k1.ge.2 b (hXl b hb)
   ·rw [hm2' k h1];exact hm.ge.2 k h2
  ·rcases hlive' k hk with ⟨b,hb,rfl⟩ | ⟨h1,h2⟩
   ·rw [hm2 b hb];exact k1.lt b (hXl b hb)
   ·rw [hm2' k h1];have:=hm.lt k h2;omega
  ·rcases hlive' k hk with ⟨b,hb,rfl⟩ | ⟨h1,h2⟩
   ·rw [hm2 b hb] at e1;rcases hlive' k' hk' with ⟨b',hb',rfl⟩ | ⟨h1',h2'⟩
    ·rw [hm2 b' hb'] at e1;rw [k1.inj b b' (hXl b hb) (hXl b' hb') e1]
    ·rw [hm2' k' h1'] at e1;have:=hin b hb;rw [e1,hoth k' h2' h1'] at this;cases this
   ·rw [hm2' k h1] at e1;rcases hlive' k' hk' with ⟨b',hb',rfl⟩ | ⟨h1',h2'⟩
    ·rw [hm2 b' hb'] at e1;have:=hin b' hb';rw [←e1,hoth k h2 h1] at this;cases this
    ·rw [hm2' k' h1'] at e1;exact hm.inj k k' h2 h2' e1
  ·rw [←hS] at hp' ⊢;have hp':p' ∈ (renHE ce.si ce.so ce.nb mp st (injH ce.so.items (.var y))++st.heap)++st.hk:=hp';show p'.1<st.nx+ce.so.ex∧p'.2≠.dead;rw [List.append_assoc] at hp';rcases List.mem_append.1 hp' with hp' | hp'
   ·obtain ⟨z,hz,rfl⟩:=List.mem_map.1 hp';have hz1:=hkeys z hz;refine ⟨?_,?_⟩
    ·show κ z.1<_;have:=hs.lt z.1 hz1;by_cases c:z.1<ce.nb
     ·rw [κo _ c];have:=hlt _ (hs.old _ hz1 c).1;omega
     ·rw [κn _ c];omega
    ·show z.2.ren _ _ _ _≠_;have:=injH_live _ _ z hz
     cases hz2:z.2 with
     | dead=>exact absurd hz2 this
     | box cs ty=>rw [SB.ren];simp
     | row fr t xs ty v=>rw [SB.ren];simp
     | arn=>have:=injH_noA _ _ hs.nao z hz;rw [hz2] at this;cases this
   ·have:=hm.keys p' hp';exact ⟨by omega,this.2⟩
 refine ⟨hmok,⟨fun d=>?_,fun k=>?_,rfl⟩,?_,?_⟩
 ·have e1:st'.regs++st'.kp=st.regs++st.kp:=by rw [←hS];rfl
  show Les (look .any (encR m2 st'.blk (st'.regs++st'.kp)) d) (look .any (encR m st.blk (st.regs++st.kp)) d);rw [e1];exact encR_les hMem _ (by rw [refsR_append,r1,r2];rfl) d
 ·show LesB _ (look .dead hp' k);rcases heap_cases hmok k with h | ⟨b',hb',rfl⟩ | ⟨h1,_,_⟩
  ·rw [h];exact .dead _
  rotate_left
  ·exfalso
   by_cases h:∃ b ∈ itemB ce.so.items,κ b=0
   ·obtain ⟨b,hb,h0⟩:=h;rw [←h0,hB1 b hb] at h1;have:=hXn b
    cases hxx:X.blk b with
    | arn=>rw [hxx] at this;cases this
    | dead=>rw [hxx] at h1;cases h1
    | box=>rw [hxx] at h1;cases h1
    | row=>rw [hxx] at h1;cases h1
   ·rw [hB2 0 (fun b hb h'=>h ⟨b,hb,h'⟩),hnA] at h1;cases h1
  ·rw [enc_blk hmok hb',hhp];rcases hlive' b' hb' with ⟨b,hb,rfl⟩ | ⟨h1,h2⟩
   ·rw [hm2 b hb,hin b hb,hB1 b hb];show LesB _ (look .dead (X.enc m1 nx').heap (m1 b));rw [enc_blk k1 (hXl b hb)];exact renB_les hRen b _
   ·rw [hm2' b' h1,hoth b' h2 h1,hB2 b' h1];show LesB _ (look .dead (st.enc m nx).heap (m b'));rw [enc_blk hm h2];refine encB_les hMem _ ?_
    have key:∀ (l:List (Nat×SB D)),refsH (fun id=>Nat.blt id st.nx) (fun id v=>Nat.blt id st.nx&&!((itemB ce.so.items).any fun b=>Nat.blt b ce.nb&&(!Nat.beq (verI ce.so.items b) (verI ce.si.items b)&&(Nat.beq id (mpI mp b)&&Nat.beq v (newVer ce.si ce.so ce.nb mp st b))))) l=true→∀ z ∈ l,z.2.refs (fun id=>Nat.blt id st.nx) (fun id v=>Nat.blt id st.nx&&!((itemB ce.so.items).any fun b=>Nat.blt b ce.nb&&(!Nat.beq (verI ce.so.items b) (verI ce.si.items b)&&(Nat.beq id (mpI mp b)&&Nat.beq v (newVer ce.si ce.so ce.nb mp st b)))))=true:=by
     intro l
     induction l with
     | nil=>intro _ z hz;cases hz
     | cons a l ih =>
      intro h z hz;rw [refsH,Bool.and_eq_true] at h;rcases List.mem_cons.1 hz with rfl | hz
      ·exact h.1
      ·exact ih h.2 z hz
    rw [blk_look] at h2 ⊢;exact key (st.heap++st.hk) (by rw [refsH_append,r3,r4];rfl) _ (look_mem (rfl:look SB.dead (st.heap++st.hk) b'=_) h2)
 ·have e1:st'.fr=st.fr:=by rw [←hS];rfl
  rw [e1];exact hf.les' hMem r5
 ·exact ren_les hRen _
theorem callE_ok (hce:CtrEOk P F ce) (hm:MOk m nx st) (hf:FrOk m st.blk st.fr Fs) {e:E D (itmsTy ce.si.items)} (ha:arrE ce.si ce.so ce.nb ce.na st vs=some e) {fu:Nat} {y:(itmsTy ce.so.items).den} (hy:ce.f fu e.den=some y) :
  AC P F (SV.encL m st.blk vs) (st.enc m nx).heap nx (fun v hp' nx'=>∃ m2,EffR ce.so st (outE ce.si ce.so ce.nb (mapE ce.si st vs) st (.var y)) m nx Fs (resE ce.si ce.so ce.nb (mapE ce.si st vs) st (.var y)) v hp' nx' m2):=by
 unfold arrE at ha
 cases hc:((sigOk ce.si ce.so ce.nb&&!(st.blk 0).isA)&&(Nat.beq ce.na vs.length&&(refE ce.si ce.so ce.nb (mapE ce.si st vs) st&&((itemB ce.si.items).all fun b=>Nat.blt (mpI (mapE ce.si st vs) b) st.nx)))) with
 | false=>rw [hc] at ha;cases ha
 | true =>
  rw [hc] at ha;simp only [cond_true] at ha;simp only [Bool.and_eq_true] at hc;obtain ⟨⟨c1,c0⟩,c2,c3,c4⟩:=hc;have hnA:(st.blk 0).isA=false:=by simpa using c0
  have hs:=sigOk_at c1;have hna:=Nat.eq_of_beq_eq_true c2;have hE:=entR hs hm hna ha;have hlt:∀ b ∈ itemB ce.si.items,mpI (mapE ce.si st vs) b<st.nx:=fun b hb=>Nat.le_of_ble_eq_true (List.all_eq_true.1 c4 b hb)
  generalize mapE ce.si st vs=mp at hE hlt c3 ⊢
  let p:Nat→Bool:=fun id=>(itemB ce.si.items).any fun b=>Nat.beq (mM m mp b) id
  have hpI:∀ id,p id=true↔∃ b ∈ itemB ce.si.items,mM m mp b=id:=fun id=>by
   show ((itemB ce.si.items).any fun b=>Nat.beq (mM m mp b) id)=true↔_;rw [List.any_eq_true];exact ⟨fun ⟨b,h1,h2⟩=>⟨b,h1,Nat.eq_of_beq_eq_true h2⟩,fun ⟨b,h1,h2⟩=>⟨b,h1,by rw [h2];exact Nat.beq_refl _⟩⟩
  have hcon:=(hce.2 fu e.den y hy).2 (mM m mp) nx hE.mok
  have hfrm:=AC.frame (hp:=(st.enc m nx).heap) p hcon (fun id h=>by
    obtain ⟨b,h1,rfl⟩:=(hpI id).1 h
    exact hE.mok.lt b (hE.live b h1).1) (fun id=>by
    have hent:∀ b,((ent ce.si ce.nb (.var e.den:E D (itmsTy ce.si.items))).blk b).noA=true:=fun b=>by
     rw [ent_blk];exact look_noA (injH_noA _ _ hs.nai) b
    rcases heap_cases hE.mok id with h | ⟨b,hb,rfl⟩ | ⟨h1,_,_⟩
    ·exact .inl h
    rotate_left
    ·rw [noA_isA (hent 0)] at h1;cases h1
    ·refine .inr ⟨(hpI _).2 ⟨b,hE.dead b hb,rfl⟩,hE.heap _,?_⟩;rw [enc_blk hE.mok hb]
     have nm:∀ B:SB D,B.noA=true→(B.enc (mM m mp) (ent ce.si ce.nb (.var e.den:E D (itmsTy ce.si.items))).blk).nmd p=true:=by
      intro B hB
      cases B with
      | dead=>rfl
      | arn=>cases hB
      | box cs ty =>
       refine encL_nmd (pB:=fun _=>true) (pR:=fun _ _=>true) (fun id _ h=>(hpI _).2 ⟨id,hE.dead id (fun h'=>by unfold isBox at h;rw [h'] at h;cases h),rfl⟩) (fun id v n _ h=>(hpI _).2 ⟨id,hE.dead id (fun h'=>by unfold rowLen at h;rw [h'] at h;cases h),rfl⟩) cs (svL_refs_all cs) (.inl hB)
      | row fr t xs ty v =>
       refine List.all_eq_true.2 fun row hr=>?_
       obtain ⟨x,_,rfl⟩:=List.mem_map.1 hr
       exact nmd_all fun i a hi=>by
        have:=t.cells_isD fr x hB a (List.mem_of_getElem? hi)
        cases a <;> first | rfl | (cases this;done)
     exact nm _ (hent b)) (fun x hx=>by
    rw [encL_map] at hx;obtain ⟨z,hz,rfl⟩:=List.mem_map.1 hx
    have hzA:z.noA=true:=by
     unfold argsI at hz;obtain ⟨i,_,rfl⟩:=List.mem_map.1 hz;exact lookV_noA (fun p hp=>(List.mem_append.1 hp).elim (statR_noA hs.nsi p) (injR_noA _ _ hs.nai p)) i
    exact enc_nmd (pB:=fun _=>true) (pR:=fun _ _=>true) (fun id _ h=>(hpI _).2 ⟨id,hE.dead id (fun h'=>by unfold isBox at h;rw [h'] at h;cases h),rfl⟩) (fun id v n _ h=>(hpI _).2 ⟨id,hE.dead id (fun h'=>by unfold rowLen at h;rw [h'] at h;cases h),rfl⟩) z (sv_refs_all z) (.inl hzA))
  refine (AC.args hfrm hE.args).mono ?_
  rintro v hp' nx' ⟨hp2,⟨m1,k1,k2,k3,k4⟩,hle,rfl,hlive⟩
  subst k2;subst k3
  let κ:=kapE ce.nb mp st.nx
  let m2:Nat→Nat:=fun k=>match (itemB ce.so.items).find? (fun b=>Nat.beq (κ b) k) with | some b=>m1 b | none=>m k
  have κinj:=kap_inj (m:=m) (nx:=nx) hs hE hlt;refine ⟨m2,effCore hnA hs hm hf hE hlt c3 hpI k1 k4 hle hlive (fun j=>look_mixH _ _ _ j) (fun b hb=>?_) (fun k hk=>?_)⟩
  ·show (match (itemB ce.so.items).find? (fun b'=>Nat.beq (κ b') (κ b)) with | some b=>m1 b | none=>m (κ b))=_
   cases hfd:(itemB ce.so.items).find? (fun b'=>Nat.beq (κ b') (κ b)) with
   | none =>
    have:=List.find?_eq_none.1 hfd b hb;rw [Nat.beq_refl] at this;exact absurd rfl this
   | some b' =>
    have h1:=List.mem_of_find?_eq_some hfd;have h2:=List.find?_some hfd;have:=κinj b' h1 b hb (Nat.eq_of_beq_eq_true h2);subst this;rfl
  ·show (match (itemB ce.so.items).find? (fun b'=>Nat.beq (κ b') k) with | some b=>m1 b | none=>m k)=_;have:(itemB ce.so.items).find? (fun b'=>Nat.beq (κ b') k)=none:=List.find?_eq_none.2 fun b hb h=>hk b hb (Nat.eq_of_beq_eq_true h)
   rw [this]
end
end Go.Proofs.Ytljebnobajmjnaa
/- Decompiling: the machine over terms says what the code does. No program in sight. -/
namespace Go.Proofs.Ytljebnobajmjnaa
open Go Go.RowKit

section
variable {P:Program} {n:Nat} {s s':ASt} {Q Q':Exit→ASt→Prop}
theorem AW.rle {c:Code} (h:RLe s s') (k:AW P n c Q s'):AW P n c Q s:=.mk fun K a w r=>k K a w (h.ok r)
theorem AL.rle {ops:Array Oper} {l:List Oper} (h:RLe s s') (k:AL P n ops Q l s'):AL P n ops Q l s:=.mk fun K a w r=>k K a w (h.ok r)
theorem AW.post {c:Code} (h:AW P n c Q s) (hq:∀ e s1,Q e s1→∃ s2,RLe s1 s2∧Q' e s2):AW P n c Q' s:=.mk fun K a w r=>wp_mono (h K a w r) fun e _ _ ⟨s1,h1,h2⟩=>by
 obtain ⟨s2,g1,g2⟩:=hq e s1 h1;exact ⟨s2,g2,g1.ok h2⟩
theorem rle_nilrow {d sz:Nat} (e:TypeId) (h0:0<sz) (hx:look .any s.regs d=.nils):RLe s ((s.hnew (.row sz [] e)).put (some d) (.osl s.nx 0)):=⟨fun {K n a w} ⟨G,r⟩=>by
 obtain ⟨r2,hv⟩:=r.newRow (Below.refl _ _) (rows:=[]) (sz:=sz) (e:=e) h0 (ownsM.nil w _ _ _) (RowsV.nil _ _ _);have e1:=r.regs d;rw [hx] at e1;have e1:=e1.nils';refine ⟨_,r2.nx,r2.hr,r2.ext,r2.size,r2.defers,fun k=>?_⟩;show RelV w _ (look .any ((d,.osl s.nx 0)::s.regs) k) _;rw [look_cons];split
 ·rename_i e;subst e;rw [e1];exact hv
 ·exact r2.regs k⟩
theorem rle_nilbox {id k sz:Nat} {cs:List AV} {e':TypeId} (e:TypeId) (h0:0<sz) (hb:look .dead s.heap id=.box cs e') (hx:cs[k]?=some .nils) (hne:id≠s.nx):RLe s ((s.hnew (.row sz [] e)).hset id (.box (cs.set k (.osl s.nx 0)) e')):=⟨fun {K n a w} ⟨G,r⟩=>by
 obtain ⟨r2,hv⟩:=r.newRow (Below.refl _ _) (rows:=[]) (sz:=sz) (e:=e) h0 (ownsM.nil w _ _ _) (RowsV.nil _ _ _);refine ⟨_,r2.nx,⟨r2.hr.bs,r2.hr.below,r2.hr.ownlt',fun i=>?_,r2.hr.dist,r2.hr.ownhas'⟩,r2.ext,r2.size,r2.defers,r2.regs⟩;show ABok _ _ _ i (look .dead ((id,AB.box (cs.set k (.osl s.nx 0)) e')::(s.hnew (.row sz [] e)).heap) i);rw [look_cons];split
 ·rename_i hi;subst hi;have o:=r2.hr.blk id
  have hbb:look .dead (s.hnew (.row sz [] e)).heap id=.box cs e':=by
   show look .dead ((s.nx,AB.row sz [] e)::s.heap) id=_;rw [look_ne _ (fun h=>hne h.symm)];exact hb
  rw [hbb] at o;obtain ⟨o1,o2,g,vs,o3,o4,o5,o6⟩:=o;refine ⟨o1,o2,g,vs,o3,o4,by rw [List.length_set];exact o5,fun i y hi=>?_⟩;by_cases hki:k=i
  ·subst hki;have hlt:k<cs.length:=(List.getElem?_eq_some_iff.1 hx).1;rw [List.getElem?_set_self hlt] at hi;injection hi with hi
   subst hi;obtain ⟨v,g1,g2,g3⟩:=o6 k _ hx;have g3:=g3.nils';subst g3;exact ⟨_,g1,g2,hv⟩
  ·rw [List.getElem?_set_ne hki] at hi;exact o6 i y hi
 ·exact r2.hr.blk i⟩
end
section
variable {P:Program} {n:Nat} {F:List (Nat→AV)} {st st':SSt D} {s:ASt} {m:Nat→Nat} {nx:Nat}
theorem mat_fix:∀ (l:List (Nat×Ty×TypeId)) (st:SSt D),Fix st (mat l st)
 | [],st=>.refl st
 |(d,t,e)::l,st=>by
  rw [mat]
  cases hd:matB d with
  | none =>
   simp only [];split
   ·cases h:(Nat.blt 0 t.size&&(st.refs (fun id=>!Nat.beq id st.nx) (fun id _=>!Nat.beq id st.nx))) with
    | true=>exact (⟨rfl,rfl,rfl⟩:Fix st ((st.hnew (.row true t (.nil t) e 0)).put (some d) (.osl st.nx 0))).trans (mat_fix l _)
    | false=>exact mat_fix l st
   ·exact mat_fix l st
  | some q =>
   obtain ⟨id,k⟩:=q;simp only [];split
   ·rename_i cs e' _;split
    ·cases h:(Nat.blt 0 t.size&&(st.refs (fun id=>!Nat.beq id st.nx) (fun id _=>!Nat.beq id st.nx))&&SV.refsL (fun id=>!Nat.beq id st.nx) (fun id _=>!Nat.beq id st.nx) cs) with
     | true=>exact (⟨rfl,rfl,rfl⟩:Fix st ((st.hnew (.row true t (.nil t) e 0)).hset id (.box (setRS cs k [.osl st.nx 0]) e'))).trans (mat_fix l _)
     | false=>exact mat_fix l st
    ·exact mat_fix l st
   ·exact mat_fix l st
theorem mat_ok:∀ (l:List (Nat×Ty×TypeId)) (st:SSt D) {s:ASt},StL F st s→StL F (mat l st) s
 | [],st,s,h=>h
 |(d,t,e)::l,st,s,h=>by
  rw [mat]
  cases hd:matB d with
  | none =>
   simp only [];split
   ·rename_i hx
    cases hc:(Nat.blt 0 t.size&&(st.refs (fun id=>!Nat.beq id st.nx) (fun id _=>!Nat.beq id st.nx))) with
    | true =>
     refine mat_ok l _ ?_;obtain ⟨m,nx,hm,hr,hf⟩:=h;rw [Bool.and_eq_true] at hc;have hnil:look .any (st.enc m nx).regs d=.nils:=by rw [enc_get,hx,SV.enc]
     obtain ⟨m',nx',g1,g2,g3⟩:=newRow_ok (fr:=true) (rt:=t) (xs:=.nil t) (e:=e) (rows:=[]) hm hf rfl hc.2 ⟨rfl,fun i a b h1=>by simp [E.den] at h1⟩ (some d) (L:=0) rfl;exact ⟨m',nx',g1,hr.trans ((rle_nilrow e (Nat.le_of_ble_eq_true hc.1) hnil).trans g2),g3⟩
    | false=>exact mat_ok l st h
   ·exact mat_ok l st h
  | some q =>
   obtain ⟨id,k⟩:=q;simp only [];split
   ·rename_i cs e' hb;split
    ·rename_i hk
     cases hc:(Nat.blt 0 t.size&&(st.refs (fun id=>!Nat.beq id st.nx) (fun id _=>!Nat.beq id st.nx))&&SV.refsL (fun id=>!Nat.beq id st.nx) (fun id _=>!Nat.beq id st.nx) cs) with
     | true =>
      refine mat_ok l _ ?_;obtain ⟨m,nx,hm,hr,hf⟩:=h;simp only [Bool.and_eq_true] at hc;obtain ⟨⟨c1,c2⟩,c3⟩:=hc;have hlive:st.blk id≠.dead:=by rw [hb];simp
      have hne:id≠st.nx:=fun e1=>by have:=hm.live hlive;omega
      have hbb:=enc_blk hm hlive;rw [hb,SB.enc] at hbb;have hxk:(SV.encL m st.blk cs)[k]?=some .nils:=by rw [encL_map,List.getElem?_map,hk];simp [SV.enc]
      have hmne:m id≠(st.enc m nx).nx:=fun e1=>by have:=hm.lt id hlive;have e1:m id=nx:=e1;omega
      have s1:=rle_nilbox (s:=st.enc m nx) (sz:=t.size) e (Nat.le_of_ble_eq_true c1) hbb hxk hmne;obtain ⟨m',nx',h1,h2,h3,h4,h5,h6⟩:=hnew_les' (b:=.row true t (.nil t) e 0) (b':=.row t.size [] e) hm (.refl _) hf (SB.norm_row _ _ _ _ _) c2 (fun m' hc=>.rows ⟨rfl,fun i a b h1=>by simp [E.den] at h1⟩);have hb2:(st.hnew (.row true t (.nil t) e 0)).blk id=.box cs e':=by rw [hnew_blk,if_neg (fun h=>hne h.symm)];exact hb
      have hlive2:((st.hnew (.row true t (.nil t) e 0)).blk id).norm:=by rw [hb2];exact SB.norm_box _ _
      have hml:MemLe m st.blk m' ((st.hnew (.row true t (.nil t) e 0)).hset id (.box (setRS cs k [.osl st.nx 0]) e')).blk (fun id=>!Nat.beq id st.nx) (fun id _=>!Nat.beq id st.nx):=by
       have q:=memLe_box (m:=m') (cs':=setRS cs k [.osl st.nx 0]) (pB:=fun _=>true) (pR:=fun _ _=>true) hb2;refine ⟨fun j hj=>?_,fun j v hj=>?_⟩
       ·rcases q.box j rfl with h | h
        ·exact .inl h
        ·rw [h.1];exact h6.box j hj
       ·rcases q.row j v rfl with h | h
        ·exact .inl h
        ·rw [h.1];exact h6.row j v hj
      obtain ⟨g1,g2,g3⟩:=hset_les (b:=.box (setRS cs k [.osl st.nx 0]) e') (b':=.box ((SV.encL m st.blk cs).set k (.osl (st.enc m nx).nx 0)) e') h1 h2 hlive2 (SB.norm_box _ _) (memLe_box (pB:=fun _=>true) (pR:=fun _ _=>true) hb2) (refs_all _) (by
       rw [SB.enc,setRS_enc];refine .box e' (setR_les (encL_les hml cs c3) (m:=[.osl (st.enc m nx).nx 0]) ?_ k);rw [SV.encL,SV.encL,SV.enc]
       have hi:rowLen ((st.hnew (.row true t (.nil t) e 0)).hset id (.box (setRS cs k [.osl st.nx 0]) e')).blk st.nx 0=some 0:=by
        unfold rowLen;rw [hset_blk,if_neg hne,hnew_blk,if_pos rfl];rfl
       rw [hi,h4]
       exact .cons (.refl _) .nil) h3
      rw [h5 id hne] at g2;exact ⟨m',nx',g1,hr.trans (s1.trans (LeS.rle g2)),g3⟩
     | false=>exact mat_ok l st h
    ·exact mat_ok l st h
   ·exact mat_ok l st h
theorem matF_fix (sg:Sig) (st:SSt D):Fix st (matF sg st):=(mat_fix sg.nl st).trans (frzL_fix _ _)
theorem matF_ok (sg:Sig) (st:SSt D) {s:ASt} (h:StL F st s):StL F (matF sg st) s:=frzL_ok _ _ (mat_ok sg.nl st h)
theorem put_fix (st:SSt D) (d:Option Nat) (x:SV D):Fix st (st.put d x):=by cases d <;> exact ⟨rfl,rfl,rfl⟩
theorem memSt_fix {d:Option Nat} {r:MR D} (h:memSt st d r=some st'):Fix st st':=by
 cases r with
 | new b row =>
  rw [memSt] at h
  cases hc:st.refs (fun id=>!Nat.beq id st.nx) (fun id _=>!Nat.beq id st.nx) with
  | false=>rw [hc] at h;cases h
  | true =>
   rw [hc] at h;injection h with h
   subst h;rw [MR.app];exact (⟨rfl,rfl,rfl⟩:Fix st (st.hnew b)).trans (put_fix _ _ _)
 | newA b =>
  rw [memSt] at h
  cases hc:st.refs (fun id=>!Nat.beq id st.nx) (fun id _=>!Nat.beq id st.nx) with
  | false=>rw [hc] at h;cases h
  | true =>
   rw [hc] at h;injection h with h
   subst h;rw [MR.app];exact (⟨rfl,rfl,rfl⟩:Fix st (st.hnew b)).trans (put_fix _ _ _)
 | upd id b ref =>
  simp only [memSt,Option.some.injEq] at h;subst h
  cases ref with
  | none=>exact ⟨rfl,rfl,rfl⟩
  | some x=>rw [MR.app];exact (⟨rfl,rfl,rfl⟩:Fix st (st.hset id b)).trans (put_fix _ _ _)
 | reg x =>
  simp only [memSt,Option.some.injEq] at h;subst h;exact put_fix _ _ _
def WantedOk (n:Nat) (ops:Array Oper) (o:Oper) (st:SSt D):Prop:=∀ (st1:SSt D) (m:Nat→Nat) (nx:Nat),(∀ d c,st.get d=.bool c→st1.get d=.bool c)→∀ (K:Kn) (a:Act) (w:World) (G:Gh),RelG K n (st1.enc m nx) a w G→Region.wanted o (yielded ops a.tmps)=true
structure Post (F:List (Nat→AV)) (st:SSt D) (Q:SSt D→Prop) (s:ASt):Prop where
 ex:∃ st',StL F st' s∧Fix st st'∧Q st'
theorem Post.fix {st0:SSt D} {Q:SSt D→Prop} (h:Post F st Q s) (hf:Fix st0 st):Post F st0 Q s:=by
 obtain ⟨st',h1,h2,h3⟩:=h;exact ⟨st',h1,hf.trans h2,h3⟩
theorem put_stl (hm:MOk m nx st) (hf:FrOk m st.blk st.fr F) (d:Option Nat) {x:SV D} {y:AV} (hx:Les (x.enc m st.blk) y):StL F (st.put d x) ((st.enc m nx).put d y):=by
 refine ⟨m,nx,put_mok hm d x,LeS.rle ?_,?_⟩
 ·rw [put_enc];exact (LeS.refl _).put hx
 ·rw [put_blk]
  cases d <;> exact hf
theorem know_stl (hm:MOk m nx st) (hf:FrOk m st.blk st.fr F) {d:Nat} {c:E D .bool} {b:Bool} (hx:st.get d=.bool c) (hb:c.den=b):StL F (st.put (some d) (.bool (.bL b))) (st.enc m nx):=by
 refine ⟨m,nx,put_mok hm (some d) _,LeS.rle ⟨fun k=>?_,fun k=>.refl _,rfl⟩,hf⟩;rw [put_enc];show Les (look .any ((d,SV.enc m st.blk (.bool (.bL b)))::(st.enc m nx).regs) k) _;rw [look_cons];split
 ·rename_i e;subst e;rw [enc_get,hx,SV.enc,SV.enc];exact .of (congrArg AV.bool hb.symm)
 ·exact .refl _
theorem evS_append (st:SSt D) (l:List Operand) (caps:List (SV D)):l.map (st.enc m nx).ev++SV.encL m st.blk caps=SV.encL m st.blk (evS st l++caps):=by
 rw [evS_enc,encL_map,encL_map,encL_map,List.map_append]
variable {ρ:Ty} {fu:Nat}
theorem arrG_ok {r:ρ.den} {base st:SSt D} {sg:Sig} {j:KD ρ (itmsTy sg.items)} {s:ASt} (h:(arrG (ρ:=ρ) (W:=KD ρ) base sg j st).den fu=some r) (hf:Fix (lay base sg) st) (hs:StL F st s):∃ x,j x=some r∧StL F (inj base sg (.var x)) s:=by
 unfold arrG at h;split at h
 ·rename_i e he;rw [G.den] at h;exact ⟨e.den,h,cut_ok (e':=.var e.den) he rfl (hf.trans (matF_fix sg st)) (matF_ok sg st hs)⟩
 ·cases h
def SelfOkG (P:Program) (fu:Nat) (self:SelfG D (KD ρ) ρ):Prop:=∀ an Fn xs (st:SSt D) K r F m nx,(self an Fn xs st K).den fu=some r→MOk m nx st→FrOk m st.blk st.fr F →
 AC P Fn (SV.encL m st.blk xs) (st.enc m nx).heap nx (fun y hp' nx'=>∃ y' st' m',st'.regs=st.regs∧Fix st st'∧MOk m' nx' st'∧hp'=(st'.enc m' nx').heap ∧
  FrOk m' st'.blk ((st.regs++st.kp)::st.fr) ((fun d=>look .any (st.enc m nx).regs d)::F)∧y=y'.enc m' st'.blk∧(K y' st').den fu=some r)
variable {ops:Array Oper} {l:List Oper} {o:Oper} {C:DC} {self:SelfG D (KD ρ) ρ} {K:SSt D→G D (KD ρ) ρ} {r:ρ.den} {Q:Exit→ASt→Prop}
theorem evS_same {st st':SSt D} (h:∀ d,st'.get d=st.get d):∀ (l:List Operand),evS st' l=evS st l
 | []=>rfl
 | x::l=>by
  have ih:=evS_same h l
  have hx:st'.ev x=st.ev x:=by
   cases x with
   | tmp t=>exact h t
   | _=>rfl
  simp only [evS] at ih ⊢
  first | rw [hx,ih] | simp [hx,ih]
theorem hset_eq {fr:Bool} {t:Ty} {xs ys:E D (.list t)} {e:TypeId} {ver id:Nat} (hm:MOk m nx st) (hf:FrOk m st.blk st.fr F) (hb:st.blk id=.row fr t xs e ver) (hd:(ys.den:List t.den)=xs.den):StL F (st.hset id (.row fr t ys e ver)) (st.enc m nx):=by
 have hle:MemLe m st.blk m (st.hset id (.row fr t ys e ver)).blk (fun _=>true) (fun _ _=>true):=by
  refine ⟨fun k _=>.inr ⟨?_,rfl⟩,fun k v _=>.inr ⟨?_,rfl⟩⟩
  ·unfold isBox;by_cases h:id=k
   ·subst h;rw [hset_blk,if_pos rfl,hb]
   ·rw [hset_blk,if_neg h]
  ·unfold rowLen;by_cases h:id=k
   ·subst h;rw [hset_blk,if_pos rfl,hb]
    show (bif Nat.beq v ver then some (List.length ys.den) else none)=bif Nat.beq v ver then some (List.length xs.den) else none
    rw [hd]
   ·rw [hset_blk,if_neg h]
 have hlive:st.blk id≠.dead:=by rw [hb];simp
 have href:st.refs (fun _=>true) (fun _ _=>true)=true:=refs_all st;obtain ⟨g1,g2,g3⟩:=hset_les (b:=.row fr t ys e ver) (b':=(st.blk id).enc m st.blk) hm (.refl _) (by rw [hb];exact SB.norm_row _ _ _ _ _) (SB.norm_row _ _ _ _ _) hle href (by rw [hb,SB.enc,SB.enc,hd];exact .refl _) hf;refine ⟨m,nx,g1,LeS.rle (g2.trans ⟨fun _=>.refl _,fun k=>?_,rfl⟩),g3⟩;show LesB (look .dead ((m id,(st.blk id).enc m st.blk)::(st.enc m nx).heap) k) _;rw [look_cons];split
 ·rename_i h;subst h;rw [enc_blk hm hlive];exact .refl _
 ·exact .refl _
theorem frz_bool {id d:Nat} {c:E D .bool} (h:st.get d=.bool c):(st.frz id).get d=.bool c:=by
 unfold SSt.frz;split
 ·rename_i fr t xs e ver hb
  cases (hasN (st.hk.map (·.1)) id||!t.dat) with
  | true=>exact h
  | false =>
   show look (look .any st.kp d) (st.regs.map fun p=>(p.1,p.2.fz id ver (fr||t.noL) t xs)) d=_;have h:look (look .any st.kp d) st.regs d=.bool c:=h;rcases look_mp (look .any st.kp d) (SV.fz id ver (fr||t.noL) t xs) d st.regs with e1 | e1
   ·rw [e1,h,SV.fz];all_goals simp
   ·rw [e1,h]
 ·exact h
theorem frzG_ok {K:SSt D→G D (KD ρ) ρ} {r:ρ.den}:∀ (l:List Nat) (st:SSt D) {s:ASt},(frzG l st K).den fu=some r→StL F st s→∃ st',StL F st' s∧Fix st st'∧(∀ d c,st.get d=.bool c→st'.get d=.bool c)∧(K st').den fu=some r
 | [],st,s,h,hs=>⟨st,hs,.refl st,fun _ _ h=>h,h⟩
 | id::l,st,s,h,hs=>by
  rw [frzG] at h;split at h
  ·rename_i fr t xs e ver hb;obtain ⟨m,nx,hm,hr,hf⟩:=hs
   cases hc:(hasN (st.hk.map (·.1)) id||xs.atomic) with
   | true =>
    rw [hc] at h;simp only [cond_true] at h;obtain ⟨⟨m',nx',g1,g2,g3⟩,g4⟩:=frz_ok (F:=F) hm hf id;obtain ⟨st',k1,k2,k3,k4⟩:=frzG_ok l _ h ⟨m',nx',g1,hr.trans g2,g3⟩;exact ⟨st',k1,g4.trans k2,fun d c hd=>k3 d c (frz_bool hd),k4⟩
   | false =>
    rw [hc] at h;simp only [cond_false] at h;rw [G.den] at h;obtain ⟨m1,nx1,p1,p2,p3⟩:=hset_eq (ys:=.var xs.den) hm hf hb rfl;obtain ⟨⟨m',nx',g1,g2,g3⟩,g4⟩:=frz_ok (F:=F) p1 p3 id;obtain ⟨st',k1,k2,k3,k4⟩:=frzG_ok l _ h ⟨m',nx',g1,(hr.trans p2).trans g2,g3⟩;exact ⟨st',k1,((⟨rfl,rfl,rfl⟩:Fix st (st.hset id (.row fr t (.var xs.den) e ver))).trans g4).trans k2,fun d c hd=>k3 d c (frz_bool (st:=st.hset id (.row fr t (.var xs.den) e ver)) hd),k4⟩
  ·exact frzG_ok l st h hs
theorem push_bool {id d:Nat} {c:E D .bool} {st':SSt D} {gd:E D .bool} (hp:st.push id=some (st',gd)) (h:st.get d=.bool c):st'.get d=.bool c:=by
 unfold SSt.push at hp;split at hp
 ·rename_i fr t xs ty ver hb;split at hp
  ·rename_i t' ya ea ha;split at hp
   ·rename_i ht _;subst ht
    cases hc:(hasN (st.hk.map (·.1)) id||!(t.noL&&(Nat.beq ty ea&&!Nat.beq id 0))) with
    | true=>rw [hc] at hp;cases hp
    | false =>
     rw [hc] at hp;simp only [cond_false,Option.some.injEq,Prod.mk.injEq] at hp;obtain ⟨hst,_⟩:=hp;subst hst;show look (look .any st.kp d) (st.regs.map fun p:Nat×SV D=>(p.1,SV.ps id ver (.aixI (.len ya) (.len xs)) p.2)) d=_;have h:look (look .any st.kp d) st.regs d=.bool c:=h;rcases look_mp (look .any st.kp d) (SV.ps id ver (.aixI (.len ya) (.len xs))) d st.regs with e1 | e1
     ·rw [e1,h,SV.ps];all_goals simp
     ·rw [e1,h]
   ·cases hp
  ·cases hp
 ·cases hp
theorem letA_ok {K:SSt D→G D (KD ρ) ρ} {r:ρ.den} {s:ASt} (h:(letA st K).den fu=some r) (hs:StL F st s):∃ st',StL F st' s∧Fix st st'∧(∀ d,st'.get d=st.get d)∧(K st').den fu=some r:=by
 unfold letA at h;split at h
 ·rename_i t xs e hb
  cases ha:xs.atomic with
  | true=>rw [ha] at h;exact ⟨st,hs,.refl st,fun _=>rfl,h⟩
  | false =>
   rw [ha] at h;simp only [cond_false] at h;rw [G.den] at h;obtain ⟨m,nx,hm,hr,hf⟩:=hs;have hA:(st.blk 0).isA=true:=by rw [hb];rfl
   have h0:0<m 0:=Nat.lt_of_lt_of_le (show 0<bigA by decide) (hm.ar hA).1;obtain ⟨q1,q2,q3⟩:=hsetA_les (xs':=.var xs.den) hm hf hb h0 (fun i _=>rfl);refine ⟨_,⟨m,nx,q1,hr.trans (LeS.rle (q2.trans ⟨fun _=>.refl _,fun k=>?_,rfl⟩)),q3⟩,⟨rfl,rfl,rfl⟩,fun _=>rfl,h⟩;show LesB (look .dead ((0,arnRow t e xs.den 0)::(st.enc m nx).heap) k) _;rw [look_cons];split
   ·rename_i e0;subst e0;rw [enc_look hm,hA,show Nat.blt 0 (m 0)=true by rw [Nat.blt_eq];exact h0,Bool.true_and,cond_true,rows_look,hb];show LesB _ (if 0<m 0 then arnRow t e xs.den 0 else .dead);rw [if_pos h0];exact .refl _
   ·exact .refl _
 ·exact ⟨st,hs,.refl st,fun _=>rfl,h⟩
theorem pushG_ok {K:SSt D→G D (KD ρ) ρ} {r:ρ.den}:∀ (l:List Nat) (st:SSt D) {s:ASt},(pushG l st K).den fu=some r→StL F st s→∃ st',StL F st' s∧Fix st st'∧(∀ d c,st.get d=.bool c→st'.get d=.bool c)∧(K st').den fu=some r
 | [],st,s,h,hs=>⟨st,hs,.refl st,fun _ _ h=>h,h⟩
 | id::l,st,s,h,hs=>by
  rw [pushG] at h;split at h
  ·rename_i st1 g hp;obtain ⟨hg,h⟩:=grdG_den h;obtain ⟨m,nx,hm,hr,hf⟩:=hs;obtain ⟨⟨m',nx',g1,g2,g3⟩,g4⟩:=push_ok (F:=F) hm hf hp hg;obtain ⟨st2,k1,k2,k3,h⟩:=letA_ok h ⟨m',nx',g1,hr.trans g2,g3⟩;obtain ⟨st',j1,j2,j3,j4⟩:=pushG_ok l _ h k1;exact ⟨st',j1,(g4.trans k2).trans j2,fun d c hd=>j3 d c (by rw [k3];exact push_bool hp hd),j4⟩
  ·exact pushG_ok l st h hs
theorem effG_ok {ce:CtrE} {Fn:FuncId} {cal:Operand} {args:Array Operand} {ats:Array TypeId} (hce:CtrEOk P Fn ce) (hF:callable P Fn=true) (hd:dok o.dst n=true) (hop:o.op=.call ⟨.value cal,args,ats⟩) (h:(effG Fn ce st cal args.toList o.dst K).den fu=some r) (hm:MOk m nx st) (hf:FrOk m st.blk st.fr F)
  (hw:WantedOk n ops o st)
  (k:∀ st' s',StL F st' s'→Fix st st'→(K st').den fu=some r→AL P n ops Q l s'):AL P n ops Q (o::l) (st.enc m nx):=by
 unfold effG at h;obtain ⟨st1,⟨m1,nx1,hm1,hr1,hf1⟩,hfx,hbl,h1⟩:=frzG_ok (F:=F) _ st h ⟨m,nx,hm,.refl _,hf⟩;clear h
 revert h1
 intro h;refine AL.rle hr1 ?_;have hw1:WantedOk n ops o st1:=fun st2 m nx hg=>hw st2 m nx (fun d c hd=>hg d c (hbl d c hd))
 split at h
 ·rename_i F' caps hcal
  cases hb:Nat.beq F' Fn with
  | false=>rw [hb] at h;cases h
  | true =>
   rw [hb] at h;simp only [cond_true] at h;have hb:=Nat.eq_of_beq_eq_true hb;subst hb;have hc:(st1.enc m1 nx1).ev cal=.fn F' (SV.encL m1 st1.blk caps):=by rw [enc_ev,hcal,SV.enc]
   split at h
   ·rename_i e he;rw [G.den] at h;unfold bindO at h;split at h
    ·rename_i y hy;refine AL.call' (hw1 st1 m1 nx1 (fun _ _ h=>h)) hop hc (evS_append st1 args.toList caps) hF hd ((callE_ok hce hm1 hf1 he hy).mono ?_)
     rintro v hp' nx' ⟨m2,q1,q2,q3,q4⟩
     refine k _ _ ?_ (hfx.trans ((⟨rfl,rfl,rfl⟩:Fix st1 (outE ce.si ce.so ce.nb (mapE ce.si st1 (evS st1 args.toList++caps)) st1 (.var y))).trans (put_fix _ o.dst _))) h;refine ⟨m2,nx',put_mok q1 o.dst _,LeS.rle ?_,?_⟩
     ·rw [put_enc];exact q2.put q4
     ·rw [put_blk]
      cases o.dst <;> exact q3
    ·cases h
   ·cases h
 ·cases h
theorem callG_ok (hC:C.ok P) (hS:SelfOkG P fu self) (hd:dok o.dst n=true) {an:An} (h:(callG C self an st o.dst K o.op).den fu=some r) (hm:MOk m nx st) (hf:FrOk m st.blk st.fr F)
  (hw:WantedOk n ops o st)
  (k:∀ st' s',StL F st' s'→Fix st st'→(K st').den fu=some r→AL P n ops Q l s'):AL P n ops Q (o::l) (st.enc m nx):=by
 generalize hop:o.op=op at h;unfold callG at h;split at h
 ·rename_i cal args ats;split at h
  ·rename_i Fn caps hcal;have hc:(st.enc m nx).ev cal=.fn Fn (SV.encL m st.blk caps):=by rw [enc_ev,hcal,SV.enc]
   split at h
   ·rename_i hF;have hcal':=allP_at hC.cas hF;split at h
    ·rename_i c hctr;split at h
     ·rename_i e hargs;rw [G.den] at h;unfold bindO at h;split at h
      ·rename_i y hy;have hAF:=allP_at hC.ctrs hctr fu e.den y hy;have hz:=exArgs_ok hm _ _ _ hargs;refine AL.call' (hw st m nx (fun _ _ h=>h)) hop hc (evS_append st args.toList caps) hcal' hd (AC.of_AF hAF hz.len hz.at ?_);refine k _ _ ?_ (put_fix st o.dst _) h;have:callSt (st.enc m nx) o.dst (oneOf (c.r.avs true y)) (st.enc m nx).heap (st.enc m nx).nx=(st.enc m nx).put o.dst (oneOf (c.r.avs true y)):=rfl;rw [this];refine put_stl hm hf o.dst ?_;rw [oneOfS_enc,svsE_enc];exact .refl _
      ·cases h
     ·cases h
    ·split at h
     ·rename_i ce hce;exact effG_ok (allP_at hC.effs hce) hcal' hd hop h hm hf hw k
     have main:∀ (st:SSt D) (m:Nat→Nat) (nx:Nat) (an':An) (K':SV D→SSt D→G D (KD ρ) ρ),MOk m nx st→FrOk m st.blk st.fr F→WantedOk n ops o st→st.ev cal=.fn Fn caps→(self an' Fn (evS st args.toList++caps) st K').den fu=some r →
       (∀ y' st' s',StL F (st'.put o.dst y') s'→Fix st (st'.put o.dst y')→(K' y' st').den fu=some r→AL P n ops Q l s')→AL P n ops Q (o::l) (st.enc m nx):=by
      intro st m nx an' K' hm hf hw hcal h k;have hc:(st.enc m nx).ev cal=.fn Fn (SV.encL m st.blk caps):=by rw [enc_ev,hcal,SV.enc]
      refine AL.call' (hw st m nx (fun _ _ h=>h)) hop hc (evS_append st args.toList caps) hcal' hd ((hS an' Fn _ st K' r F m nx h hm hf).mono ?_)
      rintro y hp' nx' ⟨y',st',m',g1,g2,g3,g4,g5,g6,g7⟩
      subst g4;subst g6
      refine k y' st' _ ?_ (g2.trans (put_fix st' o.dst y')) g7
      have hfr:FrOk m' st'.blk st'.fr F:=by
       rw [g2.fr];exact ⟨by have:=g5.len;simpa using this,fun i l f h1 h2 d=>g5.les (i+1) l f (by simpa using h1) (by simpa using h2) d⟩
      have hle:LeS (st'.enc m' nx') ⟨(st.enc m nx).regs,(st'.enc m' nx').heap,nx'⟩:=by
       refine ⟨fun d=>?_,fun k=>.refl _,rfl⟩;rw [enc_get]
       have e1:st'.get d=look .any (st.regs++st.kp) d:=by
        rw [look_append];show look (look .any st'.kp d) st'.regs d=_;rw [g1,g2.kp]
       rw [e1];exact g5.les 0 _ _ rfl rfl d
      refine ⟨m',nx',put_mok g3 o.dst y',LeS.rle ?_,?_⟩
      ·rw [put_enc];exact hle.put (.refl _)
      ·rw [put_blk]
       cases o.dst <;> exact hfr
     split at h
     ·exact main st m nx an.l _ hm hf hw hcal h fun y' st' s' g1 g2 g3=>k _ _ g1 g2 g3
     ·rename_i sg hsg
      cases hl:layOk st sg with
      | false=>rw [hl] at h;cases h
      | true =>
       rw [hl] at h;simp only [cond_true] at h;rw [G.den] at h;unfold joinF at h;obtain ⟨m1,nx1,hm1,hr1,hf1⟩:=lay_ok (F:=F) (s:=st.enc m nx) ⟨m,nx,hm,.refl _,hf⟩ hl;refine AL.rle hr1 ?_;have hev:evS (lay st sg) args.toList=evS st args.toList:=evS_same (lay_get) _;refine main (lay st sg) m1 nx1 an.l _ hm1 hf1 (fun st1 m nx hg=>hw st1 m nx (fun d c h=>hg d c ((lay_get d).trans h))) ?_ (by rw [hev];exact h) ?_
       ·rw [←hcal]
        cases cal with
        | tmp t=>exact lay_get t
        | _=>rfl
       ·intro y' st' s' g1 g2 g3;obtain ⟨x,hx,hst⟩:=arrG_ok g3 g2 g1;obtain ⟨k1,k2⟩:=unlay_ok (inj_fix (.refl _)) hst;exact k _ _ k1 k2 hx
   ·cases h
  ·cases h
 ·cases h
theorem stepG0_ok (hC:C.ok P) (hS:SelfOkG P fu self) (hd:dok o.dst n=true) {an:An} (h:(stepG0 C self an st o K).den fu=some r) (hm:MOk m nx st) (hf:FrOk m st.blk st.fr F)
  (hw:WantedOk n ops o st)
  (k:∀ st' s',StL F st' s'→Fix st st'→(K st').den fu=some r→AL P n ops Q l s'):AL P n ops Q (o::l) (st.enc m nx):=by
 unfold stepG0 at h
 cases htr:an.tr with
 | true =>
  rw [htr] at h;simp only [cond_true] at h;obtain ⟨st1,⟨m1,nx1,hm1,hr1,hf1⟩,hfx,hbl,h⟩:=pushG_ok (F:=F) _ st h ⟨m,nx,hm,.refl _,hf⟩;refine AL.rle hr1 ?_;have hw1:WantedOk n ops o st1:=fun st2 m nx hg=>hw st2 m nx (fun d c hd=>hg d c (hbl d c hd))
  split at h
  ·rename_i r' g hr;split at h
   ·rename_i st' hs;obtain ⟨hg,h⟩:=grdG_den h;obtain ⟨s',hop,hst⟩:=truncS_ok (n:=n) hC.T hm1 hf1 hr hg hs hd;exact AL.opw (hw1 st1 m1 nx1 (fun _ _ h=>h)) hop (k _ _ hst (hfx.trans (memSt_fix hs)) h)
   ·cases h
  ·cases h
 | false =>
 rw [htr] at h;simp only [cond_false] at h;split at h
 ·rename_i x g hx;obtain ⟨hg,h⟩:=grdG_den h;have hop:=rd_ok (n:=n) hC.T hm hx hg hd;refine AL.opw (hw st m nx (fun _ _ h=>h)) hop.opv ?_
  cases hl:lets o.op with
  | true =>
   rw [hl] at h;simp only [cond_true] at h;obtain ⟨y,hy,h⟩:=letV_den h;exact k _ _ (put_stl hm hf o.dst (.of (hy m st.blk))) (put_fix st o.dst y) h
  | false =>
   rw [hl] at h;exact k _ _ (put_stl hm hf o.dst (.refl _)) (put_fix st o.dst x) h
 ·obtain ⟨st0,hst0,hfx0,hbl0,h⟩:=pushG_ok (F:=F) _ st h ⟨m,nx,hm,.refl _,hf⟩;obtain ⟨st1,⟨m1,nx1,hm1,hr1,hf1⟩,hfx,hbl,h⟩:=frzG_ok (F:=F) _ st0 h hst0;have hbl:∀ d c,st.get d=.bool c→st1.get d=.bool c:=fun d c hd=>hbl d c (hbl0 d c hd)
  have hfx:Fix st st1:=hfx0.trans hfx;refine AL.rle hr1 ?_;have hw1:WantedOk n ops o st1:=fun st2 m nx hg=>hw st2 m nx (fun d c hd=>hg d c (hbl d c hd))
  have k1:∀ st' s',StL F st' s'→Fix st1 st'→(K st').den fu=some r→AL P n ops Q l s':=fun st' s' a b c=>k st' s' a (hfx.trans b) c
  split at h
  ·rename_i r' g hr;split at h
   ·rename_i st' hs;obtain ⟨hg,h⟩:=grdG_den h;obtain ⟨s',hop,hst⟩:=mem_ok (n:=n) hC.T hm1 hf1 hr hg hs hd;obtain ⟨st2,hst2,hfx2,_,h⟩:=letA_ok h hst;exact AL.opw (hw1 st1 m1 nx1 (fun _ _ h=>h)) hop (k1 _ _ hst2 ((memSt_fix hs).trans hfx2) h)
   ·cases h
  ·exact callG_ok hC hS hd h hm1 hf1 hw1 k1
theorem stepG_ok (hC:C.ok P) (hS:SelfOkG P fu self) (hd:dok o.dst n=true) {an:An} (h:(stepG C self an st o K).den fu=some r) (hm:MOk m nx st) (hf:FrOk m st.blk st.fr F)
  (hw:WantedOk n ops o st)
  (k:∀ st' s',StL F st' s'→Fix st st'→(K st').den fu=some r→AL P n ops Q l s'):AL P n ops Q (o::l) (st.enc m nx):=by
 unfold stepG at h
 cases hsp:an.sp with
 | false=>rw [hsp] at h;exact stepG0_ok hC hS hd h hm hf hw k
 | true =>
  rw [hsp] at h;simp only [cond_true] at h;split at h
  ·rename_i d _;split at h
   ·rename_i e he;rcases iteG_den h with ⟨_,h⟩ | ⟨hc,h⟩
    ·exact stepG0_ok hC hS hd h hm hf hw k
    ·have hn:(st.get d).enc m st.blk=.nils:=by
      rw [he,SV.enc];have hc:(decide ((0:Int)≤(e.aixK'.den:Int))&&decide ((e.aixK'.den:Int)<(bigA:Int)))=false:=hc;rw [aixK'_den] at hc;unfold aixAV;rw [hc];rfl
     have hle:LeS ((st.put (some d) .nils).enc m nx) (st.enc m nx):=by
      rw [put_enc];refine ⟨fun x=>?_,fun _=>.refl _,rfl⟩;show Les (look .any ((d,SV.enc m st.blk .nils)::(st.enc m nx).regs) x) (look .any (st.enc m nx).regs x);rw [look_cons];split
      ·rename_i hx;subst hx;rw [enc_get,hn,SV.enc];exact .refl _
      ·exact .refl _
     refine AL.rle hle.rle (stepG0_ok hC hS hd h (put_mok hm _ _) (by rw [put_blk];exact hf) (fun st2 m nx hg=>hw st2 m nx (fun d' c hd'=>hg d' c ?_)) fun st' s' g1 g2 g3=>k st' s' g1 ((put_fix st (some d) .nils).trans g2) g3);by_cases e1:d=d'
     ·subst e1;rw [he] at hd';cases hd'
     ·show look (look .any st.kp d') ((d,.nils)::st.regs) d'=_;rw [look_cons,if_neg e1];exact hd'
   ·cases h
  ·cases h
theorem wantV_yes {want:Bool} {d:Nat} {x:SV D} (h:wantV want d x=.yes):x.enc m st.blk=.bool want:=by
 unfold wantV at h
 split at h <;> try (cases h;done)
 ·cases want
  ·cases h
  ·rw [SV.enc];rfl
 ·cases want
  ·rw [SV.enc];rfl
  ·cases h
theorem wantV_eq {want:Bool} {d:Nat} {x:SV D} (h:wantV want d x=.yes):x=.bool (.bL want):=by
 unfold wantV at h
 split at h <;> try (cases h;done)
 ·cases want
  ·cases h
  ·rfl
 ·cases want
  ·rfl
  ·cases h
theorem wantV_no {want:Bool} {d:Nat} {x:SV D} (h:wantV want d x=.no):x.enc m st.blk=.bool (!want)∨x.enc m st.blk=.und:=by
 unfold wantV at h
 split at h <;> try (cases h;done)
 ·cases want
  ·rw [SV.enc];exact .inl rfl
  ·cases h
 ·cases want
  ·cases h
  ·rw [SV.enc];exact .inl rfl
 ·rw [SV.enc];exact .inr rfl
theorem wantV_ask {want want':Bool} {d d':Nat} {x:SV D} {c:E D .bool} (h:wantV want d x=.ask c d' want'):x=.bool c∧d'=d∧want'=want:=by
 unfold wantV at h;split at h
 ·cases want <;> cases h
 ·cases want <;> cases h
 ·injection h with h1 h2 h3
  subst h1;subst h2;subst h3
  exact ⟨rfl,rfl,rfl⟩
 ·cases h
 ·cases h
theorem wantS_yes (h:wantS ops o st=.yes):WantedOk n ops o st:=by
 intro st1 m nx hget;unfold wantS at h;split at h
 ·rename_i hg;exact fun _ a _ _ _=>wanted_none hg a
 ·split at h
  ·cases h
  ·rename_i d want hg;exact wanted_of hg (by rw [enc_get,hget d _ (wantV_eq h),SV.enc];rfl)
theorem wantS_no (h:wantS ops o st=.no):∃ d want,gdst ops o=some (d,want)∧(look .any (st.enc m nx).regs d=.bool (!want)∨look .any (st.enc m nx).regs d=.und):=by
 unfold wantS at h;split at h
 ·cases h
 ·split at h
  ·cases h
  ·rename_i d want hg;exact ⟨d,want,hg,by rw [enc_get];exact wantV_no h⟩
theorem wantS_ask {c:E D .bool} {d:Nat} {want:Bool} (h:wantS ops o st=.ask c d want):gdst ops o=some (d,want)∧st.get d=.bool c:=by
 unfold wantS at h;split at h
 ·cases h
 ·split at h
  ·cases h
  ·rename_i d' want' hg;obtain ⟨h1,rfl,rfl⟩:=wantV_ask h;exact ⟨hg,h1⟩
theorem wanted_put {d:Nat} {want:Bool} (hg:gdst ops o=some (d,want)):WantedOk n ops o (st.put (some d) (.bool (.bL want))):=by
 intro st1 m nx hget;refine wanted_of hg ?_;rw [enc_get,hget d _ (look_self _ _ _ _:(st.put (some d) (.bool (.bL want))).get d=.bool (.bL want)),SV.enc];rfl
theorem skip_put {d:Nat} {want:Bool} (hg:gdst ops o=some (d,want)):∃ d' want',gdst ops o=some (d',want')∧(look .any ((st.put (some d) (.bool (.bL (!want)))).enc m nx).regs d'=.bool (!want')∨look .any ((st.put (some d) (.bool (.bL (!want)))).enc m nx).regs d'=.und) :=
 ⟨d,want,hg,.inl (by
  rw [put_enc];show look .any ((d,SV.enc m st.blk (.bool (.bL (!want))))::(st.enc m nx).regs) d=_
  rw [look_self,SV.enc];rfl)⟩
def PostL (F:List (Nat→AV)) (st:SSt D) (Q:SSt D→Prop) (e:Exit) (s':ASt):Prop:=e=.normal∧Post F st Q s'
theorem sL_ok (hC:C.ok P) (hS:SelfOkG P fu self) (an:An) {st0:SSt D}:∀ (l:List Oper) (i:Nat) (st:SSt D) (s:ASt),(sL C self n ops an i l st K).den fu=some r→StL F st s→Fix st0 st→AL P n ops (PostL F st0 fun st'=>(K st').den fu=some r) l s
 | [],i,st,s,h,hs,hx=>AL.nil ⟨rfl,st,hs,hx,h⟩
 | o::l,i,st,s,h,hs,hx=>by
  rw [sL] at h
  cases hd:dok o.dst n with
  | false=>rw [hd] at h;cases h
  | true =>
   rw [hd] at h;simp only [cond_true] at h
   have go:∀ (st1:SSt D) (s1:ASt) m nx,MOk m nx st1→FrOk m st1.blk st1.fr F→Fix st st1→s1=st1.enc m nx→WantedOk n ops o st1 →
     (stepG C self (an.op i) st1 o fun st'=>sL C self n ops an (i+1) l st' K).den fu=some r→AL P n ops (PostL F st0 fun st'=>(K st').den fu=some r) (o::l) s1:=by
    intro st1 s1 m nx hm hf hfx e hw h;subst e;exact stepG_ok hC hS hd h hm hf hw fun st' s' g1 g2 g3=>sL_ok hC hS an l (i+1) st' s' g3 g1 (hx.trans (hfx.trans g2))
   have sk:∀ (st1:SSt D) (s1:ASt) m nx,MOk m nx st1→FrOk m st1.blk st1.fr F→Fix st st1→s1=st1.enc m nx→(∃ d want,gdst ops o=some (d,want)∧(look .any (st1.enc m nx).regs d=.bool (!want)∨look .any (st1.enc m nx).regs d=.und)) →
     (sL C self n ops an (i+1) l (st1.put o.dst .und) K).den fu=some r→AL P n ops (PostL F st0 fun st'=>(K st').den fu=some r) (o::l) s1:=by
    intro st1 s1 m nx hm hf hfx e ⟨d,want,hg,hb⟩ h;subst e;refine AL.skipg hg hd hb ?_;refine sL_ok hC hS an l (i+1) _ _ h (put_stl hm hf o.dst ?_) (hx.trans (hfx.trans (put_fix st1 o.dst .und)));rw [SV.enc];exact .refl _
   split at h
   ·rename_i hw;obtain ⟨m,nx,hm,hr,hf⟩:=hs;exact AL.rle hr (go st _ m nx hm hf (.refl st) rfl (wantS_yes hw) h)
   ·rename_i hw;obtain ⟨m,nx,hm,hr,hf⟩:=hs;exact AL.rle hr (sk st _ m nx hm hf (.refl st) rfl (wantS_no hw) h)
   ·rename_i c d want hw;obtain ⟨hg,hx'⟩:=wantS_ask hw;obtain ⟨m,nx,hm,hr,hf⟩:=hs;rw [G.den] at h
    cases hc:(c.den:Bool) with
    | true =>
     rw [hc] at h;simp only [cond_true] at h;obtain ⟨m1,nx1,hm1,hr1,hf1⟩:=know_stl hm hf hx' hc;refine AL.rle (hr.trans hr1) ?_
     cases want with
     | true=>exact go _ _ m1 nx1 hm1 hf1 (put_fix st (some d) _) rfl (wanted_put hg) h
     | false=>exact sk _ _ m1 nx1 hm1 hf1 (put_fix st (some d) _) rfl (skip_put hg) h
    | false =>
     rw [hc] at h;simp only [cond_false] at h;obtain ⟨m1,nx1,hm1,hr1,hf1⟩:=know_stl hm hf hx' hc;refine AL.rle (hr.trans hr1) ?_
     cases want with
     | true=>exact sk _ _ m1 nx1 hm1 hf1 (put_fix st (some d) _) rfl (skip_put hg) h
     | false=>exact go _ _ m1 nx1 hm1 hf1 (put_fix st (some d) _) rfl (wanted_put hg) h
   ·cases h
end
end Go.Proofs.Ytljebnobajmjnaa
/- A run of the abstract machine by one computed function. No program in sight. -/
namespace Go.Proofs.Ytljebnobajmjnaa
open Go Go.RowKit

section
variable {P:Program} {n:Nat} {T:Tab} {st:ASt} {o:Oper} {x:AV}
end

section
variable {hp:List (Nat×AB)}
end

section
variable {P:Program} {n:Nat} {T:Tab} {st st':ASt} {o:Oper} {x:AV} {Q:Exit→ASt→Prop} {ops:Array Oper} {l:List Oper}
end

section
variable {P:Program} {n:Nat} {T:List (List Nat)} {st st':ASt} {o:Oper} {x:AV} {Q:Exit→ASt→Prop} {ops:Array Oper} {l:List Oper}
end
end Go.Proofs.Ytljebnobajmjnaa
/- A run of the abstract machine by one computed function: control,functions. No program in sight. -/
namespace Go.Proofs.Ytljebnobajmjnaa
open Go Go.RowKit

section
variable {P:Program} {n:Nat} {T:Tab} {st st':ASt} {o:Oper} {x:AV} {Q:Exit→ASt→Prop} {ops:Array Oper} {l:List Oper}
def notGoto:Exit→Bool
 | .goto _=>false
 | _=>true
theorem AW.scope {c:Code} (h:AW P n c (fun e s=>notGoto e=true∧Q e s) st):AW P n (.scope c) Q st:=.mk fun K a w r=>wp_scope_straight (wp_mono (h K a w r) fun e a' w' ⟨s,⟨h1,h2⟩,h3⟩=>by
 cases e with
 | goto l=>cases h1
 | _=>exact ⟨s,h2,h3⟩)
end
end Go.Proofs.Ytljebnobajmjnaa
/- Decompiling: control and functions of the machine over terms. No program in sight. -/
namespace Go.Proofs.Ytljebnobajmjnaa
open Go Go.RowKit

section
variable {P:Program} {n:Nat} {F:List (Nat→AV)} {ρ:Ty} {fu:Nat} {C:DC} {self:SelfG D (KD ρ) ρ} {r:ρ.den}
def DrawOk (P:Program) (fu:Nat) (n:Nat) (sD:An→Nat→List Oper→SSt D→(SSt D→G D (KD ρ) ρ)→G D (KD ρ) ρ):Prop :=
 ∀ an l (st:SSt D) K r F s id,(sD an n l st K).den fu=some r→StL F st s→AW P n (.region id l.toArray true) (PostL F st fun st'=>(K st').den fu=some r) s
def PostC (F:List (Nat→AV)) (st:SSt D) (Q:Exit→SSt D→Prop) (e:Exit) (s':ASt):Prop:=Post F st (Q e) s'
theorem unlay_post {base:SSt D} {sg:Sig} {st:SSt D} {Q:SSt D→Prop} {s:ASt} (hst:Fix (lay base sg) st) (h:Post F st (fun st'=>Q (unlay base st' sg)) s):Post F base Q s:=by
 obtain ⟨st',h1,h2,h3⟩:=h;obtain ⟨g1,g2⟩:=unlay_ok (hst.trans h2) h1;exact ⟨_,g1,g2,h3⟩
theorem AW.monoE {c:Code} {s:ASt} {Q Q':Exit→ASt→Prop} (h:AW P n c Q s) (hq:∀ e s1,Q e s1→Q' e s1):AW P n c Q' s:=AW.post h fun e s1 h1=>⟨s1,.refl _,hq e s1 h1⟩
theorem loopA {c:Code} {β:Type} {g:Nat→β→Option ρ.den} {I:β→ASt→Prop} {Q:Exit→ASt→Prop}
  (h0:∀ x,g 0 x=none)
  (step:∀ k x s,g (k+1) x=some r→I x s→AW P n c (thenA (fun s'=>∃ x',g k x'=some r∧I x' s') Q) s) :
  ∀ k x s,g k x=some r→I x s→AW P n (.loop c) Q s:=by
 intro k x s hg hI;refine .mk fun K a w rr=>?_
 have key:∀ (k:Nat) (x:β) (s:ASt),g k x=some r→I x s→∀ (a:Act) (w:World),Rel K n s a w→∀ (b:Frame) (kk:List Item) (cs:List Frame),
   ∃ e1 a' w',Qs K n Q e1 a' w'∧Arrives P (lone (b.at a (.code c::.inLoop c::kk)) cs w) b kk cs e1 a' w':=by
  intro k
  induction k with
  | zero=>intro x s h;rw [h0] at h;cases h
  | succ k ih =>
   intro x s h hI a w hr b kk cs;obtain ⟨e₁,a₁,w₁,⟨s1,hq,hr'⟩,harr⟩:=step k x s h hI K a w hr b (.inLoop c::kk) cs
   cases e₁ with
   | normal =>
    obtain ⟨x',hg',hI'⟩:=hq;obtain ⟨e₂,a₂,w₂,hq₂,harr₂⟩:=ih x' s1 hg' hI' a₁ w₁ hr' b kk cs;exact ⟨e₂,a₂,w₂,hq₂,.of_steps (Steps.trans harr (.one step_inLoop)) harr₂⟩
   | exit id=>exact ⟨_,a₁,w₁,⟨s1,hq,hr'⟩,.pass (x:=.inLoop c) rfl (fun _ _=>.inl (by simp)) harr⟩
   | goto l=>exact ⟨_,a₁,w₁,⟨s1,hq,hr'⟩,.pass (x:=.inLoop c) rfl (fun _ _=>.inl (by simp)) harr⟩
   | ret=>exact ⟨_,a₁,w₁,⟨s1,hq,hr'⟩,.pass (x:=.inLoop c) rfl (fun _ _=>.inl (by simp)) harr⟩
   | panic ch=>exact ⟨_,a₁,w₁,⟨s1,hq,hr'⟩,.pass (x:=.inLoop c) rfl (fun _ _=>.inl (by simp)) harr⟩
   | outgrown=>exact ⟨_,a₁,w₁,⟨s1,hq,hr'⟩,.pass (x:=.inLoop c) rfl (fun _ _=>.inl (by simp)) harr⟩
 intro b kk cs;obtain ⟨e1,a',w',hq,harr⟩:=key k x s hg hI a w rr b kk cs;exact ⟨e1,a',w',hq,.of_steps (.one step_loop) harr⟩
theorem sC_ok {sD:An→Nat→List Oper→SSt D→(SSt D→G D (KD ρ) ρ)→G D (KD ρ) ρ} (hC:C.ok P) (hS:SelfOkG P fu self) (hD:DrawOk P fu n sD):∀ (c:Code) (an:An) (st:SSt D) (K:Exit→SSt D→G D (KD ρ) ρ) (F:List (Nat→AV)) (s:ASt),(sC C self sD n c an st K).den fu=some r→StL F st s →
  AW P n c (PostC F st fun e st'=>(K e st').den fu=some r) s:=by
 intro c
 induction c with
 | skip=>intro an st K F s h hs;rw [sC] at h;exact AW.skip ⟨st,hs,.refl st,h⟩
 | label l=>intro an st K F s h hs;rw [sC] at h;exact AW.label ⟨st,hs,.refl st,h⟩
 | exit id=>intro an st K F s h hs;rw [sC] at h;exact AW.exit ⟨st,hs,.refl st,h⟩
 | ret=>intro an st K F s h hs;rw [sC] at h;exact AW.ret ⟨st,hs,.refl st,h⟩
 | seq a b iha ihb =>
  intro an st K F s h hs;rw [sC] at h;split at h
  ·refine AW.seq ((iha an.l st _ F s h hs).monoE ?_)
   rintro e s1 ⟨st1,g1,g2,g3⟩
   cases e with
   | normal=>exact (ihb an.r st1 K F s1 g3 g1).monoE fun e s2 hq=>hq.fix g2
   | exit id=>exact ⟨st1,g1,g2,g3⟩
   | goto l=>exact ⟨st1,g1,g2,g3⟩
   | ret=>exact ⟨st1,g1,g2,g3⟩
   | panic ch=>exact ⟨st1,g1,g2,g3⟩
   | outgrown=>exact ⟨st1,g1,g2,g3⟩
  ·rename_i sg hsg
   cases hl:layOk st sg with
   | false=>rw [hl] at h;cases h
   | true =>
    rw [hl] at h;simp only [cond_true] at h;rw [G.den] at h;unfold joinF at h;refine AW.seq ((iha an.l (lay st sg) _ F s h (lay_ok hs hl)).monoE ?_)
    rintro e s1 ⟨st1,g1,g2,g3⟩
    have other:∀ e',(K e' (unlay st st1 sg)).den fu=some r→Post F st (fun st'=>(K e' st').den fu=some r) s1:=fun e' g3=>by
     obtain ⟨k1,k2⟩:=unlay_ok g2 g1;exact ⟨_,k1,k2,g3⟩
    cases e with
    | normal =>
     obtain ⟨x,hx,hst⟩:=arrG_ok g3 g2 g1;exact (ihb an.r _ _ F s1 hx hst).monoE fun e s2 hq=>unlay_post (inj_fix (.refl _)) hq
    | exit id=>exact other _ g3
    | goto l=>exact other _ g3
    | ret=>exact other _ g3
    | panic ch=>exact other _ g3
    | outgrown=>exact other _ g3
 | cond x a b iha ihb =>
  intro an st K F s h hs;rw [sC] at h;obtain ⟨m,nx,hm,hr,hf⟩:=hs;refine AW.rle hr ?_;have ex:=enc_ev st m nx x;split at h
  ·rename_i e he;rw [he,SV.enc] at ex;have hst:StL F st (st.enc m nx):=⟨m,nx,hm,.refl _,hf⟩;rcases iteG_den h with ⟨h1,h2⟩ | ⟨h1,h2⟩
   ·refine AW.condT (ex.trans (congrArg AV.bool h1)) (iha an.l st K F _ h2 hst)
   ·refine AW.condF (ex.trans (congrArg AV.bool h1)) (ihb an.r st K F _ h2 hst)
  ·cases h
 | block id c ih =>
  intro an st K F s h hs;rw [sC] at h;refine AW.block ((ih an.l st _ F s h hs).monoE ?_)
  rintro e s1 ⟨st1,g1,g2,g3⟩
  cases e with
  | exit id' =>
   simp only at g3
   cases hb:Nat.beq id' id with
   | true =>
    rw [hb] at g3;have:=Nat.eq_of_beq_eq_true hb;subst this;exact inA_eq ⟨st1,g1,g2,g3⟩
   | false =>
    rw [hb] at g3;exact inA_ne hb ⟨st1,g1,g2,g3⟩
  | normal=>exact ⟨st1,g1,g2,g3⟩
  | goto l=>exact ⟨st1,g1,g2,g3⟩
  | ret=>exact ⟨st1,g1,g2,g3⟩
  | panic ch=>exact ⟨st1,g1,g2,g3⟩
  | outgrown=>exact ⟨st1,g1,g2,g3⟩
 | loop c ih =>
  intro an st K F s h hs;rw [sC] at h;split at h
  ·cases h
  ·rename_i sg hsg
   cases hl:layOk st sg with
   | false=>rw [hl] at h;cases h
   | true =>
    rw [hl] at h;simp only [cond_true] at h;split at h
    ·rename_i e0 he0;rw [G.den] at h;have h0:=cut_ok (F:=F) (e':=.var e0.den) he0 rfl ((Fix.refl _).trans (matF_fix sg (lay st sg))) (matF_ok sg _ (lay_ok hs hl))
     refine loopA (P:=P) (r:=r) (I:=fun x s=>StL F (inj st sg (.var x)) s) (g:=fun k x=>loopF (fun j x=>(sC C self sD n c an.l (inj st sg (.var x)) fun e st'=>match e with
      | .normal=>arrG st sg j st'
      | e=>K e (unlay st st' sg)).den fu) k x) (fun x=>rfl) (fun k x s' hg hI=>?_) fu e0.den s h h0
     have hg:(sC C self sD n c an.l (inj st sg (.var x)) fun e st'=>match e with
      | .normal=>arrG st sg (loopF _ k) st'
      | e=>K e (unlay st st' sg)).den fu=some r:=hg
     refine (ih an.l _ _ F s' hg hI).monoE ?_
     rintro e s1 ⟨st1,g1,g2,g3⟩
     have other:∀ e',(K e' (unlay st st1 sg)).den fu=some r→Post F st (fun st'=>(K e' st').den fu=some r) s1:=fun e' g3=>by
      obtain ⟨k1,k2⟩:=unlay_ok (inj_fix g2) g1;exact ⟨_,k1,k2,g3⟩
     cases e with
     | normal =>
      obtain ⟨x',hx,hst⟩:=arrG_ok g3 (inj_fix g2) g1;exact ⟨x',hx,hst⟩
     | exit id=>exact other _ g3
     | goto l=>exact other _ g3
     | ret=>exact other _ g3
     | panic ch=>exact other _ g3
     | outgrown=>exact other _ g3
    ·cases h
 | region id ops d =>
  intro an st K F s h hs;obtain ⟨l⟩:=ops
  cases d with
  | false =>
   rw [sC] at h;refine AW.monoE (AW.region (sL_ok hC hS an l 0 st s h hs (.refl st))) ?_
   rintro e s1 ⟨rfl,h1⟩
   exact h1
  | true =>
   rw [sC] at h;refine (hD an l st _ r F s id h hs).monoE ?_
   rintro e s1 ⟨rfl,h1⟩
   exact h1
 | rangeFunc f ps a b=>intro an st K F s h hs;rw [sC] at h;cases h
 | scope c ih =>
  intro an st K F s h hs;rw [sC] at h;refine AW.scope ((ih an.l st _ F s h hs).monoE ?_)
  rintro e s1 ⟨st1,g1,g2,g3⟩
  cases e with
  | goto l=>cases g3
  | normal=>exact ⟨rfl,st1,g1,g2,g3⟩
  | exit id=>exact ⟨rfl,st1,g1,g2,g3⟩
  | ret=>exact ⟨rfl,st1,g1,g2,g3⟩
  | panic ch=>exact ⟨rfl,st1,g1,g2,g3⟩
  | outgrown=>exact ⟨rfl,st1,g1,g2,g3⟩
 | goto l=>intro an st K F s h hs;rw [sC] at h;cases h
 | refuse w=>intro an st K F s h hs;rw [sC] at h;cases h
end
section
variable {P:Program} {T:Tab} {st:SSt D} {m:Nat→Nat} {nx:Nat}
theorem loadA_elt {v:SV D} {t:TypeId} {x:SV D} {gd:E D .bool} (h:loadA T st t v=some (x,gd)):∃ id q i o,v.enc m st.blk=.elt id q i o:=by
 unfold loadA at h;split at h
 ·split at h
  ·rename_i Z sz b id ver k2 i o hI;split at h
   ·rename_i fr rt xs e' v' hb
    cases hc:(Nat.beq ver v'&&i.zero?&&Nat.beq o 0&&Nat.beq sz (_*rt.size)&&Nat.blt 0 _) with
    | false=>rw [hc] at h;cases h
    | true =>
     simp only [Bool.and_eq_true] at hc;rw [SV.enc,rowLen_eq hb hc.1.1.1.1];exact ⟨_,_,_,_,rfl⟩
   ·cases h
  ·cases h
 ·cases h
theorem resS1_ok (hT:T.ok P) (hm:MOk m nx st) {t ty:Nat} {x:SV D} {l:List ResultVar} (h:resS1 T st t ty=some x) (hg:∀ g ∈ resGd T st (.cell t ty::l),g.den=true):resA P (st.enc m nx) (.cell t ty) (x.enc m st.blk):=by
 unfold resS1 at h;split at h
 ·rename_i id Dd Z s b h1 h2 h3;split at h
  ·rename_i cs e h5;have hi:isBox st.blk id=true:=by unfold isBox;rw [h5]
   have hb:=enc_blk hm (k:=id) (by rw [h5];simp);rw [h5,SB.enc] at hb;exact resA_box (by rw [enc_get,h1,SV.enc,hi];rfl) hb (allP_at hT.und h2) (allP_at hT.inf h3) (partS_enc h)
  ·cases h
 ·rename_i id ver k i o h1;obtain ⟨⟨y,g⟩,h2,h3⟩:=Option.map_eq_some_iff.1 h;simp only at h3;subst h3;have hgd:g.den=true:=hg g (by rw [resGd,h1];simp only [h2];exact List.mem_cons_self ..);obtain ⟨a1,a2,a3,a4,e⟩:=loadA_elt (m:=m) h2;refine resA_elt (by rw [enc_get,h1];exact e) fun n=>?_
  exact loadA_ok (y:=.tmp t) hT hm (by show loadA T st ty (st.get t)=_;rw [h1];exact h2) hgd rfl
 ·cases h
theorem resS_ok (hT:T.ok P) (hm:MOk m nx st):∀ {rs:List ResultVar} {ys:List (SV D)},resS T st rs=some ys→(∀ g ∈ resGd T st rs,g.den=true)→resL P (st.enc m nx) rs (SV.encL m st.blk ys)
 | [],ys,h,_=>by
  injection h with h
  subst h;rw [SV.encL];trivial
 | .tmp t::l,ys,h,hg=>by
  rw [resS] at h;split at h
  ·rename_i xs h1;injection h with h
   subst h;rw [SV.encL];exact ⟨enc_get st m nx t,resS_ok hT hm h1 hg⟩
  ·cases h
 | .cell t ty::l,ys,h,hg=>by
  rw [resS] at h;split at h
  ·rename_i x xs h1 h2;injection h with h
   subst h;rw [SV.encL];refine ⟨resS1_ok hT hm h1 hg,resS_ok hT hm h2 fun g hm'=>hg g ?_⟩;rw [resGd];split
   ·split
    ·exact List.mem_cons_of_mem _ hm'
    ·exact hm'
   ·exact hm'
  ·cases h
theorem grdL_den {ρ:Ty} {fu:Nat} {k:G D (KD ρ) ρ} {r:ρ.den}:∀ (l:List (E D .bool)),(grdL l k).den fu=some r→(∀ g ∈ l,g.den=true)∧k.den fu=some r
 | [],h=>⟨fun _ h'=>(List.not_mem_nil h').elim,h⟩
 | g::l,h=>by
  rw [grdL,G.den] at h
  cases hg:g.den with
  | false=>rw [hg] at h;cases h
  | true =>
   rw [hg] at h;obtain ⟨h1,h2⟩:=grdL_den l h;refine ⟨fun g' hg'=>?_,h2⟩;rcases List.mem_cons.1 hg' with rfl | hg'
   ·exact hg
   ·exact h1 g' hg'
theorem argRS_enc {H:Nat→SB D}:∀ (xs:List (SV D)) (i:Nat),encR m H (argRS i xs)=argR i (SV.encL m H xs)
 | [],i=>by rw [SV.encL];rfl
 | x::l,i=>by rw [SV.encL,argRS,argR,←argRS_enc l];rfl
variable {ρ:Ty} {fu:Nat} {C:DC}
theorem calleeS_enc (xs:List (SV D)):(calleeS st xs).enc m nx=⟨argR 0 (SV.encL m st.blk xs),(st.enc m nx).heap,nx⟩:=by
 show (⟨encR m st.blk (argRS 0 xs++[]),encH m st.blk (st.heap++st.hk)++(st.blk 0).rows (m 0),nx⟩:ASt)=_;rw [List.append_nil,argRS_enc];rfl
theorem sF_ok {dr:DrawG D (KD ρ) ρ} (hC:C.ok P) (hD:∀ self n,SelfOkG (ρ:=ρ) P fu self→DrawOk P fu n (dr self)):∀ f,SelfOkG (ρ:=ρ) P fu (sF C dr f)
 | 0=>fun an Fn xs st K r F m nx h=>by cases h
 | f+1=>fun an Fn xs st K r F m nx h hm hf=>by
  rw [sF] at h;split at h
  ·rename_i fn h1;split at h
   ·rename_i c h2
    cases hb:Nat.ble xs.length fn.ntmps with
    | false=>rw [hb] at h;cases h
    | true =>
     rw [hb] at h;simp only [cond_true] at h
     have hst:StL ((fun d=>look .any (st.enc m nx).regs d)::F) (calleeS st xs) (⟨argR 0 (SV.encL m st.blk xs),(st.enc m nx).heap,nx⟩):=by
      rw [←calleeS_enc];refine ⟨m,nx,⟨hm.lt,hm.inj,hm.keys,hm.ar',hm.ge⟩,.refl _,⟨by show _+1=_+1;rw [hf.len],fun i l g g1 g2 d=>?_⟩⟩
      cases i with
      | zero =>
       have g1:some (st.regs++st.kp)=some l:=g1;have g2:some (fun d=>look .any (st.enc m nx).regs d)=some g:=g2;injection g1 with g1
       injection g2 with g2
       subst g1;subst g2
       show Les _ (look .any (encR m st.blk (st.regs++st.kp)) d);rw [look_encR];exact .refl _
      | succ i=>exact hf.les i l g g1 g2 d
     refine AC.body (allP_at hC.fns h1) h2 rfl rfl (by rw [encL_length];exact hb) ?_;refine (sC_ok hC (sF_ok hC hD f) (hD _ _ (sF_ok hC hD f)) c an _ _ _ _ h hst).post ?_
     rintro e s1 ⟨st1,⟨m1,nx1,k1,k2,k3⟩,g2,g3⟩
     refine ⟨_,k2,?_⟩
     have key:∀ ys,resS C.T st1 fn.results.toList=some ys→(∀ g ∈ resGd C.T st1 fn.results.toList,g.den=true)→(K (oneOfS ys) ⟨st.regs,st.kp,st1.heap,st.hk,st.fr,st1.nx⟩).den fu=some r→(e=.ret∨e=.normal) →
       retQ P fn.results.toList (fun y hp' nx'=>∃ y' st' m',st'.regs=st.regs∧Fix st st'∧MOk m' nx' st'∧hp'=(st'.enc m' nx').heap ∧
        FrOk m' st'.blk ((st.regs++st.kp)::st.fr) ((fun d=>look .any (st.enc m nx).regs d)::F)∧y=y'.enc m' st'.blk∧(K y' st').den fu=some r) e (st1.enc m1 nx1):=by
      intro ys hys hgd hk he;have hhk:st1.hk=st.hk:=g2.hk;have hfr:st1.fr=(st.regs++st.kp)::st.fr:=g2.fr
      have hblk:(⟨st.regs,st.kp,st1.heap,st.hk,st.fr,st1.nx⟩:SSt D).blk=st1.blk:=by
       funext k
       show look (look .dead st.hk k) st1.heap k=look (look .dead st1.hk k) st1.heap k;rw [hhk]
      refine ⟨he,_,resS_ok hC.T k1 hys hgd,oneOfS ys,⟨st.regs,st.kp,st1.heap,st.hk,st.fr,st1.nx⟩,m1,rfl,⟨rfl,rfl,rfl⟩,⟨?_,?_,?_,by rw [hblk];exact k1.ar',by rw [hblk];exact k1.ge⟩,?_,?_,?_,hk⟩
      ·rw [hblk];exact k1.lt
      ·rw [hblk];exact k1.inj
      ·show ∀ p ∈ st1.heap++st.hk,_;rw [←hhk];exact k1.keys
      ·show encH m1 st1.blk (st1.heap++st1.hk)++(st1.blk 0).rows (m1 0)=encH m1 (⟨st.regs,st.kp,st1.heap,st.hk,st.fr,st1.nx⟩:SSt D).blk (st1.heap++st.hk)++((⟨st.regs,st.kp,st1.heap,st.hk,st.fr,st1.nx⟩:SSt D).blk 0).rows (m1 0);rw [hblk,hhk]
      ·rw [hblk,←hfr];exact k3
      ·rw [hblk,oneOfS_enc]
     cases e with
     | ret =>
      unfold outS at g3;simp only at g3;split at g3
      ·rename_i ys hys;obtain ⟨q1,q2⟩:=grdL_den _ g3;exact key ys hys q1 q2 (.inl rfl)
      ·cases g3
     | normal =>
      unfold outS at g3;simp only at g3;split at g3
      ·rename_i ys hys;obtain ⟨q1,q2⟩:=grdL_den _ g3;exact key ys hys q1 q2 (.inr rfl)
      ·cases g3
     | exit id=>cases g3
     | goto l=>cases g3
     | panic ch=>cases g3
     | outgrown=>cases g3
   ·cases h
  ·cases h
theorem rle_start {rg:List (Nat×AV)} {B B' sz:Nat} {e:TypeId} (hB:B'≤B) (hs:0<sz):RLe ⟨rg,[],0⟩ ⟨rg,(List.range B').map fun i=>(i,AB.row sz [] e),B⟩:=⟨fun {K n a w} ⟨G,r⟩=>by
 let G':Gh:=⟨fun _=>.slice none 0 0,G.own,fun _=>0,fun _=>sz,B,G.bs,G.far⟩
 have hnx:G.nx=0:=r.nx;have hk:K.G1.nx=0:=by have:=r.ext.nx;omega
 have hrel:∀ {x:AV} {v:Value},RelV w G x v→RelV w G' x v:=by
  intro x v h
  induction h with
  | dat h=>exact .dat h
  | box _ _ _ hid=>omega
  | elt _ _ _ _ _ hid=>omega
  | osl _ _ _ hid=>omega
  | vsl _ _ _ _ _ hid=>omega
  | peek row j b o f hr hb h1 h2=>exact .peek row j b o f hr hb h1 h2
  | agg cs vs hl _ ih=>exact .agg cs vs hl ih
  | tup cs vs hl _ ih=>exact .tup cs vs hl ih
  | fn f cs fs vs hf hl _ ih=>exact .fn f cs fs vs hf hl ih
 refine ⟨G',rfl,⟨r.hr.bs,r.hr.below,r.hr.ownlt',fun id=>?_,fun i i' g _ _ _ h=>(by cases h),fun i g _ h=>(by cases h)⟩,⟨r.ext.size,r.ext.keep',r.ext.own2,by rw [hk];exact Nat.zero_le _,r.ext.bs',fun id hid=>by omega⟩,r.size,r.defers,fun d=>hrel (r.regs d)⟩;show ABok _ w G' id (look .dead ((List.range B').map fun i=>(i,AB.row sz [] e)) id);rw [map_look (fun _=>AB.row sz [] e)];by_cases h:id ∈ List.range B'
 ·rw [if_pos h];have:=List.mem_range.1 h;exact ⟨by show id<B;omega,hs,rfl,rfl,[],ownsM.nil w _ _ _,fun v hv=>(by cases hv),fun i row hr=>(by simp at hr)⟩
 ·rw [if_neg h];trivial⟩
theorem stI_ok (an:An) (xs:List (SV D)) (hxs:∀ m H,SV.encL m H xs=SV.encL (fun k=>k) (fun _=>SB.dead) xs):StL [] (stI an xs) ⟨argR 0 (SV.encL (fun k=>k) (fun _=>SB.dead) xs),[],0⟩:=by
 have plain:StL [] (⟨argRS 0 xs,[],[],[],[],0⟩:SSt D) ⟨argR 0 (SV.encL (fun k=>k) (fun _=>SB.dead) xs),[],0⟩:=by
  refine ⟨fun k=>k,bigA,⟨fun k hk=>absurd rfl hk,fun k k' hk=>absurd rfl hk,fun p hp=>(by cases hp),fun h=>(by cases h),Nat.le_refl _,fun k hk=>absurd rfl hk⟩,?_,⟨rfl,fun i l g h=>by simp at h⟩⟩
  have:(⟨argRS 0 xs,[],[],[],[],0⟩:SSt D).enc (fun k=>k) bigA=⟨argR 0 (SV.encL (fun k=>k) (fun _=>SB.dead) xs),[],bigA⟩:=by
   show (⟨encR _ _ (argRS 0 _++[]),[],bigA⟩:ASt)=_;rw [List.append_nil,argRS_enc,hxs]
  rw [this];exact rle_start (B':=0) (e:=0) (Nat.zero_le _) Nat.one_pos
 unfold stI;split
 ·rename_i t e _
  cases ht:Nat.blt 0 t.size with
  | false=>exact plain
  | true =>
   have hpos:0<t.size:=by simpa using ht
   rw [cond_true];obtain ⟨B,hB⟩:∃ B,B=bigA:=⟨bigA,rfl⟩;refine ⟨fun _=>B,B+1,⟨fun k hk=>Nat.lt_succ_self _,fun k k' hk hk' _=>?_,fun p hp=>?_,fun _=>hB,by rw [hB];exact Nat.le_succ _,fun k _=>Nat.le_of_eq hB.symm⟩,?_,⟨rfl,fun i l g h=>by simp at h⟩⟩
   ·have key:∀ k,(⟨argRS 0 xs,[],[(0,.arn t (.nil _) e)],[],[],1⟩:SSt D).blk k≠.dead→k=0:=by
     intro k hk;refine Classical.byContradiction fun hne=>hk ?_
     show look (look SB.dead [] k) [(0,SB.arn t (.nil _) e)] k=_;rw [look_cons,if_neg (Ne.symm hne)];rfl
    rw [key k hk,key k' hk']
   ·have hp:p ∈ [(0,SB.arn t (.nil _) e)]:=hp;rw [List.mem_singleton] at hp;subst hp;exact ⟨Nat.one_pos,by simp⟩
   ·have h1:RLe ⟨argR 0 (SV.encL (fun k=>k) (fun _=>SB.dead) xs),[],0⟩ ⟨argR 0 (SV.encL (fun k=>k) (fun _=>SB.dead) xs),(List.range B).map fun i=>(i,AB.row t.size [] e),B+1⟩:=rle_start (Nat.le_succ _) hpos;refine h1.trans (LeS.rle ⟨fun d=>?_,fun k=>?_,rfl⟩)
    ·show Les (look .any (encR _ _ (argRS 0 xs++[])) d) _;rw [List.append_nil,argRS_enc,hxs];exact .refl _
    ·show LesB (look .dead ((B,AB.dead)::(List.range B).map fun i=>(i,arnRow t e [] i)) k) (look .dead ((List.range B).map fun i=>(i,AB.row t.size [] e)) k);rw [look_cons];split
     ·exact .dead _
     ·rw [map_look,map_look (fun _=>AB.row t.size [] e)];split
      ·exact .refl _
      ·exact .refl _
 ·exact plain
theorem topG_ok {dr:DrawG D (KD ρ) ρ} (hC:C.ok P) (hD:∀ self n,SelfOkG (ρ:=ρ) P fu self→DrawOk P fu n (dr self)) {f:Nat} {an:An} {Fn:FuncId} {σ:Ty} {x:σ.den} {y:ρ.den} (h:(topG C dr f an Fn σ (.var x)).den fu=some y):AF P Fn (σ.avs false x) (oneOf (ρ.avs true y)):=by
 unfold topG at h;split at h
 ·rename_i fn h1;split at h
  ·rename_i c h2
   cases hb:Nat.ble (svsE false σ (.var x:E D σ)).length fn.ntmps with
   | false=>rw [hb] at h;cases h
   | true =>
    rw [hb] at h;simp only [cond_true] at h;refine AF.of_AC ?_;have e0:SV.encL (fun k=>k) (fun _=>SB.dead) (svsE false σ (.var x:E D σ))=σ.avs false x:=svsE_enc false σ (.var x);rw [←e0];have hst:=stI_ok an (svsE false σ (.var x:E D σ)) (fun m H=>(svsE_enc false σ (.var x)).trans (svsE_enc false σ (.var x)).symm);refine AC.body (allP_at hC.fns h1) h2 rfl rfl (by rw [encL_length];exact hb) ?_;refine (sC_ok hC (sF_ok hC hD f) (hD _ _ (sF_ok hC hD f)) c (anI an) _ _ _ _ h hst).post ?_
    rintro e s1 ⟨st1,⟨m1,nx1,k1,k2,k3⟩,g2,g3⟩
    refine ⟨_,k2,?_⟩
    cases e with
    | ret =>
     simp only at g3;split at g3
     ·rename_i ys hys;split at g3
      ·rename_i rr hrr;obtain ⟨q1,q2⟩:=grdL_den _ g3;rw [G.den] at q2;injection q2 with q2
       subst q2;exact ⟨.inl rfl,_,resS_ok hC.T k1 hys q1,exRs_one k1 hrr⟩
      ·cases g3
     ·cases g3
    | normal =>
     simp only at g3;split at g3
     ·rename_i ys hys;split at g3
      ·rename_i rr hrr;obtain ⟨q1,q2⟩:=grdL_den _ g3;rw [G.den] at q2;injection q2 with q2
       subst q2;exact ⟨.inr rfl,_,resS_ok hC.T k1 hys q1,exRs_one k1 hrr⟩
      ·cases g3
     ·cases g3
    | exit id=>cases g3
    | goto l=>cases g3
    | panic ch=>cases g3
    | outgrown=>cases g3
  ·cases h
 ·cases h
end
end Go.Proofs.Ytljebnobajmjnaa
/- A callee that works on some of the caller's own blocks: its new blocks get the numbers that the caller gives them. No program in sight. -/
namespace Go.Proofs.Ytljebnobajmjnaa
open Go Go.RowKit

mutual
def AV.rn (f:Nat→Nat):AV→AV
 | .box id off=>.box (f id) off
 | .elt id n i j=>.elt (f id) n i j
 | .osl id n=>.osl (f id) n
 | .vsl id n lo len=>.vsl (f id) n lo len
 | .agg cs=>.agg (AV.rnL f cs)
 | .tup cs=>.tup (AV.rnL f cs)
 | .fn g cs=>.fn g (AV.rnL f cs)
 | .any=>.any
 | .und=>.und
 | .int k n=>.int k n
 | .bool b=>.bool b
 | .str s=>.str s
 | .nilp=>.nilp
 | .nils=>.nils
 | .nilf=>.nilf
 | .peek row j=>.peek row j
 | .ro fr sz rows=>.ro fr sz rows
def AV.rnL (f:Nat→Nat):List AV→List AV
 | []=>[]
 | a::l=>AV.rn f a::AV.rnL f l
end
theorem rnL_map (f:Nat→Nat) (l:List AV):AV.rnL f l=l.map (AV.rn f):=by
 induction l with
 | nil=>rw [AV.rnL];rfl
 | cons a l ih=>rw [AV.rnL,ih];rfl
theorem rn_isD (f:Nat→Nat) {a:AV} (h:isD a=true):a.rn f=a:=by
 cases a <;> first | (rw [AV.rn];done) | (cases h;done)
section
variable {f:Nat→Nat} {m1 τ:Nat→Nat} {H:Nat→SB D}
mutual
theorem enc_rn (hB:∀ id,isBox H id=true→f (m1 id)=τ id) (hR:∀ id v n,rowLen H id v=some n→f (m1 id)=τ id):∀ (x:SV D),x.noA=true→(x.enc m1 H).rn f=x.enc τ H
 | .any,_=>by rw [SV.enc,SV.enc,AV.rn]
 | .und,_=>by rw [SV.enc,SV.enc,AV.rn]
 | .int ..,_=>by rw [SV.enc,SV.enc,AV.rn]
 | .bool ..,_=>by rw [SV.enc,SV.enc,AV.rn]
 | .str ..,_=>by rw [SV.enc,SV.enc,AV.rn]
 | .nilp,_=>by rw [SV.enc,SV.enc,AV.rn]
 | .nils,_=>by rw [SV.enc,SV.enc,AV.rn]
 | .nilf,_=>by rw [SV.enc,SV.enc,AV.rn]
 | .pk ..,_=>by rw [SV.enc,SV.enc,AV.rn]
 | .ro ..,_=>by rw [SV.enc,SV.enc,AV.rn]
 | .aosl e,hA=>by rw [SV.noA] at hA;cases hA
 | .aelt ..,hA=>by rw [SV.noA] at hA;cases hA
 | .box id off,_=>by
  rw [SV.enc,SV.enc]
  cases hb:isBox H id with
  | true=>show AV.rn f (.box (m1 id) off)=.box (τ id) off;rw [AV.rn,hB id hb]
  | false=>show AV.rn f .any=.any;rw [AV.rn]
 | .elt id v i off,_=>by
  rw [SV.enc,SV.enc]
  cases hb:rowLen H id v with
  | some n=>show AV.rn f (.elt (m1 id) n _ off)=.elt (τ id) n _ off;rw [AV.rn,hR id v n hb]
  | none=>show AV.rn f .any=.any;rw [AV.rn]
 | .osl id v,_=>by
  rw [SV.enc,SV.enc]
  cases hb:rowLen H id v with
  | some n=>show AV.rn f (.osl (m1 id) n)=.osl (τ id) n;rw [AV.rn,hR id v n hb]
  | none=>show AV.rn f .any=.any;rw [AV.rn]
 | .vsl id v lo hi,_=>by
  rw [SV.enc,SV.enc]
  cases hb:rowLen H id v with
  | some n=>show AV.rn f (.vsl (m1 id) n _ _)=.vsl (τ id) n _ _;rw [AV.rn,hR id v n hb]
  | none=>show AV.rn f .any=.any;rw [AV.rn]
 | .agg cs,hA=>by rw [SV.enc,SV.enc,AV.rn,encL_rn hB hR cs (by rw [SV.noA] at hA;exact hA)]
 | .tup cs,hA=>by rw [SV.enc,SV.enc,AV.rn,encL_rn hB hR cs (by rw [SV.noA] at hA;exact hA)]
 | .fn g cs,hA=>by rw [SV.enc,SV.enc,AV.rn,encL_rn hB hR cs (by rw [SV.noA] at hA;exact hA)]
theorem encL_rn (hB:∀ id,isBox H id=true→f (m1 id)=τ id) (hR:∀ id v n,rowLen H id v=some n→f (m1 id)=τ id):∀ (l:List (SV D)),SV.noAL l=true→AV.rnL f (SV.encL m1 H l)=SV.encL τ H l
 | [],_=>by rw [SV.encL,SV.encL,AV.rnL]
 | c::l,hA=>by
  rw [SV.noAL,Bool.and_eq_true] at hA;rw [SV.encL,SV.encL,AV.rnL,enc_rn hB hR c hA.1,encL_rn hB hR l hA.2]
end
end
def joinS (G G1:Gh) (q:Nat→Bool) (σ:Nat→Nat) (NX:Nat):Gh:=⟨fun id=>if q id=true then G1.ρ (σ id) else G.ρ id,G1.own,fun id=>if q id=true then G1.ln (σ id) else G.ln id,fun id=>if q id=true then G1.sz (σ id) else G.sz id,NX,G.bs,G.far⟩
section
variable {p q nm:Nat→Bool} {σ f:Nat→Nat} {w0 w w':World} {G G1:Gh} {k k2 K2 NX:Nat} {hp hp2 hpS:List (Nat×AB)}
theorem liftS (hb:G.bs=G1.bs) (hnm:∀ j,nm j=true→q (f j)=true∧σ (f j)=j∧f j<NX) {a:AV} {v:Value} (r:RelV w' G1 a v) (ha:a.nmd nm=true):RelV w' (joinS G G1 q σ NX) (a.rn f) v:=by
 have jρ:∀ j,nm j=true→(joinS G G1 q σ NX).ρ (f j)=G1.ρ j:=fun j h=>by
  obtain ⟨h1,h2,_⟩:=hnm j h;show (if q (f j)=true then G1.ρ (σ (f j)) else G.ρ (f j))=_;rw [if_pos h1,h2]
 have jl:∀ j,nm j=true→(joinS G G1 q σ NX).ln (f j)=G1.ln j:=fun j h=>by
  obtain ⟨h1,h2,_⟩:=hnm j h;show (if q (f j)=true then G1.ln (σ (f j)) else G.ln (f j))=_;rw [if_pos h1,h2]
 have js:∀ j,nm j=true→(joinS G G1 q σ NX).sz (f j)=G1.sz j:=fun j h=>by
  obtain ⟨h1,h2,_⟩:=hnm j h;show (if q (f j)=true then G1.sz (σ (f j)) else G.sz (f j))=_;rw [if_pos h1,h2]
 have key:∀ {a:AV} {v:Value},RelD w' G1.own G1.bs a v→RelD w' (joinS G G1 q σ NX).own (joinS G G1 q σ NX).bs a v:=by
  intro a v h;have e:(joinS G G1 q σ NX).bs=G1.bs:=hb;rw [e];exact h
 induction r with
 | dat r =>
  rename_i a v
  have hd:a.rn f=a:=by cases r <;> rw [AV.rn]
  rw [hd];exact .dat (key r)
 | box id off g hid hs hr =>
  have hq:nm id=true:=by simpa only [AV.nmd] using ha
  rw [AV.rn];exact .box _ off g (hnm id hq).2.2 (by rw [js id hq];exact hs) (by rw [jρ id hq];exact hr)
 | elt id n i j v hid hin hs hn' hv hr =>
  have hq:nm id=true:=by simpa only [AV.nmd] using ha
  rw [AV.rn];refine .elt _ n i j v (hnm id hq).2.2 hin (by rw [js id hq];exact hs) (by rw [jl id hq];exact hn') hv (fun e=>?_);rw [jl id hq] at e;obtain ⟨g,c,e1,e2⟩:=hr e;exact ⟨g,c,by rw [jρ id hq];exact e1,by rw [js id hq];exact e2⟩
 | osl id n v hid hs hn' hv hr =>
  have hq:nm id=true:=by simpa only [AV.nmd] using ha
  rw [AV.rn];exact .osl _ n v (hnm id hq).2.2 (by rw [js id hq];exact hs) (by rw [jl id hq];exact hn') hv (fun e=>by rw [jl id hq] at e;rw [jρ id hq];exact hr e)
 | vsl id n lo len v hid hs hn' hle hv hr =>
  have hq:nm id=true:=by simpa only [AV.nmd] using ha
  rw [AV.rn];refine .vsl _ n lo len v (hnm id hq).2.2 (by rw [js id hq];exact hs) (by rw [jl id hq];exact hn') hle hv (fun e=>?_);rw [jl id hq] at e;obtain ⟨A,c,e1,e2,e3,e4⟩:=hr e;refine ⟨A,c,e1,e2,e3,fun hl=>?_⟩;obtain ⟨g,c',e5,e6⟩:=e4 hl;exact ⟨g,c',by rw [jρ id hq];exact e5,by rw [js id hq];exact e6⟩
 | peek row j b o f' hr hb' h1 h2=>rw [AV.rn];exact .peek row j b o f' hr hb' h1 (fun t a g=>key (h2 t a g))
 | agg cs vs hl _ ih =>
  rw [AV.rn,rnL_map];refine .agg _ vs (by rw [List.length_map];exact hl) fun i a v g1 g2=>?_
  rw [List.getElem?_map] at g1;obtain ⟨a',g3,rfl⟩:=Option.map_eq_some_iff.1 g1;exact ih i a' v g3 g2 (nmd_at (by simpa only [AV.nmd] using ha) g3)
 | tup cs vs hl _ ih =>
  rw [AV.rn,rnL_map];refine .tup _ vs (by rw [List.length_map];exact hl) fun i a v g1 g2=>?_
  rw [List.getElem?_map] at g1;obtain ⟨a',g3,rfl⟩:=Option.map_eq_some_iff.1 g1;exact ih i a' v g3 g2 (nmd_at (by simpa only [AV.nmd] using ha) g3)
 | fn g cs fs vs hf hl _ ih =>
  rw [AV.rn,rnL_map];refine .fn _ _ _ vs hf (by rw [List.length_map];exact hl) fun i a v g1 g2=>?_
  rw [List.getElem?_map] at g1;obtain ⟨a',g3,rfl⟩:=Option.map_eq_some_iff.1 g1;exact ih i a' v g3 g2 (nmd_at (by simpa only [AV.nmd] using ha) g3)
def AB.rn (f:Nat→Nat):AB→AB
 | .dead=>.dead
 | .box cs e=>.box (AV.rnL f cs) e
 | .row sz rows e=>.row sz (rows.map (AV.rnL f)) e
theorem liftSB (hb:G.bs=G1.bs) (hnm:∀ j,nm j=true→q (f j)=true∧σ (f j)=j∧f j<NX) {id:Nat} {b:AB} (hid:nm (σ id)=true) (hf:f (σ id)=id) (r:ABok w0 w' G1 (σ id) b) (hbn:b.nmd nm=true):ABok w0 w' (joinS G G1 q σ NX) id (b.rn f):=by
 obtain ⟨h1,h2,h3⟩:=hnm _ hid;rw [hf] at h1 h2 h3;have jρ:(joinS G G1 q σ NX).ρ id=G1.ρ (σ id):=if_pos h1;have jl:(joinS G G1 q σ NX).ln id=G1.ln (σ id):=if_pos h1;have js:(joinS G G1 q σ NX).sz id=G1.sz (σ id):=if_pos h1
 cases b with
 | dead=>trivial
 | box cs e =>
  obtain ⟨a1,a2,g,vs,a3,a4,a5,a6⟩:=r;refine ⟨h3,by rw [js];exact a2,g,vs,by rw [jρ];exact a3,a4,by rw [rnL_map,List.length_map];exact a5,fun i a hi=>?_⟩;rw [rnL_map,List.getElem?_map] at hi;obtain ⟨a',g3,rfl⟩:=Option.map_eq_some_iff.1 hi;obtain ⟨v,g4,g5,g6⟩:=a6 i a' g3;exact ⟨v,g4,g5,liftS hb hnm g6 (nmd_at hbn g3)⟩
 | row sz rows e =>
  obtain ⟨a1,a2,a3,a4,flat,a5,a6,a7⟩:=r;refine ⟨h3,a2,by rw [js];exact a3,by rw [jl,List.length_map];exact a4,flat,by rw [jρ,List.length_map];exact a5,a6,fun i row hi=>?_⟩;rw [List.getElem?_map] at hi;obtain ⟨row',g3,rfl⟩:=Option.map_eq_some_iff.1 hi;obtain ⟨g4,g5⟩:=a7 i row' g3;refine ⟨by rw [rnL_map,List.length_map];exact g4,fun j a hj=>?_⟩;rw [rnL_map,List.getElem?_map] at hj;obtain ⟨a',g6,rfl⟩:=Option.map_eq_some_iff.1 hj;obtain ⟨v,g7,g8⟩:=g5 j a' g6;exact ⟨v,g7,liftS hb hnm g8 (nmd_at (List.all_eq_true.1 hbn row' (List.mem_of_getElem? g3)) g6)⟩
structure OutS (q:Nat→Bool) (k K2:Nat) (w0 w:World) (G:Gh) (hpS:List (Nat×AB)) (w':World) (G':Gh):Prop where
 hr:HR w0 w' G' hpS
 ext:Ext w (patchF G G' (newQ k K2)) w' G'
 same:∀ j,q j=false→G'.ρ j=G.ρ j∧G'.ln j=G.ln j∧(j<G.nx→∀ g,ownBlk (G.ρ j)=some g→w'.heap[g]?=w.heap[g]?)
theorem joinS_out (h:HR w0 w G hp) (hk:∀ id,p id=true→id<k) (hq:∀ id,q id=true↔p id=true∨(k≤id∧id<K2)) (hNX:G.nx≤NX) (hkK:k≤K2) (hK2:K2≤NX) (hcov:∀ id,id<NX→G.nx≤id→q id=true) (h1:HR w0 w' G1 hp2) (hx:Ext w (cutF G p k) w' G1) (hn:G1.nx=k2)
  (hσ1:∀ id,p id=true→σ id=id) (hσ2:∀ id,k≤id→id<K2→k≤σ id∧σ id<k2) (hσi:∀ id id',q id=true→q id'=true→σ id=σ id'→id=id')
  (hnm:∀ j,nm j=true→q (f j)=true∧σ (f j)=j) (hS:∀ id,look .dead hpS id=.dead∨(nm (σ id)=true∧f (σ id)=id∧(look .dead hp2 (σ id)).nmd nm=true∧look .dead hpS id=(look .dead hp2 (σ id)).rn f)) :
  OutS q k K2 w0 w G hpS w' (joinS G G1 q σ NX):=by
 have hkk:k≤k2:=by rw [←hn];exact hx.nx
 have hqlt:∀ id,q id=true→id<K2:=fun id c=>by
  rcases (hq id).1 c with c | c
  ·have:=hk id c;omega
  ·exact c.2
 have hσlt:∀ id,q id=true→σ id<k2:=fun id c=>by
  rcases (hq id).1 c with c | c
  ·rw [hσ1 id c];have:=hk id c;omega
  ·exact (hσ2 id c.1 c.2).2
 have hbs:G.bs=G1.bs:=hx.bs.symm
 have hfar:∀ b,G.own b→(∀ id,p id=true→id<G.nx→ownBlk (G.ρ id)≠some b)→G1.far b:=fun b hb hc=>by
  rw [hx.far];exact ⟨hb,hc⟩
 have hfar0:∀ b,G.far b→G1.far b:=fun b hb=>hfar b (h.farown b hb) (fun id c1 c2 e=>h.nofar id b c2 e hb)
 have oth:∀ id g,q id=false→id<G.nx→ownBlk (G.ρ id)=some g→G1.far g:=fun id g c1 c2 e=>hfar g (h.ownhas id g c2 e) (fun id' d1 d2 e'=>h.dist id id' g c2 d2 (fun e2=>by subst e2;rw [(hq _).2 (.inl d1)] at c1;cases c1) e e')
 have keep:∀ b,(¬ G.own b∨G1.far b)→b<w.heap.size→w'.heap[b]?=w.heap[b]?:=fun b hb hl=>hx.keep' b (hb.imp (fun hb=>hb) (fun hb=>by rw [←hx.far];exact hb)) hl
 have jρ:∀ id,q id=true→(joinS G G1 q σ NX).ρ id=G1.ρ (σ id):=fun id c=>if_pos c
 have jρ':∀ id,q id=false→(joinS G G1 q σ NX).ρ id=G.ρ id:=fun id c=>if_neg (by rw [c];decide)
 have jl':∀ id,q id=false→(joinS G G1 q σ NX).ln id=G.ln id:=fun id c=>if_neg (by rw [c];decide)
 have js':∀ id,q id=false→(joinS G G1 q σ NX).sz id=G.sz id:=fun id c=>if_neg (by rw [c];decide)
 have lt0:∀ id,id<NX→q id=false→id<G.nx:=fun id c1 c2=>by
  rcases Nat.lt_or_ge id G.nx with h | h
  ·exact h
  ·rw [hcov id c1 h] at c2;cases c2
 have cases':∀ id,q id=true∨q id=false:=fun id=>by cases q id <;> simp
 have hnm':∀ j,nm j=true→q (f j)=true∧σ (f j)=j∧f j<NX:=fun j hj=>by
  obtain ⟨a1,a2⟩:=hnm j hj;have:=hqlt _ a1;exact ⟨a1,a2,by omega⟩
 refine ⟨⟨h.bs,h1.below,fun b=>⟨fun hb=>h1.ownlt b hb,fun hf=>h1.farown b (hfar0 b hf)⟩,fun id=>?_,fun id id' g c1 c2 hne e1 e2=>?_,fun id g c1 c2=>?_⟩,⟨hx.size,fun b hb hl=>?_,fun b hb=>hx.own2 b hb,hNX,⟨rfl,rfl⟩,fun id hid=>?_⟩,fun j hj=>⟨jρ' j hj,jl' j hj,fun hlt g e=>keep g (.inr (oth j g hj hlt e)) ((h.ownlt g (h.ownhas j g hlt e)).2)⟩⟩
 ·rcases hS id with e | ⟨e1,e2,e3,e4⟩
  ·rw [e];trivial
  ·rw [e4];exact liftSB hbs hnm' e1 e2 (h1.blk (σ id)) e3
 ·have c1:id<NX:=c1;have c2:id'<NX:=c2;rcases cases' id with d1 | d1
  ·rw [jρ id d1] at e1;rcases cases' id' with d2 | d2
   ·rw [jρ id' d2] at e2;exact h1.dist (σ id) (σ id') g (by rw [hn];exact hσlt id d1) (by rw [hn];exact hσlt id' d2) (fun e=>hne (hσi id id' d1 d2 e)) e1 e2
   ·rw [jρ' id' d2] at e2;exact h1.nofar (σ id) g (by rw [hn];exact hσlt id d1) e1 (oth id' g d2 (lt0 id' c2 d2) e2)
  ·rw [jρ' id d1] at e1;rcases cases' id' with d2 | d2
   ·rw [jρ id' d2] at e2;exact h1.nofar (σ id') g (by rw [hn];exact hσlt id' d2) e2 (oth id g d1 (lt0 id c1 d1) e1)
   ·rw [jρ' id' d2] at e2;exact h.dist id id' g (lt0 id c1 d1) (lt0 id' c2 d2) hne e1 e2
 ·have c1:id<NX:=c1;rcases cases' id with d1 | d1
  ·rw [jρ id d1] at c2;have hg:=h1.ownhas' (σ id) g (by rw [hn];exact hσlt id d1) c2;exact ⟨hg.1,fun hf=>hg.2 (hfar0 g hf)⟩
  ·rw [jρ' id d1] at c2;exact ⟨h1.farown g (oth id g d1 (lt0 id c1 d1) c2),h.nofar id g (lt0 id c1 d1) c2⟩
 ·exact keep b (hb.imp (fun hb=>hb) (fun hb=>hfar0 b hb)) hl
 ·have hid:id<G.nx:=hid;by_cases cn:newQ k K2 id=true
  ·have e1:(patchF G (joinS G G1 q σ NX) (newQ k K2)).ρ id=(joinS G G1 q σ NX).ρ id:=if_pos cn;have e2:(patchF G (joinS G G1 q σ NX) (newQ k K2)).ln id=(joinS G G1 q σ NX).ln id:=if_pos cn;have e3:(patchF G (joinS G G1 q σ NX) (newQ k K2)).sz id=(joinS G G1 q σ NX).sz id:=if_pos cn;rw [e1,e2,e3];exact ⟨Nat.le_refl _,rfl,fun _=>rfl,fun _=>rfl⟩
  ·have e1:(patchF G (joinS G G1 q σ NX) (newQ k K2)).ρ id=G.ρ id:=if_neg cn;have e2:(patchF G (joinS G G1 q σ NX) (newQ k K2)).ln id=G.ln id:=if_neg cn;have e3:(patchF G (joinS G G1 q σ NX) (newQ k K2)).sz id=G.sz id:=if_neg cn;rw [e1,e2,e3];rcases cases' id with c | c
   ·have cp:p id=true:=((hq id).1 c).resolve_right fun h=>cn (newQ_iff.2 h)
    obtain ⟨a1,a2,a3,a4⟩:=hx.gh id (hk id cp);have r0:(cutF G p k).ρ id=G.ρ id:=if_pos ⟨cp,hid⟩;have s0:(cutF G p k).sz id=G.sz id:=if_pos ⟨cp,hid⟩;have jl:(joinS G G1 q σ NX).ln id=G1.ln id:=(if_pos c).trans (by rw [hσ1 id cp]);have js:(joinS G G1 q σ NX).sz id=G1.sz id:=(if_pos c).trans (by rw [hσ1 id cp]);rw [s0] at a2 a4;rw [r0] at a3;have a1:G.ln id≤G1.ln id:=a1;have a3:G1.ln id=G.ln id→G1.ρ id=G.ρ id:=a3;have a4:G.sz id=0→G1.ln id=G.ln id:=a4;rw [jl,js,jρ id c,hσ1 id cp];exact ⟨a1,a2,a3,a4⟩
   ·rw [jl' id c,js' id c,jρ' id c];exact ⟨Nat.le_refl _,rfl,fun _=>rfl,fun _=>rfl⟩
end
end Go.Proofs.Ytljebnobajmjnaa
/- Decompiling: a call that works on its caller's blocks,among operations whose order is drawn: new blocks get the next numbers. No program in sight. -/
namespace Go.Proofs.Ytljebnobajmjnaa
open Go Go.RowKit

def detOk (si so:Sig) (nb:Nat):Bool:=((itemB so.items).all fun b=>!Nat.blt b nb||((itemK so.items b==some true)||Nat.beq (verI so.items b) (verI si.items b)))&&((List.range so.ex).all fun j=>hasN (itemB so.items) (nb+j))
def tauE (nb:Nat) (m0:Nat→Nat) (kk b:Nat):Nat:=if b<nb then m0 b else kk+(b-nb)
section
variable {P:Program} {F:FuncId} {ce:CtrE} {st:SSt D} {m:Nat→Nat} {nx kk:Nat} {vs:List (SV D)} {mp:List (Nat×Nat)} {e:E D (itmsTy ce.si.items)} {y:(itmsTy ce.so.items).den}
theorem exiB (hs:SigP ce.si ce.so ce.nb) (b:Nat):(exi ce.si ce.so ce.nb (.var y:E D (itmsTy ce.so.items))).blk b=look .dead (injH ce.so.items (.var y:E D (itmsTy ce.so.items))) b:=by
 show look (look .dead (keepH (baseE ce.si ce.nb) ce.so.keepB++[]) b) _ b=_;rw [hs.k4];rfl
theorem exiK (hs:SigP ce.si ce.so ce.nb) {b:Nat} (h:(exi ce.si ce.so ce.nb (.var y:E D (itmsTy ce.so.items))).blk b≠.dead):b ∈ itemB ce.so.items:=by
 rw [exiB hs] at h;rw [←keyB ce.so.items (.var y:E D (itmsTy ce.so.items))];exact List.mem_map.2 ⟨_,look_mem (rfl:look SB.dead (injH ce.so.items (.var y:E D (itmsTy ce.so.items))) b=_) h,rfl⟩
theorem exiL (hs:SigP ce.si ce.so ce.nb) {b:Nat} (hb:b ∈ itemB ce.so.items):(exi ce.si ce.so ce.nb (.var y:E D (itmsTy ce.so.items))).blk b≠.dead:=by
 rw [exiB hs]
 rcases itemK_some ce.so.items (.var y:E D (itmsTy ce.so.items)) b hs.nao hb with ⟨_,cs,ty,h⟩ | ⟨_,fr,t,xs,ty,h⟩ <;> rw [h] <;> simp
theorem tau_mok (hkg:bigA≤kk) (hs:SigP ce.si ce.so ce.nb) {m0:Nat→Nat} (h0:MOk m0 nx (ent ce.si ce.nb (.var e.den:E D (itmsTy ce.si.items)))) (hl:∀ b ∈ itemB ce.si.items,(ent ce.si ce.nb (.var e.den:E D (itmsTy ce.si.items))).blk b≠.dead∧m0 b<kk) :
  MOk (tauE ce.nb m0 kk) (kk+ce.so.ex) (exi ce.si ce.so ce.nb (.var y:E D (itmsTy ce.so.items))):=by
 refine ⟨fun b hb=>?_,fun b b' hb hb' h=>?_,fun p hp=>?_,fun hA=>?_,by omega,fun b hb=>?_⟩
 rotate_left 3
 ·rw [exiB hs,noA_isA (look_noA (injH_noA _ _ hs.nao) 0)] at hA;cases hA
 ·have hk:=exiK hs hb;unfold tauE;split
  ·rename_i c;exact h0.ge.2 b (hl b (hs.old b hk c).1).1
  ·omega
 ·have hk:=exiK hs hb;have:=hs.lt b hk;unfold tauE;split
  ·rename_i c;have:=(hl b (hs.old b hk c).1).2;omega
  ·omega
 ·have hk:=exiK hs hb;have hk':=exiK hs hb';unfold tauE at h;split at h
  ·rename_i c;have i1:=(hs.old b hk c).1;have:=(hl b i1).2;split at h
   ·rename_i c';exact h0.inj b b' (hl b i1).1 (hl b' (hs.old b' hk' c').1).1 h
   ·omega
  ·split at h
   ·rename_i c';have:=(hl b' (hs.old b' hk' c').1).2;omega
   ·omega
 ·have hp:p ∈ injH ce.so.items (.var y:E D (itmsTy ce.so.items))++(keepH (baseE ce.si ce.nb) ce.so.keepB++[]):=hp;rw [hs.k4] at hp;have hp:p ∈ injH ce.so.items (.var y:E D (itmsTy ce.so.items))++[]:=hp;rw [List.append_nil] at hp;exact ⟨hs.lt p.1 (by rw [←keyB ce.so.items (.var y:E D (itmsTy ce.so.items))];exact List.mem_map.2 ⟨p,hp,rfl⟩),injH_live _ _ p hp⟩
theorem same_num (hs:SigP ce.si ce.so ce.nb) (hd:detOk ce.si ce.so ce.nb=true) {m0 m1:Nat→Nat} {nx':Nat} (k4:FrOk m1 (exi ce.si ce.so ce.nb (.var y:E D (itmsTy ce.so.items))).blk [refsI ce.si.items] [fun d=>look .any ((ent ce.si ce.nb (.var e.den:E D (itmsTy ce.si.items))).enc m0 nx').regs d]) :
  ∀ b ∈ itemB ce.so.items,b<ce.nb→m1 b=m0 b:=by
 intro b hb hbn;obtain ⟨hbi,hkk⟩:=hs.old b hb hbn;have hl:=k4.les 0 _ _ rfl rfl b;rw [enc_get] at hl;have hg:(ent ce.si ce.nb (.var e.den:E D (itmsTy ce.si.items))).get b=look .any (refsI ce.si.items) b:=rfl;rw [hg] at hl;unfold detOk at hd;rw [Bool.and_eq_true] at hd;have hdb:=List.all_eq_true.1 hd.1 b hb;rw [show Nat.blt b ce.nb=true by simpa using hbn] at hdb;rcases itemK_some ce.si.items (.var e.den:E D (itmsTy ce.si.items)) b hs.nai hbi with ⟨i1,cs,ty,i2⟩ | ⟨i1,fr,t,xs,ty,i2⟩
 ·rw [(refsI_look ce.si.items b).1 i1,SV.enc,SV.enc] at hl;have b1:isBox (ent ce.si ce.nb (.var e.den:E D (itmsTy ce.si.items))).blk b=true:=by unfold isBox;rw [ent_blk,i2]
  have b2:isBox (exi ce.si ce.so ce.nb (.var y:E D (itmsTy ce.so.items))).blk b=true:=by
   unfold isBox;rw [exiB hs];rcases itemK_some ce.so.items (.var y:E D (itmsTy ce.so.items)) b hs.nao hb with ⟨_,cs,ty,h⟩ | ⟨h,_⟩
   ·rw [h]
   ·rw [←hkk,i1] at h;cases h
  rw [b1,b2] at hl;exact les_box_inj hl
 ·have hv:verI ce.so.items b=verI ce.si.items b:=by
   rw [←hkk,i1] at hdb;have hdb:(false||(false||Nat.beq (verI ce.so.items b) (verI ce.si.items b)))=true:=hdb;simp only [Bool.false_or] at hdb;exact Nat.eq_of_beq_eq_true hdb
  rw [(refsI_look ce.si.items b).2 i1,SV.enc,SV.enc] at hl;have b1:rowLen (ent ce.si ce.nb (.var e.den:E D (itmsTy ce.si.items))).blk b (verI ce.si.items b)=some (List.length xs.den):=by unfold rowLen;rw [ent_blk,i2];simp
  obtain ⟨fr',t',xs',ty',hx⟩:∃ fr t xs ty,(exi ce.si ce.so ce.nb (.var y:E D (itmsTy ce.so.items))).blk b=.row fr t xs ty (verI ce.so.items b):=by
   rw [exiB hs];rcases itemK_some ce.so.items (.var y:E D (itmsTy ce.so.items)) b hs.nao hb with ⟨h,_⟩ | ⟨_,h⟩
   ·rw [←hkk,i1] at h;cases h
   ·exact h
  have b2:rowLen (exi ce.si ce.so ce.nb (.var y:E D (itmsTy ce.so.items))).blk b (verI ce.si.items b)=some (List.length xs'.den):=by unfold rowLen;rw [hx,hv];simp
  rw [b1,b2] at hl;exact (les_osl_inj hl).1
theorem tau_fr (hs:SigP ce.si ce.so ce.nb) (hd:detOk ce.si ce.so ce.nb=true) (hlen:LenOk ce.si ce.so ce.nb e.den y) {m0:Nat→Nat} {nx':Nat}:FrOk (tauE ce.nb m0 kk) (exi ce.si ce.so ce.nb (.var y:E D (itmsTy ce.so.items))).blk [refsI ce.si.items] [fun d=>look .any ((ent ce.si ce.nb (.var e.den:E D (itmsTy ce.si.items))).enc m0 nx').regs d]:=by
 refine ⟨rfl,fun i l f h1 h2 d=>?_⟩
 cases i with
 | succ i=>simp at h1
 | zero =>
  simp only [List.getElem?_cons_zero,Option.some.injEq] at h1 h2;subst h1;subst h2
  show Les _ (look AV.any ((ent ce.si ce.nb (.var e.den:E D (itmsTy ce.si.items))).enc m0 nx').regs d);rw [enc_get];have hg:(ent ce.si ce.nb (.var e.den:E D (itmsTy ce.si.items))).get d=look .any (refsI ce.si.items) d:=rfl;rw [hg];by_cases hdi:d ∈ itemB ce.si.items
  ·have hb:=hs.sub d hdi;have hbn:=hs.lti d hdi;obtain ⟨_,hkk⟩:=hs.old d hb hbn;have ht:tauE ce.nb m0 kk d=m0 d:=if_pos hbn;unfold detOk at hd;rw [Bool.and_eq_true] at hd;have hdb:=List.all_eq_true.1 hd.1 d hb;rw [show Nat.blt d ce.nb=true by simpa using hbn] at hdb;rcases itemK_some ce.si.items (.var e.den:E D (itmsTy ce.si.items)) d hs.nai hdi with ⟨i1,cs,ty,i2⟩ | ⟨i1,fr,t,xs,ty,i2⟩
   ·rw [(refsI_look ce.si.items d).1 i1,SV.enc,SV.enc];have b1:isBox (ent ce.si ce.nb (.var e.den:E D (itmsTy ce.si.items))).blk d=true:=by unfold isBox;rw [ent_blk,i2]
    rw [b1,ht]
    cases isBox (exi ce.si ce.so ce.nb (.var y:E D (itmsTy ce.so.items))).blk d with
    | true=>exact .refl _
    | false=>exact .any _
   ·have hv:verI ce.so.items d=verI ce.si.items d:=by
     rw [←hkk,i1] at hdb;have hdb:(false||(false||Nat.beq (verI ce.so.items d) (verI ce.si.items d)))=true:=hdb;simp only [Bool.false_or] at hdb;exact Nat.eq_of_beq_eq_true hdb
    rw [(refsI_look ce.si.items d).2 i1,SV.enc,SV.enc];have hl:=hlen d hb hbn (by rw [←hkk];exact i1) hv;rw [hv] at hl;rw [hl,ht];exact .refl _
  ·have hnone:look (SV.any:SV D) (refsI ce.si.items) d=.any:=by
    refine look_none fun hm=>hdi ?_
    have:∀ (l:List Itm),d ∈ (refsI l:List (Nat×SV D)).map (·.1)→d ∈ itemB l:=by
     intro l
     induction l with
     | nil=>intro h;exact h
     | cons a l ih =>
      cases a with
      | reg d s=>exact ih
      | box b ks e =>
       intro h;rcases List.mem_cons.1 h with h | h
       ·exact List.mem_cons.2 (.inl h)
       ·exact List.mem_cons.2 (.inr (ih h))
      | row b fr t e v =>
       intro h;rcases List.mem_cons.1 h with h | h
       ·exact List.mem_cons.2 (.inl h)
       ·exact List.mem_cons.2 (.inr (ih h))
      | arn t e=>exact fun h=>List.mem_cons.2 (.inr (ih h))
    exact this _ hm
   rw [hnone,SV.enc,SV.enc];exact .refl _
end
def pE (si:Sig) (m0:Nat→Nat) (id:Nat):Bool:=(itemB si.items).any fun b=>Nat.beq (m0 b) id
theorem pE_iff {si:Sig} {m0:Nat→Nat} {id:Nat}:pE si m0 id=true↔∃ b ∈ itemB si.items,m0 b=id:=by
 show ((itemB si.items).any fun b=>Nat.beq (m0 b) id)=true↔_;rw [List.any_eq_true];exact ⟨fun ⟨b,h1,h2⟩=>⟨b,h1,Nat.eq_of_beq_eq_true h2⟩,fun ⟨b,h1,h2⟩=>⟨b,h1,by rw [h2];exact Nat.beq_refl _⟩⟩
theorem sb_nmd {m:Nat→Nat} {H:Nat→SB D} {q:Nat→Bool} (hB:∀ id,isBox H id=true→q (m id)=true) (hR:∀ id v n,rowLen H id v=some n→q (m id)=true) (B:SB D) (hA:B.noA=true):(B.enc m H).nmd q=true:=by
 cases B with
 | dead=>rfl
 | arn=>cases hA
 | box cs ty=>exact encL_nmd (pB:=fun _=>true) (pR:=fun _ _=>true) (fun id _ h=>hB id h) (fun id v n _ h=>hR id v n h) cs (svL_refs_all cs) (.inl hA)
 | row fr t xs ty v =>
  refine List.all_eq_true.2 fun row hr=>?_
  obtain ⟨x,_,rfl⟩:=List.mem_map.1 hr
  exact nmd_all fun i a hi=>by
   have:=t.cells_isD fr x hA a (List.mem_of_getElem? hi)
   cases a <;> first | rfl | (cases this;done)
theorem sb_rn {m1 τ:Nat→Nat} {H:Nat→SB D} {f:Nat→Nat} (hB:∀ id,isBox H id=true→f (m1 id)=τ id) (hR:∀ id v n,rowLen H id v=some n→f (m1 id)=τ id) (B:SB D) (hA:B.noA=true):(B.enc m1 H).rn f=B.enc τ H:=by
 cases B with
 | dead=>rfl
 | arn=>cases hA
 | box cs ty=>rw [SB.enc,SB.enc,AB.rn,encL_rn hB hR cs hA]
 | row fr t xs ty v =>
  rw [SB.enc,SB.enc,AB.rn,List.map_map];congr 1;refine List.map_congr_left fun x _=>?_
  show AV.rnL f (Ty.cells fr t x)=_;rw [rnL_map];have:∀ a ∈ Ty.cells fr t x,AV.rn f a=a:=fun a ha=>rn_isD f (t.cells_isD fr x hA a ha)
  conv=>rhs;rw [←List.map_id (Ty.cells fr t x)]
  exact List.map_congr_left this
section
variable {P:Program} {F:FuncId} {ce:CtrE} {st:SSt D} {m:Nat→Nat} {NX kk:Nat} {vs:List (SV D)} {mp:List (Nat×Nat)} {e:E D (itmsTy ce.si.items)} {y:(itmsTy ce.so.items).den} {fu:Nat}
theorem callS_ok (hge:bigA≤kk) (hce:CtrEOk P F ce) (hd:detOk ce.si ce.so ce.nb=true) (hs:SigP ce.si ce.so ce.nb) (hE:EntR ce st m NX vs mp e) (hkk:∀ b ∈ itemB ce.si.items,mM m mp b<kk) (hK:kk+ce.so.ex≤NX) (hy:ce.f fu e.den=some y)
  {w0 w:World} {G:Gh} {args:Array Value} (hHR:HR w0 w G (st.enc m NX).heap) (hnx:G.nx=NX) (ha:ArgsV w G (SV.encL m st.blk vs) args) :
  Calls P F args w fun en w'=>∃ v G',en=.returned v∧OutS (fun id=>pE ce.si (mM m mp) id||newQ kk (kk+ce.so.ex) id) kk (kk+ce.so.ex) w0 w G ((exi ce.si ce.so ce.nb (.var y:E D (itmsTy ce.so.items))).enc (tauE ce.nb (mM m mp) kk) (kk+ce.so.ex)).heap w' G'∧G'.nx=NX ∧
   RelV w' G' ((look SV.any (statR ce.so.stat++injR ce.so.items (.var y:E D (itmsTy ce.so.items))) 0).enc (tauE ce.nb (mM m mp) kk) (exi ce.si ce.so ce.nb (.var y:E D (itmsTy ce.so.items))).blk) v:=by
 have hm0:MOk (mM m mp) kk (ent ce.si ce.nb (.var e.den:E D (itmsTy ce.si.items))):=⟨fun b hb=>hkk b (hE.dead b hb),hE.mok.inj,hE.mok.keys,hE.mok.ar',hge,hE.mok.ge.2⟩
 have hent:∀ b,((ent ce.si ce.nb (.var e.den:E D (itmsTy ce.si.items))).blk b).noA=true:=fun b=>by
  rw [ent_blk];exact look_noA (injH_noA _ _ hs.nai) b
 have hcon:=(hce.2 fu e.den y hy).2 (mM m mp) kk hm0;have hB0:∀ id,isBox (ent ce.si ce.nb (.var e.den:E D (itmsTy ce.si.items))).blk id=true→pE ce.si (mM m mp) (mM m mp id)=true:=fun id h=>pE_iff.2 ⟨id,hE.dead id (fun h'=>by unfold isBox at h;rw [h'] at h;cases h),rfl⟩
 have hR0:∀ id v n,rowLen (ent ce.si ce.nb (.var e.den:E D (itmsTy ce.si.items))).blk id v=some n→pE ce.si (mM m mp) (mM m mp id)=true:=fun id v n h=>pE_iff.2 ⟨id,hE.dead id (fun h'=>by unfold rowLen at h;rw [h'] at h;cases h),rfl⟩
 have hk:∀ id,pE ce.si (mM m mp) id=true→id<kk:=fun id h=>by
  obtain ⟨b,h1,rfl⟩:=pE_iff.1 h;exact hkk b h1
 have hcut:=cutF_hr (p:=pE ce.si (mM m mp)) (k:=kk) (hp2:=((ent ce.si ce.nb (.var e.den:E D (itmsTy ce.si.items))).enc (mM m mp) kk).heap) hHR hk (fun id=>by
  rcases heap_cases hm0 id with h | ⟨b,hb,rfl⟩ | ⟨h1,_,_⟩
  ·exact .inl h
  rotate_left
  ·rw [noA_isA (hent 0)] at h1;cases h1
  ·refine .inr ⟨pE_iff.2 ⟨b,hE.dead b hb,rfl⟩,hE.heap _,?_⟩;rw [enc_blk hm0 hb]
   exact sb_nmd hB0 hR0 _ (hent b))
 have hargs:ArgsV w (cutF G (pE ce.si (mM m mp)) kk) (SV.encL (mM m mp) (ent ce.si ce.nb (.var e.den:E D (itmsTy ce.si.items))).blk (argsI ce.si ce.na (.var e.den))) args:=by
  refine ⟨by rw [ha.size,hE.args.len],fun i x v g1 g2=>?_⟩;have hi:i<(SV.encL m st.blk vs).length:=by rw [←hE.args.len];exact (List.getElem?_eq_some_iff.1 g1).1
  have hr:=(hE.args.at' i x _ g1 (List.getElem?_eq_getElem hi)).rel (ha.rel i _ v (List.getElem?_eq_getElem hi) g2);refine hr.mv (cutF_mv hk) ?_;rw [encL_map,List.getElem?_map] at g1;obtain ⟨z,hz,rfl⟩:=Option.map_eq_some_iff.1 g1
  have hzA:z.noA=true:=by
   unfold argsI at hz;rw [List.getElem?_map] at hz;obtain ⟨i,_,rfl⟩:=Option.map_eq_some_iff.1 hz;exact lookV_noA (fun p hp=>(List.mem_append.1 hp).elim (statR_noA hs.nsi p) (injR_noA _ _ hs.nai p)) i
  exact enc_nmd (pB:=fun _=>true) (pR:=fun _ _=>true) (fun id _ h=>hB0 id h) (fun id v n _ h=>hR0 id v n h) z (sv_refs_all z) (.inl hzA)
 refine (hcon w0 w (cutF G (pE ce.si (mM m mp)) kk) args hcut rfl hargs).mono ?_
 rintro en w' ⟨v,a,hp2,k2,G1,he,⟨m1,k1,e2,e3,k4⟩,hn,h1,hv,hx⟩
 subst e2;subst e3
 have hnum:=same_num hs hd k4;have hyA:(look SV.any (statR ce.so.stat++injR ce.so.items (.var y:E D (itmsTy ce.so.items))) 0).noA=true:=lookV_noA (fun p hp=>(List.mem_append.1 hp).elim (statR_noA hs.nso p) (injR_noA _ _ hs.nao p)) 0;generalize hX:(exi ce.si ce.so ce.nb (.var y:E D (itmsTy ce.so.items)))=X at k1 k4 h1 hv ⊢;have hXn:∀ b,(X.blk b).noA=true:=fun b=>by rw [←hX,exiB hs];exact look_noA (injH_noA _ _ hs.nao) b
 have hXk:∀ b,X.blk b≠.dead→b ∈ itemB ce.so.items:=fun b h=>by rw [←hX] at h;exact exiK hs h
 have hXl:∀ b ∈ itemB ce.so.items,X.blk b≠.dead:=fun b h=>by rw [←hX];exact exiL hs h
 let nm:Nat→Bool:=fun j=>(itemB ce.so.items).any fun b=>Nat.beq (m1 b) j
 have hnmI:∀ j,nm j=true↔∃ b ∈ itemB ce.so.items,m1 b=j:=fun j=>by
  show ((itemB ce.so.items).any fun b=>Nat.beq (m1 b) j)=true↔_;rw [List.any_eq_true];exact ⟨fun ⟨b,h1,h2⟩=>⟨b,h1,Nat.eq_of_beq_eq_true h2⟩,fun ⟨b,h1,h2⟩=>⟨b,h1,by rw [h2];exact Nat.beq_refl _⟩⟩
 let f:Nat→Nat:=fun j=>match (itemB ce.so.items).find? (fun b=>Nat.beq (m1 b) j) with | some b=>tauE ce.nb (mM m mp) kk b | none=>j
 have hf:∀ b ∈ itemB ce.so.items,f (m1 b)=tauE ce.nb (mM m mp) kk b:=by
  intro b hb;show (match (itemB ce.so.items).find? (fun b'=>Nat.beq (m1 b') (m1 b)) with | some b=>tauE ce.nb (mM m mp) kk b | none=>m1 b)=_
  cases hfd:(itemB ce.so.items).find? (fun b'=>Nat.beq (m1 b') (m1 b)) with
  | none =>
   have:=List.find?_eq_none.1 hfd b hb;rw [Nat.beq_refl] at this;exact absurd rfl this
  | some b' =>
   have g1:=List.mem_of_find?_eq_some hfd;have g2:=List.find?_some hfd;have:=k1.inj b' b (hXl b' g1) (hXl b hb) (Nat.eq_of_beq_eq_true g2);subst this;rfl
 let σ:Nat→Nat:=fun id=>if kk≤id then m1 (ce.nb+(id-kk)) else id
 have hex:∀ j,j<ce.so.ex→ce.nb+j ∈ itemB ce.so.items:=fun j hj=>by
  unfold detOk at hd;rw [Bool.and_eq_true] at hd;exact hasN_mem (List.all_eq_true.1 hd.2 j (List.mem_range.2 hj))
 have hστ:∀ b ∈ itemB ce.so.items,σ (tauE ce.nb (mM m mp) kk b)=m1 b:=by
  intro b hb;unfold tauE;split
  ·rename_i c;have:=hkk b (hs.old b hb c).1;show (if kk≤mM m mp b then _ else _)=_;rw [if_neg (by omega),hnum b hb c]
  ·rename_i c;show (if kk≤kk+(b-ce.nb) then _ else _)=_;rw [if_pos (by omega),show ce.nb+(kk+(b-ce.nb)-kk)=b by omega]
 have hnotp:∀ b ∈ itemB ce.so.items,¬ b<ce.nb→kk≤m1 b∧m1 b<k2:=by
  intro b hb c;have hlt:=k1.lt b (hXl b hb);refine ⟨?_,hlt⟩;rcases Nat.lt_or_ge (m1 b) kk with h | h
  ·exfalso
   have hq0:orQ (pE ce.si (mM m mp)) kk k2 (m1 b)=false:=by
    rw [Bool.eq_false_iff];intro hq;rcases orQ_iff.1 hq with hq | hq
    ·obtain ⟨b',g1,g2⟩:=pE_iff.1 hq;have g3:=hs.sub b' g1;have g4:=hs.lti b' g1;have:=k1.inj b' b (hXl b' g3) (hXl b hb) (by rw [hnum b' g3 g4];exact g2);subst this;exact c g4
    ·omega
   obtain ⟨r0,s0⟩:=cutF_out (k2:=k2) hx hlt hq0;have hbk:=h1.blk (m1 b);rw [enc_blk k1 (hXl b hb)] at hbk;have:=hXl b hb
   cases hxx:X.blk b with
   | dead=>exact this hxx
   | box cs ty =>
    rw [hxx] at hbk;obtain ⟨_,_,g,us,b3,_⟩:=hbk;rw [r0] at b3;simp [undef] at b3
   | row fr t xs ty v =>
    rw [hxx] at hbk;obtain ⟨_,b2,b3,_⟩:=hbk;rw [s0] at b3;omega
   | arn=>have:=hXn b;rw [hxx] at this;cases this
  ·exact h
 have hq:∀ id,(pE ce.si (mM m mp) id||newQ kk (kk+ce.so.ex) id)=true↔pE ce.si (mM m mp) id=true∨(kk≤id∧id<kk+ce.so.ex):=fun id=>by rw [Bool.or_eq_true,newQ_iff]
 have hqτ:∀ b ∈ itemB ce.so.items,(pE ce.si (mM m mp) (tauE ce.nb (mM m mp) kk b)||newQ kk (kk+ce.so.ex) (tauE ce.nb (mM m mp) kk b))=true:=by
  intro b hb;rw [hq];unfold tauE;have:=hs.lt b hb;split
  ·rename_i c;exact .inl (pE_iff.2 ⟨b,(hs.old b hb c).1,rfl⟩)
  ·exact .inr (by omega)
 have hτ:∀ id,(pE ce.si (mM m mp) id||newQ kk (kk+ce.so.ex) id)=true→∃ b ∈ itemB ce.so.items,tauE ce.nb (mM m mp) kk b=id:=by
  intro id h;rcases (hq id).1 h with h | h
  ·obtain ⟨b,g1,g2⟩:=pE_iff.1 h;exact ⟨b,hs.sub b g1,by unfold tauE;rw [if_pos (hs.lti b g1)];exact g2⟩
  ·exact ⟨ce.nb+(id-kk),hex _ (by omega),by unfold tauE;rw [if_neg (by omega)];omega⟩
 have hBX:∀ id,isBox X.blk id=true→id ∈ itemB ce.so.items:=fun id h=>hXk id (fun h'=>by unfold isBox at h;rw [h'] at h;cases h)
 have hRX:∀ id v n,rowLen X.blk id v=some n→id ∈ itemB ce.so.items:=fun id v n h=>hXk id (fun h'=>by unfold rowLen at h;rw [h'] at h;cases h)
 have hnm:∀ j,nm j=true→(pE ce.si (mM m mp) (f j)||newQ kk (kk+ce.so.ex) (f j))=true∧σ (f j)=j:=fun j hj=>by
  obtain ⟨b,g1,rfl⟩:=(hnmI j).1 hj;rw [hf b g1];exact ⟨hqτ b g1,hστ b g1⟩
 have hmτ:MOk (tauE ce.nb (mM m mp) kk) (kk+ce.so.ex) X:=by
  rw [←hX];exact tau_mok (e:=e) hge hs hm0 (fun b hb=>⟨(hE.live b hb).1,hkk b hb⟩)
 have hgn:(cutF G (pE ce.si (mM m mp)) kk).nx=kk:=rfl
 have out:=joinS_out (q:=fun id=>pE ce.si (mM m mp) id||newQ kk (kk+ce.so.ex) id) (σ:=σ) (f:=f) (nm:=nm) (K2:=kk+ce.so.ex) (NX:=NX) (hpS:=(X.enc (tauE ce.nb (mM m mp) kk) (kk+ce.so.ex)).heap) hHR hk hq (by omega) (Nat.le_add_right _ _) hK (fun id c1 c2=>by omega) h1 hx hn
  (fun id h=>by
   have:=hk id h;show (if kk≤id then _ else id)=id
   rw [if_neg (by omega)])
  (fun id c1 c2=>by
   show kk≤(if kk≤id then m1 (ce.nb+(id-kk)) else id)∧(if kk≤id then m1 (ce.nb+(id-kk)) else id)<k2;rw [if_pos c1]
   exact hnotp _ (hex _ (by omega)) (by omega))
  (fun id id' c1 c2 h=>by
   obtain ⟨b,g1,rfl⟩:=hτ id c1;obtain ⟨b',g2,rfl⟩:=hτ id' c2;rw [hστ b g1,hστ b' g2] at h
   rw [k1.inj b b' (hXl b g1) (hXl b' g2) h]) hnm
  (fun id=>by
   rcases heap_cases hmτ id with h | ⟨b,hb,rfl⟩ | ⟨h1,_,_⟩
   ·exact .inl h
   rotate_left
   ·rw [noA_isA (hXn 0)] at h1;cases h1
   ·have hbk:=hXk b hb;rw [hστ b hbk,hf b hbk,enc_blk hmτ hb,enc_blk k1 hb]
    refine .inr ⟨(hnmI _).2 ⟨b,hbk,rfl⟩,rfl,sb_nmd (fun id h=>(hnmI _).2 ⟨id,hBX id h,rfl⟩) (fun id v n h=>(hnmI _).2 ⟨id,hRX id v n h,rfl⟩) _ (hXn b),(sb_rn (fun id h=>hf id (hBX id h)) (fun id v n h=>hf id (hRX id v n h)) _ (hXn b)).symm⟩)
 refine ⟨v,_,he,out,rfl,?_⟩;rw [←enc_rn (f:=f) (m1:=m1) (fun id h=>hf id (hBX id h)) (fun id v n h=>hf id (hRX id v n h)) _ hyA];refine liftS (nm:=nm) (show G.bs=G1.bs from hx.bs.symm) (fun j hj=>?_) hv ?_
 ·obtain ⟨a1,a2⟩:=hnm j hj;refine ⟨a1,a2,?_⟩;rcases (hq _).1 a1 with h | h
  ·have:=hk _ h;omega
  ·omega
 ·exact enc_nmd (pB:=fun _=>true) (pR:=fun _ _=>true) (fun id _ h=>(hnmI _).2 ⟨id,hBX id h,rfl⟩) (fun id v n _ h=>(hnmI _).2 ⟨id,hRX id v n h,rfl⟩) _ (sv_refs_all _) (.inl hyA)
end
end Go.Proofs.Ytljebnobajmjnaa
/- Regions that draw their order: reads,calls,new blocks,writes,in any order that the edges allow;each operation sees what it would see in the order of the text. No program in sight. -/
namespace Go.Proofs.Ytljebnobajmjnaa.Dr
open Go Go.RowKit Go.Proofs.Ytljebnobajmjnaa

def okW (T:List (List Nat)) (W:List (Nat×Nat)) (i id:Nat):Bool:=W.all fun p=>bif Nat.beq p.2 id then (bif Nat.blt p.1 i then hasN (T.getD i []) p.1 else bif Nat.blt i p.1 then hasN (T.getD p.1 []) i else true) else true
def visW (T:List (List Nat)) (W:List (Nat×Nat)) (nx0 i:Nat) (cr:List (Nat×Nat)) (id:Nat):Bool:=vis T nx0 i cr id&&okW T W i id
def noW (W:List (Nat×Nat)) (i:Nat):Bool:=W.all fun p=>!Nat.beq p.1 i
def newW (T:List (List Nat)) (W:List (Nat×Nat)) (i nx:Nat):Bool:=W.all fun p=>bif Nat.beq p.2 nx then Nat.blt i p.1&&hasN (T.getD p.1 []) i else true
def onlyW (W:List (Nat×Nat)) (i id:Nat):Bool:=W.all fun p=>bif Nat.beq p.1 i then Nat.beq p.2 id else true
structure PlanR (l:List Oper) (n i:Nat) (o:Oper):Prop where
 after:∀ e ∈ o.after,Region.binds .any e=true→e.on<i
 one:∀ j p d,l[j]?=some p→p.dst=some d→i≠j→o.dst≠some d
 look:∀ j p d,l[j]?=some p→p.dst=some d→d ∈ o.looksAt l.toArray→(j<i∧Reach l i j)∨(i<j∧Reach l j i)
def planR (l:List Oper) (T:List (List Nat)):Bool :=
 (List.range l.length).all fun i =>
  match l[i]? with
  | none=>false
  | some o =>
   (o.after.toList.all fun e=>!Region.binds .any e||Nat.blt e.on i) &&
   (List.range l.length).all fun j =>
    match l[j]? with
    | none=>false
    | some p =>
     match p.dst with
     | none=>true
     | some d=>(Nat.beq i j||!(match o.dst with | some d'=>Nat.beq d' d | none=>false))&&(!(hasN (o.looksAt l.toArray) d)||(bif Nat.blt j i then hasN (T.getD i []) j else Nat.blt i j&&hasN (T.getD j []) i))
theorem reachT {l:List Oper} {T:List (List Nat)} (hT:AncOk l T) {i j:Nat} (h:hasN (T.getD i []) j=true):Reach l i j:=by
 have hmem:=hasN_mem h
 cases hTi:T[i]? with
 | none=>rw [List.getD_eq_getElem?_getD,hTi] at hmem;simp at hmem
 | some A=>rw [List.getD_eq_getElem?_getD,hTi] at hmem;exact hT i A hTi _ hmem
theorem hasN_of' {l:List Nat} {i:Nat} (h:i ∈ l):hasN l i=true:=by
 induction l with
 | nil=>cases h
 | cons a l ih =>
  rw [hasN];rcases List.mem_cons.1 h with rfl | h
  ·rw [Nat.beq_refl];rfl
  ·rw [ih h];cases Nat.beq a i <;> rfl
theorem planR_at {l:List Oper} {T:List (List Nat)} (n:Nat) (hT:AncOk l T) (h:planR l T=true):∀ i o,l[i]?=some o→PlanR l n i o:=by
 intro i o ho;have hi:i<l.length:=(List.getElem?_eq_some_iff.1 ho).1;have h2:=List.all_eq_true.1 h i (List.mem_range.2 hi);simp only [ho,Bool.and_eq_true] at h2;obtain ⟨h3,h4⟩:=h2
 have h5:∀ j p d,l[j]?=some p→p.dst=some d→(Nat.beq i j||!(match o.dst with | some d'=>Nat.beq d' d | none=>false))=true∧(!(hasN (o.looksAt l.toArray) d)||(bif Nat.blt j i then hasN (T.getD i []) j else Nat.blt i j&&hasN (T.getD j []) i))=true:=by
  intro j p d hp hd;have hj:j<l.length:=(List.getElem?_eq_some_iff.1 hp).1;have:=List.all_eq_true.1 h4 j (List.mem_range.2 hj);simp only [hp,hd,Bool.and_eq_true] at this;exact this
 refine ⟨fun e he hb=>?_,fun j p d hp hd hne he=>?_,fun j p d hp hd hl=>?_⟩
 ·have:=List.all_eq_true.1 h3 e (by simpa using he);rw [hb] at this;have this:Nat.blt e.on i=true:=this;exact Nat.le_of_ble_eq_true this
 ·have:=(h5 j p d hp hd).1;rw [he] at this;simp only [Nat.beq_refl,Bool.not_true,Bool.or_false] at this;exact hne (Nat.eq_of_beq_eq_true this)
 ·have:=(h5 j p d hp hd).2;rw [hasN_of' hl] at this;have this:(bif Nat.blt j i then hasN (T.getD i []) j else Nat.blt i j&&hasN (T.getD j []) i)=true:=this
  cases hji:Nat.blt j i with
  | true =>
   rw [hji] at this;exact .inl ⟨Nat.le_of_ble_eq_true hji,reachT hT this⟩
  | false =>
   rw [hji] at this;have this:(Nat.blt i j&&hasN (T.getD j []) i)=true:=this;rw [Bool.and_eq_true] at this;exact .inr ⟨Nat.le_of_ble_eq_true this.1,reachT hT this.2⟩
def lregs (ops:Array Oper) (st:ASt) (o:Oper):List (Nat×AV):=(o.looksAt ops).map (fun t=>(t,look .any st.regs t))
def lcl (ops:Array Oper) (T:List (List Nat)) (W:List (Nat×Nat)) (nx0 i:Nat) (cr:List (Nat×Nat)) (st:ASt) (o:Oper) (k:Nat):ASt:=⟨lregs ops st o,st.heap.filter (fun p=>visW T W nx0 i cr p.1),k⟩
structure OpWr (P:Program) (n:Nat) (o:Oper) (s:ASt) (id:Nat) (b:AB) (x:AV):Prop where
 dst:dok o.dst n=true
 out:∀ K a w G,RelG K n s a w G→∃ v w' G',((execOp a.eval o).run P w=.ok (.value v) w'∨((execOp a.eval o).run P w=.ok .skip w'∧v=undef))∧HR K.w0 w' G' ((id,b)::s.heap)∧Ext w G w' G'∧G'.nx=G.nx∧(∀ j,j≠id→G'.ρ j=G.ρ j∧G'.ln j=G.ln j∧(j<G.nx→∀ g,ownBlk (G.ρ j)=some g→w'.heap[g]?=w.heap[g]?))∧RelV w' G' x v
def onL (L:List Nat) (f:Nat→AB) (hp:List (Nat×AB)):List (Nat×AB):=L.map (fun j=>(j,f j))++hp
theorem onL_in {L:List Nat} {f:Nat→AB} {hp:List (Nat×AB)} {j:Nat} (hj:j ∈ L):look .dead (onL L f hp) j=f j:=by
 unfold onL;rw [look_append]
 induction L with
 | nil=>cases hj
 | cons c L ih =>
  rw [List.map_cons,look_cons];by_cases e:c=j
  ·subst e;rw [if_pos rfl]
  ·rw [if_neg e];exact ih ((List.mem_cons.1 hj).resolve_left fun e'=>e e'.symm)
theorem onL_out {L:List Nat} {f:Nat→AB} {hp:List (Nat×AB)} {j:Nat} (hj:j ∉ L):look .dead (onL L f hp) j=look .dead hp j:=by
 unfold onL;rw [look_append]
 induction L with
 | nil=>rfl
 | cons c L ih =>
  rw [List.map_cons,look_cons,if_neg (fun e=>hj (by simp [e]))];exact ih fun h=>hj (List.mem_cons_of_mem _ h)
def news (k k2:Nat):List Nat:=List.range' k (k2-k)
theorem news_mem {k k2 id:Nat}:id ∈ news k k2↔k≤id∧id<k2:=by
 unfold news;rw [List.mem_range'_1];omega
def lvD (S:Nat→ASt) (m nx0:Nat) (d:Nat→Bool) (id:Nat):Bool:=Nat.blt id nx0||(List.range m).any fun j=>d j&&(Nat.ble (S j).nx id&&Nat.blt id (S (j+1)).nx)
theorem lvD_iff {S:Nat→ASt} {m nx0:Nat} {d:Nat→Bool} {id:Nat}:lvD S m nx0 d id=true↔id<nx0∨∃ j,j<m∧d j=true∧(S j).nx≤id∧id<(S (j+1)).nx:=by
 unfold lvD;rw [Bool.or_eq_true,List.any_eq_true];constructor
 ·rintro (h | ⟨j,h1,h2⟩)
  ·exact .inl (by simpa using h)
  ·simp only [Bool.and_eq_true] at h2;exact .inr ⟨j,List.mem_range.1 h1,h2.1,by simpa using h2.2.1,by simpa using h2.2.2⟩
 ·rintro (h | ⟨j,h1,h2,h3,h4⟩)
  ·exact .inl (by simpa using h)
  ·refine .inr ⟨j,List.mem_range.2 h1,?_⟩;simp [h2,h3,h4]
structure OpS (P:Program) (n:Nat) (o:Oper) (s:ASt) (p:Nat→Bool) (kk K2:Nat) (hpS:List (Nat×AB)) (x:AV):Prop where
 dst:dok o.dst n=true
 out:∀ K a w G,RelG K n s a w G→∃ F args,(execOp a.eval o).run P w=.ok (.enter F args) w∧Calls P F args w fun e w'=>∃ v G',e=.returned v∧OutS (orQ p kk K2) kk K2 K.w0 w G hpS w' G'∧G'.nx=G.nx∧RelV w' G' x v
inductive Loc (P:Program) (n:Nat) (ops:Array Oper) (T:List (List Nat)) (W:List (Nat×Nat)) (nx0 i:Nat) (cr:List (Nat×Nat)) (o:Oper) (st:ASt):ASt→List (Nat×Nat)→Prop
 | read {x:AV} (hW:noW W i=true) (hw:o.guard=none∨gst ops o (lcl ops T W nx0 i cr st o 0)=some true) (h:∀ k,nx0≤k→OpR P n o (lcl ops T W nx0 i cr st o k) x) (hn:x.nmd (vis T nx0 i cr)=true):Loc P n ops T W nx0 i cr o st (st.put o.dst x) cr
 | call {x:AV} (hW:noW W i=true) (hw:o.guard=none∨gst ops o (lcl ops T W nx0 i cr st o 0)=some true) (h:∀ k,nx0≤k→OpF P n o (lcl ops T W nx0 i cr st o k) x) (hn:x.nmd (vis T nx0 i cr)=true):Loc P n ops T W nx0 i cr o st (st.put o.dst x) cr
 | new {b:AB} (hW:noW W i=true) (hN:newW T W i st.nx=true) (hw:o.guard=none∨gst ops o (lcl ops T W nx0 i cr st o 0)=some true) (h:∀ k,nx0≤k→OpN P n o (lcl ops T W nx0 i cr st o k) b) (hn:b.nmd (vis T nx0 i cr)=true):Loc P n ops T W nx0 i cr o st ((st.hnew b).put o.dst (refB b st.nx)) ((i,st.nx)::cr)
 | skip (hW:noW W i=true) (hw:gst ops o (lcl ops T W nx0 i cr st o 0)=some false) (hd:dok o.dst n=true):Loc P n ops T W nx0 i cr o st (st.put o.dst .und) cr
 | write {id:Nat} {b:AB} {x:AV} (L:List Nat) (hL:∀ j ∈ L,visW T W nx0 i cr j=true∧(look .dead st.heap j).nmd (vis T nx0 i cr)=true) (hw:o.guard=none∨gst ops o (lcl ops T W nx0 i cr st o 0)=some true) (hv:visW T W nx0 i cr id=true) (hm:(i,id) ∈ W) (hu:onlyW W i id=true)
   (h:∀ hp k,nx0≤k→(∀ j ∈ L,look .dead hp j=look .dead st.heap j)→OpWr P n o ⟨lregs ops st o,hp,k⟩ id b x) (hb:b.nmd (vis T nx0 i cr)=true) (hn:x.nmd (vis T nx0 i cr)=true):Loc P n ops T W nx0 i cr o st ((st.hset id b).put o.dst x) cr
 | eff {x:AV} (L:List Nat) (K2:Nat) (hpS:List (Nat×AB)) (hw:o.guard=none∨gst ops o (lcl ops T W nx0 i cr st o 0)=some true) (h:∀ k,K2≤k→OpS P n o (lcl ops T W nx0 i cr st o k) (hasN L) st.nx K2 hpS x) (hd:dok o.dst n=true) (hn:st.nx≤K2) (hN:∀ id,st.nx≤id→id<K2→newW T W i id=true)
   (hv:∀ id ∈ L,id<st.nx∧visW T W nx0 i cr id=true) (hW:∀ id,(i,id) ∈ W↔id ∈ L) (hS:∀ id,look .dead hpS id=.dead∨(orQ (hasN L) st.nx K2 id=true∧(look .dead hpS id).nmd (orQ (hasN L) st.nx K2)=true)) (hx:x.nmd (orQ (hasN L) st.nx K2)=true) :
   Loc P n ops T W nx0 i cr o st ((⟨st.regs,onL (L++news st.nx K2) (look .dead hpS) st.heap,K2⟩:ASt).put o.dst x) ((news st.nx K2).map (fun id=>(i,id))++cr)
inductive AG (P:Program) (n:Nat) (ops:Array Oper) (T:List (List Nat)) (W:List (Nat×Nat)) (nx0:Nat) (Kt:ASt→Prop):Nat→List (Nat×Nat)→List Oper→ASt→Prop
 | nil {i:Nat} {cr:List (Nat×Nat)} {st:ASt} (h:Kt st):AG P n ops T W nx0 Kt i cr [] st
 | step {i:Nat} {cr cr':List (Nat×Nat)} {o:Oper} {l:List Oper} {st st':ASt} (h:Loc P n ops T W nx0 i cr o st st' cr') (k:AG P n ops T W nx0 Kt (i+1) cr' l st'):AG P n ops T W nx0 Kt i cr (o::l) st
 | le {i:Nat} {cr:List (Nat×Nat)} {l:List Oper} {st st':ASt} (h:LeS st' st) (k:AG P n ops T W nx0 Kt i cr l st'):AG P n ops T W nx0 Kt i cr l st
theorem AG.facts {P:Program} {n:Nat} {ops:Array Oper} {T:List (List Nat)} {W:List (Nat×Nat)} {nx0:Nat} {Kt:ASt→Prop} {i:Nat} {cr:List (Nat×Nat)} {l:List Oper} {st:ASt} (h:AG P n ops T W nx0 Kt i cr l st) :
  ∃ (S:Nat→ASt) (C:Nat→List (Nat×Nat)),LeS (S 0) st∧C 0=cr∧Kt (S l.length)∧∀ j o,l[j]?=some o→∃ s',Loc P n ops T W nx0 (i+j) (C j) o (S j) s' (C (j+1))∧LeS (S (j+1)) s':=by
 induction h with
 | @nil i cr st h=>exact ⟨fun _=>st,fun _=>cr,LeS.refl _,rfl,h,fun j o hj=>by simp at hj⟩
 | @step i cr cr' o l st st' h k ih =>
  obtain ⟨S,C,h1,h2,h3,h4⟩:=ih;refine ⟨fun j=>match j with | 0=>st | j+1=>S j,fun j=>match j with | 0=>cr | j+1=>C j,LeS.refl _,rfl,h3,fun j o' hj=>?_⟩
  cases j with
  | zero =>
   simp at hj;subst hj;exact ⟨st',by show Loc P n ops T W nx0 i cr o st st' (C 0);rw [h2];exact h,h1⟩
  | succ j =>
   obtain ⟨s',g1,g2⟩:=h4 j o' (by simpa using hj);exact ⟨s',by rw [show i+(j+1)=i+1+j by omega];exact g1,g2⟩
 | @le i cr l st st' h k ih =>
  obtain ⟨S,C,h1,h2,h3,h4⟩:=ih;exact ⟨S,C,h1.trans h,h2,h3,h4⟩
section
variable {P:Program} {n:Nat} {ops:Array Oper} {T:List (List Nat)} {W:List (Nat×Nat)} {nx0 i:Nat} {cr cr':List (Nat×Nat)} {o:Oper} {st st':ASt}
theorem Loc.nx_le (h:Loc P n ops T W nx0 i cr o st st' cr'):st.nx≤st'.nx:=by
 cases h with
 | read=>rw [put_nx];exact Nat.le_refl _
 | call=>rw [put_nx];exact Nat.le_refl _
 | new=>rw [put_nx];exact Nat.le_succ _
 | skip=>rw [put_nx];exact Nat.le_refl _
 | write=>rw [put_nx];exact Nat.le_refl _
 | eff _ _ _ _ _ _ hn=>rw [put_nx];exact hn
theorem Loc.regs (h:Loc P n ops T W nx0 i cr o st st' cr') {t:Nat} (ht:o.dst≠some t):look .any st'.regs t=look .any st.regs t:=by
 cases h with
 | read=>exact put_regs _ _ _ _ ht
 | call=>exact put_regs _ _ _ _ ht
 | new=>rw [put_regs _ _ _ _ ht];rfl
 | skip=>exact put_regs _ _ _ _ ht
 | write=>rw [put_regs _ _ _ _ ht];rfl
 | eff=>rw [put_regs _ _ _ _ ht]
theorem put_heap' (st:ASt) (d:Option Nat) (x:AV):(st.put d x).heap=st.heap:=by cases d <;> rfl
theorem Loc.heap (h:Loc P n ops T W nx0 i cr o st st' cr') {id:Nat} (hid:id<st.nx∨st'.nx≤id) (hw:(i,id) ∉ W):look .dead st'.heap id=look .dead st.heap id:=by
 cases h with
 | read=>rw [put_heap']
 | call=>rw [put_heap']
 | @new b =>
  rw [put_nx] at hid;have hid:id<st.nx∨st.nx+1≤id:=hid;rw [put_heap'];exact look_ne _ (fun e=>by omega) _ _
 | skip=>rw [put_heap']
 | @write id' b x L hL _ hv hm=>rw [put_heap'];exact look_ne _ (fun e=>hw (by rw [←e];exact hm)) _ _
 | @eff x L K2 hpS hwa h hd hn hN hv hW =>
  rw [put_nx] at hid;have hid:id<st.nx∨K2≤id:=hid;rw [put_heap'];show look .dead (onL (L++news st.nx K2) _ _) id=_;by_cases e:id ∈ L++news st.nx K2
  ·rcases List.mem_append.1 e with e | e
   ·exact absurd ((hW id).2 e) hw
   ·have:=news_mem.1 e;omega
  ·exact onL_out e
theorem Loc.heap2 (h:Loc P n ops T W nx0 i cr o st st' cr') (id:Nat):look .dead st'.heap id=look .dead st.heap id∨(st.nx≤id∧id<st'.nx)∨vis T nx0 i cr id=true:=by
 cases h with
 | read=>left;rw [put_heap']
 | call=>left;rw [put_heap']
 | skip=>left;rw [put_heap']
 | @new b =>
  by_cases e:id=st.nx
  ·exact .inr (.inl ⟨by omega,by rw [put_nx];show id<st.nx+1;omega⟩)
  ·left;rw [put_heap'];exact look_ne _ (fun e'=>e e'.symm) _ _
 | @write id' b x L hL _ hv hm =>
  by_cases e:id'=id
  ·subst e;unfold visW at hv;rw [Bool.and_eq_true] at hv;exact .inr (.inr hv.1)
  ·left;rw [put_heap'];exact look_ne _ e _ _
 | @eff x L K2 hpS hwa h hd hn hN hv hW =>
  by_cases e:id ∈ L++news st.nx K2
  ·rcases List.mem_append.1 e with e | e
   ·have:=(hv id e).2;unfold visW at this;rw [Bool.and_eq_true] at this;exact .inr (.inr this.1)
   ·exact .inr (.inl ⟨(news_mem.1 e).1,by rw [put_nx];exact (news_mem.1 e).2⟩)
  ·left
   rw [put_heap'];exact onL_out e
theorem Loc.crm (h:Loc P n ops T W nx0 i cr o st st' cr'):∀ c ∈ cr',c ∈ cr∨(c.1=i∧st.nx≤c.2∧c.2<st'.nx):=by
 cases h with
 | read=>intro c hc;exact .inl hc
 | call=>intro c hc;exact .inl hc
 | new =>
  intro c hc;rcases List.mem_cons.1 hc with h | h
  ·subst h;exact .inr ⟨rfl,Nat.le_refl _,by rw [put_nx];exact Nat.lt_succ_self _⟩
  ·exact .inl h
 | skip=>intro c hc;exact .inl hc
 | write=>intro c hc;exact .inl hc
 | eff =>
  intro c hc;rcases List.mem_append.1 hc with h | h
  ·obtain ⟨id,h1,rfl⟩:=List.mem_map.1 h;exact .inr ⟨rfl,(news_mem.1 h1).1,by rw [put_nx];exact (news_mem.1 h1).2⟩
  ·exact .inl h
end
theorem okW_at {T:List (List Nat)} {W:List (Nat×Nat)} {i id:Nat} (h:okW T W i id=true) {j:Nat} (hj:(j,id) ∈ W):(j<i→hasN (T.getD i []) j=true)∧(i<j→hasN (T.getD j []) i=true):=by
 have:=List.all_eq_true.1 h _ hj;simp only [Nat.beq_refl,cond_true] at this;refine ⟨fun hlt=>?_,fun hlt=>?_⟩
 ·rw [show Nat.blt j i=true by simpa using hlt] at this;exact this
 ·have e0:Nat.blt j i=false:=by
   rw [Bool.eq_false_iff];intro h;have h:j<i:=by simpa using h
   omega
  rw [e0,show Nat.blt i j=true by simpa using hlt] at this;exact this
theorem noW_at {W:List (Nat×Nat)} {i:Nat} (h:noW W i=true) (id:Nat):(i,id) ∉ W:=fun hj=>by
 have this:(!Nat.beq i i)=true:=List.all_eq_true.1 h _ hj;rw [Nat.beq_refl] at this;cases this
theorem newW_at {T:List (List Nat)} {W:List (Nat×Nat)} {i nx:Nat} (h:newW T W i nx=true) {j:Nat} (hj:(j,nx) ∈ W):i<j∧hasN (T.getD j []) i=true:=by
 have:=List.all_eq_true.1 h _ hj;simp only [Nat.beq_refl,cond_true,Bool.and_eq_true] at this;exact ⟨by simpa using this.1,this.2⟩
theorem onlyW_at {W:List (Nat×Nat)} {i id id':Nat} (h:onlyW W i id=true) (hj:(i,id') ∈ W):id'=id:=by
 have:=List.all_eq_true.1 h _ hj;simp only [Nat.beq_refl,cond_true] at this;exact Nat.eq_of_beq_eq_true this
theorem RelP.rel' {K:Kn} {n:Nat} {R:Nat→AV} {hp:List (Nat×AB)} {nx:Nat} {lv:Nat→Bool} {a:Act} {w:World} {G:Gh} (h:RelP K n R hp nx lv a w G) {st:ASt} (hr:∀ t,Les (look .any st.regs t) (R t)) (hh:∀ id,LesB (look .dead st.heap id) (look .dead hp id)) (hn:st.nx=nx):RelG K n st a w G:=by
 refine ⟨h.nx.trans hn.symm,⟨h.hr.bs,h.hr.below,h.hr.ownlt',fun id=>(hh id).ok (h.hr.blk id),h.hr.dist,h.hr.ownhas'⟩,h.ext,h.size,h.defers,fun t=>(hr t).rel (h.regs t)⟩
theorem RelP.lesH {K:Kn} {n:Nat} {R:Nat→AV} {hp hp':List (Nat×AB)} {nx:Nat} {lv:Nat→Bool} {a:Act} {w:World} {G:Gh} (h:RelP K n R hp nx lv a w G) (hh:∀ id,LesB (look .dead hp' id) (look .dead hp id)) (hb:∀ id,(look .dead hp' id).nmd lv=true) (hf:∀ id,lv id=false→look .dead hp' id=.dead):RelP K n R hp' nx lv a w G :=
 ⟨h.nx,⟨h.hr.bs,h.hr.below,h.hr.ownlt',fun id=>(hh id).ok (h.hr.blk id),h.hr.dist,h.hr.ownhas'⟩,h.ext,h.size,h.defers,h.regs,h.rnm,hb,fun id hid=>⟨hf id hid,(h.free id hid).2⟩,h.old⟩
def InvG (K:Kn) (n:Nat) (l:List Oper) (W:List (Nat×Nat)) (S:Nat→ASt) (m nx0:Nat) (d:Nat→Bool) (a:Act) (w:World):Prop:=∃ R hp G,RelP K n R hp (S m).nx (lvD S m nx0 d) a w G ∧
 (∀ j o t,j<m→l[j]?=some o→d j=true→o.dst=some t→Les (look .any (S (j+1)).regs t) (R t)) ∧
 (∀ t,(∀ j o,j<m→l[j]?=some o→d j=true→o.dst≠some t)→Les (look .any (S 0).regs t) (R t)) ∧
 (∀ id,lvD S m nx0 d id=true→∃ p,p≤m∧id<(S p).nx∧LesB (look .dead (S p).heap id) (look .dead hp id)∧(∀ j,(j,id) ∈ W→j<p→d j=true)∧(∀ j,(j,id) ∈ W→p≤j→d j=false)∧(p=0∨∃ q,p=q+1∧d q=true∧((q,id) ∈ W∨(S q).nx≤id)))
section
variable {P:Program} {n:Nat} {l:List Oper} {T:List (List Nat)} {W:List (Nat×Nat)} {S:Nat→ASt} {C:Nat→List (Nat×Nat)} {m:Nat}
theorem AG.step' (hp:∀ i o,l[i]?=some o→PlanR l n i o) (hT:AncOk l T) (hml:m≤l.length) (hC0:C 0=[])
  (hL:∀ j o,j<m→l[j]?=some o→∃ s',Loc P n l.toArray T W (S 0).nx j (C j) o (S j) s' (C (j+1))∧LeS (S (j+1)) s')
  {K:Kn} {Q:Exit→Act→World→Prop} {i:Nat} {o:Oper} {d:Nat→Bool} {a:Act} {w:World} (hi:i<m) (ho:l[i]?=some o) (hd0:d i=false) (hcl:ClosedD l d) (hdep:∀ e ∈ o.after,Region.binds .any e=true→d e.on=true)
  (h:InvG K n l W S m (S 0).nx d a w):if Region.wanted o (yielded l.toArray a.tmps) then o.wp P a w (fun a' w'=>InvG K n l W S m (S 0).nx (upd d i) a' w') Q else InvG K n l W S m (S 0).nx (upd d i) (a.put o.dst undef) w:=by
 obtain ⟨R,hpp,G,hR,I1,I2,I3⟩:=h;have hop:∀ j,j<m→∃ o,l[j]?=some o:=fun j hj=>⟨l[j],List.getElem?_eq_getElem (by omega)⟩
 have nxS:∀ j,j<m→(S j).nx≤(S (j+1)).nx:=fun j hj=>by
  obtain ⟨o,ho⟩:=hop j hj;obtain ⟨s',h1,h2⟩:=hL j o hj ho;rw [h2.nx];exact h1.nx_le
 have nxM:∀ q,q≤m→∀ p,p≤q→(S p).nx≤(S q).nx:=by
  intro q
  induction q with
  | zero=>intro _ p hp;obtain rfl:p=0:=(by omega);exact Nat.le_refl _
  | succ q ih =>
   intro hq p hp;rcases Nat.lt_or_ge p (q+1) with h | h
   ·exact Nat.le_trans (ih (by omega) p (by omega)) (nxS q (by omega))
   ·obtain rfl:p=q+1:=by omega
    exact Nat.le_refl _
 have regM:∀ t q,q≤m→∀ p,p≤q→(∀ j o,p≤j→j<q→l[j]?=some o→o.dst≠some t)→Les (look AV.any (S q).regs t) (look .any (S p).regs t):=by
  intro t q
  induction q with
  | zero=>intro _ p hp _;obtain rfl:p=0:=(by omega);exact .refl _
  | succ q ih =>
   intro hq p hp hno;rcases Nat.lt_or_ge p (q+1) with h | h
   ·obtain ⟨o,ho⟩:=hop q (by omega);obtain ⟨s',h1,h2⟩:=hL q o (by omega) ho;have e1:=h2.regs t;rw [h1.regs (hno q o (by omega) (by omega) ho)] at e1;exact e1.trans (ih (by omega) p (by omega) fun j o hj1 hj2=>hno j o hj1 (by omega))
   ·obtain rfl:p=q+1:=by omega
    exact .refl _
 have heapM:∀ id q,q≤m→∀ p,p≤q→id<(S p).nx→(∀ j,p≤j→j<q→(j,id) ∉ W)→LesB (look AB.dead (S q).heap id) (look .dead (S p).heap id):=by
  intro id q
  induction q with
  | zero=>intro _ p hp _ _;obtain rfl:p=0:=(by omega);exact .refl _
  | succ q ih =>
   intro hq p hp hlt hno;rcases Nat.lt_or_ge p (q+1) with h | h
   ·obtain ⟨o,ho⟩:=hop q (by omega);obtain ⟨s',h1,h2⟩:=hL q o (by omega) ho;have:=nxM q (by omega) p (by omega);have e1:=h2.heap id;rw [h1.heap (by omega) (hno q (by omega) (by omega))] at e1;exact e1.trans (ih (by omega) p (by omega) hlt fun j j1 j2=>hno j j1 (by omega))
   ·obtain rfl:p=q+1:=by omega
    exact .refl _
 have crM:∀ q,q≤m→∀ c ∈ C q,c.1<q∧(S c.1).nx≤c.2∧c.2<(S (c.1+1)).nx:=by
  intro q
  induction q with
  | zero=>intro _ c hc;rw [hC0] at hc;cases hc
  | succ q ih =>
   intro hq c hc;obtain ⟨o,ho⟩:=hop q (by omega);obtain ⟨s',h1,h2⟩:=hL q o (by omega) ho;rcases h1.crm c hc with h | ⟨h,h',h''⟩
   ·obtain ⟨g1,g2⟩:=ih (by omega) c h;exact ⟨by omega,g2⟩
   ·rw [h];exact ⟨by omega,h',by rw [h2.nx];exact h''⟩
 have pa:=hp i o ho
 have hlook:∀ t,t ∈ o.looksAt l.toArray→Les (look .any (S i).regs t) (R t):=by
  intro t ht;by_cases hw:∃ (j:Nat) (o':Oper),l[j]?=some o'∧o'.dst=some t
  ·obtain ⟨j,o',ho',hdst⟩:=hw;rcases pa.look j o' t ho' hdst ht with ⟨hj,hr⟩ | ⟨hj,hr⟩
   ·have hdj:=hr.done hcl ho hdep;exact (regM t i (by omega) (j+1) (by omega) fun j2 o2 h1 h2 ho2=>(hp j2 o2 ho2).one j o' t ho' hdst (by omega)).trans (I1 j o' t (by omega) ho' hdj hdst)
   ·have hnj:d j=false:=by
     cases hdj:d j with
     | false=>rfl
     | true=>have:=hr.done' hcl hdj;rw [hd0] at this;cases this
    have honly:∀ j2 o2,l[j2]?=some o2→j2≠j→o2.dst≠some t:=fun j2 o2 ho2 hne=>(hp j2 o2 ho2).one j o' t ho' hdst hne
    refine (regM t i (by omega) 0 (Nat.zero_le _) fun j2 o2 _ h2 ho2=>honly j2 o2 ho2 (by omega)).trans (I2 t fun j2 o2 _ ho2 hd2=>honly j2 o2 ho2 fun e=>?_);subst e;rw [hnj] at hd2;cases hd2
  ·exact (regM t i (by omega) 0 (Nat.zero_le _) fun j o' _ _ ho' hdst=>hw ⟨j,o',ho',hdst⟩).trans (I2 t fun j o' _ ho' _ hdst=>hw ⟨j,o',ho',hdst⟩)
 have hvis:∀ id,vis T (S 0).nx i (C i) id=true→lvD S m (S 0).nx d id=true∧id<(S i).nx:=by
  intro id h;unfold vis at h;rw [Bool.or_eq_true,List.any_eq_true] at h;rcases h with h | ⟨c,hc,h⟩
  ·have h:id<(S 0).nx:=by simpa using h
   have:=nxM i (by omega) 0 (Nat.zero_le _);exact ⟨lvD_iff.2 (.inl h),by omega⟩
  ·rw [Bool.and_eq_true] at h;obtain ⟨g1,g2,g3⟩:=crM i (by omega) c hc;have hid:=Nat.eq_of_beq_eq_true h.1;have hdc:=(reachT hT h.2).done hcl ho hdep;have:=nxM i (by omega) (c.1+1) (by omega);exact ⟨lvD_iff.2 (.inr ⟨c.1,by omega,hdc,by omega,by omega⟩),by omega⟩
 have hcont:∀ id,visW T W (S 0).nx i (C i) id=true→LesB (look .dead (S i).heap id) (look AB.dead hpp id):=by
  intro id hv;unfold visW at hv;rw [Bool.and_eq_true] at hv;obtain ⟨h1,h2⟩:=hvis id hv.1;obtain ⟨p,p1,p2,p3,p4,p5,p6⟩:=I3 id h1
  have hpi:p≤i:=by
   rcases p6 with rfl | ⟨q,rfl,hdq,hq⟩
   ·exact Nat.zero_le _
   ·rcases Nat.lt_or_ge q i with h | h
    ·omega
    ·exfalso
     rcases hq with hq | hq
     ·by_cases e:q=i
      ·subst e;rw [hd0] at hdq;cases hdq
      ·have:=(reachT hT ((okW_at hv.2 hq).2 (by omega))).done' hcl hdq;rw [hd0] at this;cases this
     ·have:=nxM q (by omega) i h;omega
  refine (heapM id i (by omega) p hpi p2 fun j j1 j2 hj=>?_).trans p3;have hdj:=(reachT hT ((okW_at hv.2 hj).1 j2)).done hcl ho hdep;rw [p5 j hj j1] at hdj;cases hdj
 have hregs:∀ t,Les (look AV.any (lregs l.toArray (S i) o) t) (R t):=by
  intro t;by_cases ht:t ∈ o.looksAt l.toArray
  ·rcases (look_pick (f:=fun t=>look AV.any (S i).regs t) (l:=o.looksAt l.toArray) (dd:=AV.any) (t:=t)) with e | e
   ·show Les (look AV.any ((o.looksAt l.toArray).map fun t=>(t,look AV.any (S i).regs t)) t) _;rw [e];exact hlook t ht
   ·show Les (look AV.any ((o.looksAt l.toArray).map fun t=>(t,look AV.any (S i).regs t)) t) _;rw [e];exact .any _
  ·show Les (look AV.any ((o.looksAt l.toArray).map fun t=>(t,look AV.any (S i).regs t)) t) _;rw [look_pick_in ht];exact .any _
 have hrel:RelG K n (lcl l.toArray T W (S 0).nx i (C i) (S i) o (S m).nx) a w G:=by
  refine RelP.rel' hR hregs (fun id=>?_) rfl;show LesB (look .dead ((S i).heap.filter fun p=>visW T W (S 0).nx i (C i) p.1) id) _;rw [look_filt]
  cases hv:visW T W (S 0).nx i (C i) id with
  | false=>exact .dead _
  | true=>exact hcont id hv
 have keep:∀ id,(i,id) ∉ W→lvD S m (S 0).nx d id=true→∃ p,p≤m∧id<(S p).nx∧LesB (look .dead (S p).heap id) (look .dead hpp id)∧(∀ j,(j,id) ∈ W→j<p→upd d i j=true)∧(∀ j,(j,id) ∈ W→p≤j→upd d i j=false)∧(p=0∨∃ q,p=q+1∧upd d i q=true∧((q,id) ∈ W∨(S q).nx≤id)):=by
  intro id hni hlv;obtain ⟨p,p1,p2,p3,p4,p5,p6⟩:=I3 id hlv;refine ⟨p,p1,p2,p3,fun j hj h=>?_,fun j hj h=>?_,p6.imp (fun h=>h) fun ⟨q,e,hq,hw⟩=>⟨q,e,by simp [upd,hq],hw⟩⟩
  ·rw [upd_ne (fun e=>hni (by rw [←e];exact hj))];exact p4 j hj h
  ·rw [upd_ne (fun e=>hni (by rw [←e];exact hj))];exact p5 j hj h
 obtain ⟨s',hloc,heq⟩:=hL i o hi ho;have hdone:∀ j,upd d i j=true↔d j=true∨j=i:=fun j=>by simp [upd]
 have J1:∀ (x:AV),(∀ t,o.dst=some t→Les (look .any (S (i+1)).regs t) x)→∀ j o' t,j<m→l[j]?=some o'→upd d i j=true→o'.dst=some t→Les (look .any (S (j+1)).regs t) (updR R o.dst x t):=by
  intro x hx j o' t hj ho' hdj hdst;by_cases hji:j=i
  ·subst hji;rw [ho] at ho';cases ho';rw [hdst];show Les _ (if t=t then x else R t);rw [if_pos rfl];exact hx t hdst
  ·have hdj:d j=true:=((hdone j).1 hdj).resolve_right hji;have hne:o.dst≠some t:=pa.one j o' t ho' hdst (fun e=>hji e.symm)
   have:updR R o.dst x t=R t:=by
    cases hdd:o.dst with
    | none=>rfl
    | some dd=>exact if_neg (fun e=>hne (by rw [hdd,e]))
   rw [this];exact I1 j o' t hj ho' hdj hdst
 have J2:∀ (x:AV) t,(∀ j o',j<m→l[j]?=some o'→upd d i j=true→o'.dst≠some t)→Les (look .any (S 0).regs t) (updR R o.dst x t):=by
  intro x t hno;have hne:o.dst≠some t:=hno i o hi ho ((hdone i).2 (.inr rfl))
  have:updR R o.dst x t=R t:=by
   cases hdd:o.dst with
   | none=>rfl
   | some dd=>exact if_neg (fun e=>hne (by rw [hdd,e]))
  rw [this];exact I2 t fun j o' hj ho' hdj=>hno j o' hj ho' ((hdone j).2 (.inl hdj))
 have lvSame:(S (i+1)).nx=(S i).nx→lvD S m (S 0).nx (upd d i)=lvD S m (S 0).nx d:=by
  intro hn
  funext id
  rw [Bool.eq_iff_iff,lvD_iff,lvD_iff];constructor
  ·rintro (h | ⟨j,h1,h2,h3,h4⟩)
   ·exact .inl h
   ·rcases (hdone j).1 h2 with h2 | h2
    ·exact .inr ⟨j,h1,h2,h3,h4⟩
    ·subst h2;omega
  ·rintro (h | ⟨j,h1,h2,h3,h4⟩)
   ·exact .inl h
   ·exact .inr ⟨j,h1,(hdone j).2 (.inl h2),h3,h4⟩
 have hwant:o.guard=none∨gst l.toArray o (lcl l.toArray T W (S 0).nx i (C i) (S i) o 0)=some true→Region.wanted o (yielded l.toArray a.tmps)=true:=by
  rintro (hg | hg)
  ·exact wanted_none hg a
  ·obtain ⟨dd,want,g1,g2⟩:=gst_yes hg;exact wanted_of (st:=lcl l.toArray T W (S 0).nx i (C i) (S i) o (S m).nx) g1 g2 K a w G hrel
 have lvmono:∀ id,vis T (S 0).nx i (C i) id=true→lvD S m (S 0).nx d id=true:=fun id h=>(hvis id h).1
 have putSelf:∀ (st:ASt) (x:AV),s'=st.put o.dst x→∀ t,o.dst=some t→Les (look .any (S (i+1)).regs t) x:=by
  intro st x e t ht;have:=heq.regs t;rw [e,ht,put_self] at this;exact this
 generalize C (i+1)=cr' at hloc
 cases hloc with
 | @read x hW hw h hn =>
  rw [if_pos (hwant hw)];obtain ⟨v,h1,h2⟩:=(h (S m).nx (nxM m (Nat.le_refl _) 0 (Nat.zero_le _))).out K a w G hrel;have hnx:(S (i+1)).nx=(S i).nx:=by rw [heq.nx,put_nx]
  unfold Oper.wp;rw [h1 w (Below.refl _ _)];exact ⟨_,hpp,G,by rw [lvSame hnx];exact hR.put (h _ (Nat.le_refl _)).dst h2 (nmd_mono lvmono _ hn),J1 x (putSelf _ x rfl),J2 x,by rw [lvSame hnx];exact fun id=>keep id (noW_at hW id)⟩
 | @call x hW hw h hn =>
  rw [if_pos (hwant hw)];obtain ⟨F,args,h1,h2⟩:=(h (S m).nx (nxM m (Nat.le_refl _) 0 (Nat.zero_le _))).out K a w G hrel;have hnx:(S (i+1)).nx=(S i).nx:=by rw [heq.nx,put_nx]
  unfold Oper.wp;rw [h1];refine h2.mono fun e w' ⟨v,e1,e2,e3⟩=>?_
  subst e1;exact ⟨_,hpp,G,by rw [lvSame hnx];exact (hR.same e2).put (h _ (Nat.le_refl _)).dst e3 (nmd_mono lvmono _ hn),J1 x (putSelf _ x rfl),J2 x,by rw [lvSame hnx];exact fun id=>keep id (noW_at hW id)⟩
 | @skip hW hw hd =>
  obtain ⟨dd,want,g1,g2⟩:=gst_no hw;rw [if_neg (by rw [unwanted_of (st:=lcl l.toArray T W (S 0).nx i (C i) (S i) o (S m).nx) g1 g2 hrel];decide)];have hnx:(S (i+1)).nx=(S i).nx:=by rw [heq.nx,put_nx]
  exact ⟨_,hpp,G,by rw [lvSame hnx];exact hR.put hd (.dat .und) rfl,J1 .und (putSelf _ .und rfl),J2 .und,by rw [lvSame hnx];exact fun id=>keep id (noW_at hW id)⟩
 | @new b hW hN hw h hn =>
  rw [if_pos (hwant hw)];obtain ⟨v,w',h1,h2⟩:=(h (S m).nx (nxM m (Nat.le_refl _) 0 (Nat.zero_le _))).out K a w G hrel;have hnx:(S (i+1)).nx=(S i).nx+1:=by rw [heq.nx,put_nx];rfl
  have hge:(S 0).nx≤(S i).nx:=nxM i (by omega) 0 (Nat.zero_le _)
  have hfree:lvD S m (S 0).nx d (S i).nx=false:=by
   rw [Bool.eq_false_iff];intro hlv;rcases lvD_iff.1 hlv with h | ⟨j,g1,g2,g3,g4⟩
   ·omega
   ·rcases Nat.lt_trichotomy j i with hlt | e | hlt
    ·have:=nxM i (by omega) (j+1) (by omega);omega
    ·subst e;rw [hd0] at g2;cases g2
    ·have:=nxM j (by omega) (i+1) (by omega);omega
  have hlt:(S i).nx<(S m).nx:=by have:=nxM m (Nat.le_refl _) (i+1) (by omega);omega
  have hlv':lvD S m (S 0).nx (upd d i)=fun id=>lvD S m (S 0).nx d id||Nat.beq id (S i).nx:=by
   funext id
   rw [Bool.eq_iff_iff,lvD_iff,Bool.or_eq_true,lvD_iff];constructor
   ·rintro (h | ⟨j,h1,h2,h3,h4⟩)
    ·exact .inl (.inl h)
    ·rcases (hdone j).1 h2 with h2 | h2
     ·exact .inl (.inr ⟨j,h1,h2,h3,h4⟩)
     ·subst h2
      right
      have e:id=(S j).nx:=by omega
      rw [e];exact Nat.beq_refl _
   ·rintro ((h | ⟨j,h1,h2,h3,h4⟩) | h)
    ·exact .inl h
    ·exact .inr ⟨j,h1,(hdone j).2 (.inl h2),h3,h4⟩
    ·have:=Nat.eq_of_beq_eq_true h;exact .inr ⟨i,hi,(hdone i).2 (.inr rfl),by omega,by omega⟩
  obtain ⟨hR2,hv⟩:=hR.newAt hfree hlt h2 (abnmd_mono lvmono hn);unfold Oper.wp;rw [h1]
  have hb:LesB (look AB.dead (S (i+1)).heap (S i).nx) b:=by
   have:=heq.heap (S i).nx;rw [put_heap'] at this;have e1:look AB.dead ((S i).hnew b).heap (S i).nx=b:=look_self _ _ _ _;rw [e1] at this;exact this
  refine ⟨_,((S i).nx,b)::hpp,G.at (S i).nx v (lnB b) (szB b),?_,J1 (refB b (S i).nx) (putSelf _ _ rfl),J2 _,fun id hid=>?_⟩
  ·rw [hlv'];refine hR2.put (h _ (Nat.le_refl _)).dst hv ?_
   cases b with
   | dead=>rfl
   | box cs e=>simp [refB,AV.nmd]
   | row sz rows e=>simp [refB,AV.nmd]
  ·rw [hlv'] at hid;by_cases e:(S i).nx=id
   ·subst e;refine ⟨i+1,by omega,by omega,by rw [look_cons,if_pos rfl];exact hb,fun j hj hlt2=>?_,fun j hj hge2=>?_,.inr ⟨i,rfl,(hdone i).2 (.inr rfl),.inr (Nat.le_refl _)⟩⟩
    ·have:=(newW_at hN hj).1;omega
    ·rw [upd_ne (by omega)]
     cases hdj:d j with
     | false=>rfl
     | true =>
      have:=(reachT hT (newW_at hN hj).2).done' hcl hdj;rw [hd0] at this;cases this
   ·rw [Bool.or_eq_true] at hid;obtain ⟨p,p1,p2,p3,p4,p5,p6⟩:=keep id (noW_at hW id) (hid.resolve_right fun h=>e (Nat.eq_of_beq_eq_true h).symm);exact ⟨p,p1,p2,by rw [look_cons,if_neg e];exact p3,p4,p5,p6⟩
 | @write id b x L hLL hw hv hm hu h hb hn =>
  rw [if_pos (hwant hw)];have hnx:(S (i+1)).nx=(S i).nx:=by rw [heq.nx,put_nx];rfl
  have hv1:vis T (S 0).nx i (C i) id=true:=by unfold visW at hv;rw [Bool.and_eq_true] at hv;exact hv.1
  have hv2:okW T W i id=true:=by unfold visW at hv;rw [Bool.and_eq_true] at hv;exact hv.2

  let hp2:List (Nat×AB):=L.map (fun j=>(j,look .dead (S i).heap j))++hpp
  have hlk:∀ j,(j ∈ L∧look AB.dead hp2 j=look .dead (S i).heap j)∨(look AB.dead hp2 j=look .dead hpp j):=by
   intro j;show (_∧look AB.dead (L.map (fun j=>(j,look .dead (S i).heap j))++hpp) j=_)∨look AB.dead (L.map (fun j=>(j,look .dead (S i).heap j))++hpp) j=_;rw [look_append];clear hLL h
   induction L with
   | nil=>exact .inr rfl
   | cons c L ih =>
    rw [List.map_cons,look_cons];by_cases e:c=j
    ·subst e;rw [if_pos rfl];exact .inl ⟨by simp,rfl⟩
    ·rw [if_neg e];exact ih.imp (fun ⟨g1,g2⟩=>⟨List.mem_cons_of_mem _ g1,g2⟩) (fun g=>g)
  have hlkL:∀ j ∈ L,look AB.dead hp2 j=look .dead (S i).heap j:=by
   intro j hj;show look AB.dead (L.map (fun j=>(j,look .dead (S i).heap j))++hpp) j=_;rw [look_append];clear hLL h hlk
   induction L with
   | nil=>cases hj
   | cons c L ih =>
    rw [List.map_cons,look_cons];by_cases e:c=j
    ·subst e;rw [if_pos rfl]
    ·rw [if_neg e];exact ih ((List.mem_cons.1 hj).resolve_left fun e'=>e e'.symm)
  have hRP:RelP K n R hp2 (S m).nx (lvD S m (S 0).nx d) a w G:=by
   refine RelP.lesH hR (fun j=>?_) (fun j=>?_) (fun j hj=>?_)
   ·rcases hlk j with ⟨g1,g2⟩ | g2
    ·rw [g2];exact hcont j (hLL j g1).1
    ·rw [g2];exact .refl _
   ·rcases hlk j with ⟨g1,g2⟩ | g2
    ·rw [g2];exact abnmd_mono lvmono (hLL j g1).2
    ·rw [g2];exact hR.bnm j
   ·rcases hlk j with ⟨g1,g2⟩ | g2
    ·have:=(hLL j g1).1;unfold visW at this;rw [Bool.and_eq_true] at this;rw [lvmono j this.1] at hj;cases hj
    ·rw [g2];exact (hR.free j hj).1
  have hRG:RelG ⟨K.w0,w,G⟩ n ⟨lregs l.toArray (S i) o,hp2,(S m).nx⟩ a w G:=by
   have r:=RelP.rel' hRP (st:=⟨lregs l.toArray (S i) o,hp2,(S m).nx⟩) hregs (fun _=>.refl _) rfl;exact ⟨r.nx,r.hr,Ext.refl _ _,r.size,r.defers,r.regs⟩
  have hop':=h hp2 (S m).nx (nxM m (Nat.le_refl _) 0 (Nat.zero_le _)) hlkL;obtain ⟨v,w',G',h1,h2,h3,h4,h5,h6⟩:=hop'.out _ a w G hRG;have hxm:x.nmd (lvD S m (S 0).nx d)=true:=nmd_mono lvmono _ hn;have hbm:b.nmd (lvD S m (S 0).nx d)=true:=abnmd_mono lvmono hb
  have hRP2:RelP K n (updR R o.dst x) ((id,b)::hpp) (S m).nx (lvD S m (S 0).nx d) (a.put o.dst v) w' G':=by
   have hHR:HR K.w0 w' G' ((id,b)::hpp):=by
    refine ⟨h2.bs,h2.below,h2.ownlt',fun j=>?_,h2.dist,h2.ownhas'⟩;rw [look_cons];split
    ·rename_i e;subst e;have:=h2.blk id;rw [look_self] at this;exact this
    ·rename_i e;obtain ⟨g1,g2,g3⟩:=h5 j (Ne.symm e);exact (hR.hr.blk j).step h3 fun hj=>⟨g1,g2,g3 hj⟩
   have base:RelP K n R ((id,b)::hpp) (S m).nx (lvD S m (S 0).nx d) a w' G':=by
    refine ⟨h4.trans hR.nx,hHR,hR.ext.trans h3,hR.size,hR.defers,fun t=>(hR.regs t).ext h3,hR.rnm,fun j=>?_,fun j hj=>?_,hR.old⟩
    ·rw [look_cons];split
     ·exact hbm
     ·exact hR.bnm j
    ·have hne:id≠j:=fun e=>by subst e;rw [lvmono _ hv1] at hj;cases hj
     rw [look_cons,if_neg hne];obtain ⟨g1,g2⟩:=hR.free j hj;exact ⟨g1,fun hlt=>by rw [(h5 j (Ne.symm hne)).1];exact g2 hlt⟩
   exact base.put hop'.dst h6 hxm
  have fin:InvG K n l W S m (S 0).nx (upd d i) (a.put o.dst v) w':=by
   refine ⟨_,(id,b)::hpp,G',by rw [lvSame hnx];exact hRP2,J1 x (putSelf _ x rfl),J2 x,fun id' hid'=>?_⟩;rw [lvSame hnx] at hid';by_cases e:id=id'
   ·subst e;refine ⟨i+1,by omega,by have:=(hvis id hv1).2;omega,?_,fun j hj hlt2=>?_,fun j hj hge2=>?_,.inr ⟨i,rfl,(hdone i).2 (.inr rfl),.inl hm⟩⟩
    ·rw [look_cons,if_pos rfl];have:=heq.heap id;rw [put_heap'] at this;have e1:look AB.dead ((S i).hset id b).heap id=b:=look_self _ _ _ _;rw [e1] at this;exact this
    ·rcases Nat.lt_or_ge j i with g | g
     ·exact (hdone j).2 (.inl ((reachT hT ((okW_at hv2 hj).1 g)).done hcl ho hdep))
     ·exact (hdone j).2 (.inr (by omega))
    ·rw [upd_ne (by omega)]
     cases hdj:d j with
     | false=>rfl
     | true =>
      have:=(reachT hT ((okW_at hv2 hj).2 (by omega))).done' hcl hdj;rw [hd0] at this;cases this
   ·obtain ⟨p,p1,p2,p3,p4,p5,p6⟩:=keep id' (fun hj=>e (onlyW_at hu hj).symm) hid';exact ⟨p,p1,p2,by rw [look_cons,if_neg e];exact p3,p4,p5,p6⟩
  unfold Oper.wp;rcases h1 with h1 | ⟨h1,hvu⟩
  ·rw [h1];exact fin
  ·subst hvu;rw [h1];exact fin
 | @eff x L K2 hpS hw h hd hn hN hv hW hS hx =>
  rw [if_pos (hwant hw)];have ho0:=ho;have hnx:(S (i+1)).nx=K2:=by rw [heq.nx,put_nx]
  have hge:(S 0).nx≤(S i).nx:=nxM i (by omega) 0 (Nat.zero_le _)
  have hvis1:∀ id ∈ L,vis T (S 0).nx i (C i) id=true:=fun id hid=>by
   have:=(hv id hid).2;unfold visW at this;rw [Bool.and_eq_true] at this;exact this.1
  have hlvL:∀ id,hasN L id=true→lvD S m (S 0).nx d id=true:=fun id hid=>lvmono id (hvis1 id (hasN_mem hid))
  have hdis:∀ id,lvD S m (S 0).nx d id=true→newQ (S i).nx K2 id=false:=fun id hlv=>by
   rw [Bool.eq_false_iff];intro hnw;have hnw:=newQ_iff.1 hnw;rcases lvD_iff.1 hlv with h | ⟨j,g1,g2,g3,g4⟩
   ·omega
   ·rcases Nat.lt_trichotomy j i with hlt | e | hlt
    ·have:=nxM i (by omega) (j+1) (by omega);omega
    ·subst e;rw [hd0] at g2;cases g2
    ·have:=nxM j (by omega) (i+1) (by omega);omega
  have hlv':∀ id,lvD S m (S 0).nx (upd d i) id=true↔lvD S m (S 0).nx d id=true∨newQ (S i).nx K2 id=true:=fun id=>by
   rw [lvD_iff,lvD_iff,newQ_iff];constructor
   ·rintro (h | ⟨j,h1,h2,h3,h4⟩)
    ·exact .inl (.inl h)
    ·rcases (hdone j).1 h2 with h2 | h2
     ·exact .inl (.inr ⟨j,h1,h2,h3,h4⟩)
     ·subst h2;right;omega
   ·rintro ((h | ⟨j,h1,h2,h3,h4⟩) | h)
    ·exact .inl h
    ·exact .inr ⟨j,h1,(hdone j).2 (.inl h2),h3,h4⟩
    ·exact .inr ⟨i,hi,(hdone i).2 (.inr rfl),by omega,by omega⟩
  have lvUp:∀ id,lvD S m (S 0).nx d id=true→lvD S m (S 0).nx (upd d i) id=true:=fun id h=>(hlv' id).2 (.inl h)
  have hqL:∀ id,orQ (hasN L) (S i).nx K2 id=true→lvD S m (S 0).nx (upd d i) id=true:=fun id hid=>by
   rcases orQ_iff.1 hid with h | h
   ·exact lvUp id (hlvL id h)
   ·exact (hlv' id).2 (.inr (newQ_iff.2 h))
  have hmi:K2≤(S m).nx:=by rw [←hnx];exact nxM m (Nat.le_refl _) (i+1) (by omega)
  obtain ⟨F,args,h1,h2⟩:=(h (S m).nx hmi).out K a w G hrel;unfold Oper.wp;rw [h1];refine h2.mono ?_
  rintro en w' ⟨v,G',rfl,ho,hgn,hvv⟩
  have memLL:∀ j,j ∈ L++news (S i).nx K2↔orQ (hasN L) (S i).nx K2 j=true:=fun j=>by
   rw [List.mem_append,orQ_iff,news_mem];constructor
   ·rintro (h | h)
    ·exact .inl (hasN_of' h)
    ·exact .inr h
   ·rintro (h | h)
    ·exact .inl (hasN_mem h)
    ·exact .inr h
  have hno:∀ j,j ∉ L++news (S i).nx K2→orQ (hasN L) (S i).nx K2 j=false:=fun j hj=>by
   rw [Bool.eq_false_iff];intro h';exact hj ((memLL j).2 h')
  have hmv:Mv (lvD S m (S 0).nx d) w G w (patchF G G' (newQ (S i).nx K2)):=by
   refine ⟨fun _ _ _=>rfl,fun _ hb=>.inl hb,rfl,fun id hl hid=>?_⟩;have hn:¬ (newQ (S i).nx K2 id=true):=by rw [hdis id hl];decide
   exact ⟨hid,if_neg hn,if_neg hn,if_neg hn⟩
  have hextP:Ext K.w1 K.G1 w (patchF G G' (newQ (S i).nx K2)):=by
   refine ⟨hR.ext.size,hR.ext.keep',hR.ext.own2,hR.ext.nx,hR.ext.bs',fun id hid=>?_⟩;have hn':¬ (newQ (S i).nx K2 id=true):=by rw [hdis id (hR.old id hid)];decide
   have e1:(patchF G G' (newQ (S i).nx K2)).ρ id=G.ρ id:=if_neg hn';have e2:(patchF G G' (newQ (S i).nx K2)).ln id=G.ln id:=if_neg hn';have e3:(patchF G G' (newQ (S i).nx K2)).sz id=G.sz id:=if_neg hn';rw [e1,e2,e3];exact hR.ext.gh id hid
  have hRP2:RelP K n (updR R o.dst x) (onL (L++news (S i).nx K2) (look .dead hpS) hpp) (S m).nx (lvD S m (S 0).nx (upd d i)) (a.put o.dst v) w' G':=by
   have hHR:HR K.w0 w' G' (onL (L++news (S i).nx K2) (look .dead hpS) hpp):=by
    refine ⟨ho.hr.bs,ho.hr.below,ho.hr.ownlt',fun j=>?_,ho.hr.dist,ho.hr.ownhas'⟩;by_cases e:j ∈ L++news (S i).nx K2
    ·rw [onL_in e];exact ho.hr.blk j
    ·rw [onL_out e]
     cases hlj:lvD S m (S 0).nx d j with
     | false=>rw [(hR.free j hlj).1];trivial
     | true =>
      obtain ⟨g1,g2,g3⟩:=ho.same j (hno j e);have hn':¬ (newQ (S i).nx K2 j=true):=by rw [hdis j hlj];decide
      have e1:(patchF G G' (newQ (S i).nx K2)).ρ j=G.ρ j:=if_neg hn';have e2:(patchF G G' (newQ (S i).nx K2)).ln j=G.ln j:=if_neg hn';exact ((hR.hr.blk j).mv hmv (hR.bnm j) (.inr hlj) (fun g _=>rfl)).step ho.ext fun hj=>⟨by rw [e1];exact g1,by rw [e2];exact g2,by rw [e1];exact g3 hj⟩
   have base:RelP K n R (onL (L++news (S i).nx K2) (look .dead hpS) hpp) (S m).nx (lvD S m (S 0).nx (upd d i)) a w' G':=by
    refine ⟨hgn.trans hR.nx,hHR,hextP.trans ho.ext,hR.size,hR.defers,fun t=>((hR.regs t).mv hmv (hR.rnm t)).ext ho.ext,fun t=>nmd_mono lvUp _ (hR.rnm t),fun j=>?_,fun j hj=>?_,fun j hj=>lvUp j (hR.old j hj)⟩
    ·by_cases e:j ∈ L++news (S i).nx K2
     ·rw [onL_in e];rcases hS j with h' | ⟨_,h'⟩
      ·rw [h'];rfl
      ·exact abnmd_mono hqL h'
     ·rw [onL_out e];exact abnmd_mono lvUp (hR.bnm j)
    ·have e:j ∉ L++news (S i).nx K2:=fun e=>by rw [hqL j ((memLL j).1 e)] at hj;cases hj
     have hj':lvD S m (S 0).nx d j=false:=by
      rw [Bool.eq_false_iff];intro h';rw [lvUp j h'] at hj;cases hj
     rw [onL_out e];obtain ⟨g1,g2⟩:=hR.free j hj';exact ⟨g1,fun hlt=>by rw [(ho.same j (hno j e)).1];exact g2 hlt⟩
   exact base.put hd hvv (nmd_mono hqL _ hx)
  refine ⟨_,onL (L++news (S i).nx K2) (look .dead hpS) hpp,G',hRP2,J1 x (putSelf _ _ rfl),J2 _,fun id' hid'=>?_⟩
  have hheap:∀ id',id' ∈ L++news (S i).nx K2→LesB (look AB.dead (S (i+1)).heap id') (look .dead (onL (L++news (S i).nx K2) (look .dead hpS) hpp) id'):=fun id' e=>by
   rw [onL_in e];have:=heq.heap id';rw [put_heap'] at this;have e1:look AB.dead (onL (L++news (S i).nx K2) (look .dead hpS) (S i).heap) id'=look .dead hpS id':=onL_in e;exact e1 ▸ this
  by_cases hw':(i,id') ∈ W
  ·have e:=(hW id').1 hw'
   have hv2:okW T W i id'=true:=by
    have:=(hv id' e).2;unfold visW at this;rw [Bool.and_eq_true] at this;exact this.2
   refine ⟨i+1,by omega,by have:=(hv id' e).1;omega,hheap id' (List.mem_append.2 (.inl e)),fun j hj hlt2=>?_,fun j hj hge2=>?_,.inr ⟨i,rfl,(hdone i).2 (.inr rfl),.inl hw'⟩⟩
   ·rcases Nat.lt_or_ge j i with g | g
    ·exact (hdone j).2 (.inl ((reachT hT ((okW_at hv2 hj).1 g)).done hcl ho0 hdep))
    ·exact (hdone j).2 (.inr (by omega))
   ·rw [upd_ne (by omega)]
    cases hdj:d j with
    | false=>rfl
    | true =>
     have:=(reachT hT ((okW_at hv2 hj).2 (by omega))).done' hcl hdj;rw [hd0] at this;cases this
  ·rcases (hlv' id').1 hid' with hid2 | hnw
   ·obtain ⟨p',q1,q2,q3,q4,q5,q6⟩:=keep id' hw' hid2
    have e2:id' ∉ L++news (S i).nx K2:=fun h'=>by
     rcases List.mem_append.1 h' with h' | h'
     ·exact hw' ((hW id').2 h')
     ·have:=hdis id' hid2;rw [newQ_iff.2 (news_mem.1 h')] at this;cases this
    exact ⟨p',q1,q2,by rw [onL_out e2];exact q3,q4,q5,q6⟩
   ·have hnw2:=newQ_iff.1 hnw;have hNi:=hN id' hnw2.1 hnw2.2;refine ⟨i+1,by omega,by omega,hheap id' (List.mem_append.2 (.inr (news_mem.2 hnw2))),fun j hj hlt2=>?_,fun j hj hge2=>?_,.inr ⟨i,rfl,(hdone i).2 (.inr rfl),.inr hnw2.1⟩⟩
    ·have:=(newW_at hNi hj).1;omega
    ·rw [upd_ne (by omega)]
     cases hdj:d j with
     | false=>rfl
     | true =>
      have:=(reachT hT (newW_at hNi hj).2).done' hcl hdj;rw [hd0] at this;cases this
theorem AG.last (hp:∀ i o,l[i]?=some o→PlanR l n i o) (hml:m≤l.length)
  (hC0:C 0=[]) (hL:∀ j o,j<m→l[j]?=some o→∃ s',Loc P n l.toArray T W (S 0).nx j (C j) o (S j) s' (C (j+1))∧LeS (S (j+1)) s') (hdead:∀ id,(S 0).nx≤id→look .dead (S 0).heap id=.dead)
  {K:Kn} {d:Nat→Bool} {a:Act} {w:World} (hall:∀ i,i<m→d i=true) (h:InvG K n l W S m (S 0).nx d a w):∃ G,RelG K n (S m) a w G:=by
 obtain ⟨R,hpp,G,hR,I1,I2,I3⟩:=h;have hop:∀ j,j<m→∃ o,l[j]?=some o:=fun j hj=>⟨l[j],List.getElem?_eq_getElem (by omega)⟩
 have regM:∀ t q,q≤m→∀ p,p≤q→(∀ j o,p≤j→j<q→l[j]?=some o→o.dst≠some t)→Les (look AV.any (S q).regs t) (look .any (S p).regs t):=by
  intro t q
  induction q with
  | zero=>intro _ p hp _;obtain rfl:p=0:=(by omega);exact .refl _
  | succ q ih =>
   intro hq p hp hno;rcases Nat.lt_or_ge p (q+1) with h | h
   ·obtain ⟨o,ho⟩:=hop q (by omega);obtain ⟨s',h1,h2⟩:=hL q o (by omega) ho;have e1:=h2.regs t;rw [h1.regs (hno q o (by omega) (by omega) ho)] at e1;exact e1.trans (ih (by omega) p (by omega) fun j o hj1 hj2=>hno j o hj1 (by omega))
   ·obtain rfl:p=q+1:=by omega
    exact .refl _
 have heapM:∀ id q,q≤m→∀ p,p≤q→(∀ j,p≤j→j<q→(id<(S j).nx∨(S (j+1)).nx≤id)∧(j,id) ∉ W)→LesB (look AB.dead (S q).heap id) (look .dead (S p).heap id):=by
  intro id q
  induction q with
  | zero=>intro _ p hp _;obtain rfl:p=0:=(by omega);exact .refl _
  | succ q ih =>
   intro hq p hp hno;rcases Nat.lt_or_ge p (q+1) with h | h
   ·obtain ⟨o,ho⟩:=hop q (by omega);obtain ⟨s',h1,h2⟩:=hL q o (by omega) ho;obtain ⟨g1,g2⟩:=hno q (by omega) (by omega);refine (h2.heap id).trans ?_;have e1:look AB.dead s'.heap id=look .dead (S q).heap id:=h1.heap (by rw [←h2.nx];exact g1) g2;rw [e1];exact ih (by omega) p (by omega) fun j j1 j2=>hno j j1 (by omega)
   ·obtain rfl:p=q+1:=by omega
    exact .refl _
 have nxM:∀ q,q≤m→∀ p,p≤q→(S p).nx≤(S q).nx:=by
  intro q
  induction q with
  | zero=>intro _ p hp;obtain rfl:p=0:=(by omega);exact Nat.le_refl _
  | succ q ih =>
   intro hq p hp;rcases Nat.lt_or_ge p (q+1) with h | h
   ·obtain ⟨o,ho⟩:=hop q (by omega);obtain ⟨s',h1,h2⟩:=hL q o (by omega) ho;have:=h1.nx_le;have:=h2.nx;have:=ih (by omega) p (by omega);omega
   ·obtain rfl:p=q+1:=by omega
    exact Nat.le_refl _
 have crM:∀ q,q≤m→∀ c ∈ C q,c.1<q∧(S c.1).nx≤c.2∧c.2<(S (c.1+1)).nx:=by
  intro q
  induction q with
  | zero=>intro _ c hc;rw [hC0] at hc;cases hc
  | succ q ih =>
   intro hq c hc;obtain ⟨o,ho⟩:=hop q (by omega);obtain ⟨s',h1,h2⟩:=hL q o (by omega) ho;rcases h1.crm c hc with h | ⟨h,h',h''⟩
   ·obtain ⟨g1,g2⟩:=ih (by omega) c h;exact ⟨by omega,g2⟩
   ·rw [h];exact ⟨by omega,h',by rw [h2.nx];exact h''⟩
 refine ⟨G,RelP.rel' hR (fun t=>?_) (fun id=>?_) rfl⟩
 ·by_cases hw:∃ (j:Nat) (o':Oper),j<m∧l[j]?=some o'∧o'.dst=some t
  ·obtain ⟨j,o',hj,ho',hdst⟩:=hw;exact (regM t m (Nat.le_refl _) (j+1) (by omega) fun j2 o2 h1 h2 ho2=>(hp j2 o2 ho2).one j o' t ho' hdst (by omega)).trans (I1 j o' t hj ho' (hall j hj) hdst)
  ·exact (regM t m (Nat.le_refl _) 0 (Nat.zero_le _) fun j o' _ hj ho' hdst=>hw ⟨j,o',hj,ho',hdst⟩).trans (I2 t fun j o' hj ho' _ hdst=>hw ⟨j,o',hj,ho',hdst⟩)
 ·cases hlv:lvD S m (S 0).nx d id with
  | true =>
   obtain ⟨p,p1,p2,p3,p4,p5,_⟩:=I3 id hlv;exact (heapM id m (Nat.le_refl _) p p1 fun j j1 j2=>⟨.inl (by have:=nxM j (by omega) p j1;omega),fun hj=>by have:=p5 j hj j1;rw [hall j j2] at this;cases this⟩).trans p3
  | false =>
   have hno:¬ (id<(S 0).nx∨∃ j,j<m∧d j=true∧(S j).nx≤id∧id<(S (j+1)).nx):=fun h=>by rw [lvD_iff.2 h] at hlv;cases hlv
   have hnl:∀ j,j<m→(S j).nx≤id→id<(S (j+1)).nx→False:=fun j hj e h=>hno (.inr ⟨j,hj,hall j hj,e,h⟩)
   have hdd:look AB.dead (S 0).heap id=.dead:=hdead id (by omega)
   have hz:∀ q,q≤m→LesB (look AB.dead (S q).heap id) .dead:=by
    intro q
    induction q with
    | zero=>intro _;rw [hdd];exact .refl _
    | succ q ih =>
     intro hq;obtain ⟨o,ho⟩:=hop q (by omega);obtain ⟨s',h1,h2⟩:=hL q o (by omega) ho;refine (h2.heap id).trans ?_;rcases h1.heap2 id with g | ⟨g1,g2⟩ | g
     ·rw [g];exact ih (by omega)
     ·exact (hnl q (by omega) g1 (by rw [h2.nx];exact g2)).elim
     ·unfold vis at g;rw [Bool.or_eq_true,List.any_eq_true] at g;rcases g with g | ⟨c,hc,g⟩
      ·exact absurd (.inl (by simpa using g)) hno
      ·rw [Bool.and_eq_true] at g;obtain ⟨c1,c2,c3⟩:=crM q (by omega) c hc;have e:=Nat.eq_of_beq_eq_true g.1;exact (hnl c.1 (by omega) (by rw [←e];exact c2) (by rw [←e];exact c3)).elim
   exact (hz m (Nat.le_refl _)).trans (.dead _)
end
def tailR (l:List Oper) (T:List (List Nat)) (m:Nat):Bool:=(List.range l.length).all fun i=>Nat.blt i m||(List.range i).all fun j=>hasN (T.getD i []) j
theorem AW.drawR {P:Program} {n:Nat} {Q:Exit→ASt→Prop} {st:ASt} {id:Nat} {l:List Oper} {T:List (List Nat)} (W:List (Nat×Nat)) (m:Nat) (hm:P.follows .mixedOrders=true) (hT:ancs l []=T) (hk:planR l T=true) (htl:tailR l T m=true)
  (h:AG P n l.toArray T W st.nx (fun s=>AL P n l.toArray Q (l.drop m) s) 0 [] (l.take m) st):AW P n (.region id l.toArray true) Q st:=.mk fun K a w ⟨G,r⟩=>by
 have hT':AncOk l T:=by
  rw [←hT];exact ancs_ok l [] (fun i A hA=>by simp at hA) rfl
 have hpl:=planR_at n hT' hk;obtain ⟨S,C,e0,hC0,hK,hS⟩:=h.facts;have hm':(l.take m).length=min m l.length:=by simp
 have r2:RelG K n (S 0) a w.drew G:=(r.same (below_drew' w)).les e0
 have hL:∀ j o,j<(l.take m).length→l[j]?=some o→∃ s',Loc P n l.toArray T W (S 0).nx j (C j) o (S j) s' (C (j+1))∧LeS (S (j+1)) s':=by
  intro j o hj ho;have:=hS j o (by rw [List.getElem?_take,if_pos (by omega)];exact ho);rw [Nat.zero_add,←e0.nx] at this;exact this
 have hdead:∀ id,(S 0).nx≤id→look .dead (S 0).heap id=.dead:=by
  intro id hid;have hkk:=r2.hr.blk id;have hn:=r2.nx
  cases hb:look AB.dead (S 0).heap id with
  | dead=>rfl
  | box cs e=>rw [hb] at hkk;have:=hkk.1;omega
  | row sz rows e=>rw [hb] at hkk;have:=hkk.1;omega
 have hnxM:(S 0).nx≤(S (l.take m).length).nx:=by
  have:∀ q,q≤(l.take m).length→(S 0).nx≤(S q).nx:=by
   intro q
   induction q with
   | zero=>intro _;exact Nat.le_refl _
   | succ q ih =>
    intro hq;have hql:q<l.length:=by omega
    obtain ⟨s',g1,g2⟩:=hL q l[q] (by omega) (List.getElem?_eq_getElem hql);have:=g1.nx_le;have:=g2.nx;have:=ih (by omega);omega
  exact this _ (Nat.le_refl _)
 have hdr:l.drop (l.take m).length=l.drop m:=by
  rw [hm'];rcases Nat.lt_or_ge m l.length with h | h
  ·rw [Nat.min_eq_left (by omega)]
  ·rw [Nat.min_eq_right h,List.drop_length,List.drop_eq_nil_of_le h]
 refine wp_region_inv (Inv:=InvG K n l W S (l.take m).length (S 0).nx) hm (fun i o ho=>(hpl i o (by simpa using ho)).after) (l.take m).length (by omega) ?_ (fun i o d a w hi ho hd0 hcl hdep hI=>AG.step' hpl hT' (by omega) hC0 hL hi ho hd0 hcl hdep hI) (fun d a w hall hI=>?_) (fun i hi hil j hj=>?_)
 ·obtain ⟨G',hR⟩:=r2.reserve (Nat.le_trans r.ext.size (below_drew' w).size) (S (l.take m).length).nx hnxM
  have hlv:lvD S (l.take m).length (S 0).nx (fun _=>false)=fun id=>Nat.blt id (S 0).nx:=by
   funext id
   rw [Bool.eq_iff_iff,lvD_iff];constructor
   ·rintro (h | ⟨j,_,h,_⟩)
    ·simpa using h
    ·cases h
   ·intro h;exact .inl (by simpa using h)
  refine ⟨_,_,G',by rw [hlv];exact hR,fun j o t _ _ h=>absurd h (by simp),fun t _=>.refl _,fun id hid=>?_⟩;rw [hlv] at hid;have hid:id<(S 0).nx:=by simpa using hid
  exact ⟨0,Nat.zero_le _,hid,.refl _,fun j _ h=>absurd h (Nat.not_lt_zero _),fun _ _ _=>rfl,.inl rfl⟩
 ·obtain ⟨G',hr⟩:=AG.last hpl (by omega) hC0 hL hdead hall hI;rw [hdr];exact AL.out hK K a w ⟨G',hr⟩
 ·have hge:m≤i:=by rw [hm'] at hi;omega
  have:=List.all_eq_true.1 htl i (List.mem_range.2 hil);rw [Bool.or_eq_true] at this;rcases this with h | h
  ·have h:i<m:=by simpa using h
   omega
  ·exact reachT hT' (List.all_eq_true.1 h j (List.mem_range.2 hj))
end Go.Proofs.Ytljebnobajmjnaa.Dr
/- Regions that draw their order,with strays in the tail: prefix,one operation that waits for all of it,addresses that wait for nothing,what waits for everything. No program in sight. -/
namespace Go.Proofs.Ytljebnobajmjnaa.Dr
open Go Go.RowKit Go.Proofs.Ytljebnobajmjnaa
set_option linter.unusedSimpArgs false
set_option linter.unusedSectionVars false
set_option linter.unusedVariables false

section
variable {P:Program}
theorem wp_region_inv' {Q:Exit→Act→World→Prop} {Inv:(Nat→Bool)→Act→World→Prop} {id:Nat} {l:List Oper} {a:Act} {w:World} (hm:P.follows .mixedOrders=true) (hp:∀ i o,l.toArray[i]?=some o→∀ e ∈ o.after,Region.binds .any e=true→e.on<i) (k:Nat) (hkl:k≤l.length)
  (start:Inv (fun _=>false) a w.drew)
  (step:∀ i o d a w,i<k→l[i]?=some o→d i=false→ClosedD l d→(∀ e ∈ o.after,Region.binds .any e=true→d e.on=true)→Inv d a w →
   if Region.wanted o (yielded l.toArray a.tmps) then (o.wp P a w (fun a' w'=>Inv (upd d i) a' w') Q∨(o.asks P a w∧LetsOut Q)) else Inv (upd d i) (a.put o.dst undef) w)
  (fin:∀ d a w,(∀ i,i<k→d i=true)→Inv d a w→wpList P l.toArray Q (l.drop k) a w)
  (tail:∀ i,k≤i→i<l.length→∀ j,j<i→Reach l i j):(Code.region id l.toArray true).wp P Q a w:=by
 refine wp_region_any hm ?_
 let St (listed:Array Bool) (a:Act) (w:World):Prop :=
  (ClosedD l (fun j=>listed.getD j false)∧(∀ j,k≤j→listed.getD j false=false)∧Inv (fun j=>listed.getD j false) a w) ∨
  (∃ i,k≤i∧i≤l.length∧(∀ j,listed.getD j false=true↔j<i)∧wpList P l.toArray Q (l.drop i) a w)
 have conv:∀ (listed:Array Bool) (a:Act) (w:World),listed.size=l.length→St listed a w→(∀ j,j<k→listed.getD j false=true)→∃ i,k≤i∧i≤l.length∧(∀ j,listed.getD j false=true↔j<i)∧wpList P l.toArray Q (l.drop i) a w:=by
  intro listed a w _ hs hall;rcases hs with ⟨_,h2,h3⟩ | h
  ·refine ⟨k,Nat.le_refl _,hkl,fun j=>⟨fun h=>?_,hall j⟩,fin _ a w hall h3⟩;rcases Nat.lt_or_ge j k with h' | h'
   ·exact h'
   ·rw [h2 j h'] at h;cases h
  ·exact h
 have rd:∀ (listed:Array Bool) (j:Nat),listed.size=l.length→j<l.length→listed.getD j false=false→(∀ o,l[j]?=some o→∀ e ∈ o.after,Region.binds .any e=true→listed.getD e.on false=true)→j ∈ Region.ready .any l.toArray listed:=by
  intro listed j hsz hj hf he;rw [mem_ready];refine ⟨?_,l[j],by simp [hj],fun e hem hb=>he _ (List.getElem?_eq_getElem hj) e hem hb⟩;have hl:j<listed.size:=by omega
  simp [hl] at hf ⊢;exact hf
 have key:∀ (fuel:Nat) (listed:Array Bool) (a:Act) (w:World),listed.size=l.length→listed.countP (fun b=>!b)≤fuel→St listed a w→wpAny P .any l.toArray Q fuel listed a w:=by
  have fin':∀ (listed:Array Bool) (a:Act) (w:World),listed.size=l.length→St listed a w→Region.ready .any l.toArray listed=[]→Q .normal a w:=by
   intro listed a w hsz hs hr
   have hall:∀ j,j<k→listed.getD j false=true:=by
    intro j
    induction j using Nat.strongRecOn with
    | ind j ih =>
     intro hj;rcases hb:listed.getD j false with _ | _
     ·exfalso
      have:=rd listed j hsz (by omega) hb (fun o ho e he hb'=>by
       have:=hp j o (by simpa using ho) e he hb'
       exact ih _ this (by omega))
      rw [hr] at this;cases this
     ·rfl
   obtain ⟨i,h1,h2,h3,h4⟩:=conv listed a w hsz hs hall;rcases Nat.lt_or_ge i l.length with hi | hi
   ·exfalso
    have hf:listed.getD i false=false:=by
     rcases hb:listed.getD i false with _ | _
     ·rfl
     ·have:=(h3 i).1 hb;omega
    have:=rd listed i hsz hi hf (fun o ho e he hb'=>(h3 _).2 (hp i o (by simpa using ho) e he hb'));rw [hr] at this;cases this
   ·obtain rfl:i=l.length:=by omega
    rw [List.drop_length] at h4;exact h4
  intro fuel
  induction fuel with
  | zero =>
   intro listed a w hsz hf hs
   have hr:Region.ready .any l.toArray listed=[]:=by
    rcases he:Region.ready .any l.toArray listed with _ | ⟨i,rest⟩
    ·rfl
    ·exfalso
     have hmem:i ∈ Region.ready .any l.toArray listed:=by rw [he];simp
     have h1:=(mem_ready.1 hmem).1;have h0:listed.countP (fun b=>!b)=0:=by omega
     rw [Array.countP_eq_zero] at h0
     have hi:i<listed.size:=by
      rcases Nat.lt_or_ge i listed.size with h | h
      ·exact h
      ·simp [Array.getElem?_eq_none h] at h1
     have:=h0 listed[i] (Array.getElem_mem hi);simp [hi] at h1;simp [h1] at this
   exact ⟨hr,fin' listed a w hsz hs hr⟩
  | succ fuel ih =>
   intro listed a w hsz hf hs;refine ⟨fin' listed a w hsz hs,fun i hi=>?_⟩;obtain ⟨h0,o,ho,hall⟩:=mem_ready.1 hi;have hol:l[i]?=some o:=by simpa using ho
   have hil:i<listed.size:=by rw [hsz];exact (List.getElem?_eq_some_iff.1 hol).1
   have hd0:listed.getD i false=false:=by simpa [hil] using h0
   have hup:∀ j,(listed.setIfInBounds i true).getD j false=upd (fun j=>listed.getD j false) i j:=by
    intro j;by_cases hji:j=i
    ·subst hji;rw [upd_self];simp [hil]
    ·rw [upd_ne hji,Go.getD_set_ne false (fun e=>hji e.symm)]
   have hup':(fun j=>(listed.setIfInBounds i true).getD j false)=upd (fun j=>listed.getD j false) i:=funext hup
   have hcnt:(listed.setIfInBounds i true).countP (fun b=>!b)≤fuel:=by
    have hli:listed[i]=false:=by simpa [hil] using h0
    have h5:=Array.countP_set (xs:=listed) (p:=fun b=>!b) (a:=true) hil;have h6:listed.setIfInBounds i true=listed.set i true hil:=by simp [Array.setIfInBounds,hil]
    have h7:0<listed.countP (fun b=>!b):=Array.countP_pos_iff.2 ⟨listed[i],Array.getElem_mem hil,by simp [hli]⟩;rw [h6,h5];simp [hli];omega
   have phase2:(∃ i,k≤i∧i≤l.length∧(∀ j,listed.getD j false=true↔j<i)∧wpList P l.toArray Q (l.drop i) a w)→wpOp P l.toArray Q i (wpAny P .any l.toArray Q fuel (listed.setIfInBounds i true)) a w:=by
    rintro ⟨i',h1,h2,h3,h4⟩
    have hge:i'≤i:=by
     rcases Nat.lt_or_ge i i' with h | h
     ·have:=(h3 i).2 h;rw [hd0] at this;cases this
     ·exact h
    have hcl:ClosedD l (fun j=>listed.getD j false):=fun j o' ho' hj e he hb=>(h3 _).2 (by
     have:=hp j o' (by simpa using ho') e he hb;have:=(h3 j).1 hj
     omega)
    have hle:i≤i':=by
     rcases Nat.lt_or_ge i' i with h | h
     ·have:=(tail i (by omega) (by omega) i' h).done hcl hol hall;have:=(h3 i').1 this;omega
     ·exact h
    obtain rfl:i=i':=by omega
    have hdr:l.drop i=o::l.drop (i+1):=by
     obtain ⟨hlt,he⟩:=List.getElem?_eq_some_iff.1 hol;rw [List.drop_eq_getElem_cons hlt,he]
    rw [hdr] at h4
    have next:∀ a' w',wpList P l.toArray Q (l.drop (i+1)) a' w'→wpAny P .any l.toArray Q fuel (listed.setIfInBounds i true) a' w':=fun a' w' h =>
     ih _ a' w' (by simp [hsz]) hcnt (.inr ⟨i+1,by omega,by omega,fun j=>by
      rw [hup j];simp only [upd,Bool.or_eq_true,beq_iff_eq];rw [h3 j]
      omega,h⟩)
    unfold wpOp;simp only [ho];unfold wpList at h4;split
    ·rename_i hw;rw [if_pos hw] at h4;exact h4.imp (Oper.wp_mono next) (fun h=>h)
    ·rename_i hw;rw [if_neg hw] at h4;exact next _ _ h4
   by_cases hdone:∀ j,j<k→listed.getD j false=true
   ·exact phase2 (conv listed a w hsz hs hdone)
   ·rcases hs with ⟨h1,h2,h3⟩ | h
    ·have hik:i<k:=by
      rcases Nat.lt_or_ge i k with h | h
      ·exact h
      ·exfalso
       apply hdone;intro j hj;exact (tail i h (by omega) j (by omega)).done h1 hol hall
     have hst:=step i o _ a w hik hol hd0 h1 hall h3
     have next:∀ a' w',Inv (upd (fun j=>listed.getD j false) i) a' w'→wpAny P .any l.toArray Q fuel (listed.setIfInBounds i true) a' w':=fun a' w' h =>
      ih _ a' w' (by simp [hsz]) hcnt (.inl ⟨fun j o' ho' hj e he hb=>by
       rw [hup'] at hj ⊢;by_cases hji:j=i
       ·subst hji;rw [hol] at ho';cases ho';simp [upd,hall e he hb]
       ·rw [upd_ne hji] at hj;have:=h1 j o' ho' hj e he hb
        simp [upd,this],fun j hj=>by
       rw [hup j,upd_ne (by omega)]
       exact h2 j hj,by rw [hup'];exact h⟩)
     unfold wpOp;simp only [ho];split
     ·rename_i hw;rw [if_pos hw] at hst;exact hst.imp (Oper.wp_mono next) (fun h=>h)
     ·rename_i hw;rw [if_neg hw] at hst;exact next _ _ hst
    ·exact phase2 h
 have hg:∀ j,(Array.replicate l.toArray.size false).getD j false=false:=by
  intro j;simp only [List.size_toArray,Array.getD_eq_getD_getElem?,Array.getElem?_replicate]
  split <;> rfl
 refine key _ _ _ _ (by simp) ?_ (.inl ⟨fun j o ho hj=>?_,fun j _=>hg j,?_⟩)
 ·have:=Array.countP_le_size (p:=fun b=>!b) (xs:=Array.replicate l.toArray.size false);simpa using this
 ·have hj:(Array.replicate l.toArray.size false).getD j false=true:=hj;rw [hg j] at hj;cases hj
 ·have:(fun j=>(Array.replicate l.toArray.size false).getD j false)=fun _=>false:=funext hg
  rw [this];exact start
theorem setD_ne {xs:Array Value} {i j:Nat} {v:Value} (h:i≠j):(xs.setIfInBounds i v).getD j undef=xs.getD j undef:=by
 rw [Array.getD_eq_getD_getElem?,Array.getD_eq_getD_getElem?,Array.getElem?_setIfInBounds_ne h]
theorem wp_put {Q:Exit→Act→World→Prop} {K:Act→World→Prop} {o:Oper} {a:Act} {w:World} (h:o.wp P a w K Q):o.wp P a w (fun a' w'=>K a' w'∧a'.tmps.size=a.tmps.size∧∀ t,o.dst≠some t→a'.tmps.getD t undef=a.tmps.getD t undef) Q:=by
 have key:∀ (a1:Act) (v:Value),a1.tmps=a.tmps→(a1.put o.dst v).tmps.size=a.tmps.size∧∀ t,o.dst≠some t→(a1.put o.dst v).tmps.getD t undef=a.tmps.getD t undef:=by
  intro a1 v h1
  cases hd:o.dst with
  | none=>exact ⟨by show a1.tmps.size=_;rw [h1],fun t _=>by show a1.tmps.getD t undef=_;rw [h1]⟩
  | some d =>
   refine ⟨by show (a1.tmps.setIfInBounds d v).size=_;simp [h1],fun t ht=>?_⟩;show (a1.tmps.setIfInBounds d v).getD t undef=_;rw [h1];exact setD_ne (fun e=>ht (by rw [e]))
 unfold Oper.wp at *
 generalize (execOp a.eval o).run P w=r at *
 cases r with
 | ok n w' =>
  cases n <;> simp only [Oper.upon] at h ⊢ <;>
   first
    | exact ⟨h,key _ _ rfl⟩
    | exact Calls.mono h (fun e w'' he=>by cases e <;> first | exact ⟨he,key _ _ rfl⟩ | exact he)
    | exact Rows.mono h (fun _ _ he=>⟨he,key _ _ rfl⟩)
    | exact h
 | halt x w'=>cases x <;> simp only [Oper.upon] at h ⊢ <;> exact h
end
def pureOp:Op→Bool
 | .move _=>true
 | .indexAddr ..=>true
 | _=>false
def noDst (l:List Oper) (t:Nat):Bool:=l.all fun p=>match p.dst with | some d=>!Nat.beq d t | none=>true
theorem noDst_at {l:List Oper} {t:Nat} (h:noDst l t=true) {o:Oper} (ho:o ∈ l):o.dst≠some t:=fun e=>by
 have:=List.all_eq_true.1 h o ho;rw [e] at this;simp at this
def dstIs (l:List Oper) (j t:Nat):Bool:=match l[j]? with
 | some o=>match o.dst with
  | some d=>Nat.beq d t
  | none=>false
 | none=>false
def syOk (l:List Oper) (J:List Nat) (j:Nat):Bool:=match l[j]? with
 | some o=>match o.guard,o.dst with
  | none,some _=>pureOp o.op&&(o.looksAt l.toArray).all fun t=>noDst l t||J.any fun j0=>Nat.blt j0 j&&dstIs l j0 t
  | _,_=>false
 | none=>false
def PS {α:Type} (P:Program) (f:Sem α):Prop:=∀ w v w1,f.run P w=.ok v w1→∀ w',f.run P w'=.ok v w'
section
variable {α β:Type} {P:Program}
theorem PS.bind {x:Sem α} {g:α→Sem β} (hx:PS P x) (hg:∀ a,PS P (g a)):PS P (x >>= g):=by
 intro w v w1 h w';rw [Sem.run_bind] at h ⊢
 cases hr:x.run P w with
 | halt e w2=>rw [hr] at h;cases h
 | ok u w2 =>
  rw [hr] at h;rw [hx w u w2 hr w'];exact hg u w2 v w1 h w'
theorem PS.pure (a:α):PS P (Pure.pure a:Sem α):=fun w v w1 h w'=>by
 rw [Sem.run_pure] at h ⊢;cases h;rfl
theorem PS.never {x:Sem α} (h:∀ w v w1,x.run P w≠.ok v w1):PS P x:=fun w v w1 h'=>absurd h' (h w v w1)
theorem PS.halt (e:Halt):PS P (Sem.halt e:Sem α):=.never fun w v w1 h=>by rw [Sem.run_halt] at h;cases h
theorem PS.program:PS P Go.program:=fun w v w1 h w'=>by cases h;rfl
theorem PS.underlying (t:TypeId):PS P (underlying t):=.bind .program fun p=>by
 split
 ·exact .pure _
 ·exact .halt _
theorem PS.typeInfo (t:TypeId):PS P (typeInfo t):=.bind .program fun p=>by
 split
 ·exact .pure _
 ·exact .halt _
theorem PS.sizeOf (t:TypeId):PS P (sizeOf t):=.bind (.typeInfo t) fun _=>.pure _
theorem PS.intOf (v:Value):PS P (asIntOf v):=by
 unfold asIntOf;split
 ·exact .pure _
 ·exact .halt _
 ·exact .halt _
theorem PS.addr (v:Value):PS P (Instr.sureAddr v):=by
 unfold Instr.sureAddr;split
 ·exact .pure _
 ·exact .halt _
theorem never_bind {x:Sem α} {g:α→Sem β} (hg:∀ a w v w1,(g a).run P w≠.ok v w1):∀ w v w1,(x >>= g).run P w≠.ok v w1:=by
 intro w v w1 h;rw [Sem.run_bind] at h
 cases hr:x.run P w with
 | halt e w2=>rw [hr] at h;cases h
 | ok u w2 =>
  rw [hr] at h;exact hg u w2 v w1 h
theorem never_panic (x y:Int) (s:Bool) (c:BoundsCode):∀ w v w1,(runtimePanic (.bounds x y s c):Sem α).run P w≠.ok v w1:=by
 unfold runtimePanic;exact never_bind fun p w v w1 h=>by cases h
theorem never_bounds (k:IntKind) (x y:Int) (c:BoundsCode):∀ w v w1,(boundsPanic k x y c:Sem α).run P w≠.ok v w1:=by
 unfold boundsPanic;dsimp only;split
 ·exact never_bind fun a=>never_panic _ _ _ _
 ·exact never_bind fun a=>never_panic _ _ _ _
end
theorem pure_index {P:Program} {t:TypeId} {x y v:Value} {w w1:World} (h:(Instr.indexAt t x y).run P w=.ok v w1):∀ w',(Instr.indexAt t x y).run P w'=.ok v w':=by
 have:PS P (Instr.indexAt t x y):=by
  unfold Instr.indexAt;refine .bind (.intOf y) fun p=>?_
  obtain ⟨k,i⟩:=p;dsimp only
  repeat' (first | exact PS.pure _ | exact PS.halt _ | exact PS.underlying _ | exact PS.addr _ | exact PS.sizeOf _ | exact PS.never (never_bounds _ _ _ _) | (refine PS.bind ?_ fun _=>?_) | split)
 exact this _ _ _ h
theorem exec_pure {P:Program} {o:Oper} {a:Act} {w0 w1:World} {v:Value} (ho:pureOp o.op=true) (h:(execOp a.eval o).run P w0=.ok (.value v) w1):∀ w,(execOp a.eval o).run P w=.ok (.value v) w:=by
 obtain ⟨d,op,ty,ps,af,g⟩:=o
 cases op <;> simp only [pureOp,Bool.false_eq_true] at ho
 ·rename_i x;intro w;simp only [execOp,Sem.run_pure] at h ⊢;cases h;rfl
 ·rename_i t x y;intro w;simp only [execOp,Sem.run_bind,Sem.run_pure] at h ⊢
  cases hr:(Instr.indexAt t (a.eval x) (a.eval y)).run P w0 with
  | halt e w2=>rw [hr] at h;cases h
  | ok u w2 =>
   rw [hr] at h;rw [pure_index hr w];simp only [Result.andThen_ok] at h ⊢;cases h;rfl
def SyRun (P:Program) (n:Nat) (l:List Oper) (K:ASt→Prop):List Nat→ASt→Prop
 | [],s=>K s
 | j::J,s=>∃ o x,l[j]?=some o∧OpR P n o s x∧SyRun P n l K J (s.put o.dst x)
def asc:Nat→List Nat→Bool
 | _,[]=>true
 | b,j::J=>Nat.ble b j&&asc (j+1) J
theorem asc_ge:∀ {J:List Nat} {b:Nat},asc b J=true→∀ j ∈ J,b≤j
 | [],_,_,j,h=>by cases h
 | i::J,b,h,j,hj=>by
  rw [asc,Bool.and_eq_true] at h;have h1:b≤i:=Nat.le_of_ble_eq_true h.1;rcases List.mem_cons.1 hj with rfl | hj
  ·exact h1
  ·have:=asc_ge h.2 j hj;omega
theorem put_selfA {a:Act} {t:Nat} {v:Value} (ht:t<a.tmps.size) (hv:a.tmps.getD t undef=v):a.put (some t) v=a:=by
 have e:a.tmps.setIfInBounds t v=a.tmps:=by
  refine Array.ext (by simp) fun i h1 h2=>?_
  rw [Array.getElem_setIfInBounds];split
  ·rename_i e;subst e;rw [←hv];simp [h2]
  ·rfl
 show ({ a with tmps:=a.tmps.setIfInBounds t v }:Act)=a;rw [e]
theorem put_getD {a:Act} {d:Option Nat} {v:Value} {t:Nat} (h:d≠some t):(a.put d v).tmps.getD t undef=a.tmps.getD t undef:=by
 cases d with
 | none=>rfl
 | some d=>exact setD_ne (fun e=>h (by rw [e]))
theorem put_size {a:Act} {d:Option Nat} {v:Value}:(a.put d v).tmps.size=a.tmps.size:=by
 cases d with
 | none=>rfl
 | some d=>show (a.tmps.setIfInBounds d v).size=_;simp
theorem SyRun.out {P:Program} {n:Nat} {l:List Oper} {KA:ASt→Prop} {K:Kn} {a:Act} {w:World} {G:Gh}:∀ (J:List Nat) {s:ASt},SyRun P n l KA J s→RelG K n s a w G →
  (∀ j ∈ J,∀ o,l[j]?=some o→∃ t,o.dst=some t∧∀ v,(execOp a.eval o).run P w=.ok (.value v) w→a.tmps.getD t undef=v)→∃ s',KA s'∧RelG K n s' a w G
 | [],s,h,r,_=>⟨s,h,r⟩
 | j::J,s,h,r,hv=>by
  obtain ⟨o,x,ho,hop,h⟩:=h;obtain ⟨v,h1,h2⟩:=hop.out K a w G r;obtain ⟨t,ht,hv1⟩:=hv j (by simp) o ho;have e:=hv1 v (h1 w (Below.refl _ _));have hlt:t<n:=dok_lt hop.dst t ht;have e2:a.put o.dst v=a:=by rw [ht];exact put_selfA (by rw [r.size];exact hlt) e
  have:=r.put (dok_lt hop.dst) h2;rw [e2] at this;exact SyRun.out J h this fun j' hj'=>hv j' (by simp [hj'])
def HV (P:Program) (l:List Oper) (J:List Nat) (a0:Act) (vs:Nat→Value) (j:Nat):Prop:=∀ o,l[j]?=some o→∀ a':Act,
 (∀ t,t ∈ o.looksAt l.toArray→(noDst l t=true→a'.tmps.getD t undef=a0.tmps.getD t undef)∧(∀ j0 o0,j0 ∈ J→j0<j→l[j0]?=some o0→o0.dst=some t→a'.tmps.getD t undef=vs j0))→∀ w',(execOp a'.eval o).run P w'=.ok (.value (vs j)) w'
theorem syOk_at {l:List Oper} {J:List Nat} {j:Nat} {o:Oper} (h:syOk l J j=true) (ho:l[j]?=some o):o.guard=none∧(∃ t,o.dst=some t)∧pureOp o.op=true∧∀ t ∈ o.looksAt l.toArray,noDst l t=true∨∃ j0 o0,j0 ∈ J∧j0<j∧l[j0]?=some o0∧o0.dst=some t:=by
 unfold syOk at h;rw [ho] at h;simp only at h;split at h
 ·rename_i t hg hd;rw [Bool.and_eq_true] at h;refine ⟨hg,⟨t,hd⟩,h.1,fun t' ht'=>?_⟩;have:=List.all_eq_true.1 h.2 t' ht';rw [Bool.or_eq_true] at this;rcases this with h' | h'
  ·exact .inl h'
  ·obtain ⟨j0,hj0,h2⟩:=List.any_eq_true.1 h';rw [Bool.and_eq_true] at h2;obtain ⟨h2,h3⟩:=h2;unfold dstIs at h3;split at h3
   ·rename_i o0 ho0;split at h3
    ·rename_i d hd0;exact .inr ⟨j0,o0,hj0,by simpa using h2,ho0,by rw [hd0,Nat.eq_of_beq_eq_true h3]⟩
    ·cases h3
   ·cases h3
 ·cases h
theorem look_of {o:Oper} {ops:Array Oper} {t:Nat} (h:(Operand.tmp t) ∈ o.op.operands):t ∈ o.looksAt ops:=List.mem_append_left _ (List.mem_filterMap.2 ⟨.tmp t,by simpa using h,rfl⟩)
theorem exec_same {o:Oper} {ops:Array Oper} {a a':Act} (hs:∀ cs b,o.op≠.select cs b) (h:∀ t,t ∈ o.looksAt ops→a'.tmps.getD t undef=a.tmps.getD t undef):execOp a'.eval o=execOp a.eval o :=
 execOp_congr o hs fun x hx=>by
  cases x with
  | tmp t=>exact h t (look_of hx)
  | const v=>rfl
  | global g=>rfl
  | func f=>rfl
theorem sy_vals {P:Program} {n:Nat} {l:List Oper} {J0:List Nat} {KT:ASt→Prop} {K:Kn} {w:World} {G:Gh} {a0:Act} (hok:∀ j ∈ J0,syOk l J0 j=true) (hone:∀ (i j:Nat) (o p:Oper) (d:Nat),l[i]?=some o→l[j]?=some p→p.dst=some d→i≠j→o.dst≠some d) :
  ∀ (J:List Nat) (s:ASt) (a1:Act) (vs:Nat→Value) (b:Nat),asc b J=true→(∀ j ∈ J,j ∈ J0)→(∀ j ∈ J0,b≤j→j ∈ J)→SyRun P n l KT J s→RelG K n s a1 w G→(∀ t,noDst l t=true→a1.tmps.getD t undef=a0.tmps.getD t undef) →
   (∀ j0 o0 t0,j0 ∈ J0→j0<b→l[j0]?=some o0→o0.dst=some t0→a1.tmps.getD t0 undef=vs j0)→(∀ j ∈ J0,j<b→HV P l J0 a0 vs j)→∃ vs',∀ j ∈ J0,HV P l J0 a0 vs' j
 | [],s,a1,vs,b,_,_,hb,_,_,_,_,hv=>⟨vs,fun j hj=>hv j hj (by
   rcases Nat.lt_or_ge j b with h | h
   ·exact h
   ·cases hb j hj h)⟩
 | j::J,s,a1,vs,b,hasc,hin,hb,hrun,r,hnd,hval,hv=>by
  rw [asc,Bool.and_eq_true] at hasc;obtain ⟨hbj,hasc⟩:=hasc;have hbj:b≤j:=Nat.le_of_ble_eq_true hbj;obtain ⟨o,x,ho,hop,hrun⟩:=hrun;obtain ⟨v,h1,h2⟩:=hop.out K a1 w G r;have hj0:j ∈ J0:=hin j (by simp);obtain ⟨hg,⟨t,ht⟩,hpu,hlk⟩:=syOk_at (hok j hj0) ho;have htn:t<n:=dok_lt hop.dst t ht
  have lt_b:∀ i ∈ J0,i<j→i<b:=by
   intro i hi hij;rcases Nat.lt_or_ge i b with h | h
   ·exact h
   ·rcases List.mem_cons.1 (hb i hi h) with e | e
    ·omega
    ·have:=asc_ge hasc i e;omega
  let vs1:Nat→Value:=fun i=>if i=j then v else vs i
  have vs1_ne:∀ i,i≠j→vs1 i=vs i:=fun i h=>if_neg h
  have vs1_self:vs1 j=v:=if_pos rfl;refine sy_vals hok hone J (s.put o.dst x) (a1.put o.dst v) vs1 (j+1) hasc (fun i hi=>hin i (by simp [hi])) (fun i hi hle=>?_) hrun (r.put (dok_lt hop.dst) h2) (fun t' ht'=>?_) (fun i oi ti hi hlt hoi hti=>?_) (fun i hi hlt=>?_)
  ·rcases List.mem_cons.1 (hb i hi (by omega)) with e | e
   ·omega
   ·exact e
  ·rw [put_getD (noDst_at ht' (List.mem_of_getElem? ho))];exact hnd t' ht'
  ·by_cases e:i=j
   ·subst e;rw [ho] at hoi;cases hoi;rw [ht] at hti;cases hti;rw [ht,vs1_self];show (a1.tmps.setIfInBounds t v).getD t undef=v;rw [getD_set (by rw [r.size];exact htn),if_pos rfl]
   ·have hib:=lt_b i hi (by omega);rw [put_getD (hone j i o oi ti ho hoi hti (fun h=>e h.symm)),vs1_ne i e];exact hval i oi ti hi hib hoi hti
  ·by_cases e:i=j
   ·subst e;intro o' ho' a' ha' w';rw [ho] at ho';cases ho';rw [vs1_self]
    have hex:execOp a'.eval o=execOp a1.eval o:=exec_same (ops:=l.toArray) (fun cs b e=>by rw [e] at hpu;cases hpu) fun t' ht'=>by
     rcases hlk t' ht' with h | ⟨j0,o0,g1,g2,g3,g4⟩
     ·exact ((ha' t' ht').1 h).trans (hnd t' h).symm
     ·rw [(ha' t' ht').2 j0 o0 g1 g2 g3 g4,vs1_ne j0 (by omega)];exact (hval j0 o0 t' g1 (lt_b j0 g1 g2) g3 g4).symm
    rw [hex];exact exec_pure hpu (h1 w (Below.refl _ _)) w'
   ·have hib:=lt_b i hi (by omega);intro o' ho' a' ha' w';rw [vs1_ne i e];refine hv i hi hib o' ho' a' (fun t' ht'=>⟨(ha' t' ht').1,fun j0 o0 g1 g2 g3 g4=>?_⟩) w';rw [(ha' t' ht').2 j0 o0 g1 g2 g3 g4,vs1_ne j0 (by omega)]
def tailSy (l:List Oper) (T:List (List Nat)) (m k:Nat) (J:List Nat):Bool :=
 (Nat.ble k l.length&&Nat.blt m k&&asc 0 J&&!hasN J m)&&((List.range m).all (fun j=>hasN J j||hasN (T.getD m []) j)&&((List.range l.length).all (fun i=>Nat.blt i k||(List.range i).all fun j=>hasN (T.getD i []) j)&&((List.range k).all (fun i=>Nat.ble i m||hasN J i)&&J.all (fun j=>Nat.blt j k&&syOk l J j))))
def isCall:Op→Bool
 | .call _=>true
 | .buildSlice ..=>true
 | _=>false
structure SyV (l:List Oper) (J:List Nat) (n:Nat) (vs:Nat→Value) (a0:Act) (d:Nat→Bool) (a:Act):Prop where
 size:a.tmps.size=n
 same:∀ t,noDst l t=true→a.tmps.getD t undef=a0.tmps.getD t undef
 val:∀ j o t,j ∈ J→l[j]?=some o→d j=true→o.dst=some t→a.tmps.getD t undef=vs j
theorem wp_norm {P:Program} {Q Q':Exit→Act→World→Prop} {K K':Act→World→Prop} {o:Oper} {a b:Act} {w:World} (hQ:∀ e a w,e≠.normal→¬ Q e a w) (he:execOp b.eval o=execOp a.eval o) (hK:∀ (a1 b1:Act) (v:Value) (w':World),a1.tmps=a.tmps→b1.tmps=b.tmps→(a1.defers=a.defers↔b1.defers=b.defers)→K (b1.put o.dst v) w'→K' (a1.put o.dst v) w') (h:o.wp P b w K Q∨(o.asks P b w∧LetsOut Q)):o.wp P a w K' Q':=by
 have hl:¬ LetsOut Q:=fun ⟨a,w,h⟩=>hQ _ a w (by simp) h
 have h:=h.resolve_right fun h=>hl h.2
 unfold Oper.wp at *
 rw [he] at h;generalize (execOp a.eval o).run P w=r at *
 cases r with
 | ok n w' =>
  cases n <;> simp only [Oper.upon] at h ⊢ <;>
   first
    | exact hK _ _ _ _ rfl rfl ⟨fun _=>rfl,fun _=>rfl⟩ h
    | exact Calls.mono h (fun e w'' he=>by cases e <;> first | exact hK _ _ _ _ rfl rfl ⟨fun _=>rfl,fun _=>rfl⟩ he | exact absurd he (hQ _ _ _ (by simp)) | exact absurd he hl)
    | exact Rows.mono h (fun _ _ he=>hK _ _ _ _ rfl rfl ⟨fun _=>rfl,fun _=>rfl⟩ he)
    | exact hK {a with defers:=_::a.defers } {b with defers:=_::b.defers } _ _ rfl rfl (by simp) h
    | exact absurd h (hQ _ _ _ (by simp))
    | exact absurd h hl
 | halt x w'=>cases x <;> simp only [Oper.upon] at h ⊢ <;> first | exact h | exact absurd h (hQ _ _ _ (by simp)) | exact absurd h hl
section
variable {P:Program} {n:Nat} {l:List Oper} {T:List (List Nat)} {W:List (Nat×Nat)} {S:Nat→ASt} {C:Nat→List (Nat×Nat)} {m:Nat}
theorem lvD_late {m nx0 i:Nat} {d:Nat→Bool} (hi:m≤i):lvD S m nx0 (upd d i)=lvD S m nx0 d:=by
 funext id
 rw [Bool.eq_iff_iff,lvD_iff,lvD_iff];constructor
 ·rintro (h | ⟨j,h1,h2,h3⟩)
  ·exact .inl h
  ·rw [upd_ne (by omega)] at h2;exact .inr ⟨j,h1,h2,h3⟩
 ·rintro (h | ⟨j,h1,h2,h3⟩)
  ·exact .inl h
  ·exact .inr ⟨j,h1,by rw [upd_ne (by omega)];exact h2,h3⟩
theorem InvG.stray {K:Kn} {d:Nat→Bool} {a:Act} {w:World} {i t:Nat} {v:Value} (h:InvG K n l W S m (S 0).nx d a w) (hi:m≤i) (hW:∀ p ∈ W,p.1<m) (ht:t<n) (hS:∀ x,Les (look .any (S 0).regs t) x) (hno:∀ j o,j<m→l[j]?=some o→o.dst≠some t):InvG K n l W S m (S 0).nx (upd d i) (a.put (some t) v) w:=by
 obtain ⟨R,hp,G,hR,I1,I2,I3⟩:=h;refine ⟨updR R (some t) .any,hp,G,?_,fun j o t' hj ho hd ht'=>?_,fun t' hno'=>?_,fun id hid=>?_⟩
 ·rw [lvD_late hi];exact hR.put (by simpa [dok] using ht) (.dat (.any _)) rfl
 ·rw [upd_ne (by omega)] at hd;have:t≠t':=fun e=>hno j o hj ho (by rw [ht',e])
  show Les _ (if t=t' then AV.any else R t');rw [if_neg this];exact I1 j o t' hj ho hd ht'
 ·show Les _ (if t=t' then AV.any else R t');by_cases e:t=t'
  ·subst e;rw [if_pos rfl];exact hS _
  ·rw [if_neg e];exact I2 t' fun j o hj ho hd=>hno' j o hj ho (by rw [upd_ne (by omega)];exact hd)
 ·rw [lvD_late hi] at hid;obtain ⟨p,p1,p2,p3,p4,p5,p6⟩:=I3 id hid;refine ⟨p,p1,p2,p3,fun j hj hlt=>?_,fun j hj hge=>?_,p6.imp (fun h=>h) fun ⟨q,e,h1,h2⟩=>⟨q,e,by simp [upd,h1],h2⟩⟩
  ·rw [upd_ne (by have:=hW _ hj;omega)];exact p4 j hj hlt
  ·rw [upd_ne (by have:=hW _ hj;omega)];exact p5 j hj hge
theorem SyV.other {J:List Nat} {vs:Nat→Value} {a0 a1 a2:Act} {d:Nat→Bool} {i:Nat} {o:Oper} (hone:∀ (i j:Nat) (o p:Oper) (d:Nat),l[i]?=some o→l[j]?=some p→p.dst=some d→i≠j→o.dst≠some d) (hv:SyV l J n vs a0 d a1) (hi:i ∉ J) (ho:l[i]?=some o) (hs:a2.tmps.size=a1.tmps.size) (he:∀ t,o.dst≠some t→a2.tmps.getD t undef=a1.tmps.getD t undef):SyV l J n vs a0 (upd d i) a2:=by
 refine ⟨hs.trans hv.size,fun t ht=>(he t (noDst_at ht (List.mem_of_getElem? ho))).trans (hv.same t ht),fun j o' t hj ho' hd ht=>?_⟩;have hne:j≠i:=fun e=>hi (e ▸ hj)
 rw [upd_ne hne] at hd;exact (he t (hone i j o o' t ho ho' ht (fun e=>hne e.symm))).trans (hv.val j o' t hj ho' hd ht)
theorem SyV.updS {J:List Nat} {vs:Nat→Value} {a0 a1:Act} {d:Nat→Bool} {i t:Nat} {o:Oper} (hone:∀ (i j:Nat) (o p:Oper) (d:Nat),l[i]?=some o→l[j]?=some p→p.dst=some d→i≠j→o.dst≠some d) (hv:SyV l J n vs a0 d a1) (ho:l[i]?=some o) (ht:o.dst=some t) (htn:t<n):SyV l J n vs a0 (upd d i) (a1.put (some t) (vs i)):=by
 refine ⟨put_size.trans hv.size,fun t' ht'=>?_,fun j o' t' hj ho' hd ht'=>?_⟩
 ·rw [put_getD (fun e=>noDst_at ht' (List.mem_of_getElem? ho) (by rw [ht,e]))];exact hv.same t' ht'
 ·by_cases e:j=i
  ·subst e;rw [ho] at ho';cases ho';rw [ht] at ht';cases ht';show (a1.tmps.setIfInBounds t (vs j)).getD t undef=vs j;rw [getD_set (by rw [hv.size];exact htn),if_pos rfl]
  ·rw [upd_ne e] at hd;rw [put_getD (fun e'=>hone i j o o' t' ho ho' ht' (fun e2=>e e2.symm) (by rw [ht,e']))];exact hv.val j o' t' hj ho' hd ht'
end
theorem AW.drawS {P:Program} {n:Nat} {Q:Exit→ASt→Prop} {st:ASt} {id:Nat} {l:List Oper} {T:List (List Nat)} (W:List (Nat×Nat)) (m k:Nat) (J:List Nat) (hm:P.follows .mixedOrders=true) (hT:ancs l []=T) (hk:planR l T=true) (htl:tailSy l T m k J=true) (hW:∀ p ∈ W,p.1<m)
  {A:Oper} (hA:l[m]?=some A) (hcA:isCall A.op=true) {KT:ASt→Prop} (hO:SyRun P n l KT J st)
  (hany:∀ j o t,j ∈ J→l[j]?=some o→o.dst=some t→look .any st.regs t=.any)
  {QA:Exit→ASt→Prop} (hQA:∀ e s',QA e s'→e=.normal∧∃ s2,RLe s' s2∧(∀ j o t,j ∈ J→l[j]?=some o→o.dst=some t→look .any s2.regs t=.any)∧SyRun P n l (fun s3=>AL P n l.toArray Q (l.drop k) s3) J s2)
  (h:AG P n l.toArray T W st.nx (fun s=>AL P n l.toArray QA [A] s) 0 [] (l.take m) st):AW P n (.region id l.toArray true) Q st:=.mk fun K a w ⟨G,r⟩=>by
 have hT':AncOk l T:=by
  rw [←hT];exact ancs_ok l [] (fun i A hA=>by simp at hA) rfl
 have hpl:=planR_at n hT' hk;unfold tailSy at htl;simp only [Bool.and_eq_true] at htl;obtain ⟨⟨⟨⟨t1,t2⟩,t3⟩,t4⟩,t5,t6,t7,t8⟩:=htl;have t1:k≤l.length:=Nat.le_of_ble_eq_true t1;have t2:m<k:=by simpa using t2
 have hmJ:m ∉ J:=fun h=>by rw [hasN_of' h] at t4;cases t4
 have hJk:∀ j ∈ J,j<k:=fun j hj=>by
  have:=List.all_eq_true.1 t8 j hj;rw [Bool.and_eq_true] at this;simpa using this.1
 have hJs:∀ j ∈ J,syOk l J j=true:=fun j hj=>by
  have:=List.all_eq_true.1 t8 j hj;rw [Bool.and_eq_true] at this;exact this.2
 have hone:∀ (i j:Nat) (o p:Oper) (d:Nat),l[i]?=some o→l[j]?=some p→p.dst=some d→i≠j→o.dst≠some d:=fun i j o p d ho hp hd hne=>(hpl i o ho).one j p d hp hd hne
 obtain ⟨S,C,e0,hC0,hK,hS⟩:=h.facts;have hm':(l.take m).length=m:=by simp;omega
 rw [hm'] at hK;have r2:RelG K n (S 0) a w.drew G:=(r.same (below_drew' w)).les e0
 have hL:∀ j o,j<m→l[j]?=some o→∃ s',Loc P n l.toArray T W (S 0).nx j (C j) o (S j) s' (C (j+1))∧LeS (S (j+1)) s':=by
  intro j o hj ho;have:=hS j o (by rw [List.getElem?_take,if_pos (by omega)];exact ho);rw [Nat.zero_add,←e0.nx] at this;exact this
 have hdead:∀ id,(S 0).nx≤id→look .dead (S 0).heap id=.dead:=by
  intro id hid;have hkk:=r2.hr.blk id;have hn:=r2.nx
  cases hb:look AB.dead (S 0).heap id with
  | dead=>rfl
  | box cs e=>rw [hb] at hkk;have:=hkk.1;omega
  | row sz rows e=>rw [hb] at hkk;have:=hkk.1;omega
 have hnxM:(S 0).nx≤(S m).nx:=by
  have:∀ q,q≤m→(S 0).nx≤(S q).nx:=by
   intro q
   induction q with
   | zero=>intro _;exact Nat.le_refl _
   | succ q ih =>
    intro hq;have hql:q<l.length:=by omega
    obtain ⟨s',g1,g2⟩:=hL q l[q] (by omega) (List.getElem?_eq_getElem hql);have:=g1.nx_le;have:=g2.nx;have:=ih (by omega);omega
  exact this _ (Nat.le_refl _)

 obtain ⟨vs,hvs⟩:=sy_vals (a0:=a) hJs hone J st a (fun _=>undef) 0 t3 (fun _ h=>h) (fun _ h _=>h) hO r (fun _ _=>rfl) (fun _ _ _ _ h=>absurd h (Nat.not_lt_zero _)) (fun _ _ h=>absurd h (Nat.not_lt_zero _))
 have hdst:∀ j o t,j ∈ J→l[j]?=some o→o.dst=some t→t<n:=by
  have:∀ (J':List Nat) (s:ASt),SyRun P n l KT J' s→∀ j o t,j ∈ J'→l[j]?=some o→o.dst=some t→t<n:=by
   intro J'
   induction J' with
   | nil=>intro _ _ j o t h;cases h
   | cons i J' ih =>
    rintro s ⟨o',x,ho',hop,hr⟩ j o t hj ho ht
    rcases List.mem_cons.1 hj with rfl | hj
    ·rw [ho] at ho';cases ho';exact dok_lt hop.dst t ht
    ·exact ih _ hr j o t hj ho ht
  exact this J st hO
 have hex:∀ {d:Nat→Bool} {a':Act} {i:Nat} {o:Oper},SyV l J n vs a d a'→i ∈ J→l[i]?=some o→(∀ j0 ∈ J,j0<i→(∃ o0 t,l[j0]?=some o0∧o0.dst=some t∧t ∈ o.looksAt l.toArray)→d j0=true)→∀ w',(execOp a'.eval o).run P w'=.ok (.value (vs i)) w':=by
  intro d a' i o hv hi ho hd w';exact hvs i hi o ho a' (fun t ht=>⟨hv.same t,fun j0 o0 g1 g2 g3 g4=>hv.val j0 o0 t g1 g3 (hd j0 g1 g2 ⟨o0,t,g3,g4,ht⟩) g4⟩) w'
 let Inv:(Nat→Bool)→Act→World→Prop:=fun d a' w'=>SyV l J n vs a d a' ∧
  ((d m=false∧InvG K n l W S m (S 0).nx d a' w') ∨
   (d m=true∧(∀ j,j<m→j ∉ J→d j=true)∧∃ s2 G2,RelG K n s2 a' w' G2∧(∀ j o t,j ∈ J→l[j]?=some o→o.dst=some t→look .any s2.regs t=.any)∧SyRun P n l (fun s3=>AL P n l.toArray Q (l.drop k) s3) J s2))
 have hwn:∀ {o:Oper} {a':Act},o.guard=none→Region.wanted o (yielded l.toArray a'.tmps)=true:=by
  intro o a' hg;unfold Region.wanted;rw [hg]
 refine wp_region_inv' (Inv:=Inv) hm (fun i o ho=>(hpl i o (by simpa using ho)).after) k t1 ?_ (fun i o d a' w' hi ho hd0 hcl hdep hI=>?_) (fun d a' w' hall hI=>?_) (fun i hi hil j hj=>?_)
 ·obtain ⟨G',hR⟩:=r2.reserve (Nat.le_trans r.ext.size (below_drew' w).size) (S m).nx hnxM
  have hlv:lvD S m (S 0).nx (fun _=>false)=fun id=>Nat.blt id (S 0).nx:=by
   funext id
   rw [Bool.eq_iff_iff,lvD_iff];constructor
   ·rintro (h | ⟨j,_,h,_⟩)
    ·simpa using h
    ·cases h
   ·intro h;exact .inl (by simpa using h)
  refine ⟨⟨r.size,fun _ _=>rfl,fun j o t _ _ h=>by cases h⟩,.inl ⟨rfl,_,_,G',by rw [hlv];exact hR,fun j o t _ _ h=>absurd h (by simp),fun t _=>.refl _,fun id hid=>?_⟩⟩;rw [hlv] at hid;have hid:id<(S 0).nx:=by simpa using hid
  exact ⟨0,Nat.zero_le _,hid,.refl _,fun j _ h=>absurd h (Nat.not_lt_zero _),fun _ _ _=>rfl,.inl rfl⟩
 ·obtain ⟨hv,hI⟩:=hI;by_cases hiJ:i ∈ J
  ·
   obtain ⟨hg,⟨t,ht⟩,hpu,_⟩:=syOk_at (hJs i hiJ) ho;have htn:=hdst i o t hiJ ho ht
   have hexi:=hex hv hiJ ho (fun j0 _ hlt ⟨o0,t0,g1,g2,g3⟩=>by
    rcases (hpl i o ho).look j0 o0 t0 g1 g2 g3 with ⟨_,hr⟩ | ⟨h',_⟩
    ·exact hr.done hcl ho hdep
    ·omega)
   rw [if_pos (hwn hg)]
   left
   unfold Oper.wp;rw [hexi,Oper.upon_value,ht];refine ⟨hv.updS hone ho ht htn,?_⟩;have hne:i≠m:=fun e=>hmJ (e ▸ hiJ)
   rcases hI with ⟨h1,h2⟩ | ⟨h1,h2,s2,G2,k1,k2,k3⟩
   ·refine .inl ⟨by rw [upd_ne (fun e=>hne e.symm)];exact h1,?_⟩;rcases Nat.lt_or_ge i m with him | him
    ·have hst:=AG.step' (Q:=Qs K n Q) hpl hT' (by omega) hC0 hL him ho hd0 hcl hdep h2;rw [if_pos (hwn hg)] at hst;unfold Oper.wp at hst;rw [hexi,Oper.upon_value,ht] at hst;exact hst
    ·refine h2.stray him hW htn (fun x=>?_) fun j o' hj ho' e=>hone j i o' o t ho' ho ht (by omega) e
     have:=e0.regs t;rw [hany i o t hiJ ho ht] at this;exact this.trans (.any _)
   ·refine .inr ⟨by rw [upd_ne (fun e=>hne e.symm)];exact h1,fun j hj hjJ=>by rw [upd_ne (fun e=>hjJ (by rw [e];exact hiJ))];exact h2 j hj hjJ,s2,G2,?_,k2,k3⟩;have:=k1.put (d:=some t) (fun k e=>by cases e;exact htn) (x:=.any) (v:=vs i) (.dat (.any _))
    have hle:LeS s2 (s2.put (some t) .any):=by
     refine ⟨fun k=>?_,fun k=>.refl _,rfl⟩;show Les _ (look .any ((t,AV.any)::s2.regs) k);rw [look_cons];split
     ·rename_i e;subst e;rw [k2 i o t hiJ ho ht];exact .refl _
     ·exact .refl _
    exact this.les hle
  rcases Nat.lt_trichotomy i m with him | him | him
  ·
   have hI:d m=false∧InvG K n l W S m (S 0).nx d a' w':=by
    rcases hI with hI | ⟨_,h2,_⟩
    ·exact hI
    ·rw [h2 i him hiJ] at hd0;cases hd0
   have hst:=AG.step' (Q:=Qs K n Q) hpl hT' (by omega) hC0 hL him ho hd0 hcl hdep hI.2;have hdm:upd d i m=false:=by rw [upd_ne (by omega)];exact hI.1
   split
   ·rename_i hw;rw [if_pos hw] at hst;exact .inl (Oper.wp_mono (fun a2 w2 ⟨g1,g2,g3⟩=>⟨hv.other hone hiJ ho g2 g3,.inl ⟨hdm,g1⟩⟩) (wp_put hst))
   ·rename_i hw;rw [if_neg hw] at hst;exact ⟨hv.other hone hiJ ho put_size (fun t ht=>put_getD ht),.inl ⟨hdm,hst⟩⟩
  ·
   subst him;rw [hA] at ho;cases ho
   have hnon:∀ j,j<i→j ∉ J→d j=true:=fun j hj hjJ=>by
    have:=List.all_eq_true.1 t5 j (List.mem_range.2 hj);rw [Bool.or_eq_true] at this;rcases this with h' | h'
    ·exact absurd (hasN_mem h') hjJ
    ·exact (reachT hT' h').done hcl hA hdep
   have hI:d i=false∧InvG K n l W S i (S 0).nx d a' w':=by
    rcases hI with hI | ⟨h1,_⟩
    ·exact hI
    ·rw [h1] at hd0;cases hd0

   let dB:Nat→Nat→Bool:=fun b j=>d j||Nat.blt j b
   have pre:∀ b,b≤i→∃ ap,InvG K n l W S i (S 0).nx (dB b) ap w'∧SyV l J n vs a (dB b) ap∧ap.defers=a'.defers∧∀ t,(∀ j o,j<i→j ∈ J→d j=false→l[j]?=some o→o.dst≠some t)→ap.tmps.getD t undef=a'.tmps.getD t undef:=by
    intro b
    induction b with
    | zero =>
     intro _;have e:dB 0=d:=by funext j;show (d j||Nat.blt j 0)=d j;simp
     rw [e];exact ⟨a',hI.2,hv,rfl,fun _ _=>rfl⟩
    | succ b ih =>
     intro hb;obtain ⟨ap,g1,g2,g3,g4⟩:=ih (by omega);by_cases hdb:d b=true
     ·have e:dB (b+1)=dB b:=by
       funext j
       show (d j||Nat.blt j (b+1))=(d j||Nat.blt j b);by_cases e:j=b
       ·subst e;rw [hdb];rfl
       ·congr 1;rw [Bool.eq_iff_iff];simp only [Nat.blt_eq];omega
      rw [e];exact ⟨ap,g1,g2,g3,g4⟩
     ·have hdb:d b=false:=by simpa using hdb
      have hbJ:b ∈ J:=Classical.byContradiction fun h'=>by rw [hnon b (by omega) h'] at hdb;cases hdb
      obtain ⟨ob,hob⟩:∃ ob,l[b]?=some ob:=⟨l[b]'(by omega),List.getElem?_eq_getElem (by omega)⟩;obtain ⟨hg,⟨t,ht⟩,hpu,_⟩:=syOk_at (hJs b hbJ) hob;have htn:=hdst b ob t hbJ hob ht;have hdB:∀ j,j<b→dB b j=true:=fun j hj=>by show (d j||Nat.blt j b)=true;rw [show Nat.blt j b=true by simpa using hj];simp
      have hcl2:ClosedD l (dB b):=by
       intro j oj hoj hj e he hbn;have hj:(d j||Nat.blt j b)=true:=hj;rw [Bool.or_eq_true] at hj;rcases hj with hj | hj
       ·have:=hcl j oj hoj hj e he hbn;show (d e.on||_)=true;rw [this];rfl
       ·have hj:j<b:=by simpa using hj
        have:=(hpl j oj hoj).after e he hbn;exact hdB _ (by omega)
      have hdep2:∀ e ∈ ob.after,Region.binds .any e=true→dB b e.on=true:=fun e he hbn=>hdB _ ((hpl b ob hob).after e he hbn)
      have hd02:dB b b=false:=by show (d b||Nat.blt b b)=false;rw [hdb,Bool.false_or,Bool.eq_false_iff];intro h;simp at h
      have hexb:=hex g2 hbJ hob (fun j0 _ hlt _=>hdB j0 hlt);have hst:=AG.step' (Q:=Qs K n Q) hpl hT' (by omega) hC0 hL (show b<i by omega) hob hd02 hcl2 hdep2 g1;rw [if_pos (hwn hg)] at hst;unfold Oper.wp at hst;rw [hexb,Oper.upon_value,ht] at hst
      have e:upd (dB b) b=dB (b+1):=by
       funext j
       show ((d j||Nat.blt j b)||(j==b))=(d j||Nat.blt j (b+1));rw [Bool.or_assoc];congr 1;rw [Bool.eq_iff_iff];simp only [Bool.or_eq_true,Nat.blt_eq,beq_iff_eq];omega
      have g2':=g2.updS hone hob ht htn;rw [e] at hst g2';refine ⟨_,hst,g2',g3,fun t' ht'=>?_⟩;rw [put_getD (fun e'=>ht' b ob (by omega) hbJ hdb hob (by rw [ht,e']))];exact g4 t' ht'
   obtain ⟨ap,g1,g2,g3,g4⟩:=pre i (Nat.le_refl _);obtain ⟨G',hr⟩:=AG.last hpl (by omega) hC0 hL hdead (fun j hj=>by show (d j||Nat.blt j i)=true;rw [show Nat.blt j i=true by simpa using hj];simp) g1;have hwl:=AL.out hK K ap w' ⟨G',hr⟩
   have hagree:∀ t,t ∈ A.looksAt l.toArray→ap.tmps.getD t undef=a'.tmps.getD t undef:=fun t ht=>g4 t fun j o hj hjJ hdj hoj e=>by
    rcases (hpl i A hA).look j o t hoj e ht with ⟨_,hr⟩ | ⟨h',_⟩
    ·rw [hr.done hcl hA hdep] at hdj;cases hdj
    ·omega
   have hex2:execOp ap.eval A=execOp a'.eval A:=exec_same (ops:=l.toArray) (fun cs b e=>by rw [e] at hcA;cases hcA) hagree
   have hwt:Region.wanted A (yielded l.toArray ap.tmps)=Region.wanted A (yielded l.toArray a'.tmps):=by
    unfold Region.wanted
    cases hg:A.guard with
    | none=>rfl
    | some gw =>
     obtain ⟨g,want⟩:=gw
     have hy:yielded l.toArray ap.tmps g=yielded l.toArray a'.tmps g:=by
      unfold yielded
      cases ht:(l.toArray[g]?).bind (·.dst) with
      | none=>rfl
      | some t =>
       have e1:=hagree t (by
        unfold Oper.looksAt;rw [hg];simp only [List.mem_append]
        right
        simp only [ht]
        simp)
       simp only [Option.bind_some];rw [Array.getD_eq_getD_getElem?,Array.getD_eq_getD_getElem?] at e1;by_cases htn:t<n
       ·rw [Array.getElem?_eq_getElem (by rw [g2.size];exact htn),Array.getElem?_eq_getElem (by rw [hv.size];exact htn)] at e1 ⊢;simp only [Option.getD_some] at e1;rw [e1]
       ·rw [Array.getElem?_eq_none (Nat.le_trans (Nat.le_of_eq g2.size) (Nat.le_of_not_lt htn)),Array.getElem?_eq_none (Nat.le_trans (Nat.le_of_eq hv.size) (Nat.le_of_not_lt htn))]
     simp only [hy]
   have fin2:∀ (a1 b1:Act) (v:Value) w2,a1.tmps=a'.tmps→b1.tmps=ap.tmps→(a1.defers=a'.defers↔b1.defers=ap.defers)→Qs K n QA .normal (b1.put A.dst v) w2→Inv (upd d i) (a1.put A.dst v) w2:=by
    rintro a1 b1 v w2 e1 e2 e3 ⟨st',hq,k4⟩
    obtain ⟨_,s2,k1,k2,k3⟩:=hQA _ _ hq;obtain ⟨G2,k5⟩:=k1.ok k4;refine ⟨hv.other hone hmJ hA (put_size.trans (by rw [e1])) (fun t ht=>(put_getD ht).trans (by rw [e1])),.inr ⟨upd_self ..,fun j hj hjJ=>by rw [upd_ne (by omega)];exact hnon j hj hjJ,s2,G2,⟨k5.nx,k5.hr,k5.ext,?_,?_,fun t=>?_⟩,k2,k3⟩⟩
    ·rw [put_size,e1];exact hv.size
    ·have hb:=k5.defers
     have hpd:∀ (x:Act),(x.put A.dst v).defers=x.defers:=fun x=>by cases A.dst <;> rfl
     rw [hpd] at hb ⊢;have hap:ap.defers=[]:=hr.defers;have ha':a'.defers=[]:=by rw [←g3];exact hap
     rw [e3.2 (by rw [hb,hap]),ha']
    ·by_cases hs:∃ j o,j ∈ J∧l[j]?=some o∧o.dst=some t
     ·obtain ⟨j,o,h1,h2,h3⟩:=hs;rw [k2 j o t h1 h2 h3];exact .dat (.any _)
     ·have:=k5.regs t
      have e4:(b1.put A.dst v).tmps.getD t undef=(a1.put A.dst v).tmps.getD t undef:=by
       have e5:b1.tmps.getD t undef=a1.tmps.getD t undef:=by
        rw [e1,e2];exact g4 t fun j o _ hjJ _ hoj e=>hs ⟨j,o,hjJ,hoj,e⟩
       by_cases hd:A.dst=some t
       ·rw [hd];show (b1.tmps.setIfInBounds t v).getD t undef=(a1.tmps.setIfInBounds t v).getD t undef;rw [e1,e2];by_cases htn:t<n
        ·rw [getD_set (by rw [g2.size];exact htn),getD_set (by rw [hv.size];exact htn),if_pos rfl,if_pos rfl]
        ·rw [Array.getD_eq_getD_getElem?,Array.getD_eq_getD_getElem?,Array.getElem?_eq_none (by rw [Array.size_setIfInBounds];exact Nat.le_trans (Nat.le_of_eq g2.size) (Nat.le_of_not_lt htn)),Array.getElem?_eq_none (by rw [Array.size_setIfInBounds];exact Nat.le_trans (Nat.le_of_eq hv.size) (Nat.le_of_not_lt htn))]
       ·rw [put_getD hd,put_getD hd];exact e5
      rw [←e4];exact this
   unfold wpList at hwl;rw [hwt] at hwl;split
   ·rename_i hw;rw [if_pos hw] at hwl;exact .inl (wp_norm (fun e a w he ⟨s',h1,_⟩=>he (hQA _ _ h1).1) hex2 fin2 hwl)
   ·rename_i hw;rw [if_neg hw] at hwl;exact fin2 a' ap undef w' rfl rfl ⟨fun _=>rfl,fun _=>rfl⟩ hwl
  ·exfalso
   have:=List.all_eq_true.1 t7 i (List.mem_range.2 hi);rw [Bool.or_eq_true] at this;rcases this with h' | h'
   ·have:i≤m:=Nat.le_of_ble_eq_true h';omega
   ·exact hiJ (hasN_mem h')
 ·obtain ⟨hv,hI⟩:=hI
  have hI:∃ s2 G2,RelG K n s2 a' w' G2∧SyRun P n l (fun s3=>AL P n l.toArray Q (l.drop k) s3) J s2:=by
   rcases hI with ⟨h1,_⟩ | ⟨_,_,s2,G2,k1,_,k3⟩
   ·rw [hall m t2] at h1;cases h1
   ·exact ⟨s2,G2,k1,k3⟩
  obtain ⟨s2,G2,k1,k3⟩:=hI
  obtain ⟨s3,g1,g2⟩:=SyRun.out J k3 k1 (fun j hj o ho=>by
   obtain ⟨_,⟨t,ht⟩,_⟩:=syOk_at (hJs j hj) ho;refine ⟨t,ht,fun v hv2=>?_⟩;rw [hex hv hj ho (fun j0 hj0 _ _=>hall j0 (hJk j0 hj0)) w'] at hv2;cases hv2
   exact hv.val j o t hj ho (hall j (hJk j hj)) ht)
  exact AL.out g1 K a' w' ⟨G2,g2⟩
 ·have hge:=List.all_eq_true.1 t6 i (List.mem_range.2 hil);rw [Bool.or_eq_true] at hge;rcases hge with h | h
  ·have h:i<k:=by simpa using h
   omega
  ·exact reachT hT' (List.all_eq_true.1 h j (List.mem_range.2 hj))
end Go.Proofs.Ytljebnobajmjnaa.Dr
