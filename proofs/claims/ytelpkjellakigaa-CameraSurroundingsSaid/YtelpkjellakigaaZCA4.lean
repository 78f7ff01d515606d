/- Decompiling: control and functions of the machine over terms. No program in sight. -/
import Derived.Test.YtelpkjellakigaaZCA3
import Derived.Test.YtelpkjellakigaaProg
/- Decompiling: control and functions of the machine over terms. No program in sight. -/
namespace Go.Proofs.Ytelpkjellakigaa
open Go Go.RowKit

section
variable {P : Program} {n : Nat} {F : List (Nat → AV)} {ρ : Ty} {fu : Nat} {C : DC} {self : SelfG D (KD ρ) ρ} {r : ρ.den}
/-- what a handler of regions that draw must do -/
def DrawOk (P : Program) (fu : Nat) (n : Nat) (sD : An → Nat → List Oper → SSt D → (SSt D → G D (KD ρ) ρ) → G D (KD ρ) ρ) : Prop :=
  ∀ an l (st : SSt D) K r F s id,(sD an n l st K).den fu = some r → StL F st s → AW P n (.region id l.toArray true) (PostL F st fun st' => (K st').den fu = some r) s
/-- behind a piece of code -/
def PostC (F : List (Nat → AV)) (st : SSt D) (Q : Exit → SSt D → Prop) (e : Exit) (s' : ASt) : Prop := Post F st (Q e) s'
theorem unlay_post {base : SSt D} {sg : Sig} {st : SSt D} {Q : SSt D → Prop} {s : ASt} (hst : Fix (lay base sg) st) (h : Post F st (fun st' => Q (unlay base st' sg)) s) : Post F base Q s := by
  obtain ⟨st',h1,h2,h3⟩ := h
  obtain ⟨g1,g2⟩ := unlay_ok (hst.trans h2) h1
  exact ⟨_,g1,g2,h3⟩
theorem AW.monoE {c : Code} {s : ASt} {Q Q' : Exit → ASt → Prop} (h : AW P n c Q s) (hq : ∀ e s1,Q e s1 → Q' e s1) : AW P n c Q' s := AW.post h fun e s1 h1 => ⟨s1,.refl _,hq e s1 h1⟩
theorem loopA {c : Code} {β : Type} {g : Nat → β → Option ρ.den} {I : β → ASt → Prop} {Q : Exit → ASt → Prop}
    (h0 : ∀ x,g 0 x = none)
    (step : ∀ k x s,g (k + 1) x = some r → I x s → AW P n c (thenA (fun s' => ∃ x',g k x' = some r ∧ I x' s') Q) s) :
    ∀ k x s,g k x = some r → I x s → AW P n (.loop c) Q s := by
  intro k x s hg hI
  refine .mk fun K a w rr => ?_
  have key : ∀ (k : Nat) (x : β) (s : ASt),g k x = some r → I x s → ∀ (a : Act) (w : World),Rel K n s a w → ∀ (b : Frame) (kk : List Item) (cs : List Frame),
      ∃ e1 a' w',Qs K n Q e1 a' w' ∧ Arrives P (lone (b.at a (.code c :: .inLoop c :: kk)) cs w) b kk cs e1 a' w' := by
    intro k
    induction k with
    | zero => intro x s h;rw [h0] at h;cases h
    | succ k ih =>
      intro x s h hI a w hr b kk cs
      obtain ⟨e₁,a₁,w₁,⟨s1,hq,hr'⟩,harr⟩ := step k x s h hI K a w hr b (.inLoop c :: kk) cs
      cases e₁ with
      | normal =>
        obtain ⟨x',hg',hI'⟩ := hq
        obtain ⟨e₂,a₂,w₂,hq₂,harr₂⟩ := ih x' s1 hg' hI' a₁ w₁ hr' b kk cs
        exact ⟨e₂,a₂,w₂,hq₂,.of_steps (Steps.trans harr (.one step_inLoop)) harr₂⟩
      | exit id => exact ⟨_,a₁,w₁,⟨s1,hq,hr'⟩,.pass (x := .inLoop c) rfl (fun _ _ => .inl (by simp)) harr⟩
      | goto l => exact ⟨_,a₁,w₁,⟨s1,hq,hr'⟩,.pass (x := .inLoop c) rfl (fun _ _ => .inl (by simp)) harr⟩
      | ret => exact ⟨_,a₁,w₁,⟨s1,hq,hr'⟩,.pass (x := .inLoop c) rfl (fun _ _ => .inl (by simp)) harr⟩
      | panic ch => exact ⟨_,a₁,w₁,⟨s1,hq,hr'⟩,.pass (x := .inLoop c) rfl (fun _ _ => .inl (by simp)) harr⟩
      | outgrown => exact ⟨_,a₁,w₁,⟨s1,hq,hr'⟩,.pass (x := .inLoop c) rfl (fun _ _ => .inl (by simp)) harr⟩
  intro b kk cs
  obtain ⟨e1,a',w',hq,harr⟩ := key k x s hg hI a w rr b kk cs
  exact ⟨e1,a',w',hq,.of_steps (.one step_loop) harr⟩
theorem sC_ok {sD : An → Nat → List Oper → SSt D → (SSt D → G D (KD ρ) ρ) → G D (KD ρ) ρ} (hC : C.ok P) (hS : SelfOkG P fu self) (hD : DrawOk P fu n sD) : ∀ (c : Code) (an : An) (st : SSt D) (K : Exit → SSt D → G D (KD ρ) ρ) (F : List (Nat → AV)) (s : ASt),(sC C self sD n c an st K).den fu = some r → StL F st s →
    AW P n c (PostC F st fun e st' => (K e st').den fu = some r) s := by
  intro c
  induction c with
  | skip => intro an st K F s h hs;rw [sC] at h;exact AW.skip ⟨st,hs,.refl st,h⟩
  | label l => intro an st K F s h hs;rw [sC] at h;exact AW.label ⟨st,hs,.refl st,h⟩
  | exit id => intro an st K F s h hs;rw [sC] at h;exact AW.exit ⟨st,hs,.refl st,h⟩
  | ret => intro an st K F s h hs;rw [sC] at h;exact AW.ret ⟨st,hs,.refl st,h⟩
  | seq a b iha ihb =>
    intro an st K F s h hs
    rw [sC] at h
    split at h
    · refine AW.seq ((iha an.l st _ F s h hs).monoE ?_)
      rintro e s1 ⟨st1,g1,g2,g3⟩
      cases e with
      | normal => exact (ihb an.r st1 K F s1 g3 g1).monoE fun e s2 hq => hq.fix g2
      | exit id => exact ⟨st1,g1,g2,g3⟩
      | goto l => exact ⟨st1,g1,g2,g3⟩
      | ret => exact ⟨st1,g1,g2,g3⟩
      | panic ch => exact ⟨st1,g1,g2,g3⟩
      | outgrown => exact ⟨st1,g1,g2,g3⟩
    · rename_i sg hsg
      cases hl : layOk st sg with
      | false => rw [hl] at h;cases h
      | true =>
        rw [hl] at h
        simp only [cond_true] at h
        rw [G.den] at h
        unfold joinF at h
        refine AW.seq ((iha an.l (lay st sg) _ F s h (lay_ok hs hl)).monoE ?_)
        rintro e s1 ⟨st1,g1,g2,g3⟩
        have other : ∀ e',(K e' (unlay st st1 sg)).den fu = some r → Post F st (fun st' => (K e' st').den fu = some r) s1 := fun e' g3 => by
          obtain ⟨k1,k2⟩ := unlay_ok g2 g1
          exact ⟨_,k1,k2,g3⟩
        cases e with
        | normal =>
          obtain ⟨x,hx,hst⟩ := arrG_ok g3 g2 g1
          exact (ihb an.r _ _ F s1 hx hst).monoE fun e s2 hq => unlay_post (inj_fix (.refl _)) hq
        | exit id => exact other _ g3
        | goto l => exact other _ g3
        | ret => exact other _ g3
        | panic ch => exact other _ g3
        | outgrown => exact other _ g3
  | cond x a b iha ihb =>
    intro an st K F s h hs
    rw [sC] at h
    obtain ⟨m,nx,hm,hr,hf⟩ := hs
    refine AW.rle hr ?_
    have ex := enc_ev st m nx x
    split at h
    · rename_i e he
      rw [he,SV.enc] at ex
      have hst : StL F st (st.enc m nx) := ⟨m,nx,hm,.refl _,hf⟩
      rcases iteG_den h with ⟨h1,h2⟩ | ⟨h1,h2⟩
      · refine AW.condT (ex.trans (congrArg AV.bool h1)) (iha an.l st K F _ h2 hst)
      · refine AW.condF (ex.trans (congrArg AV.bool h1)) (ihb an.r st K F _ h2 hst)
    · cases h
  | block id c ih =>
    intro an st K F s h hs
    rw [sC] at h
    refine AW.block ((ih an.l st _ F s h hs).monoE ?_)
    rintro e s1 ⟨st1,g1,g2,g3⟩
    cases e with
    | exit id' =>
      simp only at g3
      cases hb : Nat.beq id' id with
      | true =>
        rw [hb] at g3
        have := Nat.eq_of_beq_eq_true hb
        subst this
        exact inA_eq ⟨st1,g1,g2,g3⟩
      | false =>
        rw [hb] at g3
        exact inA_ne hb ⟨st1,g1,g2,g3⟩
    | normal => exact ⟨st1,g1,g2,g3⟩
    | goto l => exact ⟨st1,g1,g2,g3⟩
    | ret => exact ⟨st1,g1,g2,g3⟩
    | panic ch => exact ⟨st1,g1,g2,g3⟩
    | outgrown => exact ⟨st1,g1,g2,g3⟩
  | loop c ih =>
    intro an st K F s h hs
    rw [sC] at h
    split at h
    · cases h
    · rename_i sg hsg
      cases hl : layOk st sg with
      | false => rw [hl] at h;cases h
      | true =>
        rw [hl] at h
        simp only [cond_true] at h
        split at h
        · rename_i e0 he0
          rw [G.den] at h
          have h0 := cut_ok (F := F) (e' := .var e0.den) he0 rfl ((Fix.refl _).trans (matF_fix sg (lay st sg))) (matF_ok sg _ (lay_ok hs hl))
          refine loopA (P := P) (r := r) (I := fun x s => StL F (inj st sg (.var x)) s) (g := fun k x => loopF (fun j x => (sC C self sD n c an.l (inj st sg (.var x)) fun e st' => match e with
            | .normal => arrG st sg j st'
            | e => K e (unlay st st' sg)).den fu) k x) (fun x => rfl) (fun k x s' hg hI => ?_) fu e0.den s h h0
          have hg : (sC C self sD n c an.l (inj st sg (.var x)) fun e st' => match e with
            | .normal => arrG st sg (loopF _ k) st'
            | e => K e (unlay st st' sg)).den fu = some r := hg
          refine (ih an.l _ _ F s' hg hI).monoE ?_
          rintro e s1 ⟨st1,g1,g2,g3⟩
          have other : ∀ e',(K e' (unlay st st1 sg)).den fu = some r → Post F st (fun st' => (K e' st').den fu = some r) s1 := fun e' g3 => by
            obtain ⟨k1,k2⟩ := unlay_ok (inj_fix g2) g1
            exact ⟨_,k1,k2,g3⟩
          cases e with
          | normal =>
            obtain ⟨x',hx,hst⟩ := arrG_ok g3 (inj_fix g2) g1
            exact ⟨x',hx,hst⟩
          | exit id => exact other _ g3
          | goto l => exact other _ g3
          | ret => exact other _ g3
          | panic ch => exact other _ g3
          | outgrown => exact other _ g3
        · cases h
  | region id ops d =>
    intro an st K F s h hs
    obtain ⟨l⟩ := ops
    cases d with
    | false =>
      rw [sC] at h
      refine AW.monoE (AW.region (sL_ok hC hS an l 0 st s h hs (.refl st))) ?_
      rintro e s1 ⟨rfl,h1⟩
      exact h1
    | true =>
      rw [sC] at h
      refine (hD an l st _ r F s id h hs).monoE ?_
      rintro e s1 ⟨rfl,h1⟩
      exact h1
  | rangeFunc f ps a b => intro an st K F s h hs;rw [sC] at h;cases h
  | scope c ih =>
    intro an st K F s h hs
    rw [sC] at h
    refine AW.scope ((ih an.l st _ F s h hs).monoE ?_)
    rintro e s1 ⟨st1,g1,g2,g3⟩
    cases e with
    | goto l => cases g3
    | normal => exact ⟨rfl,st1,g1,g2,g3⟩
    | exit id => exact ⟨rfl,st1,g1,g2,g3⟩
    | ret => exact ⟨rfl,st1,g1,g2,g3⟩
    | panic ch => exact ⟨rfl,st1,g1,g2,g3⟩
    | outgrown => exact ⟨rfl,st1,g1,g2,g3⟩
  | goto l => intro an st K F s h hs;rw [sC] at h;cases h
  | refuse w => intro an st K F s h hs;rw [sC] at h;cases h
end
/-! ### Functions -/
section
variable {P : Program} {T : Tab} {st : SSt D} {m : Nat → Nat} {nx : Nat}
theorem loadA_elt {v : SV D} {t : TypeId} {x : SV D} {gd : E D .bool} (h : loadA T st t v = some (x,gd)) : ∃ id q i o,v.enc m st.blk = .elt id q i o := by
  unfold loadA at h
  split at h
  · split at h
    · rename_i Z sz b id ver k2 i o hI
      split at h
      · rename_i fr rt xs e' v' hb
        cases hc : (Nat.beq ver v' && i.zero? && Nat.beq o 0 && Nat.beq sz (_ * rt.size) && Nat.blt 0 _) with
        | false => rw [hc] at h;cases h
        | true =>
          simp only [Bool.and_eq_true] at hc
          rw [SV.enc,rowLen_eq hb hc.1.1.1.1]
          exact ⟨_,_,_,_,rfl⟩
      · cases h
    · cases h
  · cases h
theorem resS1_ok (hT : T.ok P) (hm : MOk m nx st) {t ty : Nat} {x : SV D} {l : List ResultVar} (h : resS1 T st t ty = some x) (hg : ∀ g ∈ resGd T st (.cell t ty :: l),g.den = true) : resA P (st.enc m nx) (.cell t ty) (x.enc m st.blk) := by
  unfold resS1 at h
  split at h
  · rename_i id Dd Z s b h1 h2 h3
    split at h
    · rename_i cs e h5
      have hi : isBox st.blk id = true := by unfold isBox;rw [h5]
      have hb := enc_blk hm (k := id) (by rw [h5];simp)
      rw [h5,SB.enc] at hb
      exact resA_box (by rw [enc_get,h1,SV.enc,hi];rfl) hb (allP_at hT.und h2) (allP_at hT.inf h3) (partS_enc h)
    · cases h
  · rename_i id ver k i o h1
    obtain ⟨⟨y,g⟩,h2,h3⟩ := Option.map_eq_some_iff.1 h
    simp only at h3
    subst h3
    have hgd : g.den = true := hg g (by rw [resGd,h1];simp only [h2];exact List.mem_cons_self ..)
    obtain ⟨a1,a2,a3,a4,e⟩ := loadA_elt (m := m) h2
    refine resA_elt (by rw [enc_get,h1];exact e) fun n => ?_
    exact loadA_ok (y := .tmp t) hT hm (by show loadA T st ty (st.get t) = _;rw [h1];exact h2) hgd rfl
  · cases h
theorem resS_ok (hT : T.ok P) (hm : MOk m nx st) : ∀ {rs : List ResultVar} {ys : List (SV D)},resS T st rs = some ys → (∀ g ∈ resGd T st rs,g.den = true) → resL P (st.enc m nx) rs (SV.encL m st.blk ys)
  | [],ys,h,_ => by
    injection h with h
    subst h
    rw [SV.encL];trivial
  | .tmp t :: l,ys,h,hg => by
    rw [resS] at h
    split at h
    · rename_i xs h1
      injection h with h
      subst h
      rw [SV.encL]
      exact ⟨enc_get st m nx t,resS_ok hT hm h1 hg⟩
    · cases h
  | .cell t ty :: l,ys,h,hg => by
    rw [resS] at h
    split at h
    · rename_i x xs h1 h2
      injection h with h
      subst h
      rw [SV.encL]
      refine ⟨resS1_ok hT hm h1 hg,resS_ok hT hm h2 fun g hm' => hg g ?_⟩
      rw [resGd]
      split
      · split
        · exact List.mem_cons_of_mem _ hm'
        · exact hm'
      · exact hm'
    · cases h
theorem grdL_den {ρ : Ty} {fu : Nat} {k : G D (KD ρ) ρ} {r : ρ.den} : ∀ (l : List (E D .bool)),(grdL l k).den fu = some r → (∀ g ∈ l,g.den = true) ∧ k.den fu = some r
  | [],h => ⟨fun _ h' => (List.not_mem_nil h').elim,h⟩
  | g :: l,h => by
    rw [grdL,G.den] at h
    cases hg : g.den with
    | false => rw [hg] at h;cases h
    | true =>
      rw [hg] at h
      obtain ⟨h1,h2⟩ := grdL_den l h
      refine ⟨fun g' hg' => ?_,h2⟩
      rcases List.mem_cons.1 hg' with rfl | hg'
      · exact hg
      · exact h1 g' hg'
theorem argRS_enc {H : Nat → SB D} : ∀ (xs : List (SV D)) (i : Nat),encR m H (argRS i xs) = argR i (SV.encL m H xs)
  | [],i => by rw [SV.encL];rfl
  | x :: l,i => by rw [SV.encL,argRS,argR,← argRS_enc l];rfl
variable {ρ : Ty} {fu : Nat} {C : DC}
theorem calleeS_enc (xs : List (SV D)) : (calleeS st xs).enc m nx = ⟨argR 0 (SV.encL m st.blk xs),(st.enc m nx).heap,nx⟩ := by
  show (⟨encR m st.blk (argRS 0 xs ++ []),encH m st.blk (st.heap ++ st.hk),nx⟩ : ASt) = _
  rw [List.append_nil,argRS_enc];rfl
theorem sF_ok {dr : DrawG D (KD ρ) ρ} (hC : C.ok P) (hD : ∀ self n,SelfOkG (ρ := ρ) P fu self → DrawOk P fu n (dr self)) : ∀ f,SelfOkG (ρ := ρ) P fu (sF C dr f)
  | 0 => fun an Fn xs st K r F m nx h => by cases h
  | f + 1 => fun an Fn xs st K r F m nx h hm hf => by
    rw [sF] at h
    split at h
    · rename_i fn h1
      split at h
      · rename_i c h2
        cases hb : Nat.ble xs.length fn.ntmps with
        | false => rw [hb] at h;cases h
        | true =>
          rw [hb] at h
          simp only [cond_true] at h
          have hst : StL ((fun d => look .any (st.enc m nx).regs d) :: F) (calleeS st xs) (⟨argR 0 (SV.encL m st.blk xs),(st.enc m nx).heap,nx⟩) := by
            rw [← calleeS_enc]
            refine ⟨m,nx,⟨hm.lt,hm.inj,hm.keys⟩,.refl _,⟨by show _ + 1 = _ + 1;rw [hf.len],fun i l g g1 g2 d => ?_⟩⟩
            cases i with
            | zero =>
              have g1 : some (st.regs ++ st.kp) = some l := g1
              have g2 : some (fun d => look .any (st.enc m nx).regs d) = some g := g2
              injection g1 with g1
              injection g2 with g2
              subst g1;subst g2
              show Les _ (look .any (encR m st.blk (st.regs ++ st.kp)) d)
              rw [look_encR]
              exact .refl _
            | succ i => exact hf.les i l g g1 g2 d
          refine AC.body (allP_at hC.fns h1) h2 rfl rfl (by rw [encL_length];exact hb) ?_
          refine (sC_ok hC (sF_ok hC hD f) (hD _ _ (sF_ok hC hD f)) c an _ _ _ _ h hst).post ?_
          rintro e s1 ⟨st1,⟨m1,nx1,k1,k2,k3⟩,g2,g3⟩
          refine ⟨_,k2,?_⟩
          have key : ∀ ys,resS C.T st1 fn.results.toList = some ys → (∀ g ∈ resGd C.T st1 fn.results.toList,g.den = true) → (K (oneOfS ys) ⟨st.regs,st.kp,st1.heap,st.hk,st.fr,st1.nx⟩).den fu = some r → (e = .ret ∨ e = .normal) →
              retQ P fn.results.toList (fun y hp' nx' => ∃ y' st' m',st'.regs = st.regs ∧ Fix st st' ∧ MOk m' nx' st' ∧ hp' = (st'.enc m' nx').heap ∧
                FrOk m' st'.blk ((st.regs ++ st.kp) :: st.fr) ((fun d => look .any (st.enc m nx).regs d) :: F) ∧ y = y'.enc m' st'.blk ∧ (K y' st').den fu = some r) e (st1.enc m1 nx1) := by
            intro ys hys hgd hk he
            have hhk : st1.hk = st.hk := g2.hk
            have hfr : st1.fr = (st.regs ++ st.kp) :: st.fr := g2.fr
            have hblk : (⟨st.regs,st.kp,st1.heap,st.hk,st.fr,st1.nx⟩ : SSt D).blk = st1.blk := by
              funext k
              show look (look .dead st.hk k) st1.heap k = look (look .dead st1.hk k) st1.heap k
              rw [hhk]
            refine ⟨he,_,resS_ok hC.T k1 hys hgd,oneOfS ys,⟨st.regs,st.kp,st1.heap,st.hk,st.fr,st1.nx⟩,m1,rfl,⟨rfl,rfl,rfl⟩,⟨?_,?_,?_⟩,?_,?_,?_,hk⟩
            · rw [hblk];exact k1.lt
            · rw [hblk];exact k1.inj
            · show ∀ p ∈ st1.heap ++ st.hk,_
              rw [← hhk];exact k1.keys
            · show encH m1 st1.blk (st1.heap ++ st1.hk) = encH m1 (⟨st.regs,st.kp,st1.heap,st.hk,st.fr,st1.nx⟩ : SSt D).blk (st1.heap ++ st.hk)
              rw [hblk,hhk]
            · rw [hblk,← hfr];exact k3
            · rw [hblk,oneOfS_enc]
          cases e with
          | ret =>
            unfold outS at g3
            simp only at g3
            split at g3
            · rename_i ys hys
              obtain ⟨q1,q2⟩ := grdL_den _ g3
              exact key ys hys q1 q2 (.inl rfl)
            · cases g3
          | normal =>
            unfold outS at g3
            simp only at g3
            split at g3
            · rename_i ys hys
              obtain ⟨q1,q2⟩ := grdL_den _ g3
              exact key ys hys q1 q2 (.inr rfl)
            · cases g3
          | exit id => cases g3
          | goto l => cases g3
          | panic ch => cases g3
          | outgrown => cases g3
      · cases h
    · cases h
/-- a whole function: its residual program is a contract -/
theorem topG_ok {dr : DrawG D (KD ρ) ρ} (hC : C.ok P) (hD : ∀ self n,SelfOkG (ρ := ρ) P fu self → DrawOk P fu n (dr self)) {f : Nat} {an : An} {Fn : FuncId} {σ : Ty} {x : σ.den} {y : ρ.den} (h : (topG C dr f an Fn σ (.var x)).den fu = some y) : AF P Fn (σ.avs false x) (oneOf (ρ.avs true y)) := by
  unfold topG at h
  split at h
  · rename_i fn h1
    split at h
    · rename_i c h2
      cases hb : Nat.ble (svsE false σ (.var x : E D σ)).length fn.ntmps with
      | false => rw [hb] at h;cases h
      | true =>
        rw [hb] at h
        simp only [cond_true] at h
        refine AF.of_AC ?_
        have e0 : SV.encL (fun k => k) (fun _ => SB.dead) (svsE false σ (.var x : E D σ)) = σ.avs false x := svsE_enc false σ (.var x)
        rw [← e0]
        have hst : StL [] (⟨argRS 0 (svsE false σ (.var x : E D σ)),[],[],[],[],0⟩ : SSt D) ⟨argR 0 (SV.encL (fun k => k) (fun _ => SB.dead) (svsE false σ (.var x : E D σ))),[],0⟩ := by
          refine ⟨fun k => k,0,⟨fun k hk => absurd rfl hk,fun k k' hk => absurd rfl hk,fun p hp => by cases hp⟩,?_,⟨rfl,fun i l g h => by simp at h⟩⟩
          have : (⟨argRS 0 (svsE false σ (.var x : E D σ)),[],[],[],[],0⟩ : SSt D).enc (fun k => k) 0 = ⟨argR 0 (SV.encL (fun k => k) (fun _ => SB.dead) (svsE false σ (.var x : E D σ))),[],0⟩ := by
            show (⟨encR _ _ (argRS 0 _ ++ []),[],0⟩ : ASt) = _
            rw [List.append_nil,argRS_enc];rfl
          rw [this]
          exact .refl _
        refine AC.body (allP_at hC.fns h1) h2 rfl rfl (by rw [encL_length];exact hb) ?_
        refine (sC_ok hC (sF_ok hC hD f) (hD _ _ (sF_ok hC hD f)) c an _ _ _ _ h hst).post ?_
        rintro e s1 ⟨st1,⟨m1,nx1,k1,k2,k3⟩,g2,g3⟩
        refine ⟨_,k2,?_⟩
        cases e with
        | ret =>
          simp only at g3
          split at g3
          · rename_i ys hys
            split at g3
            · rename_i rr hrr
              obtain ⟨q1,q2⟩ := grdL_den _ g3
              rw [G.den] at q2
              injection q2 with q2
              subst q2
              exact ⟨.inl rfl,_,resS_ok hC.T k1 hys q1,exRs_one k1 hrr⟩
            · cases g3
          · cases g3
        | normal =>
          simp only at g3
          split at g3
          · rename_i ys hys
            split at g3
            · rename_i rr hrr
              obtain ⟨q1,q2⟩ := grdL_den _ g3
              rw [G.den] at q2
              injection q2 with q2
              subst q2
              exact ⟨.inr rfl,_,resS_ok hC.T k1 hys q1,exRs_one k1 hrr⟩
            · cases g3
          · cases g3
        | exit id => cases g3
        | goto l => cases g3
        | panic ch => cases g3
        | outgrown => cases g3
    · cases h
  · cases h
end
end Go.Proofs.Ytelpkjellakigaa
/- Regions that draw their order: reads,calls,new blocks,writes,in any order that the edges allow;each operation sees what it would see in the order of the text. No program in sight. -/
namespace Go.Proofs.Ytelpkjellakigaa.Dr
open Go Go.RowKit Go.Proofs.Ytelpkjellakigaa

/-! ### What is asked of the operations -/
def okW (T : List (List Nat)) (W : List (Nat × Nat)) (i id : Nat) : Bool := W.all fun p => bif Nat.beq p.2 id then (bif Nat.blt p.1 i then hasN (T.getD i []) p.1 else bif Nat.blt i p.1 then hasN (T.getD p.1 []) i else true) else true
def visW (T : List (List Nat)) (W : List (Nat × Nat)) (nx0 i : Nat) (cr : List (Nat × Nat)) (id : Nat) : Bool := vis T nx0 i cr id && okW T W i id
def noW (W : List (Nat × Nat)) (i : Nat) : Bool := W.all fun p => !Nat.beq p.1 i
def newW (T : List (List Nat)) (W : List (Nat × Nat)) (i nx : Nat) : Bool := W.all fun p => bif Nat.beq p.2 nx then Nat.blt i p.1 && hasN (T.getD p.1 []) i else true
def onlyW (W : List (Nat × Nat)) (i id : Nat) : Bool := W.all fun p => bif Nat.beq p.1 i then Nat.beq p.2 id else true
structure PlanR (l : List Oper) (n i : Nat) (o : Oper) : Prop where
  after : ∀ e ∈ o.after,Region.binds .any e = true → e.on < i
  one : ∀ j p d,l[j]? = some p → p.dst = some d → i ≠ j → o.dst ≠ some d
  look : ∀ j p d,l[j]? = some p → p.dst = some d → d ∈ o.looksAt l.toArray → (j < i ∧ Reach l i j) ∨ (i < j ∧ Reach l j i)
def planR (l : List Oper) (T : List (List Nat)) : Bool :=
  (List.range l.length).all fun i =>
    match l[i]? with
    | none => false
    | some o =>
      (o.after.toList.all fun e => !Region.binds .any e || Nat.blt e.on i) &&
      (List.range l.length).all fun j =>
        match l[j]? with
        | none => false
        | some p =>
          match p.dst with
          | none => true
          | some d => (Nat.beq i j || !(match o.dst with | some d' => Nat.beq d' d | none => false)) && (!(hasN (o.looksAt l.toArray) d) || (bif Nat.blt j i then hasN (T.getD i []) j else Nat.blt i j && hasN (T.getD j []) i))
theorem reachT {l : List Oper} {T : List (List Nat)} (hT : AncOk l T) {i j : Nat} (h : hasN (T.getD i []) j = true) : Reach l i j := by
  have hmem := hasN_mem h
  cases hTi : T[i]? with
  | none => rw [List.getD_eq_getElem?_getD,hTi] at hmem;simp at hmem
  | some A => rw [List.getD_eq_getElem?_getD,hTi] at hmem;exact hT i A hTi _ hmem
theorem hasN_of' {l : List Nat} {i : Nat} (h : i ∈ l) : hasN l i = true := by
  induction l with
  | nil => cases h
  | cons a l ih =>
    rw [hasN]
    rcases List.mem_cons.1 h with rfl | h
    · rw [Nat.beq_refl];rfl
    · rw [ih h];cases Nat.beq a i <;> rfl
theorem planR_at {l : List Oper} {T : List (List Nat)} (n : Nat) (hT : AncOk l T) (h : planR l T = true) : ∀ i o,l[i]? = some o → PlanR l n i o := by
  intro i o ho
  have hi : i < l.length := (List.getElem?_eq_some_iff.1 ho).1
  have h2 := List.all_eq_true.1 h i (List.mem_range.2 hi)
  simp only [ho,Bool.and_eq_true] at h2
  obtain ⟨h3,h4⟩ := h2
  have h5 : ∀ j p d,l[j]? = some p → p.dst = some d → (Nat.beq i j || !(match o.dst with | some d' => Nat.beq d' d | none => false)) = true ∧ (!(hasN (o.looksAt l.toArray) d) || (bif Nat.blt j i then hasN (T.getD i []) j else Nat.blt i j && hasN (T.getD j []) i)) = true := by
    intro j p d hp hd
    have hj : j < l.length := (List.getElem?_eq_some_iff.1 hp).1
    have := List.all_eq_true.1 h4 j (List.mem_range.2 hj)
    simp only [hp,hd,Bool.and_eq_true] at this
    exact this
  refine ⟨fun e he hb => ?_,fun j p d hp hd hne he => ?_,fun j p d hp hd hl => ?_⟩
  · have := List.all_eq_true.1 h3 e (by simpa using he)
    rw [hb] at this
    have this : Nat.blt e.on i = true := this
    exact Nat.le_of_ble_eq_true this
  · have := (h5 j p d hp hd).1
    rw [he] at this
    simp only [Nat.beq_refl,Bool.not_true,Bool.or_false] at this
    exact hne (Nat.eq_of_beq_eq_true this)
  · have := (h5 j p d hp hd).2
    rw [hasN_of' hl] at this
    have this : (bif Nat.blt j i then hasN (T.getD i []) j else Nat.blt i j && hasN (T.getD j []) i) = true := this
    cases hji : Nat.blt j i with
    | true =>
      rw [hji] at this
      exact .inl ⟨Nat.le_of_ble_eq_true hji,reachT hT this⟩
    | false =>
      rw [hji] at this
      have this : (Nat.blt i j && hasN (T.getD j []) i) = true := this
      rw [Bool.and_eq_true] at this
      exact .inr ⟨Nat.le_of_ble_eq_true this.1,reachT hT this.2⟩
/-! ### The judgement -/
def lregs (ops : Array Oper) (st : ASt) (o : Oper) : List (Nat × AV) := (o.looksAt ops).map (fun t => (t,look .any st.regs t))
def lcl (ops : Array Oper) (T : List (List Nat)) (W : List (Nat × Nat)) (nx0 i : Nat) (cr : List (Nat × Nat)) (st : ASt) (o : Oper) (k : Nat) : ASt := ⟨lregs ops st o,st.heap.filter (fun p => visW T W nx0 i cr p.1),k⟩
/-- an operation that turns one block -/
structure OpWr (P : Program) (n : Nat) (o : Oper) (s : ASt) (id : Nat) (b : AB) (x : AV) : Prop where
  dst : dok o.dst n = true
  out : ∀ K a w G,RelG K n s a w G → ∃ v w' G',((execOp a.eval o).run P w = .ok (.value v) w' ∨ ((execOp a.eval o).run P w = .ok .skip w' ∧ v = undef)) ∧ HR K.w0 w' G' ((id,b) :: s.heap) ∧ Ext w G w' G' ∧ G'.nx = G.nx ∧ (∀ j,j ≠ id → G'.ρ j = G.ρ j ∧ G'.ln j = G.ln j ∧ (j < G.nx → ∀ g,ownBlk (G.ρ j) = some g → w'.heap[g]? = w.heap[g]?)) ∧ RelV w' G' x v
inductive Loc (P : Program) (n : Nat) (ops : Array Oper) (T : List (List Nat)) (W : List (Nat × Nat)) (nx0 i : Nat) (cr : List (Nat × Nat)) (o : Oper) (st : ASt) : ASt → List (Nat × Nat) → Prop
  | read {x : AV} (hW : noW W i = true) (hw : o.guard = none ∨ gst ops o (lcl ops T W nx0 i cr st o 0) = some true) (h : ∀ k,OpR P n o (lcl ops T W nx0 i cr st o k) x) (hn : x.nmd (vis T nx0 i cr) = true) : Loc P n ops T W nx0 i cr o st (st.put o.dst x) cr
  | call {x : AV} (hW : noW W i = true) (hw : o.guard = none ∨ gst ops o (lcl ops T W nx0 i cr st o 0) = some true) (h : ∀ k,OpF P n o (lcl ops T W nx0 i cr st o k) x) (hn : x.nmd (vis T nx0 i cr) = true) : Loc P n ops T W nx0 i cr o st (st.put o.dst x) cr
  | new {b : AB} (hW : noW W i = true) (hN : newW T W i st.nx = true) (hw : o.guard = none ∨ gst ops o (lcl ops T W nx0 i cr st o 0) = some true) (h : ∀ k,OpN P n o (lcl ops T W nx0 i cr st o k) b) (hn : b.nmd (vis T nx0 i cr) = true) : Loc P n ops T W nx0 i cr o st ((st.hnew b).put o.dst (refB b st.nx)) ((i,st.nx) :: cr)
  | skip (hW : noW W i = true) (hw : gst ops o (lcl ops T W nx0 i cr st o 0) = some false) (hd : dok o.dst n = true) : Loc P n ops T W nx0 i cr o st (st.put o.dst .und) cr
  | write {id : Nat} {b : AB} {x : AV} (L : List Nat) (hL : ∀ j ∈ L,visW T W nx0 i cr j = true ∧ (look .dead st.heap j).nmd (vis T nx0 i cr) = true) (hw : o.guard = none ∨ gst ops o (lcl ops T W nx0 i cr st o 0) = some true) (hv : visW T W nx0 i cr id = true) (hm : (i,id) ∈ W) (hu : onlyW W i id = true)
      (h : ∀ hp k,(∀ j ∈ L,look .dead hp j = look .dead st.heap j) → OpWr P n o ⟨lregs ops st o,hp,k⟩ id b x) (hb : b.nmd (vis T nx0 i cr) = true) (hn : x.nmd (vis T nx0 i cr) = true) : Loc P n ops T W nx0 i cr o st ((st.hset id b).put o.dst x) cr
inductive AG (P : Program) (n : Nat) (ops : Array Oper) (T : List (List Nat)) (W : List (Nat × Nat)) (nx0 : Nat) (Kt : ASt → Prop) : Nat → List (Nat × Nat) → List Oper → ASt → Prop
  | nil {i : Nat} {cr : List (Nat × Nat)} {st : ASt} (h : Kt st) : AG P n ops T W nx0 Kt i cr [] st
  | step {i : Nat} {cr cr' : List (Nat × Nat)} {o : Oper} {l : List Oper} {st st' : ASt} (h : Loc P n ops T W nx0 i cr o st st' cr') (k : AG P n ops T W nx0 Kt (i + 1) cr' l st') : AG P n ops T W nx0 Kt i cr (o :: l) st
  | le {i : Nat} {cr : List (Nat × Nat)} {l : List Oper} {st st' : ASt} (h : LeS st' st) (k : AG P n ops T W nx0 Kt i cr l st') : AG P n ops T W nx0 Kt i cr l st
theorem AG.facts {P : Program} {n : Nat} {ops : Array Oper} {T : List (List Nat)} {W : List (Nat × Nat)} {nx0 : Nat} {Kt : ASt → Prop} {i : Nat} {cr : List (Nat × Nat)} {l : List Oper} {st : ASt} (h : AG P n ops T W nx0 Kt i cr l st) :
    ∃ (S : Nat → ASt) (C : Nat → List (Nat × Nat)),LeS (S 0) st ∧ C 0 = cr ∧ Kt (S l.length) ∧ ∀ j o,l[j]? = some o → ∃ s',Loc P n ops T W nx0 (i + j) (C j) o (S j) s' (C (j + 1)) ∧ LeS (S (j + 1)) s' := by
  induction h with
  | @nil i cr st h => exact ⟨fun _ => st,fun _ => cr,LeS.refl _,rfl,h,fun j o hj => by simp at hj⟩
  | @step i cr cr' o l st st' h k ih =>
    obtain ⟨S,C,h1,h2,h3,h4⟩ := ih
    refine ⟨fun j => match j with | 0 => st | j + 1 => S j,fun j => match j with | 0 => cr | j + 1 => C j,LeS.refl _,rfl,h3,fun j o' hj => ?_⟩
    cases j with
    | zero =>
      simp at hj
      subst hj
      exact ⟨st',by show Loc P n ops T W nx0 i cr o st st' (C 0);rw [h2];exact h,h1⟩
    | succ j =>
      obtain ⟨s',g1,g2⟩ := h4 j o' (by simpa using hj)
      exact ⟨s',by rw [show i + (j + 1) = i + 1 + j by omega];exact g1,g2⟩
  | @le i cr l st st' h k ih =>
    obtain ⟨S,C,h1,h2,h3,h4⟩ := ih
    exact ⟨S,C,h1.trans h,h2,h3,h4⟩
section
variable {P : Program} {n : Nat} {ops : Array Oper} {T : List (List Nat)} {W : List (Nat × Nat)} {nx0 i : Nat} {cr cr' : List (Nat × Nat)} {o : Oper} {st st' : ASt}
theorem Loc.nx_le (h : Loc P n ops T W nx0 i cr o st st' cr') : st.nx ≤ st'.nx ∧ st'.nx ≤ st.nx + 1 := by
  cases h with
  | read => rw [put_nx];omega
  | call => rw [put_nx];omega
  | new => rw [put_nx];exact ⟨Nat.le_succ _,Nat.le_refl _⟩
  | skip => rw [put_nx];omega
  | write => rw [put_nx];exact ⟨Nat.le_refl _,Nat.le_succ _⟩
theorem Loc.regs (h : Loc P n ops T W nx0 i cr o st st' cr') {t : Nat} (ht : o.dst ≠ some t) : look .any st'.regs t = look .any st.regs t := by
  cases h with
  | read => exact put_regs _ _ _ _ ht
  | call => exact put_regs _ _ _ _ ht
  | new => rw [put_regs _ _ _ _ ht];rfl
  | skip => exact put_regs _ _ _ _ ht
  | write => rw [put_regs _ _ _ _ ht];rfl
theorem put_heap' (st : ASt) (d : Option Nat) (x : AV) : (st.put d x).heap = st.heap := by cases d <;> rfl
theorem Loc.heap (h : Loc P n ops T W nx0 i cr o st st' cr') {id : Nat} (hid : id ≠ st.nx) (hw : (i,id) ∉ W) : look .dead st'.heap id = look .dead st.heap id := by
  cases h with
  | read => rw [put_heap']
  | call => rw [put_heap']
  | new => rw [put_heap'];exact look_ne _ (fun e => hid e.symm) _ _
  | skip => rw [put_heap']
  | @write id' b x L hL _ hv hm => rw [put_heap'];exact look_ne _ (fun e => hw (by rw [← e];exact hm)) _ _
theorem Loc.heapSame (h : Loc P n ops T W nx0 i cr o st st' cr') (hn : st'.nx = st.nx) {id : Nat} (hw : (i,id) ∉ W) : look .dead st'.heap id = look .dead st.heap id := by
  cases h with
  | read => rw [put_heap']
  | call => rw [put_heap']
  | new => rw [put_nx] at hn;exact absurd (show st.nx + 1 = st.nx from hn) (by omega)
  | skip => rw [put_heap']
  | @write id' b x L hL _ hv hm => rw [put_heap'];exact look_ne _ (fun e => hw (by rw [← e];exact hm)) _ _
theorem Loc.heap2 (h : Loc P n ops T W nx0 i cr o st st' cr') (id : Nat) : look .dead st'.heap id = look .dead st.heap id ∨ (id = st.nx ∧ st'.nx = st.nx + 1) ∨ vis T nx0 i cr id = true := by
  cases h with
  | read => left;rw [put_heap']
  | call => left;rw [put_heap']
  | skip => left;rw [put_heap']
  | new =>
    by_cases e : id = st.nx
    · exact .inr (.inl ⟨e,by rw [put_nx];rfl⟩)
    · left;rw [put_heap'];exact look_ne _ (fun e' => e e'.symm) _ _
  | @write id' b x L hL _ hv hm =>
    by_cases e : id' = id
    · subst e
      unfold visW at hv
      rw [Bool.and_eq_true] at hv
      exact .inr (.inr hv.1)
    · left;rw [put_heap'];exact look_ne _ e _ _
theorem Loc.crm (h : Loc P n ops T W nx0 i cr o st st' cr') : ∀ c ∈ cr',c ∈ cr ∨ (c = (i,st.nx) ∧ st'.nx = st.nx + 1) := by
  cases h with
  | read => intro c hc;exact .inl hc
  | call => intro c hc;exact .inl hc
  | new => intro c hc;rcases List.mem_cons.1 hc with h | h;exact .inr ⟨h,by rw [put_nx];rfl⟩;exact .inl h
  | skip => intro c hc;exact .inl hc
  | write => intro c hc;exact .inl hc
end
theorem okW_at {T : List (List Nat)} {W : List (Nat × Nat)} {i id : Nat} (h : okW T W i id = true) {j : Nat} (hj : (j,id) ∈ W) : (j < i → hasN (T.getD i []) j = true) ∧ (i < j → hasN (T.getD j []) i = true) := by
  have := List.all_eq_true.1 h _ hj
  simp only [Nat.beq_refl,cond_true] at this
  refine ⟨fun hlt => ?_,fun hlt => ?_⟩
  · rw [show Nat.blt j i = true by simpa using hlt] at this
    exact this
  · have e0 : Nat.blt j i = false := by
      rw [Bool.eq_false_iff]
      intro h
      have h : j < i := by simpa using h
      omega
    rw [e0,show Nat.blt i j = true by simpa using hlt] at this
    exact this
theorem noW_at {W : List (Nat × Nat)} {i : Nat} (h : noW W i = true) (id : Nat) : (i,id) ∉ W := fun hj => by
  have this : (!Nat.beq i i) = true := List.all_eq_true.1 h _ hj
  rw [Nat.beq_refl] at this
  cases this
theorem newW_at {T : List (List Nat)} {W : List (Nat × Nat)} {i nx : Nat} (h : newW T W i nx = true) {j : Nat} (hj : (j,nx) ∈ W) : i < j ∧ hasN (T.getD j []) i = true := by
  have := List.all_eq_true.1 h _ hj
  simp only [Nat.beq_refl,cond_true,Bool.and_eq_true] at this
  exact ⟨by simpa using this.1,this.2⟩
theorem onlyW_at {W : List (Nat × Nat)} {i id id' : Nat} (h : onlyW W i id = true) (hj : (i,id') ∈ W) : id' = id := by
  have := List.all_eq_true.1 h _ hj
  simp only [Nat.beq_refl,cond_true] at this
  exact Nat.eq_of_beq_eq_true this
/-- what a partial state says of a whole one -/
theorem RelP.rel' {K : Kn} {n : Nat} {R : Nat → AV} {hp : List (Nat × AB)} {nx : Nat} {lv : Nat → Bool} {a : Act} {w : World} {G : Gh} (h : RelP K n R hp nx lv a w G) {st : ASt} (hr : ∀ t,Les (look .any st.regs t) (R t)) (hh : ∀ id,LesB (look .dead st.heap id) (look .dead hp id)) (hn : st.nx = nx) : RelG K n st a w G := by
  refine ⟨h.nx.trans hn.symm,⟨h.hr.bs,h.hr.below,h.hr.ownlt,fun id => (hh id).ok (h.hr.blk id),h.hr.dist,h.hr.ownhas⟩,h.ext,h.size,h.defers,fun t => (hr t).rel (h.regs t)⟩
/-- blocks said less of -/
theorem RelP.lesH {K : Kn} {n : Nat} {R : Nat → AV} {hp hp' : List (Nat × AB)} {nx : Nat} {lv : Nat → Bool} {a : Act} {w : World} {G : Gh} (h : RelP K n R hp nx lv a w G) (hh : ∀ id,LesB (look .dead hp' id) (look .dead hp id)) (hb : ∀ id,(look .dead hp' id).nmd lv = true) (hf : ∀ id,lv id = false → look .dead hp' id = .dead) : RelP K n R hp' nx lv a w G :=
  ⟨h.nx,⟨h.hr.bs,h.hr.below,h.hr.ownlt,fun id => (hh id).ok (h.hr.blk id),h.hr.dist,h.hr.ownhas⟩,h.ext,h.size,h.defers,h.regs,h.rnm,hb,fun id hid => ⟨hf id hid,(h.free id hid).2⟩,h.old⟩
/-- what has been done of a region -/
def InvG (K : Kn) (n : Nat) (l : List Oper) (W : List (Nat × Nat)) (S : Nat → ASt) (m nx0 : Nat) (d : Nat → Bool) (a : Act) (w : World) : Prop := ∃ R hp G,RelP K n R hp (S m).nx (lvD S m nx0 d) a w G ∧
  (∀ j o t,j < m → l[j]? = some o → d j = true → o.dst = some t → Les (look .any (S (j + 1)).regs t) (R t)) ∧
  (∀ t,(∀ j o,j < m → l[j]? = some o → d j = true → o.dst ≠ some t) → Les (look .any (S 0).regs t) (R t)) ∧
  (∀ id,lvD S m nx0 d id = true → ∃ p,p ≤ m ∧ id < (S p).nx ∧ LesB (look .dead (S p).heap id) (look .dead hp id) ∧ (∀ j,(j,id) ∈ W → j < p → d j = true) ∧ (∀ j,(j,id) ∈ W → p ≤ j → d j = false) ∧ (p = 0 ∨ ∃ q,p = q + 1 ∧ d q = true ∧ ((q,id) ∈ W ∨ (S q).nx = id)))
section
variable {P : Program} {n : Nat} {l : List Oper} {T : List (List Nat)} {W : List (Nat × Nat)} {S : Nat → ASt} {C : Nat → List (Nat × Nat)} {m : Nat}
theorem AG.step' (hp : ∀ i o,l[i]? = some o → PlanR l n i o) (hT : AncOk l T) (hml : m ≤ l.length) (hC0 : C 0 = [])
    (hL : ∀ j o,j < m → l[j]? = some o → ∃ s',Loc P n l.toArray T W (S 0).nx j (C j) o (S j) s' (C (j + 1)) ∧ LeS (S (j + 1)) s')
    {K : Kn} {Q : Exit → Act → World → Prop} {i : Nat} {o : Oper} {d : Nat → Bool} {a : Act} {w : World} (hi : i < m) (ho : l[i]? = some o) (hd0 : d i = false) (hcl : ClosedD l d) (hdep : ∀ e ∈ o.after,Region.binds .any e = true → d e.on = true)
    (h : InvG K n l W S m (S 0).nx d a w) : if Region.wanted o (yielded l.toArray a.tmps) then o.wp P a w (fun a' w' => InvG K n l W S m (S 0).nx (upd d i) a' w') Q else InvG K n l W S m (S 0).nx (upd d i) (a.put o.dst undef) w := by
  obtain ⟨R,hpp,G,hR,I1,I2,I3⟩ := h
  have hop : ∀ j,j < m → ∃ o,l[j]? = some o := fun j hj => ⟨l[j],List.getElem?_eq_getElem (by omega)⟩
  have nxS : ∀ j,j < m → (S j).nx ≤ (S (j + 1)).nx ∧ (S (j + 1)).nx ≤ (S j).nx + 1 := fun j hj => by
    obtain ⟨o,ho⟩ := hop j hj
    obtain ⟨s',h1,h2⟩ := hL j o hj ho
    rw [h2.nx]
    exact h1.nx_le
  have nxM : ∀ q,q ≤ m → ∀ p,p ≤ q → (S p).nx ≤ (S q).nx := by
    intro q
    induction q with
    | zero => intro _ p hp;obtain rfl : p = 0 := (by omega);exact Nat.le_refl _
    | succ q ih =>
      intro hq p hp
      rcases Nat.lt_or_ge p (q + 1) with h | h
      · exact Nat.le_trans (ih (by omega) p (by omega)) (nxS q (by omega)).1
      · obtain rfl : p = q + 1 := by omega
        exact Nat.le_refl _
  have regM : ∀ t q,q ≤ m → ∀ p,p ≤ q → (∀ j o,p ≤ j → j < q → l[j]? = some o → o.dst ≠ some t) → Les (look AV.any (S q).regs t) (look .any (S p).regs t) := by
    intro t q
    induction q with
    | zero => intro _ p hp _;obtain rfl : p = 0 := (by omega);exact .refl _
    | succ q ih =>
      intro hq p hp hno
      rcases Nat.lt_or_ge p (q + 1) with h | h
      · obtain ⟨o,ho⟩ := hop q (by omega)
        obtain ⟨s',h1,h2⟩ := hL q o (by omega) ho
        have e1 := h2.regs t
        rw [h1.regs (hno q o (by omega) (by omega) ho)] at e1
        exact e1.trans (ih (by omega) p (by omega) fun j o hj1 hj2 => hno j o hj1 (by omega))
      · obtain rfl : p = q + 1 := by omega
        exact .refl _
  have heapM : ∀ id q,q ≤ m → ∀ p,p ≤ q → id < (S p).nx → (∀ j,p ≤ j → j < q → (j,id) ∉ W) → LesB (look AB.dead (S q).heap id) (look .dead (S p).heap id) := by
    intro id q
    induction q with
    | zero => intro _ p hp _ _;obtain rfl : p = 0 := (by omega);exact .refl _
    | succ q ih =>
      intro hq p hp hlt hno
      rcases Nat.lt_or_ge p (q + 1) with h | h
      · obtain ⟨o,ho⟩ := hop q (by omega)
        obtain ⟨s',h1,h2⟩ := hL q o (by omega) ho
        have := nxM q (by omega) p (by omega)
        have e1 := h2.heap id
        rw [h1.heap (by omega) (hno q (by omega) (by omega))] at e1
        exact e1.trans (ih (by omega) p (by omega) hlt fun j j1 j2 => hno j j1 (by omega))
      · obtain rfl : p = q + 1 := by omega
        exact .refl _
  have crM : ∀ q,q ≤ m → ∀ c ∈ C q,c.1 < q ∧ c.2 = (S c.1).nx ∧ (S (c.1 + 1)).nx = (S c.1).nx + 1 := by
    intro q
    induction q with
    | zero => intro _ c hc;rw [hC0] at hc;cases hc
    | succ q ih =>
      intro hq c hc
      obtain ⟨o,ho⟩ := hop q (by omega)
      obtain ⟨s',h1,h2⟩ := hL q o (by omega) ho
      rcases h1.crm c hc with h | ⟨h,h'⟩
      · obtain ⟨g1,g2⟩ := ih (by omega) c h
        exact ⟨by omega,g2⟩
      · subst h
        exact ⟨by omega,rfl,by rw [h2.nx];exact h'⟩
  have pa := hp i o ho
  have hlook : ∀ t,t ∈ o.looksAt l.toArray → Les (look .any (S i).regs t) (R t) := by
    intro t ht
    by_cases hw : ∃ (j : Nat) (o' : Oper),l[j]? = some o' ∧ o'.dst = some t
    · obtain ⟨j,o',ho',hdst⟩ := hw
      rcases pa.look j o' t ho' hdst ht with ⟨hj,hr⟩ | ⟨hj,hr⟩
      · have hdj := hr.done hcl ho hdep
        exact (regM t i (by omega) (j + 1) (by omega) fun j2 o2 h1 h2 ho2 => (hp j2 o2 ho2).one j o' t ho' hdst (by omega)).trans (I1 j o' t (by omega) ho' hdj hdst)
      · have hnj : d j = false := by
          cases hdj : d j with
          | false => rfl
          | true => have := hr.done' hcl hdj;rw [hd0] at this;cases this
        have honly : ∀ j2 o2,l[j2]? = some o2 → j2 ≠ j → o2.dst ≠ some t := fun j2 o2 ho2 hne => (hp j2 o2 ho2).one j o' t ho' hdst hne
        refine (regM t i (by omega) 0 (Nat.zero_le _) fun j2 o2 _ h2 ho2 => honly j2 o2 ho2 (by omega)).trans (I2 t fun j2 o2 _ ho2 hd2 => honly j2 o2 ho2 fun e => ?_)
        subst e;rw [hnj] at hd2;cases hd2
    · exact (regM t i (by omega) 0 (Nat.zero_le _) fun j o' _ _ ho' hdst => hw ⟨j,o',ho',hdst⟩).trans (I2 t fun j o' _ ho' _ hdst => hw ⟨j,o',ho',hdst⟩)
  have hvis : ∀ id,vis T (S 0).nx i (C i) id = true → lvD S m (S 0).nx d id = true ∧ id < (S i).nx := by
    intro id h
    unfold vis at h
    rw [Bool.or_eq_true,List.any_eq_true] at h
    rcases h with h | ⟨c,hc,h⟩
    · have h : id < (S 0).nx := by simpa using h
      have := nxM i (by omega) 0 (Nat.zero_le _)
      exact ⟨lvD_iff.2 (.inl h),by omega⟩
    · rw [Bool.and_eq_true] at h
      obtain ⟨g1,g2,g3⟩ := crM i (by omega) c hc
      have hid := Nat.eq_of_beq_eq_true h.1
      have hdc := (reachT hT h.2).done hcl ho hdep
      have := nxM i (by omega) (c.1 + 1) (by omega)
      exact ⟨lvD_iff.2 (.inr ⟨c.1,by omega,hdc,by omega,by omega⟩),by omega⟩
  have hcont : ∀ id,visW T W (S 0).nx i (C i) id = true → LesB (look .dead (S i).heap id) (look AB.dead hpp id) := by
    intro id hv
    unfold visW at hv
    rw [Bool.and_eq_true] at hv
    obtain ⟨h1,h2⟩ := hvis id hv.1
    obtain ⟨p,p1,p2,p3,p4,p5,p6⟩ := I3 id h1
    have hpi : p ≤ i := by
      rcases p6 with rfl | ⟨q,rfl,hdq,hq⟩
      · exact Nat.zero_le _
      · rcases Nat.lt_or_ge q i with h | h
        · omega
        · exfalso
          rcases hq with hq | hq
          · by_cases e : q = i
            · subst e;rw [hd0] at hdq;cases hdq
            · have := (reachT hT ((okW_at hv.2 hq).2 (by omega))).done' hcl hdq
              rw [hd0] at this
              cases this
          · have := nxM q (by omega) i h
            omega
    refine (heapM id i (by omega) p hpi p2 fun j j1 j2 hj => ?_).trans p3
    have hdj := (reachT hT ((okW_at hv.2 hj).1 j2)).done hcl ho hdep
    rw [p5 j hj j1] at hdj
    cases hdj
  have hregs : ∀ t,Les (look AV.any (lregs l.toArray (S i) o) t) (R t) := by
    intro t
    by_cases ht : t ∈ o.looksAt l.toArray
    · rcases (look_pick (f := fun t => look AV.any (S i).regs t) (l := o.looksAt l.toArray) (dd := AV.any) (t := t)) with e | e
      · show Les (look AV.any ((o.looksAt l.toArray).map fun t => (t,look AV.any (S i).regs t)) t) _
        rw [e];exact hlook t ht
      · show Les (look AV.any ((o.looksAt l.toArray).map fun t => (t,look AV.any (S i).regs t)) t) _
        rw [e];exact .any _
    · show Les (look AV.any ((o.looksAt l.toArray).map fun t => (t,look AV.any (S i).regs t)) t) _
      rw [look_pick_in ht];exact .any _
  have hrel : RelG K n (lcl l.toArray T W (S 0).nx i (C i) (S i) o (S m).nx) a w G := by
    refine RelP.rel' hR hregs (fun id => ?_) rfl
    show LesB (look .dead ((S i).heap.filter fun p => visW T W (S 0).nx i (C i) p.1) id) _
    rw [look_filt]
    cases hv : visW T W (S 0).nx i (C i) id with
    | false => exact .dead _
    | true => exact hcont id hv
  have keep : ∀ id,(i,id) ∉ W → lvD S m (S 0).nx d id = true → ∃ p,p ≤ m ∧ id < (S p).nx ∧ LesB (look .dead (S p).heap id) (look .dead hpp id) ∧ (∀ j,(j,id) ∈ W → j < p → upd d i j = true) ∧ (∀ j,(j,id) ∈ W → p ≤ j → upd d i j = false) ∧ (p = 0 ∨ ∃ q,p = q + 1 ∧ upd d i q = true ∧ ((q,id) ∈ W ∨ (S q).nx = id)) := by
    intro id hni hlv
    obtain ⟨p,p1,p2,p3,p4,p5,p6⟩ := I3 id hlv
    refine ⟨p,p1,p2,p3,fun j hj h => ?_,fun j hj h => ?_,p6.imp (fun h => h) fun ⟨q,e,hq,hw⟩ => ⟨q,e,by simp [upd,hq],hw⟩⟩
    · rw [upd_ne (fun e => hni (by rw [← e];exact hj))];exact p4 j hj h
    · rw [upd_ne (fun e => hni (by rw [← e];exact hj))];exact p5 j hj h
  obtain ⟨s',hloc,heq⟩ := hL i o hi ho
  have hdone : ∀ j,upd d i j = true ↔ d j = true ∨ j = i := fun j => by simp [upd]
  have J1 : ∀ (x : AV),(∀ t,o.dst = some t → Les (look .any (S (i + 1)).regs t) x) → ∀ j o' t,j < m → l[j]? = some o' → upd d i j = true → o'.dst = some t → Les (look .any (S (j + 1)).regs t) (updR R o.dst x t) := by
    intro x hx j o' t hj ho' hdj hdst
    by_cases hji : j = i
    · subst hji
      rw [ho] at ho'
      cases ho'
      rw [hdst]
      show Les _ (if t = t then x else R t)
      rw [if_pos rfl]
      exact hx t hdst
    · have hdj : d j = true := ((hdone j).1 hdj).resolve_right hji
      have hne : o.dst ≠ some t := pa.one j o' t ho' hdst (fun e => hji e.symm)
      have : updR R o.dst x t = R t := by
        cases hdd : o.dst with
        | none => rfl
        | some dd => exact if_neg (fun e => hne (by rw [hdd,e]))
      rw [this]
      exact I1 j o' t hj ho' hdj hdst
  have J2 : ∀ (x : AV) t,(∀ j o',j < m → l[j]? = some o' → upd d i j = true → o'.dst ≠ some t) → Les (look .any (S 0).regs t) (updR R o.dst x t) := by
    intro x t hno
    have hne : o.dst ≠ some t := hno i o hi ho ((hdone i).2 (.inr rfl))
    have : updR R o.dst x t = R t := by
      cases hdd : o.dst with
      | none => rfl
      | some dd => exact if_neg (fun e => hne (by rw [hdd,e]))
    rw [this]
    exact I2 t fun j o' hj ho' hdj => hno j o' hj ho' ((hdone j).2 (.inl hdj))
  have lvSame : (S (i + 1)).nx = (S i).nx → lvD S m (S 0).nx (upd d i) = lvD S m (S 0).nx d := by
    intro hn
    funext id
    rw [Bool.eq_iff_iff,lvD_iff,lvD_iff]
    constructor
    · rintro (h | ⟨j,h1,h2,h3,h4⟩)
      · exact .inl h
      · rcases (hdone j).1 h2 with h2 | h2
        · exact .inr ⟨j,h1,h2,h3,h4⟩
        · subst h2;omega
    · rintro (h | ⟨j,h1,h2,h3,h4⟩)
      · exact .inl h
      · exact .inr ⟨j,h1,(hdone j).2 (.inl h2),h3,h4⟩
  have hwant : o.guard = none ∨ gst l.toArray o (lcl l.toArray T W (S 0).nx i (C i) (S i) o 0) = some true → Region.wanted o (yielded l.toArray a.tmps) = true := by
    rintro (hg | hg)
    · exact wanted_none hg a
    · obtain ⟨dd,want,g1,g2⟩ := gst_yes hg
      exact wanted_of (st := lcl l.toArray T W (S 0).nx i (C i) (S i) o (S m).nx) g1 g2 K a w G hrel
  have lvmono : ∀ id,vis T (S 0).nx i (C i) id = true → lvD S m (S 0).nx d id = true := fun id h => (hvis id h).1
  have putSelf : ∀ (st : ASt) (x : AV),s' = st.put o.dst x → ∀ t,o.dst = some t → Les (look .any (S (i + 1)).regs t) x := by
    intro st x e t ht
    have := heq.regs t
    rw [e,ht,put_self] at this
    exact this
  generalize C (i + 1) = cr' at hloc
  cases hloc with
  | @read x hW hw h hn =>
    rw [if_pos (hwant hw)]
    obtain ⟨v,h1,h2⟩ := (h (S m).nx).out K a w G hrel
    have hnx : (S (i + 1)).nx = (S i).nx := by rw [heq.nx,put_nx]
    unfold Oper.wp
    rw [h1 w (Below.refl _ _)]
    exact ⟨_,hpp,G,by rw [lvSame hnx];exact hR.put (h 0).dst h2 (nmd_mono lvmono _ hn),J1 x (putSelf _ x rfl),J2 x,by rw [lvSame hnx];exact fun id => keep id (noW_at hW id)⟩
  | @call x hW hw h hn =>
    rw [if_pos (hwant hw)]
    obtain ⟨F,args,h1,h2⟩ := (h (S m).nx).out K a w G hrel
    have hnx : (S (i + 1)).nx = (S i).nx := by rw [heq.nx,put_nx]
    unfold Oper.wp
    rw [h1]
    refine h2.mono fun e w' ⟨v,e1,e2,e3⟩ => ?_
    subst e1
    exact ⟨_,hpp,G,by rw [lvSame hnx];exact (hR.same e2).put (h 0).dst e3 (nmd_mono lvmono _ hn),J1 x (putSelf _ x rfl),J2 x,by rw [lvSame hnx];exact fun id => keep id (noW_at hW id)⟩
  | @skip hW hw hd =>
    obtain ⟨dd,want,g1,g2⟩ := gst_no hw
    rw [if_neg (by rw [unwanted_of (st := lcl l.toArray T W (S 0).nx i (C i) (S i) o (S m).nx) g1 g2 hrel];decide)]
    have hnx : (S (i + 1)).nx = (S i).nx := by rw [heq.nx,put_nx]
    exact ⟨_,hpp,G,by rw [lvSame hnx];exact hR.put hd (.dat .und) rfl,J1 .und (putSelf _ .und rfl),J2 .und,by rw [lvSame hnx];exact fun id => keep id (noW_at hW id)⟩
  | @new b hW hN hw h hn =>
    rw [if_pos (hwant hw)]
    obtain ⟨v,w',h1,h2⟩ := (h (S m).nx).out K a w G hrel
    have hnx : (S (i + 1)).nx = (S i).nx + 1 := by rw [heq.nx,put_nx];rfl
    have hge : (S 0).nx ≤ (S i).nx := nxM i (by omega) 0 (Nat.zero_le _)
    have hfree : lvD S m (S 0).nx d (S i).nx = false := by
      rw [Bool.eq_false_iff]
      intro hlv
      rcases lvD_iff.1 hlv with h | ⟨j,g1,g2,g3,g4⟩
      · omega
      · rcases Nat.lt_trichotomy j i with hlt | e | hlt
        · have := nxM i (by omega) (j + 1) (by omega);omega
        · subst e;rw [hd0] at g2;cases g2
        · have := nxM j (by omega) (i + 1) (by omega);omega
    have hlt : (S i).nx < (S m).nx := by have := nxM m (Nat.le_refl _) (i + 1) (by omega);omega
    have hlv' : lvD S m (S 0).nx (upd d i) = fun id => lvD S m (S 0).nx d id || Nat.beq id (S i).nx := by
      funext id
      rw [Bool.eq_iff_iff,lvD_iff,Bool.or_eq_true,lvD_iff]
      constructor
      · rintro (h | ⟨j,h1,h2,h3,h4⟩)
        · exact .inl (.inl h)
        · rcases (hdone j).1 h2 with h2 | h2
          · exact .inl (.inr ⟨j,h1,h2,h3,h4⟩)
          · subst h2;right;rw [h3];simp
      · rintro ((h | ⟨j,h1,h2,h3,h4⟩) | h)
        · exact .inl h
        · exact .inr ⟨j,h1,(hdone j).2 (.inl h2),h3,h4⟩
        · have := Nat.eq_of_beq_eq_true h
          exact .inr ⟨i,hi,(hdone i).2 (.inr rfl),this.symm,by omega⟩
    obtain ⟨hR2,hv⟩ := hR.newAt hfree hlt h2 (abnmd_mono lvmono hn)
    unfold Oper.wp
    rw [h1]
    have hb : LesB (look AB.dead (S (i + 1)).heap (S i).nx) b := by
      have := heq.heap (S i).nx
      rw [put_heap'] at this
      have e1 : look AB.dead ((S i).hnew b).heap (S i).nx = b := look_self _ _ _ _
      rw [e1] at this
      exact this
    refine ⟨_,((S i).nx,b) :: hpp,G.at (S i).nx v (lnB b) (szB b),?_,J1 (refB b (S i).nx) (putSelf _ _ rfl),J2 _,fun id hid => ?_⟩
    · rw [hlv']
      refine hR2.put (h 0).dst hv ?_
      cases b with
      | dead => rfl
      | box cs e => simp [refB,AV.nmd]
      | row sz rows e => simp [refB,AV.nmd]
    · rw [hlv'] at hid
      by_cases e : (S i).nx = id
      · subst e
        refine ⟨i + 1,by omega,by omega,by rw [look_cons,if_pos rfl];exact hb,fun j hj hlt2 => ?_,fun j hj hge2 => ?_,.inr ⟨i,rfl,(hdone i).2 (.inr rfl),.inr rfl⟩⟩
        · have := (newW_at hN hj).1;omega
        · rw [upd_ne (by omega)]
          cases hdj : d j with
          | false => rfl
          | true =>
            have := (reachT hT (newW_at hN hj).2).done' hcl hdj
            rw [hd0] at this
            cases this
      · rw [Bool.or_eq_true] at hid
        obtain ⟨p,p1,p2,p3,p4,p5,p6⟩ := keep id (noW_at hW id) (hid.resolve_right fun h => e (Nat.eq_of_beq_eq_true h).symm)
        exact ⟨p,p1,p2,by rw [look_cons,if_neg e];exact p3,p4,p5,p6⟩
  | @write id b x L hLL hw hv hm hu h hb hn =>
    rw [if_pos (hwant hw)]
    have hnx : (S (i + 1)).nx = (S i).nx := by rw [heq.nx,put_nx];rfl
    have hv1 : vis T (S 0).nx i (C i) id = true := by unfold visW at hv;rw [Bool.and_eq_true] at hv;exact hv.1
    have hv2 : okW T W i id = true := by unfold visW at hv;rw [Bool.and_eq_true] at hv;exact hv.2
    -- the blocks that the operation looks at,as the text has them
    let hp2 : List (Nat × AB) := L.map (fun j => (j,look .dead (S i).heap j)) ++ hpp
    have hlk : ∀ j,(j ∈ L ∧ look AB.dead hp2 j = look .dead (S i).heap j) ∨ (look AB.dead hp2 j = look .dead hpp j) := by
      intro j
      show (_ ∧ look AB.dead (L.map (fun j => (j,look .dead (S i).heap j)) ++ hpp) j = _) ∨ look AB.dead (L.map (fun j => (j,look .dead (S i).heap j)) ++ hpp) j = _
      rw [look_append]
      clear hLL h
      induction L with
      | nil => exact .inr rfl
      | cons c L ih =>
        rw [List.map_cons,look_cons]
        by_cases e : c = j
        · subst e;rw [if_pos rfl];exact .inl ⟨by simp,rfl⟩
        · rw [if_neg e]
          exact ih.imp (fun ⟨g1,g2⟩ => ⟨List.mem_cons_of_mem _ g1,g2⟩) (fun g => g)
    have hlkL : ∀ j ∈ L,look AB.dead hp2 j = look .dead (S i).heap j := by
      intro j hj
      show look AB.dead (L.map (fun j => (j,look .dead (S i).heap j)) ++ hpp) j = _
      rw [look_append]
      clear hLL h hlk
      induction L with
      | nil => cases hj
      | cons c L ih =>
        rw [List.map_cons,look_cons]
        by_cases e : c = j
        · subst e;rw [if_pos rfl]
        · rw [if_neg e]
          exact ih ((List.mem_cons.1 hj).resolve_left fun e' => e e'.symm)
    have hRP : RelP K n R hp2 (S m).nx (lvD S m (S 0).nx d) a w G := by
      refine RelP.lesH hR (fun j => ?_) (fun j => ?_) (fun j hj => ?_)
      · rcases hlk j with ⟨g1,g2⟩ | g2
        · rw [g2];exact hcont j (hLL j g1).1
        · rw [g2];exact .refl _
      · rcases hlk j with ⟨g1,g2⟩ | g2
        · rw [g2];exact abnmd_mono lvmono (hLL j g1).2
        · rw [g2];exact hR.bnm j
      · rcases hlk j with ⟨g1,g2⟩ | g2
        · have := (hLL j g1).1
          unfold visW at this
          rw [Bool.and_eq_true] at this
          rw [lvmono j this.1] at hj
          cases hj
        · rw [g2];exact (hR.free j hj).1
    have hRG : RelG ⟨K.w0,w,G⟩ n ⟨lregs l.toArray (S i) o,hp2,(S m).nx⟩ a w G := by
      have r := RelP.rel' hRP (st := ⟨lregs l.toArray (S i) o,hp2,(S m).nx⟩) hregs (fun _ => .refl _) rfl
      exact ⟨r.nx,r.hr,Ext.refl _ _,r.size,r.defers,r.regs⟩
    have hop' := h hp2 (S m).nx hlkL
    obtain ⟨v,w',G',h1,h2,h3,h4,h5,h6⟩ := hop'.out _ a w G hRG
    have hxm : x.nmd (lvD S m (S 0).nx d) = true := nmd_mono lvmono _ hn
    have hbm : b.nmd (lvD S m (S 0).nx d) = true := abnmd_mono lvmono hb
    have hRP2 : RelP K n (updR R o.dst x) ((id,b) :: hpp) (S m).nx (lvD S m (S 0).nx d) (a.put o.dst v) w' G' := by
      have hHR : HR K.w0 w' G' ((id,b) :: hpp) := by
        refine ⟨h2.bs,h2.below,h2.ownlt,fun j => ?_,h2.dist,h2.ownhas⟩
        rw [look_cons]
        split
        · rename_i e
          subst e
          have := h2.blk id
          rw [look_self] at this
          exact this
        · rename_i e
          obtain ⟨g1,g2,g3⟩ := h5 j (Ne.symm e)
          exact (hR.hr.blk j).step h3 fun hj => ⟨g1,g2,g3 hj⟩
      have base : RelP K n R ((id,b) :: hpp) (S m).nx (lvD S m (S 0).nx d) a w' G' := by
        refine ⟨h4.trans hR.nx,hHR,hR.ext.trans h3,hR.size,hR.defers,fun t => (hR.regs t).ext h3,hR.rnm,fun j => ?_,fun j hj => ?_,hR.old⟩
        · rw [look_cons]
          split
          · exact hbm
          · exact hR.bnm j
        · have hne : id ≠ j := fun e => by subst e;rw [lvmono _ hv1] at hj;cases hj
          rw [look_cons,if_neg hne]
          obtain ⟨g1,g2⟩ := hR.free j hj
          exact ⟨g1,fun hlt => by rw [(h5 j (Ne.symm hne)).1];exact g2 hlt⟩
      exact base.put hop'.dst h6 hxm
    have fin : InvG K n l W S m (S 0).nx (upd d i) (a.put o.dst v) w' := by
      refine ⟨_,(id,b) :: hpp,G',by rw [lvSame hnx];exact hRP2,J1 x (putSelf _ x rfl),J2 x,fun id' hid' => ?_⟩
      rw [lvSame hnx] at hid'
      by_cases e : id = id'
      · subst e
        refine ⟨i + 1,by omega,by have := (hvis id hv1).2;omega,?_,fun j hj hlt2 => ?_,fun j hj hge2 => ?_,.inr ⟨i,rfl,(hdone i).2 (.inr rfl),.inl hm⟩⟩
        · rw [look_cons,if_pos rfl]
          have := heq.heap id
          rw [put_heap'] at this
          have e1 : look AB.dead ((S i).hset id b).heap id = b := look_self _ _ _ _
          rw [e1] at this
          exact this
        · rcases Nat.lt_or_ge j i with g | g
          · exact (hdone j).2 (.inl ((reachT hT ((okW_at hv2 hj).1 g)).done hcl ho hdep))
          · exact (hdone j).2 (.inr (by omega))
        · rw [upd_ne (by omega)]
          cases hdj : d j with
          | false => rfl
          | true =>
            have := (reachT hT ((okW_at hv2 hj).2 (by omega))).done' hcl hdj
            rw [hd0] at this
            cases this
      · obtain ⟨p,p1,p2,p3,p4,p5,p6⟩ := keep id' (fun hj => e (onlyW_at hu hj).symm) hid'
        exact ⟨p,p1,p2,by rw [look_cons,if_neg e];exact p3,p4,p5,p6⟩
    unfold Oper.wp
    rcases h1 with h1 | ⟨h1,hvu⟩
    · rw [h1];exact fin
    · subst hvu;rw [h1];exact fin
theorem AG.last (hp : ∀ i o,l[i]? = some o → PlanR l n i o) (hml : m ≤ l.length)
    (hC0 : C 0 = []) (hL : ∀ j o,j < m → l[j]? = some o → ∃ s',Loc P n l.toArray T W (S 0).nx j (C j) o (S j) s' (C (j + 1)) ∧ LeS (S (j + 1)) s') (hdead : ∀ id,(S 0).nx ≤ id → look .dead (S 0).heap id = .dead)
    {K : Kn} {d : Nat → Bool} {a : Act} {w : World} (hall : ∀ i,i < m → d i = true) (h : InvG K n l W S m (S 0).nx d a w) : ∃ G,RelG K n (S m) a w G := by
  obtain ⟨R,hpp,G,hR,I1,I2,I3⟩ := h
  have hop : ∀ j,j < m → ∃ o,l[j]? = some o := fun j hj => ⟨l[j],List.getElem?_eq_getElem (by omega)⟩
  have regM : ∀ t q,q ≤ m → ∀ p,p ≤ q → (∀ j o,p ≤ j → j < q → l[j]? = some o → o.dst ≠ some t) → Les (look AV.any (S q).regs t) (look .any (S p).regs t) := by
    intro t q
    induction q with
    | zero => intro _ p hp _;obtain rfl : p = 0 := (by omega);exact .refl _
    | succ q ih =>
      intro hq p hp hno
      rcases Nat.lt_or_ge p (q + 1) with h | h
      · obtain ⟨o,ho⟩ := hop q (by omega)
        obtain ⟨s',h1,h2⟩ := hL q o (by omega) ho
        have e1 := h2.regs t
        rw [h1.regs (hno q o (by omega) (by omega) ho)] at e1
        exact e1.trans (ih (by omega) p (by omega) fun j o hj1 hj2 => hno j o hj1 (by omega))
      · obtain rfl : p = q + 1 := by omega
        exact .refl _
  have heapM : ∀ id q,q ≤ m → ∀ p,p ≤ q → (∀ j,p ≤ j → j < q → ((S j).nx ≠ id ∨ (S (j + 1)).nx = (S j).nx) ∧ (j,id) ∉ W) → LesB (look AB.dead (S q).heap id) (look .dead (S p).heap id) := by
    intro id q
    induction q with
    | zero => intro _ p hp _;obtain rfl : p = 0 := (by omega);exact .refl _
    | succ q ih =>
      intro hq p hp hno
      rcases Nat.lt_or_ge p (q + 1) with h | h
      · obtain ⟨o,ho⟩ := hop q (by omega)
        obtain ⟨s',h1,h2⟩ := hL q o (by omega) ho
        obtain ⟨g1,g2⟩ := hno q (by omega) (by omega)
        refine (h2.heap id).trans ?_
        have e1 : look AB.dead s'.heap id = look .dead (S q).heap id := by
          rcases g1 with g1 | g1
          · exact h1.heap (fun e => g1 e.symm) g2
          · exact h1.heapSame (by rw [← h2.nx,g1]) g2
        rw [e1]
        exact ih (by omega) p (by omega) fun j j1 j2 => hno j j1 (by omega)
      · obtain rfl : p = q + 1 := by omega
        exact .refl _
  have nxM : ∀ q,q ≤ m → ∀ p,p ≤ q → (S p).nx ≤ (S q).nx := by
    intro q
    induction q with
    | zero => intro _ p hp;obtain rfl : p = 0 := (by omega);exact Nat.le_refl _
    | succ q ih =>
      intro hq p hp
      rcases Nat.lt_or_ge p (q + 1) with h | h
      · obtain ⟨o,ho⟩ := hop q (by omega)
        obtain ⟨s',h1,h2⟩ := hL q o (by omega) ho
        have := h1.nx_le.1
        have := h2.nx
        have := ih (by omega) p (by omega)
        omega
      · obtain rfl : p = q + 1 := by omega
        exact Nat.le_refl _
  have crM : ∀ q,q ≤ m → ∀ c ∈ C q,c.1 < q ∧ c.2 = (S c.1).nx ∧ (S (c.1 + 1)).nx = (S c.1).nx + 1 := by
    intro q
    induction q with
    | zero => intro _ c hc;rw [hC0] at hc;cases hc
    | succ q ih =>
      intro hq c hc
      obtain ⟨o,ho⟩ := hop q (by omega)
      obtain ⟨s',h1,h2⟩ := hL q o (by omega) ho
      rcases h1.crm c hc with h | ⟨h,h'⟩
      · obtain ⟨g1,g2⟩ := ih (by omega) c h
        exact ⟨by omega,g2⟩
      · subst h
        exact ⟨by omega,rfl,by rw [h2.nx];exact h'⟩
  refine ⟨G,RelP.rel' hR (fun t => ?_) (fun id => ?_) rfl⟩
  · by_cases hw : ∃ (j : Nat) (o' : Oper),j < m ∧ l[j]? = some o' ∧ o'.dst = some t
    · obtain ⟨j,o',hj,ho',hdst⟩ := hw
      exact (regM t m (Nat.le_refl _) (j + 1) (by omega) fun j2 o2 h1 h2 ho2 => (hp j2 o2 ho2).one j o' t ho' hdst (by omega)).trans (I1 j o' t hj ho' (hall j hj) hdst)
    · exact (regM t m (Nat.le_refl _) 0 (Nat.zero_le _) fun j o' _ hj ho' hdst => hw ⟨j,o',hj,ho',hdst⟩).trans (I2 t fun j o' hj ho' _ hdst => hw ⟨j,o',hj,ho',hdst⟩)
  · cases hlv : lvD S m (S 0).nx d id with
    | true =>
      obtain ⟨p,p1,p2,p3,p4,p5,_⟩ := I3 id hlv
      exact (heapM id m (Nat.le_refl _) p p1 fun j j1 j2 => ⟨.inl (by have := nxM j (by omega) p j1;omega),fun hj => by have := p5 j hj j1;rw [hall j j2] at this;cases this⟩).trans p3
    | false =>
      have hno : ¬ (id < (S 0).nx ∨ ∃ j,j < m ∧ d j = true ∧ (S j).nx = id ∧ (S j).nx < (S (j + 1)).nx) := fun h => by rw [lvD_iff.2 h] at hlv;cases hlv
      have hnl : ∀ j,j < m → (S j).nx = id → (S (j + 1)).nx = (S j).nx := fun j hj e => by
        have h1 := nxM (j + 1) (by omega) j (by omega)
        rcases Nat.lt_or_ge (S j).nx (S (j + 1)).nx with h | h
        · exact absurd (.inr ⟨j,hj,hall j hj,e,h⟩) hno
        · omega
      have hdd : look AB.dead (S 0).heap id = .dead := hdead id (by omega)
      have hz : ∀ q,q ≤ m → LesB (look AB.dead (S q).heap id) .dead := by
        intro q
        induction q with
        | zero => intro _;rw [hdd];exact .refl _
        | succ q ih =>
          intro hq
          obtain ⟨o,ho⟩ := hop q (by omega)
          obtain ⟨s',h1,h2⟩ := hL q o (by omega) ho
          refine (h2.heap id).trans ?_
          rcases h1.heap2 id with g | ⟨g1,g2⟩ | g
          · rw [g];exact ih (by omega)
          · have := hnl q (by omega) g1.symm
            have := h2.nx
            omega
          · unfold vis at g
            rw [Bool.or_eq_true,List.any_eq_true] at g
            rcases g with g | ⟨c,hc,g⟩
            · exact absurd (.inl (by simpa using g)) hno
            · rw [Bool.and_eq_true] at g
              obtain ⟨c1,c2,c3⟩ := crM q (by omega) c hc
              have := hnl c.1 (by omega) (by rw [← c2];exact Nat.eq_of_beq_eq_true g.1)
              omega
      exact (hz m (Nat.le_refl _)).trans (.dead _)
end
def tailR (l : List Oper) (T : List (List Nat)) (m : Nat) : Bool := (List.range l.length).all fun i => Nat.blt i m || (List.range i).all fun j => hasN (T.getD i []) j
/-- a region that draws: its operations in any order,and what lies wholly behind them -/
theorem AW.drawR {P : Program} {n : Nat} {Q : Exit → ASt → Prop} {st : ASt} {id : Nat} {l : List Oper} {T : List (List Nat)} (W : List (Nat × Nat)) (m : Nat) (hm : P.follows .mixedOrders = true) (hT : ancs l [] = T) (hk : planR l T = true) (htl : tailR l T m = true)
    (h : AG P n l.toArray T W st.nx (fun s => AL P n l.toArray Q (l.drop m) s) 0 [] (l.take m) st) : AW P n (.region id l.toArray true) Q st := .mk fun K a w ⟨G,r⟩ => by
  have hT' : AncOk l T := by
    rw [← hT]
    exact ancs_ok l [] (fun i A hA => by simp at hA) rfl
  have hpl := planR_at n hT' hk
  obtain ⟨S,C,e0,hC0,hK,hS⟩ := h.facts
  have hm' : (l.take m).length = min m l.length := by simp
  have r2 : RelG K n (S 0) a w.drew G := (r.same (below_drew' w)).les e0
  have hL : ∀ j o,j < (l.take m).length → l[j]? = some o → ∃ s',Loc P n l.toArray T W (S 0).nx j (C j) o (S j) s' (C (j + 1)) ∧ LeS (S (j + 1)) s' := by
    intro j o hj ho
    have := hS j o (by rw [List.getElem?_take,if_pos (by omega)];exact ho)
    rw [Nat.zero_add,← e0.nx] at this
    exact this
  have hdead : ∀ id,(S 0).nx ≤ id → look .dead (S 0).heap id = .dead := by
    intro id hid
    have hkk := r2.hr.blk id
    have hn := r2.nx
    cases hb : look AB.dead (S 0).heap id with
    | dead => rfl
    | box cs e => rw [hb] at hkk;have := hkk.1;omega
    | row sz rows e => rw [hb] at hkk;have := hkk.1;omega
  have hnxM : (S 0).nx ≤ (S (l.take m).length).nx := by
    have : ∀ q,q ≤ (l.take m).length → (S 0).nx ≤ (S q).nx := by
      intro q
      induction q with
      | zero => intro _;exact Nat.le_refl _
      | succ q ih =>
        intro hq
        have hql : q < l.length := by omega
        obtain ⟨s',g1,g2⟩ := hL q l[q] (by omega) (List.getElem?_eq_getElem hql)
        have := g1.nx_le.1
        have := g2.nx
        have := ih (by omega)
        omega
    exact this _ (Nat.le_refl _)
  have hdr : l.drop (l.take m).length = l.drop m := by
    rw [hm']
    rcases Nat.lt_or_ge m l.length with h | h
    · rw [Nat.min_eq_left (by omega)]
    · rw [Nat.min_eq_right h,List.drop_length,List.drop_eq_nil_of_le h]
  refine wp_region_inv (Inv := InvG K n l W S (l.take m).length (S 0).nx) hm (fun i o ho => (hpl i o (by simpa using ho)).after) (l.take m).length (by omega) ?_ (fun i o d a w hi ho hd0 hcl hdep hI => AG.step' hpl hT' (by omega) hC0 hL hi ho hd0 hcl hdep hI) (fun d a w hall hI => ?_) (fun i hi hil j hj => ?_)
  · obtain ⟨G',hR⟩ := r2.reserve (Nat.le_trans r.ext.size (below_drew' w).size) (S (l.take m).length).nx hnxM
    have hlv : lvD S (l.take m).length (S 0).nx (fun _ => false) = fun id => Nat.blt id (S 0).nx := by
      funext id
      rw [Bool.eq_iff_iff,lvD_iff]
      constructor
      · rintro (h | ⟨j,_,h,_⟩)
        · simpa using h
        · cases h
      · intro h;exact .inl (by simpa using h)
    refine ⟨_,_,G',by rw [hlv];exact hR,fun j o t _ _ h => absurd h (by simp),fun t _ => .refl _,fun id hid => ?_⟩
    rw [hlv] at hid
    have hid : id < (S 0).nx := by simpa using hid
    exact ⟨0,Nat.zero_le _,hid,.refl _,fun j _ h => absurd h (Nat.not_lt_zero _),fun _ _ _ => rfl,.inl rfl⟩
  · obtain ⟨G',hr⟩ := AG.last hpl (by omega) hC0 hL hdead hall hI
    rw [hdr]
    exact AL.out hK K a w ⟨G',hr⟩
  · have hge : m ≤ i := by rw [hm'] at hi;omega
    have := List.all_eq_true.1 htl i (List.mem_range.2 hil)
    rw [Bool.or_eq_true] at this
    rcases this with h | h
    · have h : i < m := by simpa using h
      omega
    · exact reachT hT' (List.all_eq_true.1 h j (List.mem_range.2 hj))
end Go.Proofs.Ytelpkjellakigaa.Dr
/- Decompiling: regions that draw their order,over terms. No program in sight. -/
namespace Go.Proofs.Ytelpkjellakigaa
open Go Go.RowKit

section
variable {V W : Ty → Type} {ρ : Ty}
/-- blocks that an operation may name -/
def visV (T : List (List Nat)) (b0 i : Nat) (cr : List (Nat × Nat)) (k : Nat) : Bool := Nat.blt k b0 || cr.any fun c => Nat.beq c.2 k && hasN (T.getD i []) c.1
def visS (T : List (List Nat)) (ws : List (Nat × Nat)) (b0 i : Nat) (cr : List (Nat × Nat)) (k : Nat) : Bool := visV T b0 i cr k && Dr.okW T ws i k
def lclS (ops : Array Oper) (T : List (List Nat)) (ws : List (Nat × Nat)) (b0 i : Nat) (cr : List (Nat × Nat)) (st : SSt V) (o : Oper) : SSt V :=
  ⟨(o.looksAt ops).map fun t => (t,st.get t),[],(st.heap ++ st.hk).filter fun p => visS T ws b0 i cr p.1,[],[],st.nx⟩
def callR (C : DC) (lst : SSt V) (K : SV V → G V W ρ) : Op → G V W ρ
  | .call ⟨.value cal,args,_⟩ => match lst.ev cal with
    | .fn F caps => match lk C.cas F with
      | some _ => match lk C.ctrs F with
        | some c => match exArgs lst c.a (evS lst args.toList ++ caps) with
          | some e => .call c.f c.nm e fun y => K (oneOfS (svsE true c.r (.var y)))
          | none => .fail
        | none => .fail
      | none => .fail
    | _ => .fail
  | _ => .fail
/-- the operations that make a block -/
def isNew : Op → Bool
  | .alloc _ => true
  | .box _ _ => true
  | .makeSlice .. => true
  | .buildSlice .. => true
  | .call ⟨.builtin .append,_,_⟩ => true
  | _ => false
def newR (C : DC) (T : List (List Nat)) (ws : List (Nat × Nat)) (b0 i : Nat) (cr : List (Nat × Nat)) (lst st : SSt V) (o : Oper) (K : List (Nat × Nat) → SSt V → G V W ρ) : G V W ρ := match mem0 C.T lst o.dst o.op with
  | some (.new b row,g) => bif Dr.noW ws i && Dr.newW T ws i st.nx && b.refs (fun k => visS T ws b0 i cr k && !Nat.beq k st.nx) (fun k _ => visS T ws b0 i cr k && !Nat.beq k st.nx) && st.refs (fun id => !Nat.beq id st.nx) (fun id _ => !Nat.beq id st.nx) then grdG g (K ((i,st.nx) :: cr) (MR.app st o.dst (.new b row))) else .fail
  | _ => .fail
/-- a write into a box -/
def storeB (T : Tab) (st : SSt V) (t : TypeId) (a v : SV V) : Option (Nat × SB V) := match lk T.inf t with
  | some (_,s,_) => bif allOneS st v.cells && Nat.beq v.cells.length s then (match a with
    | .box id o => match st.blk id with
      | .box cs e => bif Nat.ble (o + s) cs.length then some (id,.box (setRS cs o v.cells) e) else none
      | _ => none
    | _ => none) else none
  | none => none
/-- a write into a row -/
def storeE (T : Tab) (st : SSt V) (t : TypeId) (a v : SV V) : Option (Nat × SB V) := match lk T.inf t with
  | some (_,s,_) => bif allOneS st v.cells && Nat.beq v.cells.length s then (match a with
    | .elt id ver i o => match st.blk id with
      | .row fr ty xs e ver' => bif Nat.beq ver ver' && Nat.ble (o + s) ty.size then (match exA fr ty (setRS (cellsE fr ty (.at xs i)) o v.cells) with
        | some x => some (id,.row fr ty (.set xs i x) e ver')
        | none => match exA false ty (setRS (cellsE fr ty (.at xs i)) o v.cells) with
          | some x => some (id,.row false ty (.set xs i x) e ver')
          | none => none) else none
      | _ => none
    | _ => none) else none
  | none => none
/-- rows that a value names -/
def idsA (x : SV V) : List Nat := match x with
  | .osl id _ => [id]
  | .vsl id _ _ _ => [id]
  | _ => []
/-- append onto a row of the call's own -/
def appR (C : DC) (T : List (List Nat)) (ws : List (Nat × Nat)) (b0 i : Nat) (cr : List (Nat × Nat)) (st : SSt V) (d : Option Nat) (t : TypeId) (y z : SV V) (K : List (Nat × Nat) → SSt V → G V W ρ) : G V W ρ := match appS C.T st t y z with
  | some (.upd id b (some x),g) => bif visS T ws b0 i cr id && (ws.any fun p => Nat.beq p.1 i && Nat.beq p.2 id) && Dr.onlyW ws i id && (idsA z).all (fun j => visS T ws b0 i cr j) then grdG g (K cr ((st.hset id b).put d x)) else .fail
  | _ => .fail
def writeR (C : DC) (T : List (List Nat)) (ws : List (Nat × Nat)) (b0 i : Nat) (cr : List (Nat × Nat)) (st : SSt V) (o : Oper) (K : List (Nat × Nat) → SSt V → G V W ρ) : G V W ρ := match o.dst,o.op with
  | none,.store t a v => match storeB C.T st t (st.ev a) (st.ev v) with
    | some (id,b) => bif visS T ws b0 i cr id && (ws.any fun p => Nat.beq p.1 i && Nat.beq p.2 id) && Dr.onlyW ws i id && b.refs (visS T ws b0 i cr) (fun k _ => visS T ws b0 i cr k) && (st.blk id).refs (visS T ws b0 i cr) (fun k _ => visS T ws b0 i cr k) then K cr (st.hset id b) else .fail
    | none => match storeE C.T st t (st.ev a) (st.ev v) with
      | some (id,b) => bif visS T ws b0 i cr id && (ws.any fun p => Nat.beq p.1 i && Nat.beq p.2 id) && Dr.onlyW ws i id && (st.blk id).refs (visS T ws b0 i cr) (fun k _ => visS T ws b0 i cr k) then K cr (st.hset id b) else .fail
      | none => .fail
  | d,.call ⟨.builtin .append,⟨[y,z]⟩,⟨[t,t']⟩⟩ => bif Nat.beq t' t then appR C T ws b0 i cr st d t (st.ev y) (st.ev z) K else .fail
  | _,_ => .fail
/-- one operation of a region that draws -/
def stepR' (C : DC) (T : List (List Nat)) (ws : List (Nat × Nat)) (b0 i : Nat) (cr : List (Nat × Nat)) (lst st : SSt V) (o : Oper) (K : List (Nat × Nat) → SSt V → G V W ρ) : G V W ρ := match rd C.T lst o.op with
  | some (x,g) => bif Dr.noW ws i && x.refs (visS T ws b0 i cr) (fun k _ => visS T ws b0 i cr k) then
      grdG g (bif lets o.op then letV x fun x => K cr (st.put o.dst x) else K cr (st.put o.dst x)) else .fail
  | none => bif isNew o.op && Dr.noW ws i then newR C T ws b0 i cr lst st o K else bif Dr.noW ws i then callR C lst (fun x => K cr (st.put o.dst x)) o.op else writeR C T ws b0 i cr st o K
def sR (C : DC) (n : Nat) (ops : Array Oper) (T : List (List Nat)) (ws : List (Nat × Nat)) (b0 : Nat) (K : SSt V → G V W ρ) : Nat → List (Nat × Nat) → List Oper → SSt V → G V W ρ
  | _,_,[],st => K st
  | i,cr,o :: l,st => bif dok o.dst n then (match wantS ops o st with
    | .yes => stepR' C T ws b0 i cr (lclS ops T ws b0 i cr st o) st o fun cr' st' => sR C n ops T ws b0 K (i + 1) cr' l st'
    | .no => bif Dr.noW ws i then sR C n ops T ws b0 K (i + 1) cr l (st.put o.dst .und) else .fail
    | .ask c d want => .ite c
        (bif want then stepR' C T ws b0 i cr (lclS ops T ws b0 i cr (st.put (some d) (.bool (.bL true))) o) (st.put (some d) (.bool (.bL true))) o fun cr' st' => sR C n ops T ws b0 K (i + 1) cr' l st'
          else bif Dr.noW ws i then sR C n ops T ws b0 K (i + 1) cr l ((st.put (some d) (.bool (.bL true))).put o.dst .und) else .fail)
        (bif want then bif Dr.noW ws i then sR C n ops T ws b0 K (i + 1) cr l ((st.put (some d) (.bool (.bL false))).put o.dst .und) else .fail
          else stepR' C T ws b0 i cr (lclS ops T ws b0 i cr (st.put (some d) (.bool (.bL false))) o) (st.put (some d) (.bool (.bL false))) o fun cr' st' => sR C n ops T ws b0 K (i + 1) cr' l st')
    | .bad => .fail) else .fail
/-- where the operations begin that lie wholly behind all before them -/
def tailN (T : List (List Nat)) : Nat → Nat
  | 0 => 0
  | i + 1 => bif (List.range i).all fun j => hasN (T.getD i []) j then tailN T i else i + 1
/-- the writes,by the blocks that they name -/
def wsD (T : Tab) : Nat → List Oper → SSt V → List (Nat × Nat)
  | _,[],_ => []
  | i,o :: l,st => match rd T st o.op with
    | some (x,_) => wsD T (i + 1) l (st.put o.dst x)
    | none => match o.op with
      | .store _ a _ => match st.ev a with
        | .box id _ => (i,id) :: wsD T (i + 1) l st
        | .elt id _ _ _ => (i,id) :: wsD T (i + 1) l st
        | _ => wsD T (i + 1) l st
      | _ => match mem0 T st o.dst o.op with
        | some (.new b row,_) => wsD T (i + 1) l (MR.app st o.dst (.new b row))
        | some (.upd id b (some r),_) => (i,id) :: wsD T (i + 1) l ((st.hset id b).put o.dst r)
        | _ => wsD T (i + 1) l (st.put o.dst .any)
def drW (C : DC) (self : SelfG V W ρ) (an : An) (n : Nat) (l : List Oper) (st : SSt V) (ws : List (Nat × Nat)) (K : SSt V → G V W ρ) : G V W ρ :=
  bif Dr.planR l (ancs l []) && (ws.all fun p => isLive (st.blk p.2) || Nat.ble st.nx p.2) && Dr.tailR l (ancs l []) (tailN (ancs l []) l.length) then
    sR C n ⟨l⟩ (ancs l []) ws st.nx (fun st' => sL C self n ⟨l⟩ an (tailN (ancs l []) l.length) (l.drop (tailN (ancs l []) l.length)) st' K) 0 [] (l.take (tailN (ancs l []) l.length)) st else .fail
def drR (C : DC) : DrawG V W ρ := fun self an n l st K => drW C self an n l st (wsD C.T 0 (l.take (tailN (ancs l []) l.length)) st) K
end
/-! ### Local states -/
theorem sv_refs_all (x : SV D) : x.refs (fun _ => true) (fun _ _ => true) = true := by
  have := refs_all (⟨[(0,x)],[],[],[],[],0⟩ : SSt D)
  unfold SSt.refs at this
  simp only [refsR,Bool.and_eq_true] at this
  exact this.1.1
theorem svL_refs_all (l : List (SV D)) : SV.refsL (fun _ => true) (fun _ _ => true) l = true := by
  induction l with
  | nil => rw [SV.refsL]
  | cons c l ih => rw [SV.refsL,sv_refs_all,ih];rfl
theorem sb_refs_all (b : SB D) : b.refs (fun _ => true) (fun _ _ => true) = true := by
  cases b with
  | box cs e => exact svL_refs_all cs
  | _ => rfl
section
variable {m : Nat → Nat} {H : Nat → SB D} {q : Nat → Bool} {pB : Nat → Bool} {pR : Nat → Nat → Bool}
mutual
theorem enc_nmd (hB : ∀ id,pB id = true → isBox H id = true → q (m id) = true) (hR : ∀ id v n,pR id v = true → rowLen H id v = some n → q (m id) = true) : ∀ (x : SV D),x.refs pB pR = true → (x.enc m H).nmd q = true
  | .any,_ => by rw [SV.enc];rfl
  | .und,_ => by rw [SV.enc];rfl
  | .int ..,_ => by rw [SV.enc];rfl
  | .bool ..,_ => by rw [SV.enc];rfl
  | .str ..,_ => by rw [SV.enc];rfl
  | .nilp,_ => by rw [SV.enc];rfl
  | .nils,_ => by rw [SV.enc];rfl
  | .nilf,_ => by rw [SV.enc];rfl
  | .pk ..,_ => by rw [SV.enc];rfl
  | .ro ..,_ => by rw [SV.enc];rfl
  | .box id off,h => by
    rw [SV.refs] at h
    rw [SV.enc]
    cases hb : isBox H id with
    | true => exact hB id h hb
    | false => rfl
  | .elt id ver i off,h => by
    rw [SV.refs] at h
    rw [SV.enc]
    cases hb : rowLen H id ver with
    | some n => exact hR id ver n h hb
    | none => rfl
  | .osl id ver,h => by
    rw [SV.refs] at h
    rw [SV.enc]
    cases hb : rowLen H id ver with
    | some n => exact hR id ver n h hb
    | none => rfl
  | .vsl id ver lo hi,h => by
    rw [SV.refs] at h
    rw [SV.enc]
    cases hb : rowLen H id ver with
    | some n => exact hR id ver n h hb
    | none => rfl
  | .agg cs,h => by
    rw [SV.refs] at h
    rw [SV.enc]
    exact encL_nmd hB hR cs h
  | .tup cs,h => by
    rw [SV.refs] at h
    rw [SV.enc]
    exact encL_nmd hB hR cs h
  | .fn f cs,h => by
    rw [SV.refs] at h
    rw [SV.enc]
    exact encL_nmd hB hR cs h
theorem encL_nmd (hB : ∀ id,pB id = true → isBox H id = true → q (m id) = true) (hR : ∀ id v n,pR id v = true → rowLen H id v = some n → q (m id) = true) : ∀ (l : List (SV D)),SV.refsL pB pR l = true → AV.nmd.go q (SV.encL m H l) = true
  | [],_ => by rw [SV.encL];rfl
  | c :: l,h => by
    rw [SV.refsL,Bool.and_eq_true] at h
    rw [SV.encL,AV.nmd.go,enc_nmd hB hR c h.1,encL_nmd hB hR l h.2];rfl
end
theorem cells_nmd {fr : Bool} : ∀ (t : Ty) (e : E D t),SV.refsL pB pR (cellsE fr t e) = true := by
  intro t
  induction t with
  | pair a b iha ihb =>
    intro e
    rw [cellsE]
    have key : ∀ (l r : List (SV D)),SV.refsL pB pR l = true → SV.refsL pB pR r = true → SV.refsL pB pR (l ++ r) = true := by
      intro l r hl hr
      induction l with
      | nil => exact hr
      | cons c l ih =>
        rw [SV.refsL,Bool.and_eq_true] at hl
        rw [List.cons_append,SV.refsL,hl.1,ih hl.2];rfl
    exact key _ _ (iha _) (ihb _)
  | agg t ih => intro e;rw [cellsE];exact ih _
  | unit => intro e;rw [cellsE,SV.refsL]
  | int k => intro e;rw [cellsE,SV.refsL,SV.refsL];rw [SV.refs] <;> simp
  | bool => intro e;rw [cellsE,SV.refsL,SV.refsL];rw [SV.refs] <;> simp
  | str => intro e;rw [cellsE,SV.refsL,SV.refsL];rw [SV.refs] <;> simp
  | list t _ => intro e;rw [cellsE,SV.refsL,SV.refsL];rw [SV.refs] <;> simp
  | ptr t _ => intro e;rw [cellsE,SV.refsL,SV.refsL];rw [SV.refs] <;> simp
theorem data_nmd {t : Ty} {fr : Bool} : ∀ (e : E D t),SV.refs pB pR (svE fr t e) = true := by
  intro e
  cases t with
  | agg t => rw [svE,SV.refs];exact cells_nmd _ _
  | _ => rw [svE,SV.refs] <;> simp
theorem datas_nmd {fr : Bool} : ∀ (t : Ty) (e : E D t),SV.refsL pB pR (svsE fr t e) = true
  | .pair a b,e => by rw [svsE,SV.refsL,data_nmd,datas_nmd b];rfl
  | .int _,_ => by rw [svsE,SV.refsL];all_goals simp
  | .bool,_ => by rw [svsE,SV.refsL];all_goals simp
  | .str,_ => by rw [svsE,SV.refsL];all_goals simp
  | .list _,_ => by rw [svsE,SV.refsL];all_goals simp
  | .unit,_ => by rw [svsE,SV.refsL];all_goals simp
  | .agg _,_ => by rw [svsE,SV.refsL];all_goals simp
  | .ptr _,_ => by rw [svsE,SV.refsL];all_goals simp
theorem one_nmd {l : List (SV D)} (h : SV.refsL pB pR l = true) : (oneOfS l).refs pB pR = true := by
  unfold oneOfS
  split
  · rw [SV.refsL,Bool.and_eq_true] at h;exact h.1
  · rw [SV.refs];exact h
end
/-- how a region's numbers are laid out -/
structure Lay (m : Nat → Nat) (nx0 b0 : Nat) (st0 : SSt D) : Prop where
  new : ∀ k,b0 ≤ k → m k = nx0 + (k - b0)
  old : ∀ k,k < b0 → st0.blk k ≠ .dead → m k < nx0
  inj : ∀ k k',st0.blk k ≠ .dead → st0.blk k' ≠ .dead → m k = m k' → k = k'
  lt : ∀ k,st0.blk k ≠ .dead → k < b0
def Good (b0 : Nat) (st0 : SSt D) (k : Nat) : Prop := b0 ≤ k ∨ st0.blk k ≠ .dead
section
variable {m : Nat → Nat} {nx0 b0 : Nat} {st0 : SSt D}
theorem Lay.injG (h : Lay m nx0 b0 st0) {k k' : Nat} (hk : Good b0 st0 k) (hk' : Good b0 st0 k') (e : m k = m k') : k = k' := by
  rcases hk with hk | hk
  · rcases hk' with hk' | hk'
    · rw [h.new k hk,h.new k' hk'] at e;omega
    · have := h.old k' (h.lt k' hk') hk'
      rw [h.new k hk] at e;omega
  · rcases hk' with hk' | hk'
    · have := h.old k (h.lt k hk) hk
      rw [h.new k' hk'] at e;omega
    · exact h.inj k k' hk hk' e
def mapP (m : Nat → Nat) (l : List (Nat × Nat)) : List (Nat × Nat) := l.map fun p => (p.1,m p.2)
theorem beq_m (h : Lay m nx0 b0 st0) {k k' : Nat} (hk : Good b0 st0 k) (hk' : Good b0 st0 k') : Nat.beq (m k) (m k') = Nat.beq k k' := by
  cases hb : Nat.beq k k' with
  | true =>
    have := Nat.eq_of_beq_eq_true hb
    subst this
    exact Nat.beq_refl _
  | false =>
    rw [← Bool.not_eq_true]
    intro e
    have := h.injG hk hk' (Nat.eq_of_beq_eq_true e)
    subst this
    rw [Nat.beq_refl] at hb;cases hb
variable {T : List (List Nat)} {ws cr : List (Nat × Nat)} {i : Nat}
theorem okW_m (h : Lay m nx0 b0 st0) (hw : ∀ p ∈ ws,Good b0 st0 p.2) {k : Nat} (hk : Good b0 st0 k) : Dr.okW T (mapP m ws) i (m k) = Dr.okW T ws i k := by
  unfold Dr.okW mapP
  induction ws with
  | nil => rfl
  | cons p l ih =>
    rw [List.map_cons,List.all_cons,List.all_cons,ih (fun p hp => hw p (List.mem_cons_of_mem _ hp)),beq_m h (hw p (by simp)) hk]
theorem vis_m (h : Lay m nx0 b0 st0) (hc : ∀ p ∈ cr,b0 ≤ p.2) {k : Nat} (hk : Good b0 st0 k) : vis T nx0 i (mapP m cr) (m k) = visV T b0 i cr k := by
  unfold vis visV mapP
  have e1 : Nat.blt (m k) nx0 = Nat.blt k b0 := by
    rw [Bool.eq_iff_iff]
    simp only [Nat.blt_eq]
    rcases hk with hk | hk
    · rw [h.new k hk];omega
    · have := h.old k (h.lt k hk) hk
      have := h.lt k hk
      omega
  rw [e1]
  congr 1
  induction cr with
  | nil => rfl
  | cons p l ih =>
    rw [List.map_cons,List.any_cons,List.any_cons,ih (fun p hp => hc p (List.mem_cons_of_mem _ hp)),beq_m h (.inl (hc p (by simp))) hk]
theorem noW_m (ws : List (Nat × Nat)) : Dr.noW (mapP m ws) i = Dr.noW ws i := by
  unfold Dr.noW mapP
  rw [List.all_map];rfl
end
section
variable {P : Program} {n : Nat} {m : Nat → Nat} {nx nx0 b0 : Nat} {st0 st : SSt D} {T : List (List Nat)} {ws cr : List (Nat × Nat)} {i : Nat} {ops : Array Oper} {o : Oper}
theorem lclS_get (d : Nat) : (lclS ops T ws b0 i cr st o).get d = look .any ((o.looksAt ops).map fun t => (t,st.get t)) d := rfl
theorem lclS_blk (k : Nat) : (lclS ops T ws b0 i cr st o).blk k = bif visS T ws b0 i cr k then st.blk k else .dead := by
  show look (look .dead [] k) ((st.heap ++ st.hk).filter fun p => visS T ws b0 i cr p.1) k = _
  have : (look .dead ([] : List (Nat × SB D)) k) = .dead := rfl
  rw [this,look_filt (f := fun k => visS T ws b0 i cr k),blk_look]
theorem lclS_mem : MemLe m st.blk m (lclS ops T ws b0 i cr st o).blk (fun _ => true) (fun _ _ => true) := by
  refine ⟨fun id _ => ?_,fun id v _ => ?_⟩
  · cases hv : visS T ws b0 i cr id with
    | true => right;unfold isBox;rw [lclS_blk,hv];exact ⟨rfl,rfl⟩
    | false => left;unfold isBox;rw [lclS_blk,hv];rfl
  · cases hv : visS T ws b0 i cr id with
    | true => right;unfold rowLen;rw [lclS_blk,hv];exact ⟨rfl,rfl⟩
    | false => left;unfold rowLen;rw [lclS_blk,hv];rfl
theorem lclS_mok (hm : MOk m nx st) {k : Nat} (hk : ∀ j,(lclS ops T ws b0 i cr st o).blk j ≠ .dead → m j < k) : MOk m k (lclS ops T ws b0 i cr st o) := by
  have live : ∀ j,(lclS ops T ws b0 i cr st o).blk j ≠ .dead → st.blk j ≠ .dead := by
    intro j hj
    rw [lclS_blk] at hj
    cases hv : visS T ws b0 i cr j with
    | true => rw [hv] at hj;exact hj
    | false => rw [hv] at hj;exact absurd rfl hj
  refine ⟨hk,fun j j' h1 h2 e => hm.inj j j' (live j h1) (live j' h2) e,fun p hp => ?_⟩
  have hp : p ∈ ((st.heap ++ st.hk).filter fun p => visS T ws b0 i cr p.1) ++ [] := hp
  rw [List.append_nil] at hp
  exact hm.keys p (List.mem_filter.1 hp).1
theorem lclS_les (hL : Lay m nx0 b0 st0) (hw : ∀ p ∈ ws,Good b0 st0 p.2) (hc : ∀ p ∈ cr,b0 ≤ p.2) (hg : ∀ k,st.blk k ≠ .dead → Good b0 st0 k) (hm : MOk m nx st) {k : Nat} (hk : ∀ j,(lclS ops T ws b0 i cr st o).blk j ≠ .dead → m j < k) :
    LeS ((lclS ops T ws b0 i cr st o).enc m k) (Dr.lcl ops T (mapP m ws) nx0 i (mapP m cr) (st.enc m nx) o k) := by
  refine ⟨fun d => ?_,fun q => ?_,rfl⟩
  · rw [enc_get,lclS_get]
    show Les _ (look .any ((o.looksAt ops).map fun t => (t,look .any (st.enc m nx).regs t)) d)
    by_cases hd : d ∈ o.looksAt ops
    · have key : ∀ (l : List Nat),d ∈ l → look SV.any (l.map fun t => (t,st.get t)) d = st.get d ∧ look AV.any (l.map fun t => (t,look .any (st.enc m nx).regs t)) d = look .any (st.enc m nx).regs d := by
        intro l
        induction l with
        | nil => intro h;cases h
        | cons a l ih =>
          intro h
          rw [List.map_cons,List.map_cons,look_cons,look_cons]
          by_cases e : a = d
          · subst e;rw [if_pos rfl,if_pos rfl];exact ⟨rfl,rfl⟩
          · rw [if_neg e,if_neg e]
            exact ih ((List.mem_cons.1 h).resolve_left fun e' => e e'.symm)
      obtain ⟨e1,e2⟩ := key _ hd
      rw [e1,e2,enc_get]
      exact enc_les lclS_mem _ (sv_refs_all _)
    · rw [look_pick_in hd,SV.enc];exact .any _
  · rcases heap_cases (lclS_mok hm hk) q with h | ⟨j,h,e⟩
    · rw [h];exact .dead _
    · subst e
      rw [enc_blk (lclS_mok hm hk) h]
      have hv : visS T ws b0 i cr j = true := by
        cases hv : visS T ws b0 i cr j with
        | true => rfl
        | false => rw [lclS_blk,hv] at h;exact absurd rfl h
      have hlj : st.blk j ≠ .dead := by rw [lclS_blk,hv] at h;exact h
      have hgj := hg j hlj
      show LesB _ (look .dead ((st.enc m nx).heap.filter fun p => Dr.visW T (mapP m ws) nx0 i (mapP m cr) p.1) (m j))
      have hvv : Dr.visW T (mapP m ws) nx0 i (mapP m cr) (m j) = true := by
        unfold Dr.visW
        rw [vis_m hL hc hgj,okW_m hL hw hgj]
        exact hv
      rw [look_filt (f := fun id => Dr.visW T (mapP m ws) nx0 i (mapP m cr) id),hvv,enc_blk hm hlj]
      have e1 : (lclS ops T ws b0 i cr st o).blk j = st.blk j := by rw [lclS_blk,hv];rfl
      rw [e1]
      exact encB_les lclS_mem _ (sb_refs_all _)
/-- whatever the number of the next block -/
theorem lt_of_rel {K : Kn} {a : Act} {w : World} {G : Gh} (hL : Lay m nx0 b0 st0) (hw : ∀ p ∈ ws,Good b0 st0 p.2) (hc : ∀ p ∈ cr,b0 ≤ p.2) (hg : ∀ k,st.blk k ≠ .dead → Good b0 st0 k) (hm : MOk m nx st) {k : Nat} (r : RelG K n (Dr.lcl ops T (mapP m ws) nx0 i (mapP m cr) (st.enc m nx) o k) a w G) : ∀ j,(lclS ops T ws b0 i cr st o).blk j ≠ .dead → m j < k := by
  intro j h
  have hv : visS T ws b0 i cr j = true := by
    cases hv : visS T ws b0 i cr j with
    | true => rfl
    | false => rw [lclS_blk,hv] at h;exact absurd rfl h
  have hlj : st.blk j ≠ .dead := by rw [lclS_blk,hv] at h;exact h
  have hgj := hg j hlj
  have hb := r.hr.blk (m j)
  have e1 : look .dead (Dr.lcl ops T (mapP m ws) nx0 i (mapP m cr) (st.enc m nx) o k).heap (m j) = (st.blk j).enc m st.blk := by
    show look .dead ((st.enc m nx).heap.filter fun p => Dr.visW T (mapP m ws) nx0 i (mapP m cr) p.1) (m j) = _
    have hvv : Dr.visW T (mapP m ws) nx0 i (mapP m cr) (m j) = true := by
      unfold Dr.visW
      rw [vis_m hL hc hgj,okW_m hL hw hgj]
      exact hv
    rw [look_filt (f := fun id => Dr.visW T (mapP m ws) nx0 i (mapP m cr) id),hvv,enc_blk hm hlj];rfl
  rw [e1] at hb
  have hn : G.nx = k := r.nx
  rw [← hn]
  generalize st.blk j = b at hb hlj
  cases b with
  | dead => exact absurd rfl hlj
  | box cs e => rw [SB.enc] at hb;exact hb.1
  | row fr t xs e v => rw [SB.enc] at hb;exact hb.1
end
end Go.Proofs.Ytelpkjellakigaa
/- Decompiling: regions that draw their order: the machine over terms says what they do. No program in sight. -/
namespace Go.Proofs.Ytelpkjellakigaa
open Go Go.RowKit

theorem OpF.le {P : Program} {n : Nat} {s s' : ASt} {o : Oper} {x : AV} (h : LeS s s') (k : OpF P n o s x) : OpF P n o s' x := ⟨k.dst,fun K a w G r => k.out K a w G (r.les h)⟩
theorem gdst_looks {ops : Array Oper} {o : Oper} {d : Nat} {want : Bool} (h : gdst ops o = some (d,want)) : d ∈ o.looksAt ops := by
  unfold gdst at h
  unfold Oper.looksAt
  split at h
  · rename_i j want' hg
    rw [Option.map_eq_some_iff] at h
    obtain ⟨d',h1,h2⟩ := h
    injection h2 with h2 _
    subst h2
    rw [hg]
    simp [h1]
  · cases h
theorem lregs_get {ops : Array Oper} {o : Oper} {s : ASt} {d : Nat} (hd : d ∈ o.looksAt ops) : look .any (Dr.lregs ops s o) d = look .any s.regs d := by
  unfold Dr.lregs
  revert hd
  generalize o.looksAt ops = l
  induction l with
  | nil => intro h;cases h
  | cons a l ih =>
    intro h
    rw [List.map_cons,look_cons]
    by_cases e : a = d
    · subst e;rw [if_pos rfl]
    · rw [if_neg e]
      exact ih ((List.mem_cons.1 h).resolve_left fun e' => e e'.symm)
def nxOf (nx0 b0 : Nat) (st : SSt D) : Nat := nx0 + (st.nx - b0)
/-- what holds between the operations -/
structure RI (F : List (Nat → AV)) (m : Nat → Nat) (nx0 b0 : Nat) (st0 st : SSt D) : Prop where
  mok : MOk m (nxOf nx0 b0 st) st
  ge : b0 ≤ st.nx
  fr : FrOk m st.blk st.fr F
  fix : Fix st0 st
  good : ∀ k,st.blk k ≠ .dead → Good b0 st0 k
section
variable {P : Program} {n : Nat} {F : List (Nat → AV)} {ρ : Ty} {fu : Nat} {C : DC} {r : ρ.den}
variable {m : Nat → Nat} {nx0 b0 : Nat} {st0 st : SSt D} {T : List (List Nat)} {ws cr : List (Nat × Nat)} {i : Nat} {ops : Array Oper} {o : Oper} {l : List Oper} {Kt : ASt → Prop}
theorem RI.put (h : RI F m nx0 b0 st0 st) (d : Option Nat) (x : SV D) : RI F m nx0 b0 st0 (st.put d x) := by
  have e : nxOf nx0 b0 (st.put d x) = nxOf nx0 b0 st := by cases d <;> rfl
  refine ⟨by rw [e];exact put_mok h.mok d x,by cases d <;> exact h.ge,by rw [put_blk];cases d <;> exact h.fr,h.fix.trans (put_fix st d x),by rw [put_blk];exact h.good⟩
theorem gst_yesS (h : wantS ops o st = .yes) {nx : Nat} {W cr : List (Nat × Nat)} : o.guard = none ∨ gst ops o (Dr.lcl ops T W nx0 i cr (st.enc m nx) o 0) = some true := by
  unfold wantS at h
  split at h
  · rename_i hg;exact .inl hg
  · split at h
    · cases h
    · rename_i d want hg
      right
      have e := wantV_yes (m := m) (st := st) h
      rw [← enc_get st m nx,← lregs_get (gdst_looks hg)] at e
      unfold gst
      rw [hg]
      show (match look AV.any (Dr.lregs ops (st.enc m nx) o) d,want with
        | .bool true,true => some true
        | .bool false,false => some true
        | .bool true,false => some false
        | .bool false,true => some false
        | .und,_ => some false
        | _,_ => none) = _
      rw [e]
      cases want <;> rfl
theorem gst_noS (h : wantS ops o st = .no) {nx : Nat} {W cr : List (Nat × Nat)} : gst ops o (Dr.lcl ops T W nx0 i cr (st.enc m nx) o 0) = some false := by
  obtain ⟨d,want,hg,hb⟩ := wantS_no (m := m) (nx := nx) h
  rw [← lregs_get (gdst_looks hg)] at hb
  unfold gst
  rw [hg]
  show (match look AV.any (Dr.lregs ops (st.enc m nx) o) d,want with
    | .bool true,true => some true
    | .bool false,false => some true
    | .bool true,false => some false
    | .bool false,true => some false
    | .und,_ => some false
    | _,_ => none) = _
  rcases hb with hb | hb <;> rw [hb] <;> cases want <;> rfl
theorem gst_put {d : Nat} {want b : Bool} (hg : gdst ops o = some (d,want)) {nx : Nat} {W cr : List (Nat × Nat)} : gst ops o (Dr.lcl ops T W nx0 i cr ((st.put (some d) (.bool (.bL b))).enc m nx) o 0) = some (b == want) := by
  have e : look AV.any (Dr.lregs ops ((st.put (some d) (.bool (.bL b))).enc m nx) o) d = .bool b := by
    rw [lregs_get (gdst_looks hg),put_enc]
    show look .any ((d,SV.enc m st.blk (.bool (.bL b))) :: (st.enc m nx).regs) d = _
    rw [look_self,SV.enc];rfl
  unfold gst
  rw [hg]
  show (match look AV.any (Dr.lregs ops ((st.put (some d) (.bool (.bL b))).enc m nx) o) d,want with
    | .bool true,true => some true
    | .bool false,false => some true
    | .bool true,false => some false
    | .bool false,true => some false
    | .und,_ => some false
    | _,_ => none) = _
  rw [e]
  cases b <;> cases want <;> rfl
theorem lclS_memS : MemLe m (lclS ops T ws b0 i cr st o).blk m st.blk (visS T ws b0 i cr) (fun k _ => visS T ws b0 i cr k) := by
  have e : ∀ k,visS T ws b0 i cr k = true → (lclS ops T ws b0 i cr st o).blk k = st.blk k := fun k hk => by rw [lclS_blk,hk];rfl
  exact ⟨fun id h => .inr ⟨by unfold isBox;rw [e id h],rfl⟩,fun id v h => .inr ⟨by unfold rowLen;rw [e id h],rfl⟩⟩
theorem nmdS (hL : Lay m nx0 b0 st0) (hc : ∀ p ∈ cr,b0 ≤ p.2) (hI : RI F m nx0 b0 st0 st) {x : SV D} (h : x.refs (visS T ws b0 i cr) (fun k _ => visS T ws b0 i cr k) = true) : (x.enc m (lclS ops T ws b0 i cr st o).blk).nmd (vis T nx0 i (mapP m cr)) = true := by
  have key : ∀ id,visS T ws b0 i cr id = true → (lclS ops T ws b0 i cr st o).blk id ≠ .dead → vis T nx0 i (mapP m cr) (m id) = true := by
    intro id hv hb
    rw [lclS_blk,hv] at hb
    rw [vis_m hL hc (hI.good id hb)]
    unfold visS at hv
    rw [Bool.and_eq_true] at hv
    exact hv.1
  refine enc_nmd (fun id hp hb => key id hp fun e => ?_) (fun id v n hp hb => key id hp fun e => ?_) x h
  · unfold isBox at hb;rw [e] at hb;cases hb
  · unfold rowLen at hb;rw [e] at hb;cases hb
theorem liveS (hL : Lay m nx0 b0 st0) (hc : ∀ p ∈ cr,b0 ≤ p.2) (hI : RI F m nx0 b0 st0 st) {id : Nat} (hv : visS T ws b0 i cr id = true) (hb : st.blk id ≠ .dead) : vis T nx0 i (mapP m cr) (m id) = true := by
  rw [vis_m hL hc (hI.good id hb)]
  unfold visS at hv
  rw [Bool.and_eq_true] at hv
  exact hv.1
theorem nmdB (hL : Lay m nx0 b0 st0) (hc : ∀ p ∈ cr,b0 ≤ p.2) (hI : RI F m nx0 b0 st0 st) {b : SB D} (h : b.refs (visS T ws b0 i cr) (fun k _ => visS T ws b0 i cr k) = true) : (b.enc m st.blk).nmd (vis T nx0 i (mapP m cr)) = true := by
  cases b with
  | dead => rfl
  | box cs e =>
    rw [SB.refs] at h
    refine encL_nmd (fun id hp hb => liveS hL hc hI hp fun e => ?_) (fun id v n hp hb => liveS hL hc hI hp fun e => ?_) cs h
    · unfold isBox at hb;rw [e] at hb;cases hb
    · unfold rowLen at hb;rw [e] at hb;cases hb
  | row fr t xs e v =>
    show List.all _ _ = true
    refine List.all_eq_true.2 fun row hr => ?_
    obtain ⟨x,_,rfl⟩ := List.mem_map.1 hr
    have e1 : SV.encL m st.blk (cellsE fr t (.var x : E D t)) = t.cells fr x := cellsE_enc fr t (.var x)
    rw [← e1]
    exact encL_nmd (pB := fun _ => false) (pR := fun _ _ => false) (fun id h => by cases h) (fun id v n h => by cases h) _ (cells_nmd _ _)
theorem lregs_ev {s : ASt} {x : Operand} (hx : x ∈ o.op.operands.toList) {hp : List (Nat × AB)} {k : Nat} : (⟨Dr.lregs ops s o,hp,k⟩ : ASt).ev x = s.ev x := by
  cases x with
  | tmp t =>
    show look .any (Dr.lregs ops s o) t = look .any s.regs t
    refine lregs_get ?_
    unfold Oper.looksAt
    rw [List.mem_append]
    left
    rw [List.mem_filterMap]
    exact ⟨.tmp t,hx,rfl⟩
  | const v => rfl
  | global g => rfl
  | func f => rfl
theorem opWr_box {t : TypeId} {x y : Operand} {z : Option Value} {s b : Nat} {id off : Nat} {cs vs : List AV} {e : TypeId} {g : Option (Nat × Bool)} {ty : TypeId} {ps : String} {af : Array Edge} {st : ASt} (hx : st.ev x = .box id off) (hb : look .dead st.heap id = .box cs e) (hy : (st.ev y).cells = vs) (h1 : allOne vs = true) (hI : tyI P t = some (z,s,b)) (hs : vs.length = s) (hle : off + s ≤ cs.length) :
    Dr.OpWr P n ⟨none,.store t x y,ty,ps,af,g⟩ st id (.box (setR cs off vs) e) .und := ⟨rfl,fun K a w G r => by
  subst hy
  have r : RelG ⟨K.w0,w,G⟩ n st a w G := ⟨r.nx,r.hr,Ext.refl _ _,r.size,r.defers,r.regs⟩
  have e1 := r.ev x
  rw [hx] at e1
  have hcv := (r.ev y).cellsV h1
  obtain ⟨gg,us,e2,hρ,_,_,_⟩ := r.boxAt hb e1
  have hid : id < G.nx := by
    have hk := r.hr.blk id
    rw [hb] at hk
    exact hk.1
  obtain ⟨w',hrun,r2,hk2⟩ := RelG.storeBox (P := P) (e := e) hid hρ (st.ev y).cells (a.eval y).cells.toList 0 off cs w r hb (by have := hcv.size;simp;omega) (by simpa using hcv.size) (fun v hv => by
    obtain ⟨i,hi,hv⟩ := List.getElem_of_mem hv
    exact hcv.one i v (by rw [← hv];simp)) (fun j x' v hx' hv => hcv.rel j x' v hx' (by simpa using hv))
  refine ⟨undef,w',G,.inr ⟨?_,rfl⟩,r2.hr,r2.ext,rfl,fun j hne => ⟨rfl,rfl,fun hj g hg => hk2 g fun e => ?_⟩,.dat .und⟩
  · simp [execOp,Instr.storeAt,e2,Instr.sureAddr,run_storeVar' hI (show (a.eval y).cells.size = s by rw [hcv.size,hs]),hrun]
  · subst e
    exact r.hr.dist j id g hj hid hne hg (by rw [hρ];rfl)⟩
theorem opWr_elt {t : TypeId} {x y : Operand} {z : Option Value} {s b : Nat} {id q i o sz : Nat} {rows : List (List AV)} {e : TypeId} {row vs : List AV} {g : Option (Nat × Bool)} {ty : TypeId} {ps : String} {af : Array Edge} {st : ASt} (hx : st.ev x = .elt id q i o) (hb : look .dead st.heap id = .row sz rows e) (hm : q = rows.length) (hr : ∀ row',rows[i]? = some row' → row' = row) (hy : (st.ev y).cells = vs) (h1 : allOne vs = true) (hI : tyI P t = some (z,s,b)) (hs : vs.length = s) (hle : o + s ≤ sz) :
    Dr.OpWr P n ⟨none,.store t x y,ty,ps,af,g⟩ st id (.row sz (rows.set i (setR row o vs)) e) .und := ⟨rfl,fun K a w G r => by
  subst hy
  have r : RelG ⟨K.w0,w,G⟩ n st a w G := ⟨r.nx,r.hr,Ext.refl _ _,r.size,r.defers,r.regs⟩
  have e1 := r.ev x
  rw [hx] at e1
  have hi : i < rows.length := by
    cases e1 with
    | dat h => cases h
    | elt _ _ _ _ _ _ hin => omega
  have hr := List.getElem?_eq_getElem hi ▸ (show rows[i]? = some row by rw [← hr _ (List.getElem?_eq_getElem hi)];exact List.getElem?_eq_getElem hi)
  have hr : rows[i]? = some row := by rw [List.getElem?_eq_getElem hi];exact hr
  have hcv := (r.ev y).cellsV h1
  obtain ⟨gg,c,flat,q1,q2,q3,q4,q5,q6,q7,q8⟩ := r.rowAt hb hm (by omega)
  generalize he : a.eval x = u at e1
  cases e1 with
  | dat h => cases h
  | elt _ _ _ _ _ hid hin hs' hn hv' h =>
    obtain ⟨gg',c',e2,rfl⟩ := h (by rw [q5,hm])
    rw [q1] at e2
    injection e2 with e2 _ _
    injection e2 with e2
    injection e2 with e2 _ _
    subst e2
    rw [q3] at he
    obtain ⟨w',hrun,r2,hk2⟩ := RelG.storeElt (P := P) (K := ⟨K.w0,w,G⟩) (n := n) (a := a) (G := G) (id := id) (sz := sz) (i := i) (gg := gg) (c := c) (e := e) (fun L hL => by rw [q5] at hL;subst hL;exact q1) (st.ev y).cells (a.eval y).cells.toList 0 o rows row w st r hb hr (by have := hcv.size;simp;omega) (by simpa using hcv.size) (fun v hv => by
      obtain ⟨i,hi,hv⟩ := List.getElem_of_mem hv
      exact hcv.one i v (by rw [← hv];simp)) (fun j x' v hx' hv => hcv.rel j x' v hx' (by simpa using hv))
    refine ⟨undef,w',G,.inr ⟨?_,rfl⟩,r2.hr,r2.ext,rfl,fun j hne => ⟨rfl,rfl,fun hj g hg => hk2 g fun e => ?_⟩,.dat .und⟩
    · simp [execOp,Instr.storeAt,he,Instr.sureAddr,run_storeVar' hI (show (a.eval y).cells.size = s by rw [hcv.size,hs]),hrun]
    · subst e
      exact r.hr.dist j id g hj hid hne hg (by rw [q1];rfl)⟩
theorem all_set {α : Type} {p : α → Bool} {l : List α} {i : Nat} {x : α} (h : l.all p = true) (hx : p x = true) : (l.set i x).all p = true := by
  refine List.all_eq_true.2 fun y hy => ?_
  rcases List.mem_or_eq_of_mem_set hy with h' | h'
  · exact List.all_eq_true.1 h y h'
  · rw [h'];exact hx
theorem onlyW_m {id : Nat} (h : Dr.onlyW ws i id = true) : Dr.onlyW (mapP m ws) i (m id) = true := by
  unfold Dr.onlyW mapP at *
  rw [List.all_map]
  refine List.all_eq_true.2 fun p hp => ?_
  have := List.all_eq_true.1 h p hp
  show (bif Nat.beq p.1 i then Nat.beq (m p.2) (m id) else true) = true
  cases hb : Nat.beq p.1 i with
  | false => rfl
  | true =>
    rw [hb] at this
    have := Nat.eq_of_beq_eq_true this
    rw [this]
    exact Nat.beq_refl _
theorem storeB_ok {Tb : Tab} {t : TypeId} {a v : SV D} {id : Nat} {b : SB D} (h : storeB Tb st t a v = some (id,b)) : ∃ Z s bb off cs e,lk Tb.inf t = some (Z,s,bb) ∧ allOneS st v.cells = true ∧ v.cells.length = s ∧ a = .box id off ∧ st.blk id = .box cs e ∧ off + s ≤ cs.length ∧ b = .box (setRS cs off v.cells) e := by
  unfold storeB at h
  split at h
  · rename_i Z s bb hI
    cases hc : (allOneS st v.cells && Nat.beq v.cells.length s) with
    | false => rw [hc] at h;cases h
    | true =>
      rw [hc] at h
      simp only [cond_true] at h
      rw [Bool.and_eq_true] at hc
      split at h
      · rename_i id' off
        split at h
        · rename_i cs e hb
          cases hl : Nat.ble (off + s) cs.length with
          | false => rw [hl] at h;cases h
          | true =>
            rw [hl] at h
            simp only [cond_true,Option.some.injEq,Prod.mk.injEq] at h
            obtain ⟨rfl,rfl⟩ := h
            exact ⟨Z,s,bb,off,cs,e,hI,hc.1,Nat.eq_of_beq_eq_true hc.2,rfl,hb,Nat.le_of_ble_eq_true hl,rfl⟩
        · cases h
      · cases h
  · cases h
abbrev AGm (P : Program) (n : Nat) (ops : Array Oper) (T : List (List Nat)) (ws : List (Nat × Nat)) (nx0 b0 : Nat) (m : Nat → Nat) (Kt : ASt → Prop) (i : Nat) (cr : List (Nat × Nat)) (l : List Oper) (st : SSt D) : Prop :=
  Dr.AG P n ops T (mapP m ws) nx0 Kt i (mapP m cr) l (st.enc m (nxOf nx0 b0 st))
theorem AGm.put {d : Option Nat} {x : SV D} {y : AV} (hx : Les (x.enc m st.blk) y) (k : AGm P n ops T ws nx0 b0 m Kt i cr l (st.put d x)) : Dr.AG P n ops T (mapP m ws) nx0 Kt i (mapP m cr) l ((st.enc m (nxOf nx0 b0 st)).put d y) := by
  have e : nxOf nx0 b0 (st.put d x) = nxOf nx0 b0 st := by cases d <;> rfl
  refine .le ?_ k
  rw [e,put_enc]
  exact (LeS.refl _).put hx
theorem skipR_ok (hd : dok o.dst n = true) (hW : Dr.noW ws i = true) (hg : gst ops o (Dr.lcl ops T (mapP m ws) nx0 i (mapP m cr) (st.enc m (nxOf nx0 b0 st)) o 0) = some false) (k : AGm P n ops T ws nx0 b0 m Kt (i + 1) cr l (st.put o.dst .und)) : AGm P n ops T ws nx0 b0 m Kt i cr (o :: l) st := by
  refine .step (.skip (by rw [noW_m];exact hW) hg hd) (AGm.put ?_ k)
  rw [SV.enc];exact .refl _
theorem exC_refs {pB : Nat → Bool} {pR : Nat → Nat → Bool} (fr : Bool) : ∀ (t : Ty) (cs : List (SV D)) (e : E D t) (rest : List (SV D)),exC fr t cs = some (e,rest) → SV.refsL pB pR cs = SV.refsL pB pR rest
  | .int k,cs,e,rest,h => by
    cases cs with
    | nil => rw [exC] at h;cases h;all_goals simp
    | cons c l =>
      cases c <;> simp only [exC,reduceCtorEq] at h
      split at h
      · simp only [Option.some.injEq,Prod.mk.injEq] at h
        rw [← h.2,SV.refsL,SV.refs,Bool.true_and] <;> simp
      · cases h
  | .bool,cs,e,rest,h => by
    cases cs with
    | nil => rw [exC] at h;cases h;all_goals simp
    | cons c l =>
      cases c <;> simp only [exC,reduceCtorEq,Option.some.injEq,Prod.mk.injEq] at h
      rw [← h.2,SV.refsL,SV.refs,Bool.true_and] <;> simp
  | .str,cs,e,rest,h => by
    cases cs with
    | nil => rw [exC] at h;cases h;all_goals simp
    | cons c l =>
      cases c <;> simp only [exC,reduceCtorEq,Option.some.injEq,Prod.mk.injEq] at h
      rw [← h.2,SV.refsL,SV.refs,Bool.true_and] <;> simp
  | .list t,cs,e,rest,h => by
    cases cs with
    | nil => rw [exC] at h;cases h;all_goals simp
    | cons c l =>
      cases c <;> simp only [exC,reduceCtorEq,Option.some.injEq,Prod.mk.injEq] at h
      · rw [← h.2,SV.refsL,SV.refs,Bool.true_and] <;> simp
      · rename_i fr' t' e'
        cases hc : (!fr || fr') with
        | false => rw [hc] at h;cases h
        | true =>
          rw [hc] at h
          simp only [cond_true] at h
          split at h
          · simp only [Option.some.injEq,Prod.mk.injEq] at h
            rw [← h.2,SV.refsL,SV.refs,Bool.true_and] <;> simp
          · cases h
  | .unit,cs,e,rest,h => by
    rw [exC] at h
    simp only [Option.some.injEq,Prod.mk.injEq] at h
    rw [h.2]
  | .pair a b,cs,e,rest,h => by
    rw [exC] at h
    split at h
    · rename_i x l' h1
      split at h
      · rename_i y l'' h2
        simp only [Option.some.injEq,Prod.mk.injEq] at h
        rw [← h.2]
        exact (exC_refs fr a cs x l' h1).trans (exC_refs fr b l' y l'' h2)
      · cases h
    · cases h
  | .agg t,cs,e,rest,h => by
    rw [exC] at h
    split at h
    · rename_i x l' h1
      simp only [Option.some.injEq,Prod.mk.injEq] at h
      rw [← h.2]
      exact exC_refs fr t cs x l' h1
    · cases h
  | .ptr t,cs,e,rest,h => by
    rw [exC] at h
    cases h
    all_goals simp
theorem exA_refs {pB : Nat → Bool} {pR : Nat → Nat → Bool} {fr : Bool} {t : Ty} {cs : List (SV D)} {e : E D t} (h : exA fr t cs = some e) : SV.refsL pB pR cs = true := by
  unfold exA at h
  split at h
  · rename_i x h1
    rw [exC_refs fr t cs x [] h1,SV.refsL]
  · cases h
theorem storeE_ok {Tb : Tab} {t : TypeId} {a v : SV D} {id : Nat} {b : SB D} (h : storeE Tb st t a v = some (id,b)) : ∃ (Z : Option Value) (s bb ver ver' off : Nat) (kk : IntKind) (ix : E D (.int kk)) (fr fr' : Bool) (rt : Ty) (xs : E D (.list rt)) (e : TypeId) (x : E D rt),lk Tb.inf t = some (Z,s,bb) ∧ allOneS st v.cells = true ∧ v.cells.length = s ∧ a = .elt id ver ix off ∧ st.blk id = .row fr rt xs e ver' ∧ Nat.beq ver ver' = true ∧ off + s ≤ rt.size ∧ (!fr' || fr) = true ∧ exA fr' rt (setRS (cellsE fr rt (.at xs ix)) off v.cells) = some x ∧ b = .row fr' rt (.set xs ix x) e ver' := by
  unfold storeE at h
  split at h
  · rename_i Z s bb hI
    cases hc : (allOneS st v.cells && Nat.beq v.cells.length s) with
    | false => rw [hc] at h;cases h
    | true =>
      rw [hc] at h
      simp only [cond_true] at h
      rw [Bool.and_eq_true] at hc
      split at h
      · rename_i id' ver kk ix off
        split at h
        · rename_i fr rt xs e ver' hb
          cases hl : (Nat.beq ver ver' && Nat.ble (off + s) rt.size) with
          | false => rw [hl] at h;cases h
          | true =>
            rw [hl] at h
            simp only [cond_true] at h
            rw [Bool.and_eq_true] at hl
            split at h
            · rename_i x hx
              simp only [Option.some.injEq,Prod.mk.injEq] at h
              obtain ⟨rfl,rfl⟩ := h
              exact ⟨Z,s,bb,ver,ver',off,kk,ix,fr,fr,rt,xs,e,x,hI,hc.1,Nat.eq_of_beq_eq_true hc.2,rfl,hb,hl.1,Nat.le_of_ble_eq_true hl.2,by cases fr <;> rfl,hx,rfl⟩
            · split at h
              · rename_i x hx
                simp only [Option.some.injEq,Prod.mk.injEq] at h
                obtain ⟨rfl,rfl⟩ := h
                exact ⟨Z,s,bb,ver,ver',off,kk,ix,fr,false,rt,xs,e,x,hI,hc.1,Nat.eq_of_beq_eq_true hc.2,rfl,hb,hl.1,Nat.le_of_ble_eq_true hl.2,rfl,hx,rfl⟩
              · cases h
        · cases h
      · cases h
  · cases h
theorem nmd_isD' {q : Nat → Bool} {a : AV} (h : isD a = true) : a.nmd q = true := by
  cases a <;> first | (cases h;done) | rfl
theorem nmd_go_isD' {q : Nat → Bool} : ∀ {l : List AV},(∀ a ∈ l,isD a = true) → AV.nmd.go q l = true
  | [],_ => rfl
  | a :: l,h => by
    show (a.nmd q && AV.nmd.go q l) = true
    rw [nmd_isD' (h a (by simp)),nmd_go_isD' fun b hb => h b (by simp [hb])];rfl
def SB.isRow {V : Ty → Type} (b : SB V) : Bool := match b with
  | .row .. => true
  | _ => false
theorem SrcA.mono {hp hp' : List (Nat × AB)} {sz : Nat} {x : AV} {new : List (List AV)} (h : SrcA hp sz x new) (hh : ∀ id n,x = .osl id n ∨ (∃ lo len,x = .vsl id n lo len) → look .dead hp' id = look .dead hp id) : SrcA hp' sz x new := by
  cases h with
  | ro fr _ h => exact .ro fr _ h
  | osl id n _ e h hn => exact .osl id n _ e ((hh id n (.inl rfl)).trans h) hn
  | vsl id n lo len rows0 _ e h hn hr => exact .vsl id n lo len rows0 _ e ((hh id n (.inr ⟨lo,len,rfl⟩)).trans h) hn hr
  | nils => exact .nils
theorem enc_ids {m : Nat → Nat} {H : Nat → SB D} {x : SV D} {j q : Nat} (h : x.enc m H = .osl j q ∨ ∃ lo len,x.enc m H = .vsl j q lo len) : ∃ j' ∈ idsA x,j = m j' := by
  cases x with
  | box id off => cases hb : isBox H id <;> simp [SV.enc,hb] at h
  | elt id ver i off => cases hr : rowLen H id ver <;> simp [SV.enc,hr] at h
  | osl id ver =>
    cases hr : rowLen H id ver with
    | none => simp [SV.enc,hr] at h
    | some n =>
      simp [SV.enc,hr] at h
      exact ⟨id,List.mem_singleton.2 rfl,h.1.symm⟩
  | vsl id ver lo hi =>
    cases hr : rowLen H id ver with
    | none => simp [SV.enc,hr] at h
    | some n =>
      simp [SV.enc,hr] at h
      exact ⟨id,List.mem_singleton.2 rfl,h.1.symm⟩
  | _ => simp [SV.enc] at h
theorem opWr_app {e : TypeId} {z : Value} {sz b id q : Nat} {rows new : List (List AV)} {t : TypeId} {x y : Operand} {d : Option Nat} {g : Option (Nat × Bool)} {ty : TypeId} {ps : String} {af : Array Edge} {s : ASt} (hx : s.ev x = .osl id q) (hb : look .dead s.heap id = .row sz rows e) (hm : q = rows.length) (hs : SrcA s.heap sz (s.ev y) new)
    (hT : P.underlying t = some (.slice e)) (hI : tyI P e = some (some z,sz,b)) (hz : z.cells.size = sz) (h63 : (rows.length + new.length) * bmul b ≤ 140737488355328) (hd : dok d n = true) :
    Dr.OpWr P n ⟨d,.call ⟨.builtin .append,⟨[x,y]⟩,⟨[t,t]⟩⟩,ty,ps,af,g⟩ s id (.row sz (rows ++ new) e) (.osl id (rows.length + new.length)) := ⟨hd,fun K a w G r => by
  obtain ⟨v,w',G',h1,h2,h3,h4,h5,h6⟩ := op_append_g (d := d) (ty := ty) (ps := ps) (af := af) (g := g) hx hb rfl hm rfl hs hT hI hz h63 r
  exact ⟨v,w',G',.inl h1,h2,h3,h4,h5,h6⟩⟩
theorem appR_ok (hC : C.ok P) (hL : Lay m nx0 b0 st0) (hws : ∀ p ∈ ws,Good b0 st0 p.2) (hc : ∀ p ∈ cr,b0 ≤ p.2) (hI : RI F m nx0 b0 st0 st) {d : Option Nat} {t : TypeId} {y z : Operand} {ty : TypeId} {ps : String} {af : Array Edge} {gg : Option (Nat × Bool)} (hd : dok d n = true)
    (hg : (⟨d,.call ⟨.builtin .append,⟨[y,z]⟩,⟨[t,t]⟩⟩,ty,ps,af,gg⟩ : Oper).guard = none ∨ gst ops (⟨d,.call ⟨.builtin .append,⟨[y,z]⟩,⟨[t,t]⟩⟩,ty,ps,af,gg⟩ : Oper) (Dr.lcl ops T (mapP m ws) nx0 i (mapP m cr) (st.enc m (nxOf nx0 b0 st)) (⟨d,.call ⟨.builtin .append,⟨[y,z]⟩,⟨[t,t]⟩⟩,ty,ps,af,gg⟩ : Oper) 0) = some true)
    {K : List (Nat × Nat) → SSt D → G D (KD ρ) ρ} (h : (appR C T ws b0 i cr st d t (st.ev y) (st.ev z) K).den fu = some r)
    (k : ∀ cr' st',RI F m nx0 b0 st0 st' → (∀ p ∈ cr',b0 ≤ p.2) → (K cr' st').den fu = some r → AGm P n ops T ws nx0 b0 m Kt (i + 1) cr' l st') : AGm P n ops T ws nx0 b0 m Kt i cr (⟨d,.call ⟨.builtin .append,⟨[y,z]⟩,⟨[t,t]⟩⟩,ty,ps,af,gg⟩ :: l) st := by
  unfold appR at h
  have ez := enc_ev st m (nxOf nx0 b0 st) z
  split at h
  · rename_i id b x gd happ
    cases hb : (visS T ws b0 i cr id && (ws.any fun p => Nat.beq p.1 i && Nat.beq p.2 id) && Dr.onlyW ws i id && (idsA (st.ev z)).all (fun j => visS T ws b0 i cr j)) with
    | false => rw [hb] at h;cases h
    | true =>
      rw [hb] at h
      simp only [cond_true] at h
      obtain ⟨hgd,h2⟩ := grdG_den h
      clear h
      simp only [Bool.and_eq_true] at hb
      obtain ⟨⟨⟨b1,b2⟩,b3⟩,b4⟩ := hb
      have ey := enc_ev st m (nxOf nx0 b0 st) y
      generalize st.ev y = v0 at happ ey
      unfold appS at happ
      split at happ
      · rename_i e hu
        split at happ
        · rename_i Z sz bb hI'
          cases hc0 : (Nat.beq Z.cells.size sz && Nat.blt 0 sz) with
          | false => rw [hc0] at happ;cases happ
          | true =>
            rw [hc0] at happ
            simp only [cond_true] at happ
            rw [Bool.and_eq_true] at hc0
            have hz := Nat.eq_of_beq_eq_true hc0.1
            split at happ
            · rename_i id' ver
              split at happ
              · rename_i fr rt xs e' v hblk
                cases hc2 : (Nat.beq ver v && (Nat.beq e' e && (Nat.beq sz rt.size && rt.flat))) with
                | false => rw [hc2] at happ;cases happ
                | true =>
                  rw [hc2] at happ
                  simp only [cond_true] at happ
                  simp only [Bool.and_eq_true] at hc2
                  obtain ⟨hv,he,hsz,hfl⟩ := hc2
                  have he := Nat.eq_of_beq_eq_true he
                  have hsz := Nat.eq_of_beq_eq_true hsz
                  subst he
                  subst hsz
                  split at happ
                  · rename_i fr' ys hy
                    cases hr : st.refs (fun _ => true) (fun i w => !(Nat.beq i id' && Nat.beq w (v + 1))) with
                    | false => rw [hr] at happ;cases happ
                    | true =>
                      rw [hr] at happ
                      simp only [cond_true,Option.some.injEq,Prod.mk.injEq,MR.upd.injEq] at happ
                      obtain ⟨⟨rfl,rfl,rfl⟩,rfl⟩ := happ
                      have hlive : st.blk id' ≠ .dead := by rw [hblk];simp
                      have hbb := enc_blk hI.mok hlive
                      have hbb' := hbb
                      rw [hblk,SB.enc] at hbb'
                      rw [SV.enc,rowLen_eq hblk hv] at ey
                      have hsrc := srcC_ok (y := z) (nx := nxOf nx0 b0 st) hfl hI.mok hy
                      have hgg := leE_den hgd
                      have hgg : ((List.length xs.den : Int) + (List.length ys.den : Int)) * ((bmul bb : Nat) : Int) ≤ 140737488355328 := hgg
                      have h63 : (List.length xs.den + List.length ys.den) * bmul bb ≤ 140737488355328 := nat_of2 hgg
                      have hnew : rowLen (st.hset id' (.row (fr && fr') rt (.app xs ys) e' (v + 1))).blk id' (v + 1) = some (List.length xs.den + List.length ys.den) := by
                        unfold rowLen
                        rw [hset_blk,if_pos rfl]
                        simp only [Nat.beq_refl,cond_true]
                        show some (List.length (List.append _ _)) = _
                        rw [List.append_eq,List.length_append]
                      have hle : MemLe m st.blk m (st.hset id' (.row (fr && fr') rt (.app xs ys) e' (v + 1))).blk (fun _ => true) (fun i w => !(Nat.beq i id' && Nat.beq w (v + 1))) := by
                        refine ⟨fun k _ => .inr ⟨?_,rfl⟩,fun k w hw => ?_⟩
                        · unfold isBox
                          rw [hset_blk]
                          by_cases e1 : id' = k
                          · subst e1;rw [if_pos rfl,hblk]
                          · rw [if_neg e1]
                        · by_cases e1 : id' = k
                          · subst e1
                            have hw : (!(Nat.beq id' id' && Nat.beq w (v + 1))) = true := hw
                            rw [Nat.beq_refl,Bool.true_and] at hw
                            refine .inl ?_
                            unfold rowLen
                            rw [hset_blk,if_pos rfl]
                            cases hq : Nat.beq w (v + 1) with
                            | true => rw [hq] at hw;cases hw
                            | false => simp only [hq];rfl
                          · refine .inr ⟨?_,rfl⟩
                            unfold rowLen
                            rw [hset_blk,if_neg e1]
                      have hset := hset_les (b := .row (fr && fr') rt (.app xs ys) e' (v + 1)) (b' := .row rt.size ((xs.den : List rt.den).map (rt.cells fr) ++ (ys.den : List rt.den).map (rt.cells fr')) e') hI.mok (.refl _) hlive (by simp) hle hr (by
                        rw [SB.enc]
                        refine .rows ?_
                        show LesRs (((xs.den : List rt.den) ++ (ys.den : List rt.den)).map (rt.cells (fr && fr'))) _
                        rw [List.map_append]
                        exact (rows_le (by cases fr <;> cases fr' <;> rfl) rt _).append (rows_le (by cases fr <;> cases fr' <;> rfl) rt _)) hI.fr
                      have hRI : RI F m nx0 b0 st0 (st.hset id' (.row (fr && fr') rt (.app xs ys) e' (v + 1))) := ⟨hset.1,hI.ge,hset.2.2,hI.fix.trans ⟨rfl,rfl,rfl⟩,fun k hk => hI.good k (by
                        rw [hset_blk] at hk
                        by_cases e1 : id' = k
                        · subst e1;exact hlive
                        · rw [if_neg e1] at hk;exact hk)⟩
                      have hvis : ∀ j,visS T ws b0 i cr j = true → st.blk j ≠ .dead → Dr.visW T (mapP m ws) nx0 i (mapP m cr) (m j) = true := by
                        intro j hj hjl
                        unfold Dr.visW
                        rw [liveS hL hc hI hj hjl,okW_m hL hws (hI.good j hjl)]
                        unfold visS at hj
                        rw [Bool.and_eq_true] at hj
                        rw [hj.2];rfl
                      have hrowD : ∀ (g : Bool) (us : List rt.den) (q : Nat → Bool),(us.map (rt.cells g)).all (AV.nmd.go q) = true := by
                        intro g us q
                        refine List.all_eq_true.2 fun row hrow => ?_
                        obtain ⟨u,_,rfl⟩ := List.mem_map.1 hrow
                        exact nmd_go_isD' fun a ha => rt.cells_isD g u a ha
                      have hnmd : ∀ j,(st.blk j).isRow = true → ((st.blk j).enc m st.blk).nmd (vis T nx0 i (mapP m cr)) = true := by
                        intro j hj
                        cases hbj : st.blk j with
                        | dead => rw [hbj] at hj;cases hj
                        | box cs e => rw [hbj] at hj;cases hj
                        | row fr2 t2 xs2 e2 v2 =>
                          rw [SB.enc]
                          refine List.all_eq_true.2 fun row hrow => ?_
                          obtain ⟨u,_,rfl⟩ := List.mem_map.1 hrow
                          exact nmd_go_isD' fun a ha => t2.cells_isD fr2 u a ha
                      have hzrow : ∀ j ∈ idsA (st.ev z),(st.blk j).isRow = true := by
                        intro j hj
                        have hy' := hy
                        unfold srcC at hy'
                        cases hzv : st.ev z <;> rw [hzv] at hj hy' <;> simp only [idsA,List.not_mem_nil,List.mem_singleton] at hj
                        · subst hj
                          simp only [srcS] at hy'
                          split at hy'
                          · rename_i hbj
                            rw [hbj];rfl
                          · cases hy'
                        · subst hj
                          split at hy'
                          · rename_i a1 a2 a3 a4 hh
                            injection hh with q1 q2 q3 q4
                            subst q1
                            split at hy'
                            · rename_i hbj
                              rw [hbj];rfl
                            · cases hy'
                          · rename_i hno
                            exact absurd rfl (hno _ _ _ _)
                      have hzlive : ∀ j ∈ idsA (st.ev z),st.blk j ≠ .dead := by
                        intro j hj e1
                        have := hzrow j hj
                        rw [e1] at this;cases this
                      refine .step (.write (id := m id') (b := .row rt.size ((xs.den : List rt.den).map (rt.cells fr) ++ (ys.den : List rt.den).map (rt.cells fr')) e') (x := .osl (m id') (List.length xs.den + List.length ys.den)) (m id' :: (idsA (st.ev z)).map m) (fun j hj => ?_) hg ?_ ?_ (onlyW_m b3) (fun hp kk hhp => ?_) ?_ ?_) (.le ?_ (k cr _ (hRI.put _ _) hc h2))
                      · rcases List.mem_cons.1 hj with rfl | hj
                        · exact ⟨hvis _ b1 hlive,by rw [hbb];exact hnmd id' (by rw [hblk];rfl)⟩
                        · obtain ⟨j',hj',rfl⟩ := List.mem_map.1 hj
                          have hl' := hzlive j' hj'
                          exact ⟨hvis _ (List.all_eq_true.1 b4 j' hj') hl',by rw [enc_blk hI.mok hl'];exact hnmd j' (hzrow j' hj')⟩
                      · exact hvis _ b1 hlive
                      · obtain ⟨p,hp,hpe⟩ := List.any_eq_true.1 b2
                        rw [Bool.and_eq_true] at hpe
                        have e1 := Nat.eq_of_beq_eq_true hpe.1
                        have e2 := Nat.eq_of_beq_eq_true hpe.2
                        exact List.mem_map.2 ⟨p,hp,by rw [e1,e2]⟩
                      · have hzz := lregs_ev (o := ⟨d,.call ⟨.builtin .append,⟨[y,z]⟩,⟨[t,t]⟩⟩,ty,ps,af,gg⟩) (ops := ops) (s := st.enc m (nxOf nx0 b0 st)) (x := z) (hp := hp) (k := kk) (by simp [Op.operands,Call.operands])
                        have hyy := lregs_ev (o := ⟨d,.call ⟨.builtin .append,⟨[y,z]⟩,⟨[t,t]⟩⟩,ty,ps,af,gg⟩) (ops := ops) (s := st.enc m (nxOf nx0 b0 st)) (x := y) (hp := hp) (k := kk) (by simp [Op.operands,Call.operands])
                        have hsrc' : SrcA hp rt.size ((⟨Dr.lregs ops (st.enc m (nxOf nx0 b0 st)) ⟨d,.call ⟨.builtin .append,⟨[y,z]⟩,⟨[t,t]⟩⟩,ty,ps,af,gg⟩,hp,kk⟩ : ASt).ev z) ((ys.den : List rt.den).map (rt.cells fr')) := by
                          rw [hzz]
                          refine hsrc.mono fun j q hj => ?_
                          rw [ez] at hj
                          have key := enc_ids hj
                          obtain ⟨j',h1,rfl⟩ := key
                          exact hhp _ (List.mem_cons_of_mem _ (List.mem_map_of_mem h1))
                        have := opWr_app (P := P) (n := n) (d := d) (ty := ty) (ps := ps) (af := af) (g := gg) (hyy.trans ey) ((hhp (m id') (List.mem_cons_self ..)).trans hbb') (rows_len _).symm hsrc' (allP_at hC.T.und hu) (allP_at hC.T.inf hI') hz (by rw [rows_len,rows_len];exact h63) hd
                        rw [rows_len,rows_len] at this
                        exact this
                      · show (((xs.den : List rt.den).map (rt.cells fr)) ++ ((ys.den : List rt.den).map (rt.cells fr'))).all _ = true
                        rw [List.all_append,hrowD,hrowD];rfl
                      · exact liveS hL hc hI b1 hlive
                      · have hnx : nxOf nx0 b0 ((st.hset id' (.row (fr && fr') rt (.app xs ys) e' (v + 1))).put d (.osl id' (v + 1))) = nxOf nx0 b0 st := by cases d <;> rfl
                        show LeS (((st.hset id' _).put d (.osl id' (v + 1))).enc m _) _
                        rw [hnx,put_enc]
                        refine hset.2.1.put ?_
                        rw [SV.enc,hnew]
                        exact .refl _
                  · cases happ
              · cases happ
            · split at happ
              · rename_i rt hty
                cases hc3 : (Nat.beq sz rt.size && rt.flat) with
                | false => rw [hc3] at happ;cases happ
                | true =>
                  rw [hc3] at happ
                  simp only [cond_true] at happ
                  split at happ <;> cases happ
              · cases happ
            · cases happ
        · cases happ
      · cases happ
  · cases h
theorem writeR_ok (hC : C.ok P) (hL : Lay m nx0 b0 st0) (hws : ∀ p ∈ ws,Good b0 st0 p.2) (hc : ∀ p ∈ cr,b0 ≤ p.2) (hI : RI F m nx0 b0 st0 st) (hd : dok o.dst n = true)
    (hg : o.guard = none ∨ gst ops o (Dr.lcl ops T (mapP m ws) nx0 i (mapP m cr) (st.enc m (nxOf nx0 b0 st)) o 0) = some true)
    {K : List (Nat × Nat) → SSt D → G D (KD ρ) ρ} (h : (writeR C T ws b0 i cr st o K).den fu = some r)
    (k : ∀ cr' st',RI F m nx0 b0 st0 st' → (∀ p ∈ cr',b0 ≤ p.2) → (K cr' st').den fu = some r → AGm P n ops T ws nx0 b0 m Kt (i + 1) cr' l st') : AGm P n ops T ws nx0 b0 m Kt i cr (o :: l) st := by
  obtain ⟨d,op,ty,ps,af,gg⟩ := o
  unfold writeR at h
  simp only at h
  split at h
  · rename_i t y z
    split at h
    · rename_i id b hs
      cases hb : (visS T ws b0 i cr id && (ws.any fun p => Nat.beq p.1 i && Nat.beq p.2 id) && Dr.onlyW ws i id && b.refs (visS T ws b0 i cr) (fun k _ => visS T ws b0 i cr k) && (st.blk id).refs (visS T ws b0 i cr) (fun k _ => visS T ws b0 i cr k)) with
      | false => rw [hb] at h;cases h
      | true =>
        rw [hb] at h
        simp only [cond_true] at h
        simp only [Bool.and_eq_true] at hb
        obtain ⟨⟨⟨⟨b1,b2⟩,b3⟩,b4⟩,b5⟩ := hb
        obtain ⟨Z,s,bb,off,cs,e,hI',h1,hls,ha,hblk,hle,rfl⟩ := storeB_ok hs
        have hlive : st.blk id ≠ .dead := by rw [hblk];simp
        have hi : isBox st.blk id = true := by unfold isBox;rw [hblk]
        have ey : (st.enc m (nxOf nx0 b0 st)).ev y = .box (m id) off := by rw [enc_ev,ha,SV.enc,hi];rfl
        have ez : ((st.enc m (nxOf nx0 b0 st)).ev z).cells = SV.encL m st.blk (st.ev z).cells := by rw [enc_ev,enc_cells]
        have hbb := enc_blk hI.mok hlive
        have hbb' := hbb
        rw [hblk,SB.enc] at hbb'
        have hset := hset_les (b := .box (setRS cs off (st.ev z).cells) e) (b' := .box (setR (SV.encL m st.blk cs) off (SV.encL m st.blk (st.ev z).cells)) e) (pB := fun _ => true) (pR := fun _ _ => true) hI.mok (.refl _) hlive (by simp) (memLe_box hblk) (refs_all st) (by
          rw [SB.enc,setRS_enc]
          have hH : ∀ l : List (SV D),LesL (SV.encL m (st.hset id (.box (setRS cs off (st.ev z).cells) e)).blk l) (SV.encL m st.blk l) := fun l => encL_les (memLe_box (pB := fun _ => true) (pR := fun _ _ => true) hblk) l (svL_refs_all l)
          exact .box e (setR_les (hH cs) (hH _) off)) hI.fr
        have hRI : RI F m nx0 b0 st0 (st.hset id (.box (setRS cs off (st.ev z).cells) e)) := ⟨hset.1,hI.ge,hset.2.2,hI.fix.trans ⟨rfl,rfl,rfl⟩,fun k hk => hI.good k (by
          rw [hset_blk] at hk
          by_cases e' : id = k
          · subst e';exact hlive
          · rw [if_neg e'] at hk;exact hk)⟩
        refine .step (.write (id := m id) (b := .box (setR (SV.encL m st.blk cs) off (SV.encL m st.blk (st.ev z).cells)) e) (x := .und) [m id] (fun j hj => ?_) hg ?_ ?_ (onlyW_m b3) (fun hp kk hhp => ?_) ?_ rfl) (.le ?_ (k cr _ hRI hc h))
        · rw [List.mem_singleton] at hj
          subst hj
          refine ⟨?_,?_⟩
          · unfold Dr.visW
            rw [liveS hL hc hI b1 hlive,okW_m hL hws (hI.good id hlive)]
            unfold visS at b1
            rw [Bool.and_eq_true] at b1
            rw [b1.2];rfl
          · rw [hbb];exact nmdB hL hc hI b5
        · unfold Dr.visW
          rw [liveS hL hc hI b1 hlive,okW_m hL hws (hI.good id hlive)]
          unfold visS at b1
          rw [Bool.and_eq_true] at b1
          rw [b1.2];rfl
        · obtain ⟨p,hp,hpe⟩ := List.any_eq_true.1 b2
          rw [Bool.and_eq_true] at hpe
          have e1 := Nat.eq_of_beq_eq_true hpe.1
          have e2 := Nat.eq_of_beq_eq_true hpe.2
          exact List.mem_map.2 ⟨p,hp,by rw [e1,e2]⟩
        · have hz := lregs_ev (o := ⟨none,.store t y z,ty,ps,af,gg⟩) (ops := ops) (s := st.enc m (nxOf nx0 b0 st)) (x := z) (hp := hp) (k := kk) (by simp [Op.operands])
          have hy := lregs_ev (o := ⟨none,.store t y z,ty,ps,af,gg⟩) (ops := ops) (s := st.enc m (nxOf nx0 b0 st)) (x := y) (hp := hp) (k := kk) (by simp [Op.operands])
          refine opWr_box (hy.trans ey) ((hhp (m id) (by simp)).trans hbb') (by rw [hz,ez]) (allOneS_enc h1) (allP_at hC.T.inf hI') (by rw [encL_length];exact hls) (by rw [encL_length];exact hle)
        · have := nmdB (b := .box (setRS cs off (st.ev z).cells) e) hL hc hI b4
          rw [SB.enc,setRS_enc] at this
          exact this
        · exact hset.2.1
    · split at h
      · rename_i id b hs
        cases hb : (visS T ws b0 i cr id && (ws.any fun p => Nat.beq p.1 i && Nat.beq p.2 id) && Dr.onlyW ws i id && (st.blk id).refs (visS T ws b0 i cr) (fun k _ => visS T ws b0 i cr k)) with
        | false => rw [hb] at h;cases h
        | true =>
          rw [hb] at h
          simp only [cond_true] at h
          simp only [Bool.and_eq_true] at hb
          obtain ⟨⟨⟨b1,b2⟩,b3⟩,b5⟩ := hb
          obtain ⟨Z,s,bb,ver,ver',off,kk,ix,fr,fr',rt,xs,e,x,hI',h1,hls,ha,hblk,hver,hle,hfr,hx,rfl⟩ := storeE_ok hs
          have hlive : st.blk id ≠ .dead := by rw [hblk];simp
          have ey : (st.enc m (nxOf nx0 b0 st)).ev y = .elt (m id) (List.length xs.den) (Int.toNat ix.den) off := by rw [enc_ev,ha,SV.enc,rowLen_eq hblk hver]
          have ez : ((st.enc m (nxOf nx0 b0 st)).ev z).cells = SV.encL m st.blk (st.ev z).cells := by rw [enc_ev,enc_cells]
          have hbb := enc_blk hI.mok hlive
          have hbb' := hbb
          rw [hblk,SB.enc] at hbb'
          have hcell := exA_ok (m := m) (H := st.blk) hx
          have hcn := encL_nmd (m := m) (H := st.blk) (pB := fun _ => false) (pR := fun _ _ => false) (q := vis T nx0 i (mapP m cr)) (fun id h => by cases h) (fun id v n h => by cases h) _ (exA_refs hx)
          rw [setRS_enc,cellsE_enc] at hcell
          rw [setRS_enc,cellsE_enc] at hcn
          have hset := hset_les (b := .row fr' rt (.set xs ix x) e ver') (b' := .row rt.size (((xs.den : List rt.den).map (rt.cells fr)).set (Int.toNat ix.den) (setR (rt.cells fr (E.at xs ix).den) off (SV.encL m st.blk (st.ev z).cells))) e) (pB := fun _ => true) (pR := fun _ _ => true) hI.mok (.refl _) hlive (by simp) (memLe_set hblk (by
            show List.length (List.set _ _ _) = _
            rw [List.length_set])) (refs_all st) (.rows (rows_set hfr hcell)) hI.fr
          have hRI : RI F m nx0 b0 st0 (st.hset id (.row fr' rt (.set xs ix x) e ver')) := ⟨hset.1,hI.ge,hset.2.2,hI.fix.trans ⟨rfl,rfl,rfl⟩,fun k hk => hI.good k (by
            rw [hset_blk] at hk
            by_cases e' : id = k
            · subst e';exact hlive
            · rw [if_neg e'] at hk;exact hk)⟩
          refine .step (.write (id := m id) (b := .row rt.size (((xs.den : List rt.den).map (rt.cells fr)).set (Int.toNat ix.den) (setR (rt.cells fr (E.at xs ix).den) off (SV.encL m st.blk (st.ev z).cells))) e) (x := .und) [m id] (fun j hj => ?_) hg ?_ ?_ (onlyW_m b3) (fun hp kk hhp => ?_) ?_ rfl) (.le ?_ (k cr _ hRI hc h))
          · rw [List.mem_singleton] at hj
            subst hj
            refine ⟨?_,?_⟩
            · unfold Dr.visW
              rw [liveS hL hc hI b1 hlive,okW_m hL hws (hI.good id hlive)]
              unfold visS at b1
              rw [Bool.and_eq_true] at b1
              rw [b1.2];rfl
            · rw [hbb];exact nmdB hL hc hI b5
          · unfold Dr.visW
            rw [liveS hL hc hI b1 hlive,okW_m hL hws (hI.good id hlive)]
            unfold visS at b1
            rw [Bool.and_eq_true] at b1
            rw [b1.2];rfl
          · obtain ⟨p,hp,hpe⟩ := List.any_eq_true.1 b2
            rw [Bool.and_eq_true] at hpe
            have e1 := Nat.eq_of_beq_eq_true hpe.1
            have e2 := Nat.eq_of_beq_eq_true hpe.2
            exact List.mem_map.2 ⟨p,hp,by rw [e1,e2]⟩
          · have hz := lregs_ev (o := ⟨none,.store t y z,ty,ps,af,gg⟩) (ops := ops) (s := st.enc m (nxOf nx0 b0 st)) (x := z) (hp := hp) (k := kk) (by simp [Op.operands])
            have hy := lregs_ev (o := ⟨none,.store t y z,ty,ps,af,gg⟩) (ops := ops) (s := st.enc m (nxOf nx0 b0 st)) (x := y) (hp := hp) (k := kk) (by simp [Op.operands])
            refine opWr_elt (hy.trans ey) ((hhp (m id) (by simp)).trans hbb') (rows_len _).symm (fun row' hr => at_row hr) (by rw [hz,ez]) (allOneS_enc h1) (allP_at hC.T.inf hI') (by rw [encL_length];exact hls) hle
          · have hb4 := nmdB hL hc hI b5
            rw [hblk,SB.enc] at hb4
            exact all_set hb4 hcn
          · exact hset.2.1
      · cases h
  · rename_i y z t t'
    cases ht : Nat.beq t' t with
    | false => rw [ht] at h;cases h
    | true =>
      rw [ht] at h
      have ht := Nat.eq_of_beq_eq_true ht
      subst ht
      exact appR_ok hC hL hws hc hI hd hg h k
  · cases h
theorem exRows_refs {pB : Nat → Bool} {pR : Nat → Nat → Bool} {fr : Bool} {t : Ty} : ∀ {rows : List (List (SV D))} {xs : E D (.list t)},exRows fr t rows = some xs → ∀ row ∈ rows,SV.refsL pB pR row = true
  | [],xs,h,row,hr => by cases hr
  | r :: l,xs,h,row,hr => by
    rw [exRows] at h
    split at h
    · rename_i x xs' h1 h2
      rcases List.mem_cons.1 hr with rfl | hr
      · exact exA_refs h1
      · exact exRows_refs h2 row hr
    · cases h
theorem nmd_isD {q : Nat → Bool} {a : AV} (h : isD a = true) : a.nmd q = true := by
  cases a <;> first | (cases h;done) | rfl
theorem nmd_go_isD {q : Nat → Bool} : ∀ {l : List AV},(∀ a ∈ l,isD a = true) → AV.nmd.go q l = true
  | [],_ => rfl
  | a :: l,h => by
    show (a.nmd q && AV.nmd.go q l) = true
    rw [nmd_isD (h a (by simp)),nmd_go_isD fun b hb => h b (by simp [hb])];rfl
/-- what makes a block,in any world -/
structure NewOk (P : Program) (n : Nat) (o : Oper) (lst : SSt D) (m : Nat → Nat) (b : SB D) (row : Bool) (b' : AB) : Prop where
  op : ∀ k,MOk m k lst → OpN P n o (lst.enc m k) b'
  les : LesB (b.enc m lst.blk) b'
  box : row = false → ∃ cs e cs',b = .box cs e ∧ b' = .box cs' e
  nmd : ∀ (q : Nat → Bool) (pB : Nat → Bool) (pR : Nat → Nat → Bool),(∀ id,pB id = true → isBox lst.blk id = true → q (m id) = true) → (∀ id v n,pR id v = true → rowLen lst.blk id v = some n → q (m id) = true) → b.refs pB pR = true → b'.nmd q = true
  rw : row = true → ∃ fr rt xs e rows,b = .row fr rt xs e 0 ∧ b' = .row rt.size rows e ∧ rows.length = List.length xs.den
theorem new_ok {Tb : Tab} (hT : Tb.ok P) {lst : SSt D} {b : SB D} {row : Bool} {g : E D .bool} (hn : isNew o.op = true) (h : mem0 Tb lst o.dst o.op = some (.new b row,g)) (hg : g.den = true) (hd : dok o.dst n = true) : ∃ b',NewOk P n o lst m b row b' := by
  obtain ⟨d,op,ty,ps,af,gg⟩ := o
  have hd : dok d n = true := hd
  simp only at h hn
  unfold mem0 at h
  split at h
  · rename_i e
    unfold allocS at h
    split at h
    · rename_i Z s bb h1
      cases hc : allOne (Z.cells.toList.map avOf) with
      | false => rw [hc] at h;cases h
      | true =>
        rw [hc] at h
        simp only [cond_true,Option.some.injEq,Prod.mk.injEq,MR.new.injEq] at h
        obtain ⟨⟨rfl,rfl⟩,rfl⟩ := h
        exact ⟨_,fun k _ => opN_alloc (allP_at hT.inf h1) hc hd,.box e (by rw [zeroS_enc];exact .refl _),fun _ => ⟨_,_,_,rfl,rfl⟩,fun q pB pR hB hR hb => (by
          rw [SB.refs] at hb
          have := encL_nmd (m := m) (H := lst.blk) hB hR _ hb
          rw [zeroS_enc] at this
          exact this),fun h => by cases h⟩
    · cases h
  · rename_i e y
    unfold boxS at h
    cases hc : allOneS lst (lst.ev y).cells with
    | false => rw [hc] at h;cases h
    | true =>
      rw [hc] at h
      simp only [cond_true,Option.some.injEq,Prod.mk.injEq,MR.new.injEq] at h
      obtain ⟨⟨rfl,rfl⟩,rfl⟩ := h
      refine ⟨.box (SV.encL m lst.blk (lst.ev y).cells) e,fun k _ => ?_,.refl _,fun _ => ⟨_,_,_,rfl,rfl⟩,fun q pB pR hB hR hb => (by
          rw [SB.refs] at hb
          exact encL_nmd hB hR _ hb),fun h => by cases h⟩
      have e1 : ((lst.enc m k).ev y).cells = SV.encL m lst.blk (lst.ev y).cells := by rw [enc_ev,enc_cells]
      rw [← e1]
      exact opN_box (by rw [e1];exact allOneS_enc hc) hd
  · split at h
    · rename_i t a v
      unfold isNew at hn
      cases hn
    · cases h
  · rename_i t y z
    unfold makeS at h
    generalize hy : lst.ev y = vy at h
    generalize hz : lst.ev z = vz at h
    split at h
    · rename_i e k L k' Cc hu
      split at h
      · rename_i Z sz bb rt hI hty
        cases hc : (allOne (Z.cells.toList.map avOf) && Nat.beq (Z.cells.toList.map avOf).length sz && Nat.blt 0 sz && Nat.blt 0 bb) with
        | false => rw [hc] at h;cases h
        | true =>
          rw [hc] at h
          simp only [cond_true] at h
          simp only [Bool.and_eq_true] at hc
          obtain ⟨⟨⟨c1,c2⟩,c3⟩,c4⟩ := hc
          split at h
          · rename_i x0 hx0
            simp only [Option.some.injEq,Prod.mk.injEq,MR.new.injEq] at h
            obtain ⟨⟨rfl,rfl⟩,rfl⟩ := h
            rw [andE_den,andE_den] at hg
            obtain ⟨g1,g2⟩ := andB hg
            obtain ⟨g2,g3⟩ := andB g2
            have g2 := leE_den g2
            have hb0 : 0 < bb := by simpa using c4
            have g2 : (0 : Int) ≤ (L.den : Int) := g2
            have hzl : (Z.cells.toList.map avOf).length = sz := Nat.eq_of_beq_eq_true c2
            have hcell := exA_ok (m := m) (H := lst.blk) hx0
            rw [zeroS_enc] at hcell
            have hsz : rt.size = sz := by rw [← rt.cells_length true x0.den,hcell.len,hzl]
            refine ⟨.row sz (List.replicate (L.den : Int).toNat (Z.cells.toList.map avOf)) e,fun kk hm => ?_,?_,(fun h => by cases h),(fun q pB pR hB hR _ => by
              refine List.all_eq_true.2 fun row hr => ?_
              rw [(List.mem_replicate.1 hr).2,← zeroS_enc (m := m) (H := lst.blk)]
              exact encL_nmd hB hR _ (exA_refs hx0)),fun _ => ⟨_,_,_,_,_,rfl,by rw [hsz],by
              rw [List.length_replicate]
              show _ = (List.replicate _ _).length
              rw [List.length_replicate]⟩⟩
            · have ey : (lst.enc m kk).ev y = .int k L.den := by rw [enc_ev,hy,SV.enc]
              have ez : (lst.enc m kk).ev z = .int k' Cc.den := by rw [enc_ev,hz,SV.enc]
              obtain ⟨hLC,g3⟩ : (L.den : Int) ≤ (Cc.den : Int) ∧ (bb : Int) * (Cc.den : Int) ≤ 281474976710656 := by
                cases hso : sameOp y z with
                | true =>
                  have hCL : (Cc.den : Int) = (L.den : Int) := sameOp_eq hso ey ez
                  rw [hso] at g3
                  have g3 := leE_den g3
                  rw [mulL_den] at g3
                  rw [hCL]
                  exact ⟨Int.le_refl _,g3⟩
                | false =>
                  rw [hso] at g1 g3
                  have g3 := leE_den g3
                  rw [mulL_den] at g3
                  exact ⟨leE_den g1,g3⟩
              exact opN_makeC (allP_at hT.und hu) (allP_at hT.inf hI) hzl (by simpa using c3) c1 ey ez g2 hLC g3 (le_of_mul hb0 (Int.le_trans g2 hLC) g3) hd
            · subst hsz
              refine .rows ⟨?_,fun i row row' h1 h2 => ?_⟩
              · show (List.map _ (List.replicate _ _)).length = _
                rw [List.length_map,List.length_replicate,List.length_replicate]
              · have h1 : ((List.replicate (L.den : Int).toNat x0.den).map (rt.cells true))[i]? = some row := h1
                rw [List.getElem?_map,List.getElem?_replicate] at h1
                rw [List.getElem?_replicate] at h2
                split at h1
                · rename_i hi
                  rw [if_pos hi] at h2
                  simp only [Option.map_some,Option.some.injEq] at h1 h2
                  subst h1;subst h2
                  exact hcell
                · cases h1
          · cases h
      · cases h
    · cases h
  · rename_i t L parts
    unfold litS at h
    split at h
    · rename_i e hu
      split at h
      · rename_i Z sz bb rt hI hty
        cases hc : (allOne (Z.cells.toList.map avOf) && Nat.beq (Z.cells.toList.map avOf).length sz && Nat.blt 0 sz && Nat.ble (L * sz) 16777216 && Nat.beq rt.size sz) with
        | false => rw [hc] at h;cases h
        | true =>
          rw [hc] at h
          simp only [cond_true] at h
          simp only [Bool.and_eq_true] at hc
          obtain ⟨⟨⟨⟨c1,c2⟩,c3⟩,c4⟩,c5⟩ := hc
          split at h
          · rename_i out hf'
            cases ho : Nat.beq out.length (L * sz) with
            | false => rw [ho] at h;cases h
            | true =>
              rw [ho] at h
              simp only [cond_true] at h
              have hf' := fillS_enc (m := m) hf'
              rw [zerosS_enc,zeroS_enc] at hf'
              have hsz := Nat.eq_of_beq_eq_true c5
              have fin : ∀ fr xs,exRows fr rt (chunkS sz L out) = some xs → b = .row fr rt xs e 0 → row = true → ∃ b',NewOk P n ⟨d,.buildSlice t L parts,ty,ps,af,gg⟩ lst m b row b' := by
                intro fr xs hx eb er
                subst eb;subst er
                have hch := chunkS_at (m := m) (H := lst.blk) hx
                refine ⟨.row sz (chunk sz L (SV.encL m lst.blk out)) e,fun kk hm => ?_,?_,(fun h => by cases h),(fun q pB pR hB hR _ => by
                  refine List.all_eq_true.2 fun row hr => ?_
                  rw [chunkS_enc] at hr
                  obtain ⟨r0,h1,rfl⟩ := List.mem_map.1 hr
                  exact encL_nmd hB hR _ (exRows_refs hx r0 h1)),fun _ => ⟨_,_,_,_,_,rfl,by rw [hsz],?_⟩⟩
                · have hf2 := hf'
                  rw [← evPartsS_enc (nx := kk)] at hf2
                  exact opN_lit (allP_at hT.und hu) (allP_at hT.inf hI) c1 (Nat.eq_of_beq_eq_true c2) (by simpa using c3) c4 hf2 (by rw [encL_length];exact Nat.eq_of_beq_eq_true ho) hd
                · subst hsz
                  exact .rows hch
                · have := hch.len
                  rw [List.length_map] at this
                  exact this.symm
              unfold litRow at h
              split at h
              · rename_i xs hx
                simp only [Option.some.injEq,Prod.mk.injEq,MR.new.injEq] at h
                exact fin _ _ hx h.1.1.symm h.1.2.symm
              · split at h
                · rename_i xs hx
                  simp only [Option.some.injEq,Prod.mk.injEq,MR.new.injEq] at h
                  exact fin _ _ hx h.1.1.symm h.1.2.symm
                · cases h
          · cases h
      · cases h
    · cases h
  · rename_i y z t t'
    cases ht : Nat.beq t' t with
    | false => rw [ht] at h;cases h
    | true =>
      rw [ht] at h
      have ht := Nat.eq_of_beq_eq_true ht
      subst ht
      simp only [cond_true] at h
      unfold appS at h
      generalize hy : lst.ev y = vy at h
      split at h
      · rename_i e hu
        split at h
        · rename_i Z sz bb hI
          cases hc : (Nat.beq Z.cells.size sz && Nat.blt 0 sz) with
          | false => rw [hc] at h;cases h
          | true =>
            rw [hc] at h
            simp only [cond_true] at h
            rw [Bool.and_eq_true] at hc
            have hz := Nat.eq_of_beq_eq_true hc.1
            have h0 : 0 < sz := Nat.le_of_ble_eq_true hc.2
            split at h
            · split at h
              · rename_i fr ty' xs e' v hb
                cases hc2 : (Nat.beq _ v && (Nat.beq e' e && (Nat.beq sz ty'.size && ty'.flat))) with
                | false => rw [hc2] at h;cases h
                | true =>
                  rw [hc2] at h
                  simp only [cond_true] at h
                  split at h
                  · rename_i fr' ys hy2
                    cases hr : lst.refs (fun _ => true) (fun i w => !(Nat.beq i _ && Nat.beq w (v + 1))) with
                    | false => rw [hr] at h;cases h
                    | true => rw [hr] at h;cases h
                  · cases h
              · cases h
            · split at h
              · rename_i rt hty
                cases hc2 : (Nat.beq sz rt.size && rt.flat) with
                | false => rw [hc2] at h;cases h
                | true =>
                  rw [hc2] at h
                  simp only [cond_true] at h
                  rw [Bool.and_eq_true] at hc2
                  have hsz := Nat.eq_of_beq_eq_true hc2.1
                  subst hsz
                  split at h
                  · rename_i fr' ys hys
                    simp only [Option.some.injEq,Prod.mk.injEq,MR.new.injEq] at h
                    obtain ⟨⟨rfl,rfl⟩,rfl⟩ := h
                    have hg := leE_den hg
                    have hg : (List.length ys.den : Int) * ((bmul bb : Nat) : Int) ≤ 140737488355328 := hg
                    have h63 : List.length ys.den * bmul bb ≤ 140737488355328 := nat_of1 hg
                    refine ⟨.row rt.size ((ys.den : List rt.den).map (rt.cells fr')) e,fun kk hm => ?_,.refl _,(fun h => by cases h),(fun q pB pR hB hR _ => by
                      refine List.all_eq_true.2 fun row hr => ?_
                      obtain ⟨x,_,rfl⟩ := List.mem_map.1 hr
                      exact nmd_go_isD fun a ha => rt.cells_isD _ x a ha),fun _ => ⟨_,_,_,_,_,rfl,rfl,rows_len _⟩⟩
                    have ey : (lst.enc m kk).ev y = .nils := by rw [enc_ev,hy,SV.enc]
                    exact opN_append_nil ey rfl (srcC_ok hc2.2 hm hys) (allP_at hT.und hu) (allP_at hT.inf hI) h0 hz (by rw [rows_len];exact h63) hd
                  · cases h
              · cases h
            · cases h
        · cases h
      · cases h
  · cases h
/-- a new block,its number laid out already -/
theorem hnew_fix {nx : Nat} {b : SB D} {b' : AB} {s : ASt} (hm : MOk m nx st) (hl : LeS (st.enc m nx) s) (hf : FrOk m st.blk st.fr F) (hmx : m st.nx = nx) (hbd : b ≠ .dead) (hr : st.refs (nB st) (nR st) = true) (hb : LesB (b.enc m (st.hnew b).blk) b') :
    MOk m (nx + 1) (st.hnew b) ∧ LeS ((st.hnew b).enc m (nx + 1)) (s.hnew b') ∧ FrOk m (st.hnew b).blk (st.hnew b).fr F := by
  have hnx : nx = s.nx := hl.nx
  have hc : MemLe m st.blk m (st.hnew b).blk (nB st) (nR st) := by
    have hne : ∀ id,(!Nat.beq id st.nx) = true → id ≠ st.nx := by
      intro id h e
      subst e
      have h : (!Nat.beq st.nx st.nx) = true := h
      rw [Nat.beq_refl] at h;cases h
    refine ⟨fun id h => .inr ⟨?_,rfl⟩,fun id v h => .inr ⟨?_,rfl⟩⟩
    · unfold isBox;rw [hnew_blk,if_neg (Ne.symm (hne id h))]
    · unfold rowLen;rw [hnew_blk,if_neg (Ne.symm (hne id h))]
  unfold SSt.refs at hr
  simp only [Bool.and_eq_true] at hr
  obtain ⟨r1,r2,r3,r4,r5⟩ := hr
  have hlv : ∀ k,(st.hnew b).blk k ≠ .dead → k ≠ st.nx → st.blk k ≠ .dead := by
    intro k hk e
    rw [hnew_blk,if_neg (Ne.symm e)] at hk;exact hk
  refine ⟨⟨fun k hk => ?_,fun k k' hk hk' e => ?_,fun p hp => ?_⟩,⟨fun d => ?_,fun k => ?_,?_⟩,hf.les' hc r5⟩
  · by_cases e : k = st.nx
    · rw [e,hmx];omega
    · have := hm.lt k (hlv k hk e);omega
  · by_cases e1 : k = st.nx
    · by_cases e2 : k' = st.nx
      · omega
      · rw [e1,hmx] at e
        have := hm.lt k' (hlv k' hk' e2)
        omega
    · by_cases e2 : k' = st.nx
      · rw [e2,hmx] at e
        have := hm.lt k (hlv k hk e1)
        omega
      · exact hm.inj k k' (hlv k hk e1) (hlv k' hk' e2) e
  · show p.1 < st.nx + 1 ∧ p.2 ≠ .dead
    rcases List.mem_cons.1 hp with rfl | hp
    · exact ⟨Nat.lt_succ_self _,hbd⟩
    · have := hm.keys p hp;exact ⟨by omega,this.2⟩
  · show Les (look .any (encR m (st.hnew b).blk (st.regs ++ st.kp)) d) _
    exact (encR_les hc _ (by rw [refsR_append,r1,r2];rfl) d).trans (hl.regs d)
  · show LesB (look .dead ((m st.nx,b.enc m (st.hnew b).blk) :: encH m (st.hnew b).blk (st.heap ++ st.hk)) k) (look .dead ((s.nx,b') :: s.heap) k)
    rw [look_cons,look_cons,hmx.trans hnx]
    split
    · exact hb
    · exact (encH_les hc _ (by rw [refsH_append,r3,r4];rfl) (fun _ _ => rfl) k).trans (hl.heap k)
  · show nx + 1 = s.nx + 1;omega
theorem newW_m (hL : Lay m nx0 b0 st0) (hws : ∀ p ∈ ws,Good b0 st0 p.2) (hge : b0 ≤ st.nx) (h : Dr.newW T ws i st.nx = true) : Dr.newW T (mapP m ws) i (nxOf nx0 b0 st) = true := by
  have e : nxOf nx0 b0 st = m st.nx := (hL.new _ hge).symm
  rw [e]
  unfold Dr.newW mapP at *
  rw [List.all_map]
  refine List.all_eq_true.2 fun p hp => ?_
  have := List.all_eq_true.1 h p hp
  show (bif Nat.beq (m p.2) (m st.nx) then _ else true) = true
  rw [beq_m hL (hws p hp) (.inl hge)]
  exact this
theorem newR_ok (hC : C.ok P) (hL : Lay m nx0 b0 st0) (hws : ∀ p ∈ ws,Good b0 st0 p.2) (hc : ∀ p ∈ cr,b0 ≤ p.2) (hI : RI F m nx0 b0 st0 st) (hd : dok o.dst n = true) (hnw : isNew o.op = true)
    (hg : o.guard = none ∨ gst ops o (Dr.lcl ops T (mapP m ws) nx0 i (mapP m cr) (st.enc m (nxOf nx0 b0 st)) o 0) = some true)
    {K : List (Nat × Nat) → SSt D → G D (KD ρ) ρ} (h : (newR C T ws b0 i cr (lclS ops T ws b0 i cr st o) st o K).den fu = some r)
    (k : ∀ cr' st',RI F m nx0 b0 st0 st' → (∀ p ∈ cr',b0 ≤ p.2) → (K cr' st').den fu = some r → AGm P n ops T ws nx0 b0 m Kt (i + 1) cr' l st') : AGm P n ops T ws nx0 b0 m Kt i cr (o :: l) st := by
  unfold newR at h
  split at h
  · rename_i b row g hmem
    cases hb : (Dr.noW ws i && Dr.newW T ws i st.nx && b.refs (fun k => visS T ws b0 i cr k && !Nat.beq k st.nx) (fun k _ => visS T ws b0 i cr k && !Nat.beq k st.nx) && st.refs (fun id => !Nat.beq id st.nx) (fun id _ => !Nat.beq id st.nx)) with
    | false => rw [hb] at h;cases h
    | true =>
      rw [hb] at h
      simp only [cond_true] at h
      simp only [Bool.and_eq_true] at hb
      obtain ⟨⟨⟨b1,b2⟩,b3⟩,b4⟩ := hb
      obtain ⟨hgd,h⟩ := grdG_den h
      obtain ⟨b',hN⟩ := new_ok (m := m) hC.T hnw hmem hgd hd
      have hop : ∀ k,OpN P n o (Dr.lcl ops T (mapP m ws) nx0 i (mapP m cr) (st.enc m (nxOf nx0 b0 st)) o k) b' := fun k => ⟨hd,fun K a w G r => by
        have hk := lt_of_rel hL hws hc hI.good hI.mok r
        have hm := lclS_mok (ops := ops) (T := T) (ws := ws) (b0 := b0) (i := i) (cr := cr) (o := o) hI.mok hk
        exact (hN.op k hm).out K a w G (r.les (lclS_les hL hws hc hI.good hI.mok hk))⟩
      have hmx : m st.nx = nxOf nx0 b0 st := hL.new _ hI.ge
      have hmem2 : MemLe m (lclS ops T ws b0 i cr st o).blk m (st.hnew b).blk (fun k => visS T ws b0 i cr k && !Nat.beq k st.nx) (fun k _ => visS T ws b0 i cr k && !Nat.beq k st.nx) := by
        have e : ∀ k,(visS T ws b0 i cr k && !Nat.beq k st.nx) = true → (st.hnew b).blk k = (lclS ops T ws b0 i cr st o).blk k := by
          intro k hk
          rw [Bool.and_eq_true] at hk
          have hne : st.nx ≠ k := fun e => by
            subst e
            have := hk.2
            rw [Nat.beq_refl] at this;cases this
          rw [hnew_blk,if_neg hne,lclS_blk,hk.1];rfl
        exact ⟨fun id h => .inr ⟨by unfold isBox;rw [e id h],rfl⟩,fun id v h => .inr ⟨by unfold rowLen;rw [e id h],rfl⟩⟩
      have hbd : b ≠ .dead := by
        intro e
        subst e
        cases row with
        | true => obtain ⟨_,_,_,_,_,h1,_⟩ := hN.rw rfl;cases h1
        | false => obtain ⟨_,_,_,h1,_⟩ := hN.box rfl;cases h1
      have hset := hnew_fix (b := b) (b' := b') hI.mok (.refl _) hI.fr hmx hbd b4 ((encB_les hmem2 b b3).trans hN.les)
      have hnx' : nxOf nx0 b0 (st.hnew b) = nxOf nx0 b0 st + 1 := by
        have := hI.ge
        show nx0 + (st.nx + 1 - b0) = nx0 + (st.nx - b0) + 1
        omega
      have hRI : RI F m nx0 b0 st0 (st.hnew b) := ⟨by rw [hnx'];exact hset.1,by show b0 ≤ st.nx + 1;have := hI.ge;omega,hset.2.2,hI.fix.trans ⟨rfl,rfl,rfl⟩,fun k hk => by
        rw [hnew_blk] at hk
        by_cases e' : st.nx = k
        · exact .inl (by have := hI.ge;omega)
        · rw [if_neg e'] at hk;exact hI.good k hk⟩
      have hnm : b'.nmd (vis T nx0 i (mapP m cr)) = true := by
        have key : ∀ id,(visS T ws b0 i cr id && !Nat.beq id st.nx) = true → (lclS ops T ws b0 i cr st o).blk id ≠ .dead → vis T nx0 i (mapP m cr) (m id) = true := by
          intro id hv hbl
          rw [Bool.and_eq_true] at hv
          rw [lclS_blk,hv.1] at hbl
          exact liveS hL hc hI hv.1 hbl
        refine hN.nmd _ _ _ (fun id hp hbl => key id hp fun e => ?_) (fun id v n hp hbl => key id hp fun e => ?_) b3
        · unfold isBox at hbl;rw [e] at hbl;cases hbl
        · unfold rowLen at hbl;rw [e] at hbl;cases hbl
      have hcr : ∀ p ∈ (i,st.nx) :: cr,b0 ≤ p.2 := fun p hp => by
        rcases List.mem_cons.1 hp with rfl | hp
        · exact hI.ge
        · exact hc p hp
      have hst : Dr.AG P n ops T (mapP m ws) nx0 Kt (i + 1) (mapP m ((i,st.nx) :: cr)) l (((st.enc m (nxOf nx0 b0 st)).hnew b').put o.dst (refB b' (st.enc m (nxOf nx0 b0 st)).nx)) := by
        refine .le ?_ (k _ _ (by rw [MR.app];exact hRI.put _ _) hcr h)
        have e : nxOf nx0 b0 (MR.app st o.dst (.new b row)) = nxOf nx0 b0 st + 1 := by
          rw [MR.app,← hnx']
          cases o.dst <;> rfl
        rw [e,MR.app,put_enc]
        refine hset.2.1.put ?_
        cases row with
        | true =>
          obtain ⟨fr,rt,xs,e1,rows,h1,h2,h3⟩ := hN.rw rfl
          subst h1;subst h2
          have hi : rowLen (st.hnew (.row fr rt xs e1 0)).blk st.nx 0 = some (List.length xs.den) := by unfold rowLen;rw [hnew_blk,if_pos rfl];rfl
          show Les (SV.enc m _ (.osl st.nx 0)) (.osl (nxOf nx0 b0 st) rows.length)
          rw [SV.enc,hi,hmx,h3]
          exact .refl _
        | false =>
          obtain ⟨cs,e1,cs',h1,h2⟩ := hN.box rfl
          subst h1;subst h2
          have hi : isBox (st.hnew (.box cs e1)).blk st.nx = true := by unfold isBox;rw [hnew_blk,if_pos rfl]
          show Les (SV.enc m _ (.box st.nx 0)) (.box (nxOf nx0 b0 st) 0)
          rw [SV.enc,hi,hmx]
          exact .refl _
      have e2 : mapP m ((i,st.nx) :: cr) = (i,(st.enc m (nxOf nx0 b0 st)).nx) :: mapP m cr := by
        show (i,m st.nx) :: mapP m cr = _
        rw [hmx];rfl
      rw [e2] at hst
      exact .step (.new (by rw [noW_m];exact b1) (newW_m hL hws hI.ge b2) hg hop hnm) hst
  · cases h
theorem stepR_ok' (hC : C.ok P) (hL : Lay m nx0 b0 st0) (hws : ∀ p ∈ ws,Good b0 st0 p.2) (hc : ∀ p ∈ cr,b0 ≤ p.2) (hI : RI F m nx0 b0 st0 st) (hd : dok o.dst n = true)
    (hg : o.guard = none ∨ gst ops o (Dr.lcl ops T (mapP m ws) nx0 i (mapP m cr) (st.enc m (nxOf nx0 b0 st)) o 0) = some true)
    {K : List (Nat × Nat) → SSt D → G D (KD ρ) ρ} (h : (stepR' C T ws b0 i cr (lclS ops T ws b0 i cr st o) st o K).den fu = some r)
    (k : ∀ cr' st',RI F m nx0 b0 st0 st' → (∀ p ∈ cr',b0 ≤ p.2) → (K cr' st').den fu = some r → AGm P n ops T ws nx0 b0 m Kt (i + 1) cr' l st') : AGm P n ops T ws nx0 b0 m Kt i cr (o :: l) st := by
  unfold stepR' at h
  split at h
  · rename_i x g hx
    cases hb : (Dr.noW ws i && x.refs (visS T ws b0 i cr) (fun k _ => visS T ws b0 i cr k)) with
    | false => rw [hb] at h;cases h
    | true =>
      rw [hb] at h
      rw [Bool.and_eq_true] at hb
      simp only [cond_true] at h
      obtain ⟨hgd,h⟩ := grdG_den h
      have hop : ∀ k,OpR P n o (Dr.lcl ops T (mapP m ws) nx0 i (mapP m cr) (st.enc m (nxOf nx0 b0 st)) o k) (x.enc m (lclS ops T ws b0 i cr st o).blk) := fun k => ⟨hd,fun K a w G r => by
        have hk := lt_of_rel hL hws hc hI.good hI.mok r
        have hm := lclS_mok (ops := ops) (T := T) (ws := ws) (b0 := b0) (i := i) (cr := cr) (o := o) hI.mok hk
        exact (OpR.le (lclS_les hL hws hc hI.good hI.mok hk) (rd_ok (n := n) hC.T hm hx hgd hd)).out K a w G r⟩
      have hnm := nmdS (ops := ops) (o := o) hL hc hI hb.2
      have hles : Les (x.enc m st.blk) (x.enc m (lclS ops T ws b0 i cr st o).blk) := enc_les lclS_memS x hb.2
      cases hl : lets o.op with
      | true =>
        rw [hl] at h
        simp only [cond_true] at h
        obtain ⟨y,hy,h⟩ := letV_den h
        exact .step (.read (by rw [noW_m];exact hb.1) hg hop hnm) (AGm.put (by rw [hy];exact hles) (k cr _ (hI.put _ _) hc h))
      | false =>
        rw [hl] at h
        exact .step (.read (by rw [noW_m];exact hb.1) hg hop hnm) (AGm.put hles (k cr _ (hI.put _ _) hc h))
  · cases hnw : (isNew o.op && Dr.noW ws i) with
    | true =>
      rw [hnw] at h
      rw [Bool.and_eq_true] at hnw
      exact newR_ok hC hL hws hc hI hd hnw.1 hg h k
    | false =>
    rw [hnw] at h
    simp only [cond_false] at h
    cases hb : Dr.noW ws i with
    | false =>
      rw [hb] at h
      exact writeR_ok hC hL hws hc hI hd hg h k
    | true =>
      rw [hb] at h
      simp only [cond_true] at h
      obtain ⟨d,op,ty,ps,af,gg⟩ := o
      have hd : dok d n = true := hd
      simp only at h
      unfold callR at h
      split at h
      · rename_i cal args ats _
        split at h
        · rename_i Fn caps hcal
          split at h
          · rename_i hF
            have hcal' := allP_at hC.cas hF
            split at h
            · rename_i c hctr
              split at h
              · rename_i e hargs
                rw [G.den] at h
                unfold bindO at h
                split at h
                · rename_i y hy
                  have hAF := allP_at hC.ctrs hctr fu e.den y hy
                  have hop : ∀ k,OpF P n ⟨d,.call ⟨.value cal,args,ats⟩,ty,ps,af,gg⟩ (Dr.lcl ops T (mapP m ws) nx0 i (mapP m cr) (st.enc m (nxOf nx0 b0 st)) ⟨d,.call ⟨.value cal,args,ats⟩,ty,ps,af,gg⟩ k) (oneOf (c.r.avs true y)) := fun k => ⟨hd,fun K a w G r => by
                    have hk := lt_of_rel hL hws hc hI.good hI.mok r
                    have hm := lclS_mok (ops := ops) (T := T) (ws := ws) (b0 := b0) (i := i) (cr := cr) (o := ⟨d,.call ⟨.value cal,args,ats⟩,ty,ps,af,gg⟩) hI.mok hk
                    have hc' : ((lclS ops T ws b0 i cr st ⟨d,.call ⟨.value cal,args,ats⟩,ty,ps,af,gg⟩).enc m k).ev cal = .fn Fn (SV.encL m (lclS ops T ws b0 i cr st ⟨d,.call ⟨.value cal,args,ats⟩,ty,ps,af,gg⟩).blk caps) := by rw [enc_ev,hcal,SV.enc]
                    exact (OpF.le (lclS_les hL hws hc hI.good hI.mok hk) (OpF.of hc' (evS_append _ args.toList caps) hcal' hd hAF (exArgs_ok hm _ _ _ hargs))).out K a w G r⟩
                  refine .step (.call (by rw [noW_m];exact hb) hg hop ?_) (AGm.put ?_ (k cr _ (hI.put _ _) hc h))
                  · have e1 : (oneOfS (svsE true c.r (.var y : E D c.r))).enc m (fun _ => SB.dead) = oneOf (c.r.avs true y) := by rw [oneOfS_enc,svsE_enc];rfl
                    rw [← e1]
                    exact enc_nmd (pB := fun _ => false) (pR := fun _ _ => false) (fun id h => by cases h) (fun id v n h => by cases h) _ (one_nmd (datas_nmd c.r _))
                  · rw [oneOfS_enc,svsE_enc];exact .refl _
                · cases h
              · cases h
            · cases h
          · cases h
        · cases h
      · cases h
theorem sR_ok (hC : C.ok P) (hL : Lay m nx0 b0 st0) (hws : ∀ p ∈ ws,Good b0 st0 p.2) {K : SSt D → G D (KD ρ) ρ} (hK : ∀ st',RI F m nx0 b0 st0 st' → (K st').den fu = some r → Kt (st'.enc m (nxOf nx0 b0 st'))) : ∀ (l : List Oper) (i : Nat) (cr : List (Nat × Nat)) (st : SSt D),(sR C n ops T ws b0 K i cr l st).den fu = some r → RI F m nx0 b0 st0 st → (∀ p ∈ cr,b0 ≤ p.2) →
    AGm P n ops T ws nx0 b0 m Kt i cr l st
  | [],i,cr,st,h,hI,hc => .nil (hK st hI h)
  | o :: l,i,cr,st,h,hI,hc => by
    rw [sR] at h
    cases hd : dok o.dst n with
    | false => rw [hd] at h;cases h
    | true =>
      rw [hd] at h
      simp only [cond_true] at h
      have ihr : ∀ cr' st',RI F m nx0 b0 st0 st' → (∀ p ∈ cr',b0 ≤ p.2) → (sR C n ops T ws b0 K (i + 1) cr' l st').den fu = some r → AGm P n ops T ws nx0 b0 m Kt (i + 1) cr' l st' :=
        fun cr' st' h1 h2 h3 => sR_ok hC hL hws hK l (i + 1) cr' st' h3 h1 h2
      have sk : ∀ st1,RI F m nx0 b0 st0 st1 → gst ops o (Dr.lcl ops T (mapP m ws) nx0 i (mapP m cr) (st1.enc m (nxOf nx0 b0 st1)) o 0) = some false → (bif Dr.noW ws i then sR C n ops T ws b0 K (i + 1) cr l (st1.put o.dst .und) else .fail).den fu = some r → AGm P n ops T ws nx0 b0 m Kt i cr (o :: l) st1 := by
        intro st1 hI hg h
        cases hb : Dr.noW ws i with
        | false => rw [hb] at h;cases h
        | true =>
          rw [hb] at h
          exact skipR_ok hd hb hg (ihr cr _ (hI.put _ _) hc h)
      split at h
      · rename_i hw
        exact stepR_ok' hC hL hws hc hI hd (gst_yesS hw) h ihr
      · rename_i hw
        exact sk st hI (gst_noS hw) h
      · rename_i c d want hw
        obtain ⟨hg,hx⟩ := wantS_ask hw
        rw [G.den] at h
        have know : ∀ b,c.den = b → AGm P n ops T ws nx0 b0 m Kt i cr (o :: l) (st.put (some d) (.bool (.bL b))) → AGm P n ops T ws nx0 b0 m Kt i cr (o :: l) st := by
          intro b hb k
          refine .le ?_ k
          have e : nxOf nx0 b0 (st.put (some d) (.bool (.bL b))) = nxOf nx0 b0 st := rfl
          rw [e,put_enc]
          refine ⟨fun k => ?_,fun k => .refl _,rfl⟩
          show Les (look .any ((d,SV.enc m st.blk (.bool (.bL b))) :: (st.enc m (nxOf nx0 b0 st)).regs) k) _
          rw [look_cons]
          split
          · rename_i e
            subst e
            rw [enc_get,hx,SV.enc,SV.enc]
            exact .of (congrArg AV.bool hb.symm)
          · exact .refl _
        cases hcd : (c.den : Bool) with
        | true =>
          rw [hcd] at h
          simp only [cond_true] at h
          refine know true hcd ?_
          cases want with
          | true => exact stepR_ok' hC hL hws hc (hI.put _ _) hd (.inr (gst_put hg)) h ihr
          | false => exact sk _ (hI.put _ _) (gst_put hg) h
        | false =>
          rw [hcd] at h
          simp only [cond_false] at h
          refine know false hcd ?_
          cases want with
          | true => exact sk _ (hI.put _ _) (gst_put hg) h
          | false => exact stepR_ok' hC hL hws hc (hI.put _ _) hd (.inr (gst_put hg)) h ihr
      · cases h
theorem drR_ok (hC : C.ok P) {self : SelfG D (KD ρ) ρ} (hS : SelfOkG P fu self) : DrawOk (ρ := ρ) P fu n (drR C self) := by
  intro an l st K r F s id h hs
  unfold drR at h
  generalize wsD C.T 0 (l.take (tailN (ancs l []) l.length)) st = ws at h
  unfold drW at h
  cases hb : (Dr.planR l (ancs l []) && (ws.all fun p => isLive (st.blk p.2) || Nat.ble st.nx p.2) && Dr.tailR l (ancs l []) (tailN (ancs l []) l.length)) with
  | false => rw [hb] at h;cases h
  | true =>
    rw [hb] at h
    rw [Bool.and_eq_true,Bool.and_eq_true] at hb
    simp only [cond_true] at h
    obtain ⟨m0,nx0,hm,hr,hf⟩ := hs
    let m : Nat → Nat := fun k => if k < st.nx then m0 k else nx0 + (k - st.nx)
    have hlv : ∀ k,st.blk k ≠ .dead → k < st.nx := fun k hk => hm.live hk
    have hmk : ∀ k,k < st.nx → m k = m0 k := fun k hk => if_pos hk
    have hmn : ∀ k,st.nx ≤ k → m k = nx0 + (k - st.nx) := fun k hk => if_neg (by omega)
    have hmem : MemLe m0 st.blk m st.blk (fun _ => true) (fun _ _ => true) := by
      refine ⟨fun id _ => ?_,fun id v _ => ?_⟩
      · by_cases e : st.blk id = .dead
        · left;unfold isBox;rw [e]
        · exact .inr ⟨rfl,hmk id (hlv id e)⟩
      · by_cases e : st.blk id = .dead
        · left;unfold rowLen;rw [e]
        · exact .inr ⟨rfl,hmk id (hlv id e)⟩
    have hall := refs_all st
    unfold SSt.refs at hall
    simp only [Bool.and_eq_true] at hall
    obtain ⟨r1,r2,r3,r4,r5⟩ := hall
    have hmok : MOk m nx0 st := ⟨fun k hk => by rw [hmk k (hlv k hk)];exact hm.lt k hk,fun k k' hk hk' e => by rw [hmk k (hlv k hk),hmk k' (hlv k' hk')] at e;exact hm.inj k k' hk hk' e,hm.keys⟩
    have hles : LeS (st.enc m nx0) (st.enc m0 nx0) := by
      refine ⟨fun d => ?_,fun k => ?_,rfl⟩
      · exact encR_les hmem (st.regs ++ st.kp) (by rw [refsR_append,r1,r2];rfl) d
      · exact encH_les hmem (st.heap ++ st.hk) (by rw [refsH_append,r3,r4];rfl) (fun p hp => hmk p.1 (hm.keys p hp).1) k
    have hL : Lay m nx0 st.nx st := ⟨hmn,fun k hk hb => by rw [hmk k hk];exact hm.lt k hb,fun k k' h1 h2 e => hmok.inj k k' h1 h2 e,hlv⟩
    have hws : ∀ p ∈ ws,Good st.nx st p.2 := by
      intro p hp
      have := List.all_eq_true.1 hb.1.2 p hp
      rw [Bool.or_eq_true] at this
      rcases this with h | h
      · right
        intro e
        rw [e] at h
        cases h
      · exact .inl (Nat.le_of_ble_eq_true h)
    have hnx : nxOf nx0 st.nx st = nx0 := by unfold nxOf;omega
    have hI : RI F m nx0 st.nx st st := ⟨by rw [hnx];exact hmok,Nat.le_refl _,hf.les' hmem r5,.refl st,fun k hk => .inr hk⟩
    have := sR_ok (ops := ⟨l⟩) (T := ancs l []) (ws := ws) (Kt := fun s => AL P n l.toArray (PostL F st fun st' => (K st').den fu = some r) (l.drop (tailN (ancs l []) l.length)) s) hC hL hws (fun st' hI' h' => sL_ok hC hS an _ _ st' _ h' ⟨m,_,hI'.mok,.refl _,hI'.fr⟩ hI'.fix) (l.take (tailN (ancs l []) l.length)) 0 [] st h hI (fun p hp => by cases hp)
    unfold AGm at this
    rw [hnx] at this
    exact AW.rle (hr.trans hles.rle) (Dr.AW.drawR (mapP m ws) (tailN (ancs l []) l.length) hC.mixed rfl hb.1.1 hb.2 this)
end
end Go.Proofs.Ytelpkjellakigaa
/- Facts on the types and functions that the symbolic walks ask for (printed by a program). -/
set_option maxRecDepth 1000000
namespace Go.Proofs.Ytelpkjellakigaa
open Go
def fd (n : String) (t o : Nat) (e : Bool) (p : String) (b : Nat) : Field := { name := n, type := t, offset := o, embedded := e, tag := "", pkgPath := p, byteOffset := b }
def tab : Tab := {
  und := [(0,.tuple #[]),
    (1,.func #[] #[] false),
    (2,.int .i64),
    (3,.int .i64),
    (4,.bool),
    (5,.int .u8),
    (6,.int .u8),
    (7, .struct #[fd "x" 2 0 false "runtime" 0, fd "y" 3 1 false "runtime" 8, fd "signed" 4 2 false "runtime" 16, fd "code" 6 3 false "runtime" 17]),
    (8, .struct #[fd "x" 2 0 false "runtime" 0, fd "y" 3 1 false "runtime" 8, fd "signed" 4 2 false "runtime" 16, fd "code" 6 3 false "runtime" 17]),
    (9,.string),
    (10,.string),
    (11,.string),
    (12,.int .u64),
    (13, .struct #[fd "msg" 9 0 false "runtime" 0, fd "addr" 12 1 false "runtime" 16]),
    (14, .struct #[fd "msg" 9 0 false "runtime" 0, fd "addr" 12 1 false "runtime" 16]),
    (15,.pointer 285),
    (16,.pointer 288),
    (17,.pointer 297),
    (18, .struct #[fd "typ" 17 0 false "internal/runtime/maps" 0]),
    (19, .struct #[fd "typ" 17 0 false "internal/runtime/maps" 0]),
    (20,.interface #[]),
    (21,.int .i32),
    (22, .struct #[fd "A" 3 0 false "" 0, fd "B" 3 1 false "" 8, fd "Kind" 3 2 false "" 16]),
    (23, .struct #[fd "A" 3 0 false "" 0, fd "B" 3 1 false "" 8, fd "Kind" 3 2 false "" 16]),
    (24,.func #[] #[4] false),
    (25,.slice 3),
    (26,.int .i64),
    (27,.tuple #[25,26]),
    (28,.func #[23] #[25,26] false),
    (29,.tuple #[3,26]),
    (30,.func #[23,3] #[3,26] false),
    (31,.func #[23] #[26] false),
    (32,.func #[4,26,26] #[4] false),
    (33,.func #[25,25] #[4] false),
    (34,.func #[23] #[25] false),
    (35,.func #[3,3,3] #[4] false),
    (36,.func #[3,3] #[3] false),
    (37,.func #[23,3] #[4] false),
    (38, .struct #[fd "W" 3 0 false "" 0, fd "S" 3 1 false "" 8, fd "H" 3 2 false "" 16]),
    (39, .struct #[fd "W" 3 0 false "" 0, fd "S" 3 1 false "" 8, fd "H" 3 2 false "" 16]),
    (40,.tuple #[39,26]),
    (41,.func #[23,23] #[39,26] false),
    (42,.tuple #[3,3,26]),
    (43,.func #[23,23] #[3,3,26] false),
    (44,.func #[23,23] #[39] false),
    (45,.array 2 3),
    (46,.array 4 45),
    (47,.func #[23,23] #[4] false),
    (48,.func #[23] #[3,26] false),
    (49,.func #[23,3,3] #[3,26] false),
    (50,.func #[23,3,3] #[3] false),
    (51,.func #[23,3,3] #[4] false),
    (52,.slice 5),
    (53, .struct #[fd "W" 3 0 false "" 0, fd "H" 3 1 false "" 8, fd "Data" 52 2 false "" 16]),
    (54, .struct #[fd "W" 3 0 false "" 0, fd "H" 3 1 false "" 8, fd "Data" 52 2 false "" 16]),
    (55,.func #[54,23] #[25,26] false),
    (56,.func #[54] #[26] false),
    (57,.func #[54] #[4] false),
    (58,.func #[54,3,3] #[4] false),
    (59,.func #[54,23] #[4] false),
    (60, .struct #[fd "W" 3 0 false "" 0, fd "H" 3 1 false "" 8, fd "Pix" 52 2 false "" 16]),
    (61, .struct #[fd "W" 3 0 false "" 0, fd "H" 3 1 false "" 8, fd "Pix" 52 2 false "" 16]),
    (62,.tuple #[54,26]),
    (63,.func #[61,23] #[54,26] false),
    (64,.slice 54),
    (65,.tuple #[64,26]),
    (66,.func #[67,68] #[64,26] false),
    (67,.slice 61),
    (68,.slice 23),
    (69,.func #[61] #[26] false),
    (70,.func #[54,26,26] #[4] false),
    (71,.func #[3,3,72] #[54] false),
    (72,.slice 4),
    (73,.func #[61,23] #[72] false),
    (74,.func #[54,54] #[4] false),
    (75,.func #[61,23] #[4] false),
    (76,.tuple #[54,3,26]),
    (77,.func #[61,4] #[54,3,26] false),
    (78,.tuple #[72,3]),
    (79,.func #[61,4] #[72,3] false),
    (80,.func #[61,4] #[4] false),
    (81,.tuple #[52,26]),
    (82,.func #[54,3] #[52,26] false),
    (83,.func #[54] #[52,26] false),
    (84,.func #[52,52] #[4] false),
    (85,.func #[54] #[52] false),
    (86,.func #[52,3,3] #[52] false),
    (87,.func #[54,3,3] #[54] false),
    (88,.func #[54,3] #[4] false),
    (89,.func #[52] #[3,26] false),
    (90,.func #[52] #[54,26] false),
    (91,.func #[52,3] #[54,26] false),
    (92,.func #[3,3,3,25,52] #[4] false),
    (93, .struct #[fd "Scale" 3 0 false "" 0, fd "X" 3 1 false "" 8, fd "Y" 3 2 false "" 16, fd "Turn" 3 3 false "" 24, fd "Blur" 3 4 false "" 32, fd "Light" 3 5 false "" 40, fd "Dark" 3 6 false "" 48, fd "Noise" 25 7 false "" 56]),
    (94, .struct #[fd "Scale" 3 0 false "" 0, fd "X" 3 1 false "" 8, fd "Y" 3 2 false "" 16, fd "Turn" 3 3 false "" 24, fd "Blur" 3 4 false "" 32, fd "Light" 3 5 false "" 40, fd "Dark" 3 6 false "" 48, fd "Noise" 25 7 false "" 56]),
    (95, .struct #[fd "W" 3 0 false "" 0, fd "H" 3 1 false "" 8, fd "Pix" 52 2 false "" 16]),
    (96,.tuple #[95,26]),
    (97,.func #[54,94] #[95,26] false),
    (98,.func #[94] #[26] false),
    (99,.func #[54,94] #[95] false),
    (100,.func #[95] #[26] false),
    (101,.func #[95] #[54,26] false),
    (102,.func #[54,94] #[4] false),
    (103,.func #[95,3,3] #[54,26] false),
    (104,.func #[95,3,3] #[4] false),
    (105,.tuple #[3,3,3,26]),
    (106,.func #[3] #[3,3,3,26] false),
    (107,.func #[52,3] #[52] false),
    (108,.func #[3,3,3] #[3] false),
    (109,.func #[52,3] #[4] false),
    (110,.func #[23,3,3] #[45] false),
    (111, .struct #[fd "N" 3 0 false "" 0, fd "S" 3 1 false "" 8, fd "G" 3 2 false "" 16]),
    (112, .struct #[fd "N" 3 0 false "" 0, fd "S" 3 1 false "" 8, fd "G" 3 2 false "" 16]),
    (113,.func #[23] #[112] false),
    (114,.tuple #[3,3,3]),
    (115,.func #[3,3] #[3,3,3] false),
    (116,.func #[3,3] #[4] false),
    (117,.func #[118,3,3] #[4] false),
    (118,.pointer 54),
    (119,.func #[120,23] #[26] false),
    (120,.pointer 61),
    (121,.func #[3,3] #[54] false),
    (122,.func #[3,52] #[] false),
    (123,.func #[120,23] #[122] false),
    (124,.func #[61,3] #[54,3,26] false),
    (125,.func #[120,118,25,25,3,3,126,126] #[3] false),
    (126,.func #[3] #[] false),
    (127,.func #[52,3,3] #[54,26] false),
    (128,.func #[118,3,3] #[54] false),
    (129,.func #[118] #[52,26] false),
    (130,.int .u64),
    (131,.func #[54,3,3] #[3] false),
    (132,.func #[3,25,25] #[52] false),
    (133,.slice 52),
    (134, .struct #[fd "w" 3 0 false "printworks/bilevel" 0, fd "h" 3 1 false "printworks/bilevel" 8, fd "rows" 3 2 false "printworks/bilevel" 16, fd "parts" 133 3 false "printworks/bilevel" 24]),
    (135, .struct #[fd "w" 3 0 false "printworks/bilevel" 0, fd "h" 3 1 false "printworks/bilevel" 8, fd "rows" 3 2 false "printworks/bilevel" 16, fd "parts" 133 3 false "printworks/bilevel" 24]),
    (136,.tuple #[135,26]),
    (137,.func #[52] #[135,26] false),
    (138,.func #[3] #[54,26] false),
    (139,.tuple #[9,26]),
    (140,.func #[95] #[9,26] false),
    (141,.func #[118,3] #[54] false),
    (142,.tuple #[3,3]),
    (143,.func #[144,3,3,3] #[3,3] false),
    (144,.pointer 95),
    (145,.func #[54,3] #[54] false),
    (146,.func #[144] #[54] false),
    (147,.func #[118,3,3] #[] false),
    (148,.tuple #[52,3,3,26]),
    (149,.func #[54] #[52,3,3,26] false),
    (150,.func #[52,3] #[52,26] false),
    (151,.tuple #[4,4]),
    (152,.func #[3,3,3] #[4,4] false),
    (153,.func #[3] #[4] false),
    (154,.tuple #[52,4]),
    (155,.func #[52,3,25] #[52,4] false),
    (156,.func #[23,112,3] #[3,3] false),
    (157,.func #[3] #[3,3] false),
    (158,.func #[23,112] #[25] false),
    (159,.func #[25,36] #[] false),
    (160,.func #[3] #[3] false),
    (161,.array 256 3),
    (162,.slice 25),
    (163,.slice 164),
    (164,.chan (Go.ChanDir.both) 165),
    (165,.struct #[]),
    (166,.struct #[]),
    (167,.struct #[]),
    (168,.struct #[]),
    (169,.int .u64),
    (170, .struct #[fd "_" 167 0 false "sync/atomic" 0, fd "_" 168 0 false "sync/atomic" 0, fd "v" 169 0 false "sync/atomic" 0]),
    (171, .struct #[fd "_" 167 0 false "sync/atomic" 0, fd "_" 168 0 false "sync/atomic" 0, fd "v" 169 0 false "sync/atomic" 0]),
    (172,.int .u32),
    (173, .struct #[fd "noCopy" 166 0 false "sync" 0, fd "state" 171 0 false "sync" 0, fd "sema" 172 1 false "sync" 8]),
    (174, .struct #[fd "noCopy" 166 0 false "sync" 0, fd "state" 171 0 false "sync" 0, fd "sema" 172 1 false "sync" 8]),
    (175,.func #[1] #[] false),
    (176,.func #[25,3,3] #[] false),
    (177,.tuple #[3,3,3,3]),
    (178,.func #[3] #[3,3,3,3] false),
    (179,.pointer 220),
    (180,.tuple #[179,26]),
    (181,.func #[52,3] #[179,26] false),
    (182,.func #[118,222,4] #[] false),
    (183,.func #[3] #[3,26] false),
    (184,.pointer 228),
    (185,.tuple #[184,26]),
    (186,.func #[3] #[184,26] false),
    (187,.func #[3,3] #[26] false),
    (188,.func #[] #[52,26] false),
    (189,.array 11 45),
    (190,.func #[52] #[3] false),
    (191,.pointer 135),
    (192,.func #[118] #[9,26] false),
    (193,.func #[3,3,116] #[54] false),
    (194,.func #[118] #[3,3] false),
    (195,.tuple #[52,3,26]),
    (196,.func #[52,3,25] #[52,3,26] false),
    (197,.slice 5),
    (198,.func #[197,3] #[197] false),
    (199,.func #[5,3] #[5] false),
    (200,.func #[5,5] #[5] false),
    (201,.func #[3] #[5] false),
    (202,.func #[133,52,3] #[52,4] false),
    (203,.func #[25,3,3,3,36] #[] false),
    (204,.func #[130] #[3] false),
    (205,.pointer 174),
    (206,.func #[] #[169] false),
    (207,.func #[208] #[] false),
    (208,.unsafePointer),
    (209,.func #[205] #[4] false),
    (210,.func #[169,169] #[4] false),
    (211,.func #[205] #[] false),
    (212,.pointer 172),
    (213,.func #[212,4] #[] false),
    (214,.slice 260),
    (215, .struct #[fd "contexts" 214 0 false "printworks/rangecoder" 0, fd "wide" 172 1 false "printworks/rangecoder" 24, fd "bits" 3 2 false "printworks/rangecoder" 32]),
    (216, .struct #[fd "contexts" 214 0 false "printworks/rangecoder" 0, fd "wide" 172 1 false "printworks/rangecoder" 24, fd "bits" 3 2 false "printworks/rangecoder" 32]),
    (217,.tuple #[216,26]),
    (218,.func #[3] #[216,26] false),
    (219, .struct #[fd "model" 216 0 true "printworks/rangecoder" 0, fd "code" 172 3 false "printworks/rangecoder" 40, fd "rest" 52 4 false "printworks/rangecoder" 48]),
    (220, .struct #[fd "model" 216 0 true "printworks/rangecoder" 0, fd "code" 172 3 false "printworks/rangecoder" 40, fd "rest" 52 4 false "printworks/rangecoder" 48]),
    (221,.func #[] #[172] false),
    (222,.func #[3,3] #[3] false),
    (223,.func #[118,3,3] #[3] false),
    (224,.func #[3] #[26] false),
    (225,.func #[3] #[172] false),
    (226,.func #[3,3] #[] false),
    (227, .struct #[fd "model" 216 0 true "printworks/rangecoder" 0, fd "low" 172 3 false "printworks/rangecoder" 40, fd "out" 52 4 false "printworks/rangecoder" 48, fd "closed" 4 5 false "printworks/rangecoder" 72]),
    (228, .struct #[fd "model" 216 0 true "printworks/rangecoder" 0, fd "low" 172 3 false "printworks/rangecoder" 40, fd "out" 52 4 false "printworks/rangecoder" 48, fd "closed" 4 5 false "printworks/rangecoder" 72]),
    (229,.func #[25] #[9,26] false),
    (230,.func #[118,3] #[25] false),
    (231,.func #[52,3] #[26] false),
    (232,.tuple #[197,4]),
    (233,.func #[52,3] #[197,4] false),
    (234,.func #[52,197,197] #[] false),
    (235,.func #[197,197,3] #[197] false),
    (236,.func #[5] #[5] false),
    (237,.func #[25,3,3,36] #[] false),
    (238,.int .i64),
    (239,.tuple #[3,238]),
    (240,.func #[25,3,3,36] #[3,238] false),
    (241,.func #[25,3,3,36] #[4] false),
    (242,.func #[25,3,3,3,36] #[3] false),
    (243,.tuple #[3,4]),
    (244,.func #[25,3,3,3,36] #[3,4] false),
    (245,.func #[172] #[3] false),
    (246,.func #[169] #[3] false),
    (247,.int .i64),
    (248,.func #[205] #[247] false),
    (249,.func #[9] #[] false),
    (250,.func #[169] #[169] false),
    (251,.func #[169] #[] false),
    (252,.func #[212,4,3] #[] false),
    (253,.pointer 171),
    (254,.func #[255] #[169] false),
    (255,.pointer 169),
    (256,.func #[255,169,169] #[4] false),
    (257,.func #[3,3,3] #[] false),
    (258,.pointer 216),
    (259, .struct #[fd "zeros" 172 0 false "printworks/rangecoder" 0, fd "all" 172 1 false "printworks/rangecoder" 4]),
    (260, .struct #[fd "zeros" 172 0 false "printworks/rangecoder" 0, fd "all" 172 1 false "printworks/rangecoder" 4]),
    (261,.pointer 260),
    (262,.slice 278),
    (263,.func #[] #[262] false),
    (264,.func #[262,25] #[3] false),
    (265,.func #[25] #[3] false),
    (266,.func #[280] #[] false),
    (267,.func #[280] #[] false),
    (268,.func #[118,3] #[267] false),
    (269, .struct #[fd "Y" 3 0 false "" 0, fd "X0" 3 1 false "" 8, fd "X1" 3 2 false "" 16]),
    (270, .struct #[fd "Y" 3 0 false "" 0, fd "X0" 3 1 false "" 8, fd "X1" 3 2 false "" 16]),
    (271,.int .u64),
    (272,.func #[3] #[130] false),
    (273,.func #[25,3,274,36] #[3] false),
    (274,.pointer 3),
    (275,.func #[25,3,3,3,274,36] #[3] false),
    (276,.func #[255,169] #[169] false),
    (277,.func #[255,169] #[] false),
    (278,.array 6 3),
    (279,.array 4 3),
    (280,.func #[270] #[4] false),
    (281,.pointer 271),
    (282,.func #[25,3,3,274,36] #[3,3] false),
    (283,.func #[] #[9] false),
    (284, .struct #[fd "_interface" 17 0 false "runtime" 0, fd "concrete" 17 1 false "runtime" 8, fd "asserted" 17 2 false "runtime" 16, fd "missingMethod" 9 3 false "runtime" 24]),
    (285, .struct #[fd "_interface" 17 0 false "runtime" 0, fd "concrete" 17 1 false "runtime" 8, fd "asserted" 17 2 false "runtime" 16, fd "missingMethod" 9 3 false "runtime" 24]),
    (286,.array 0 16),
    (287, .struct #[fd "_" 286 0 false "runtime" 0]),
    (288, .struct #[fd "_" 286 0 false "runtime" 0]),
    (289,.func #[] #[3] false),
    (290,.int .u8),
    (291,.int .u8),
    (292,.func #[208,208] #[4] false),
    (293,.pointer 5),
    (294,.int .i32),
    (295,.int .i32),
    (296, .struct #[fd "Size_" 12 0 false "" 0, fd "PtrBytes" 12 1 false "" 8, fd "Hash" 172 2 false "" 16, fd "TFlag" 290 3 false "" 20, fd "Align_" 5 4 false "" 21, fd "FieldAlign_" 5 5 false "" 22, fd "Kind_" 291 6 false "" 23, fd "Equal" 292 7 false "" 24, fd "GCData" 293 8 false "" 32, fd "Str" 294 9 false "" 40, fd "PtrToThis" 295 10 false "" 44]),
    (297, .struct #[fd "Size_" 12 0 false "" 0, fd "PtrBytes" 12 1 false "" 8, fd "Hash" 172 2 false "" 16, fd "TFlag" 290 3 false "" 20, fd "Align_" 5 4 false "" 21, fd "FieldAlign_" 5 5 false "" 22, fd "Kind_" 291 6 false "" 23, fd "Equal" 292 7 false "" 24, fd "GCData" 293 8 false "" 32, fd "Str" 294 9 false "" 40, fd "PtrToThis" 295 10 false "" 44])],
  inf := [(1,(some (.nilFunc),1,8)),
    (2,(some (.int .i64 0),1,8)),
    (3,(some (.int .i64 0),1,8)),
    (4,(some (.bool false),1,1)),
    (5,(some (.int .u8 0),1,1)),
    (6,(some (.int .u8 0),1,1)),
    (7,(some (.agg #[.int .i64 0,.int .i64 0,.bool false,.int .u8 0]),4,24)),
    (8,(some (.agg #[.int .i64 0,.int .i64 0,.bool false,.int .u8 0]),4,24)),
    (9,(some (.string ByteArray.empty),1,16)),
    (10,(some (.string ByteArray.empty),1,16)),
    (11,(some (.string ByteArray.empty),1,16)),
    (12,(some (.int .u64 0),1,8)),
    (13,(some (.agg #[.string ByteArray.empty,.int .u64 0]),2,24)),
    (14,(some (.agg #[.string ByteArray.empty,.int .u64 0]),2,24)),
    (15,(some (.pointer none),1,8)),
    (16,(some (.pointer none),1,8)),
    (17,(some (.pointer none),1,8)),
    (18,(some (.agg #[.pointer none]),1,8)),
    (19,(some (.agg #[.pointer none]),1,8)),
    (20,(some (.nilIface),1,16)),
    (21,(some (.int .i32 0),1,4)),
    (22,(some (.agg #[.int .i64 0,.int .i64 0,.int .i64 0]),3,24)),
    (23,(some (.agg #[.int .i64 0,.int .i64 0,.int .i64 0]),3,24)),
    (24,(some (.nilFunc),1,8)),
    (25,(some (.slice none 0 0),1,24)),
    (26,(some (.int .i64 0),1,8)),
    (28,(some (.nilFunc),1,8)),
    (30,(some (.nilFunc),1,8)),
    (31,(some (.nilFunc),1,8)),
    (32,(some (.nilFunc),1,8)),
    (33,(some (.nilFunc),1,8)),
    (34,(some (.nilFunc),1,8)),
    (35,(some (.nilFunc),1,8)),
    (36,(some (.nilFunc),1,8)),
    (37,(some (.nilFunc),1,8)),
    (38,(some (.agg #[.int .i64 0,.int .i64 0,.int .i64 0]),3,24)),
    (39,(some (.agg #[.int .i64 0,.int .i64 0,.int .i64 0]),3,24)),
    (41,(some (.nilFunc),1,8)),
    (43,(some (.nilFunc),1,8)),
    (44,(some (.nilFunc),1,8)),
    (45,(some (.agg #[.int .i64 0,.int .i64 0]),2,16)),
    (46,(some (.agg #[.int .i64 0,.int .i64 0,.int .i64 0,.int .i64 0,.int .i64 0,.int .i64 0,.int .i64 0,.int .i64 0]),8,64)),
    (47,(some (.nilFunc),1,8)),
    (48,(some (.nilFunc),1,8)),
    (49,(some (.nilFunc),1,8)),
    (50,(some (.nilFunc),1,8)),
    (51,(some (.nilFunc),1,8)),
    (52,(some (.slice none 0 0),1,24)),
    (53,(some (.agg #[.int .i64 0,.int .i64 0,.slice none 0 0]),3,40)),
    (54,(some (.agg #[.int .i64 0,.int .i64 0,.slice none 0 0]),3,40)),
    (55,(some (.nilFunc),1,8)),
    (56,(some (.nilFunc),1,8)),
    (57,(some (.nilFunc),1,8)),
    (58,(some (.nilFunc),1,8)),
    (59,(some (.nilFunc),1,8)),
    (60,(some (.agg #[.int .i64 0,.int .i64 0,.slice none 0 0]),3,40)),
    (61,(some (.agg #[.int .i64 0,.int .i64 0,.slice none 0 0]),3,40)),
    (63,(some (.nilFunc),1,8)),
    (64,(some (.slice none 0 0),1,24)),
    (66,(some (.nilFunc),1,8)),
    (67,(some (.slice none 0 0),1,24)),
    (68,(some (.slice none 0 0),1,24)),
    (69,(some (.nilFunc),1,8)),
    (70,(some (.nilFunc),1,8)),
    (71,(some (.nilFunc),1,8)),
    (72,(some (.slice none 0 0),1,24)),
    (73,(some (.nilFunc),1,8)),
    (74,(some (.nilFunc),1,8)),
    (75,(some (.nilFunc),1,8)),
    (77,(some (.nilFunc),1,8)),
    (79,(some (.nilFunc),1,8)),
    (80,(some (.nilFunc),1,8)),
    (82,(some (.nilFunc),1,8)),
    (83,(some (.nilFunc),1,8)),
    (84,(some (.nilFunc),1,8)),
    (85,(some (.nilFunc),1,8)),
    (86,(some (.nilFunc),1,8)),
    (87,(some (.nilFunc),1,8)),
    (88,(some (.nilFunc),1,8)),
    (89,(some (.nilFunc),1,8)),
    (90,(some (.nilFunc),1,8)),
    (91,(some (.nilFunc),1,8)),
    (92,(some (.nilFunc),1,8)),
    (93,(some (.agg #[.int .i64 0,.int .i64 0,.int .i64 0,.int .i64 0,.int .i64 0,.int .i64 0,.int .i64 0,.slice none 0 0]),8,80)),
    (94,(some (.agg #[.int .i64 0,.int .i64 0,.int .i64 0,.int .i64 0,.int .i64 0,.int .i64 0,.int .i64 0,.slice none 0 0]),8,80)),
    (95,(some (.agg #[.int .i64 0,.int .i64 0,.slice none 0 0]),3,40)),
    (97,(some (.nilFunc),1,8)),
    (98,(some (.nilFunc),1,8)),
    (99,(some (.nilFunc),1,8)),
    (100,(some (.nilFunc),1,8)),
    (101,(some (.nilFunc),1,8)),
    (102,(some (.nilFunc),1,8)),
    (103,(some (.nilFunc),1,8)),
    (104,(some (.nilFunc),1,8)),
    (106,(some (.nilFunc),1,8)),
    (107,(some (.nilFunc),1,8)),
    (108,(some (.nilFunc),1,8)),
    (109,(some (.nilFunc),1,8)),
    (110,(some (.nilFunc),1,8)),
    (111,(some (.agg #[.int .i64 0,.int .i64 0,.int .i64 0]),3,24)),
    (112,(some (.agg #[.int .i64 0,.int .i64 0,.int .i64 0]),3,24)),
    (113,(some (.nilFunc),1,8)),
    (115,(some (.nilFunc),1,8)),
    (116,(some (.nilFunc),1,8)),
    (117,(some (.nilFunc),1,8)),
    (118,(some (.pointer none),1,8)),
    (119,(some (.nilFunc),1,8)),
    (120,(some (.pointer none),1,8)),
    (121,(some (.nilFunc),1,8)),
    (122,(some (.nilFunc),1,8)),
    (123,(some (.nilFunc),1,8)),
    (124,(some (.nilFunc),1,8)),
    (125,(some (.nilFunc),1,8)),
    (126,(some (.nilFunc),1,8)),
    (127,(some (.nilFunc),1,8)),
    (128,(some (.nilFunc),1,8)),
    (129,(some (.nilFunc),1,8)),
    (130,(some (.int .u64 0),1,8)),
    (131,(some (.nilFunc),1,8)),
    (132,(some (.nilFunc),1,8)),
    (133,(some (.slice none 0 0),1,24)),
    (134,(some (.agg #[.int .i64 0,.int .i64 0,.int .i64 0,.slice none 0 0]),4,48)),
    (135,(some (.agg #[.int .i64 0,.int .i64 0,.int .i64 0,.slice none 0 0]),4,48)),
    (137,(some (.nilFunc),1,8)),
    (138,(some (.nilFunc),1,8)),
    (140,(some (.nilFunc),1,8)),
    (141,(some (.nilFunc),1,8)),
    (143,(some (.nilFunc),1,8)),
    (144,(some (.pointer none),1,8)),
    (145,(some (.nilFunc),1,8)),
    (146,(some (.nilFunc),1,8)),
    (147,(some (.nilFunc),1,8)),
    (149,(some (.nilFunc),1,8)),
    (150,(some (.nilFunc),1,8)),
    (152,(some (.nilFunc),1,8)),
    (153,(some (.nilFunc),1,8)),
    (155,(some (.nilFunc),1,8)),
    (156,(some (.nilFunc),1,8)),
    (157,(some (.nilFunc),1,8)),
    (158,(some (.nilFunc),1,8)),
    (159,(some (.nilFunc),1,8)),
    (160,(some (.nilFunc),1,8)),
    (162,(some (.slice none 0 0),1,24)),
    (163,(some (.slice none 0 0),1,24)),
    (165,(some (.agg #[]),0,0)),
    (166,(some (.agg #[]),0,0)),
    (167,(some (.agg #[]),0,0)),
    (168,(some (.agg #[]),0,0)),
    (169,(some (.int .u64 0),1,8)),
    (170,(some (.agg #[.int .u64 0]),1,8)),
    (171,(some (.agg #[.int .u64 0]),1,8)),
    (172,(some (.int .u32 0),1,4)),
    (173,(some (.agg #[.int .u64 0,.int .u32 0]),2,16)),
    (174,(some (.agg #[.int .u64 0,.int .u32 0]),2,16)),
    (175,(some (.nilFunc),1,8)),
    (176,(some (.nilFunc),1,8)),
    (178,(some (.nilFunc),1,8)),
    (179,(some (.pointer none),1,8)),
    (181,(some (.nilFunc),1,8)),
    (182,(some (.nilFunc),1,8)),
    (183,(some (.nilFunc),1,8)),
    (184,(some (.pointer none),1,8)),
    (186,(some (.nilFunc),1,8)),
    (187,(some (.nilFunc),1,8)),
    (188,(some (.nilFunc),1,8)),
    (189,(some (.agg #[.int .i64 0,.int .i64 0,.int .i64 0,.int .i64 0,.int .i64 0,.int .i64 0,.int .i64 0,.int .i64 0,.int .i64 0,.int .i64 0,.int .i64 0,.int .i64 0,.int .i64 0,.int .i64 0,.int .i64 0,.int .i64 0,.int .i64 0,.int .i64 0,.int .i64 0,.int .i64 0,.int .i64 0,.int .i64 0]),22,176)),
    (190,(some (.nilFunc),1,8)),
    (191,(some (.pointer none),1,8)),
    (192,(some (.nilFunc),1,8)),
    (193,(some (.nilFunc),1,8)),
    (194,(some (.nilFunc),1,8)),
    (196,(some (.nilFunc),1,8)),
    (197,(some (.slice none 0 0),1,24)),
    (198,(some (.nilFunc),1,8)),
    (199,(some (.nilFunc),1,8)),
    (200,(some (.nilFunc),1,8)),
    (201,(some (.nilFunc),1,8)),
    (202,(some (.nilFunc),1,8)),
    (203,(some (.nilFunc),1,8)),
    (204,(some (.nilFunc),1,8)),
    (205,(some (.pointer none),1,8)),
    (206,(some (.nilFunc),1,8)),
    (207,(some (.nilFunc),1,8)),
    (208,(some (.pointer none),1,8)),
    (209,(some (.nilFunc),1,8)),
    (210,(some (.nilFunc),1,8)),
    (211,(some (.nilFunc),1,8)),
    (212,(some (.pointer none),1,8)),
    (213,(some (.nilFunc),1,8)),
    (214,(some (.slice none 0 0),1,24)),
    (215,(some (.agg #[.slice none 0 0,.int .u32 0,.int .i64 0]),3,40)),
    (216,(some (.agg #[.slice none 0 0,.int .u32 0,.int .i64 0]),3,40)),
    (218,(some (.nilFunc),1,8)),
    (219,(some (.agg #[.slice none 0 0,.int .u32 0,.int .i64 0,.int .u32 0,.slice none 0 0]),5,72)),
    (220,(some (.agg #[.slice none 0 0,.int .u32 0,.int .i64 0,.int .u32 0,.slice none 0 0]),5,72)),
    (221,(some (.nilFunc),1,8)),
    (222,(some (.nilFunc),1,8)),
    (223,(some (.nilFunc),1,8)),
    (224,(some (.nilFunc),1,8)),
    (225,(some (.nilFunc),1,8)),
    (226,(some (.nilFunc),1,8)),
    (227,(some (.agg #[.slice none 0 0,.int .u32 0,.int .i64 0,.int .u32 0,.slice none 0 0,.bool false]),6,80)),
    (228,(some (.agg #[.slice none 0 0,.int .u32 0,.int .i64 0,.int .u32 0,.slice none 0 0,.bool false]),6,80)),
    (229,(some (.nilFunc),1,8)),
    (230,(some (.nilFunc),1,8)),
    (231,(some (.nilFunc),1,8)),
    (233,(some (.nilFunc),1,8)),
    (234,(some (.nilFunc),1,8)),
    (235,(some (.nilFunc),1,8)),
    (236,(some (.nilFunc),1,8)),
    (237,(some (.nilFunc),1,8)),
    (238,(some (.int .i64 0),1,8)),
    (240,(some (.nilFunc),1,8)),
    (241,(some (.nilFunc),1,8)),
    (242,(some (.nilFunc),1,8)),
    (244,(some (.nilFunc),1,8)),
    (245,(some (.nilFunc),1,8)),
    (246,(some (.nilFunc),1,8)),
    (247,(some (.int .i64 0),1,8)),
    (248,(some (.nilFunc),1,8)),
    (249,(some (.nilFunc),1,8)),
    (250,(some (.nilFunc),1,8)),
    (251,(some (.nilFunc),1,8)),
    (252,(some (.nilFunc),1,8)),
    (253,(some (.pointer none),1,8)),
    (254,(some (.nilFunc),1,8)),
    (255,(some (.pointer none),1,8)),
    (256,(some (.nilFunc),1,8)),
    (257,(some (.nilFunc),1,8)),
    (258,(some (.pointer none),1,8)),
    (259,(some (.agg #[.int .u32 0,.int .u32 0]),2,8)),
    (260,(some (.agg #[.int .u32 0,.int .u32 0]),2,8)),
    (261,(some (.pointer none),1,8)),
    (262,(some (.slice none 0 0),1,24)),
    (263,(some (.nilFunc),1,8)),
    (264,(some (.nilFunc),1,8)),
    (265,(some (.nilFunc),1,8)),
    (266,(some (.nilFunc),1,8)),
    (267,(some (.nilFunc),1,8)),
    (268,(some (.nilFunc),1,8)),
    (269,(some (.agg #[.int .i64 0,.int .i64 0,.int .i64 0]),3,24)),
    (270,(some (.agg #[.int .i64 0,.int .i64 0,.int .i64 0]),3,24)),
    (271,(some (.int .u64 0),1,8)),
    (272,(some (.nilFunc),1,8)),
    (273,(some (.nilFunc),1,8)),
    (274,(some (.pointer none),1,8)),
    (275,(some (.nilFunc),1,8)),
    (276,(some (.nilFunc),1,8)),
    (277,(some (.nilFunc),1,8)),
    (278,(some (.agg #[.int .i64 0,.int .i64 0,.int .i64 0,.int .i64 0,.int .i64 0,.int .i64 0]),6,48)),
    (279,(some (.agg #[.int .i64 0,.int .i64 0,.int .i64 0,.int .i64 0]),4,32)),
    (280,(some (.nilFunc),1,8)),
    (281,(some (.pointer none),1,8)),
    (282,(some (.nilFunc),1,8)),
    (283,(some (.nilFunc),1,8)),
    (284,(some (.agg #[.pointer none,.pointer none,.pointer none,.string ByteArray.empty]),4,40)),
    (285,(some (.agg #[.pointer none,.pointer none,.pointer none,.string ByteArray.empty]),4,40)),
    (286,(some (.agg #[]),0,0)),
    (287,(some (.agg #[]),0,0)),
    (288,(some (.agg #[]),0,0)),
    (289,(some (.nilFunc),1,8)),
    (290,(some (.int .u8 0),1,1)),
    (291,(some (.int .u8 0),1,1)),
    (292,(some (.nilFunc),1,8)),
    (293,(some (.pointer none),1,8)),
    (294,(some (.int .i32 0),1,4)),
    (295,(some (.int .i32 0),1,4)),
    (296,(some (.agg #[.int .u64 0,.int .u64 0,.int .u32 0,.int .u8 0,.int .u8 0,.int .u8 0,.int .u8 0,.nilFunc,.pointer none,.int .i32 0,.int .i32 0]),11,48)),
    (297,(some (.agg #[.int .u64 0,.int .u64 0,.int .u32 0,.int .u8 0,.int .u8 0,.int .u8 0,.int .u8 0,.nilFunc,.pointer none,.int .i32 0,.int .i32 0]),11,48))],
  fld := [(7,[(0,(1,false)),(1,(1,false)),(2,(1,false)),(3,(1,false))]),
    (8,[(0,(1,false)),(1,(1,false)),(2,(1,false)),(3,(1,false))]),
    (13,[(0,(1,false)),(1,(1,false))]),
    (14,[(0,(1,false)),(1,(1,false))]),
    (18,[(0,(1,false))]),
    (19,[(0,(1,false))]),
    (22,[(0,(1,false)),(1,(1,false)),(2,(1,false))]),
    (23,[(0,(1,false)),(1,(1,false)),(2,(1,false))]),
    (38,[(0,(1,false)),(1,(1,false)),(2,(1,false))]),
    (39,[(0,(1,false)),(1,(1,false)),(2,(1,false))]),
    (53,[(0,(1,false)),(1,(1,false)),(2,(1,false))]),
    (54,[(0,(1,false)),(1,(1,false)),(2,(1,false))]),
    (60,[(0,(1,false)),(1,(1,false)),(2,(1,false))]),
    (61,[(0,(1,false)),(1,(1,false)),(2,(1,false))]),
    (93,[(0,(1,false)),(1,(1,false)),(2,(1,false)),(3,(1,false)),(4,(1,false)),(5,(1,false)),(6,(1,false)),(7,(1,false))]),
    (94,[(0,(1,false)),(1,(1,false)),(2,(1,false)),(3,(1,false)),(4,(1,false)),(5,(1,false)),(6,(1,false)),(7,(1,false))]),
    (95,[(0,(1,false)),(1,(1,false)),(2,(1,false))]),
    (111,[(0,(1,false)),(1,(1,false)),(2,(1,false))]),
    (112,[(0,(1,false)),(1,(1,false)),(2,(1,false))]),
    (134,[(0,(1,false)),(1,(1,false)),(2,(1,false)),(3,(1,false))]),
    (135,[(0,(1,false)),(1,(1,false)),(2,(1,false)),(3,(1,false))]),
    (165,[]),
    (166,[]),
    (167,[]),
    (168,[]),
    (170,[(0,(0,true)),(0,(0,true)),(0,(1,false))]),
    (171,[(0,(0,true)),(0,(0,true)),(0,(1,false))]),
    (173,[(0,(0,true)),(0,(1,true)),(1,(1,false))]),
    (174,[(0,(0,true)),(0,(1,true)),(1,(1,false))]),
    (215,[(0,(1,false)),(1,(1,false)),(2,(1,false))]),
    (216,[(0,(1,false)),(1,(1,false)),(2,(1,false))]),
    (219,[(0,(3,true)),(3,(1,false)),(4,(1,false))]),
    (220,[(0,(3,true)),(3,(1,false)),(4,(1,false))]),
    (227,[(0,(3,true)),(3,(1,false)),(4,(1,false)),(5,(1,false))]),
    (228,[(0,(3,true)),(3,(1,false)),(4,(1,false)),(5,(1,false))]),
    (259,[(0,(1,false)),(1,(1,false))]),
    (260,[(0,(1,false)),(1,(1,false))]),
    (269,[(0,(1,false)),(1,(1,false)),(2,(1,false))]),
    (270,[(0,(1,false)),(1,(1,false)),(2,(1,false))]),
    (284,[(0,(1,false)),(1,(1,false)),(2,(1,false)),(3,(1,false))]),
    (285,[(0,(1,false)),(1,(1,false)),(2,(1,false)),(3,(1,false))]),
    (287,[(0,(0,true))]),
    (288,[(0,(0,true))]),
    (296,[(0,(1,false)),(1,(1,false)),(2,(1,false)),(3,(1,false)),(4,(1,false)),(5,(1,false)),(6,(1,false)),(7,(1,false)),(8,(1,false)),(9,(1,false)),(10,(1,false))]),
    (297,[(0,(1,false)),(1,(1,false)),(2,(1,false)),(3,(1,false)),(4,(1,false)),(5,(1,false)),(6,(1,false)),(7,(1,false)),(8,(1,false)),(9,(1,false)),(10,(1,false))])],
  eqs := [(22,3),(23,3),(38,3),(39,3),(45,2),(111,3),(112,3),(161,256),(165,0),(166,0),(167,0),(168,0),(259,2),(260,2),(269,3),(270,3),(278,6),(279,4)] }
theorem alP1 {α : Type} {R : Nat → α → Prop} {k : Nat} {x : α} {l : List (Nat × α)} (h : R k x) (h2 : allP R l) : allP R ((k,x) :: l) := ⟨h,h2⟩
theorem tab_und : allP (fun k D => Try.prog.underlying k = some D) tab.und := by
  unfold tab
  repeat (refine alP1 (by kernel_rfl) ?_)
  exact trivial
theorem tab_inf : allP (fun k x => tyI Try.prog k = some x) tab.inf := by
  unfold tab
  repeat (refine alP1 (by kernel_rfl) ?_)
  exact trivial
theorem tab_fld : allP (fun k x => fieldsP Try.prog k = some x) tab.fld := by
  unfold tab
  repeat (refine alP1 (by kernel_rfl) ?_)
  exact trivial
theorem tab_eqs : allP (fun k L => eqInts Try.prog k = true ∧ eqLen Try.prog k = L) tab.eqs := by
  unfold tab
  repeat (refine alP1 ⟨by kernel_rfl,by kernel_rfl⟩ ?_)
  exact trivial
theorem tab_ok : tab.ok Try.prog := ⟨tab_und,tab_inf,tab_fld,tab_eqs⟩
def cas : List (Nat × Nat) := [(2,0),(3,0),(4,0),(5,0),(6,0),(7,0),(8,0),(9,0),(10,0),(11,0),(12,0),(13,0),(14,0),(15,0),(16,0),(17,0),(18,0),(19,0),(20,0),(21,0),(22,0),(23,0),(24,0),(25,0),(26,0),(27,0),(28,0),(29,0),(30,0),(31,0),(32,0),(33,0),(34,0),(35,0),(36,0),(37,0),(38,0),(39,0),(40,0),(41,0),(42,0),(43,0),(44,0),(45,0),(46,0),(47,0),(48,0),(49,0),(50,0),(51,0),(52,0),(53,0),(54,0),(55,0),(56,0),(57,0),(58,0),(59,0),(60,0),(61,0),(62,0),(63,0),(64,0),(65,0),(66,0),(67,0),(68,0),(69,0),(70,0),(71,0),(72,0),(73,0),(74,0),(75,0),(76,0),(77,0),(78,0),(79,0),(80,0),(81,0),(82,0),(83,0),(84,0),(85,0),(86,0),(87,0),(88,0),(89,0),(90,0),(91,0),(92,0),(93,0),(94,0),(95,0),(96,0),(97,0),(98,0),(99,0),(100,0),(101,0),(102,0),(103,0),(104,0),(105,0),(106,0),(107,0),(108,0),(109,0),(110,0),(111,0),(112,0),(113,0),(114,0),(115,0),(116,0),(117,0),(118,0),(119,0),(120,0),(121,0),(122,0),(123,0),(124,0),(125,0),(126,0),(127,0),(128,0),(129,0),(130,0),(131,0),(132,0),(133,0),(134,0),(135,0),(136,0),(137,0),(138,0),(139,0),(140,0),(141,0),(142,0),(143,0),(144,0),(145,0),(146,0),(147,0),(148,0),(149,0),(150,0),(152,0),(156,0),(161,0),(162,0),(163,0),(164,0),(165,0),(166,0),(167,0),(168,0),(169,0),(170,0),(171,0),(172,0),(173,0),(174,0),(175,0),(176,0),(177,0),(178,0),(179,0),(180,0),(181,0),(182,0),(183,0),(184,0),(185,0),(186,0),(190,0),(191,0),(193,0),(197,0),(198,0),(199,0),(200,0),(201,0),(202,0),(203,0),(204,0),(205,0),(206,0),(207,0),(208,0),(212,0),(213,0),(214,0)]
theorem cas_ok : allP (fun k _ => callable Try.prog k = true) cas := by
  unfold cas
  repeat (refine alP1 (by kernel_rfl) ?_)
  exact trivial
end Go.Proofs.Ytelpkjellakigaa
/- What a run of the abstract machine asks of the program (printed by a program). -/
set_option maxRecDepth 1000000
namespace Go.Proofs.Ytelpkjellakigaa
open Go
noncomputable def ctx : Ctx := ⟨tab,[(2,Try.f2),(3,Try.f3),(4,Try.f4),(5,Try.f5),(6,Try.f6),(7,Try.f7),(8,Try.f8),(9,Try.f9),(10,Try.f10),(11,Try.f11),(12,Try.f12),(13,Try.f13),(14,Try.f14),(15,Try.f15),(16,Try.f16),(17,Try.f17),(18,Try.f18),(19,Try.f19),(20,Try.f20),(21,Try.f21),(22,Try.f22),(23,Try.f23),(24,Try.f24),(25,Try.f25),(26,Try.f26),(27,Try.f27),(28,Try.f28),(29,Try.f29),(30,Try.f30),(31,Try.f31),(32,Try.f32),(33,Try.f33),(34,Try.f34),(35,Try.f35),(36,Try.f36),(37,Try.f37),(38,Try.f38),(39,Try.f39),(40,Try.f40),(41,Try.f41),(42,Try.f42),(43,Try.f43),(44,Try.f44),(45,Try.f45),(46,Try.f46),(47,Try.f47),(48,Try.f48),(49,Try.f49),(50,Try.f50),(51,Try.f51),(52,Try.f52),(53,Try.f53),(54,Try.f54),(55,Try.f55),(56,Try.f56),(57,Try.f57),(58,Try.f58),(59,Try.f59),(60,Try.f60),(61,Try.f61),(62,Try.f62),(63,Try.f63),(64,Try.f64),(65,Try.f65),(66,Try.f66),(67,Try.f67),(68,Try.f68),(69,Try.f69),(70,Try.f70),(71,Try.f71),(72,Try.f72),(73,Try.f73),(74,Try.f74),(75,Try.f75),(76,Try.f76),(77,Try.f77),(78,Try.f78),(79,Try.f79),(80,Try.f80),(81,Try.f81),(82,Try.f82),(83,Try.f83),(84,Try.f84),(85,Try.f85),(86,Try.f86),(87,Try.f87),(88,Try.f88),(89,Try.f89),(90,Try.f90),(91,Try.f91),(92,Try.f92),(93,Try.f93),(94,Try.f94),(95,Try.f95),(96,Try.f96),(97,Try.f97),(98,Try.f98),(99,Try.f99),(100,Try.f100),(101,Try.f101),(102,Try.f102),(103,Try.f103),(104,Try.f104),(105,Try.f105),(106,Try.f106),(107,Try.f107),(108,Try.f108),(109,Try.f109),(110,Try.f110),(111,Try.f111),(112,Try.f112),(113,Try.f113),(114,Try.f114),(115,Try.f115),(116,Try.f116),(117,Try.f117),(118,Try.f118),(119,Try.f119),(120,Try.f120),(121,Try.f121),(122,Try.f122),(123,Try.f123),(124,Try.f124),(125,Try.f125),(126,Try.f126),(127,Try.f127),(128,Try.f128),(129,Try.f129),(130,Try.f130),(131,Try.f131),(132,Try.f132),(133,Try.f133),(134,Try.f134),(135,Try.f135),(136,Try.f136),(137,Try.f137),(138,Try.f138),(139,Try.f139),(140,Try.f140),(141,Try.f141),(142,Try.f142),(143,Try.f143),(144,Try.f144),(145,Try.f145),(146,Try.f146),(147,Try.f147),(148,Try.f148),(149,Try.f149),(150,Try.f150),(152,Try.f152),(156,Try.f156),(161,Try.f161),(162,Try.f162),(163,Try.f163),(164,Try.f164),(165,Try.f165),(166,Try.f166),(167,Try.f167),(168,Try.f168),(169,Try.f169),(170,Try.f170),(171,Try.f171),(172,Try.f172),(173,Try.f173),(174,Try.f174),(175,Try.f175),(176,Try.f176),(177,Try.f177),(178,Try.f178),(179,Try.f179),(180,Try.f180),(181,Try.f181),(182,Try.f182),(183,Try.f183),(184,Try.f184),(185,Try.f185),(186,Try.f186),(190,Try.f190),(191,Try.f191),(193,Try.f193),(197,Try.f197),(198,Try.f198),(199,Try.f199),(200,Try.f200),(201,Try.f201),(202,Try.f202),(203,Try.f203),(204,Try.f204),(205,Try.f205),(206,Try.f206),(207,Try.f207),(208,Try.f208),(212,Try.f212),(213,Try.f213),(214,Try.f214)],cas⟩
set_option maxRecDepth 100000 in
theorem fns_ok : allP (fun k f => Try.prog.funcs[k]? = some f) ctx.fns := ⟨Try.func2,⟨Try.func3,⟨Try.func4,⟨Try.func5,⟨Try.func6,⟨Try.func7,⟨Try.func8,⟨Try.func9,⟨Try.func10,⟨Try.func11,⟨Try.func12,⟨Try.func13,⟨Try.func14,⟨Try.func15,⟨Try.func16,⟨Try.func17,⟨Try.func18,⟨Try.func19,⟨Try.func20,⟨Try.func21,⟨Try.func22,⟨Try.func23,⟨Try.func24,⟨Try.func25,⟨Try.func26,⟨Try.func27,⟨Try.func28,⟨Try.func29,⟨Try.func30,⟨Try.func31,⟨Try.func32,⟨Try.func33,⟨Try.func34,⟨Try.func35,⟨Try.func36,⟨Try.func37,⟨Try.func38,⟨Try.func39,⟨Try.func40,⟨Try.func41,⟨Try.func42,⟨Try.func43,⟨Try.func44,⟨Try.func45,⟨Try.func46,⟨Try.func47,⟨Try.func48,⟨Try.func49,⟨Try.func50,⟨Try.func51,⟨Try.func52,⟨Try.func53,⟨Try.func54,⟨Try.func55,⟨Try.func56,⟨Try.func57,⟨Try.func58,⟨Try.func59,⟨Try.func60,⟨Try.func61,⟨Try.func62,⟨Try.func63,⟨Try.func64,⟨Try.func65,⟨Try.func66,⟨Try.func67,⟨Try.func68,⟨Try.func69,⟨Try.func70,⟨Try.func71,⟨Try.func72,⟨Try.func73,⟨Try.func74,⟨Try.func75,⟨Try.func76,⟨Try.func77,⟨Try.func78,⟨Try.func79,⟨Try.func80,⟨Try.func81,⟨Try.func82,⟨Try.func83,⟨Try.func84,⟨Try.func85,⟨Try.func86,⟨Try.func87,⟨Try.func88,⟨Try.func89,⟨Try.func90,⟨Try.func91,⟨Try.func92,⟨Try.func93,⟨Try.func94,⟨Try.func95,⟨Try.func96,⟨Try.func97,⟨Try.func98,⟨Try.func99,⟨Try.func100,⟨Try.func101,⟨Try.func102,⟨Try.func103,⟨Try.func104,⟨Try.func105,⟨Try.func106,⟨Try.func107,⟨Try.func108,⟨Try.func109,⟨Try.func110,⟨Try.func111,⟨Try.func112,⟨Try.func113,⟨Try.func114,⟨Try.func115,⟨Try.func116,⟨Try.func117,⟨Try.func118,⟨Try.func119,⟨Try.func120,⟨Try.func121,⟨Try.func122,⟨Try.func123,⟨Try.func124,⟨Try.func125,⟨Try.func126,⟨Try.func127,⟨Try.func128,⟨Try.func129,⟨Try.func130,⟨Try.func131,⟨Try.func132,⟨Try.func133,⟨Try.func134,⟨Try.func135,⟨Try.func136,⟨Try.func137,⟨Try.func138,⟨Try.func139,⟨Try.func140,⟨Try.func141,⟨Try.func142,⟨Try.func143,⟨Try.func144,⟨Try.func145,⟨Try.func146,⟨Try.func147,⟨Try.func148,⟨Try.func149,⟨Try.func150,⟨Try.func152,⟨Try.func156,⟨Try.func161,⟨Try.func162,⟨Try.func163,⟨Try.func164,⟨Try.func165,⟨Try.func166,⟨Try.func167,⟨Try.func168,⟨Try.func169,⟨Try.func170,⟨Try.func171,⟨Try.func172,⟨Try.func173,⟨Try.func174,⟨Try.func175,⟨Try.func176,⟨Try.func177,⟨Try.func178,⟨Try.func179,⟨Try.func180,⟨Try.func181,⟨Try.func182,⟨Try.func183,⟨Try.func184,⟨Try.func185,⟨Try.func186,⟨Try.func190,⟨Try.func191,⟨Try.func193,⟨Try.func197,⟨Try.func198,⟨Try.func199,⟨Try.func200,⟨Try.func201,⟨Try.func202,⟨Try.func203,⟨Try.func204,⟨Try.func205,⟨Try.func206,⟨Try.func207,⟨Try.func208,⟨Try.func212,⟨Try.func213,⟨Try.func214,trivial⟩⟩⟩⟩⟩⟩⟩⟩⟩⟩⟩⟩⟩⟩⟩⟩⟩⟩⟩⟩⟩⟩⟩⟩⟩⟩⟩⟩⟩⟩⟩⟩⟩⟩⟩⟩⟩⟩⟩⟩⟩⟩⟩⟩⟩⟩⟩⟩⟩⟩⟩⟩⟩⟩⟩⟩⟩⟩⟩⟩⟩⟩⟩⟩⟩⟩⟩⟩⟩⟩⟩⟩⟩⟩⟩⟩⟩⟩⟩⟩⟩⟩⟩⟩⟩⟩⟩⟩⟩⟩⟩⟩⟩⟩⟩⟩⟩⟩⟩⟩⟩⟩⟩⟩⟩⟩⟩⟩⟩⟩⟩⟩⟩⟩⟩⟩⟩⟩⟩⟩⟩⟩⟩⟩⟩⟩⟩⟩⟩⟩⟩⟩⟩⟩⟩⟩⟩⟩⟩⟩⟩⟩⟩⟩⟩⟩⟩⟩⟩⟩⟩⟩⟩⟩⟩⟩⟩⟩⟩⟩⟩⟩⟩⟩⟩⟩⟩⟩⟩⟩⟩⟩⟩⟩⟩⟩⟩⟩⟩⟩⟩⟩⟩⟩⟩⟩⟩⟩⟩⟩⟩⟩⟩⟩⟩
theorem ctx_ok : ctx.ok Try.prog := ⟨tab_ok,fns_ok,cas_ok,by kernel_rfl⟩
end Go.Proofs.Ytelpkjellakigaa
/- Decompiling: the program's functions as the machine over terms takes them. -/
namespace Go.Proofs.Ytelpkjellakigaa
open Go Go.RowKit
noncomputable def dc (l : List (Nat × Ctr)) : DC := ⟨tab,ctx.fns,ctx.cas,l⟩
theorem dc_ok {l : List (Nat × Ctr)} (h : allP (CtrOk Try.prog) l) : (dc l).ok Try.prog := ⟨ctx_ok.T,ctx_ok.fns,ctx_ok.cas,ctx_ok.mixed,h⟩
theorem ctr_ok {l : List (Nat × Ctr)} (hl : allP (CtrOk Try.prog) l) {f : Nat} {an : An} {Fn : Nat} {σ ρ : Ty} {g : Nat → σ.den → Option ρ.den} (h : ∀ fu x,(topG (ρ := ρ) (dc l) (drR (dc l)) f an Fn σ (.var x)).den fu = g fu x) : CtrOk Try.prog Fn ⟨σ,ρ,g,Fn⟩ :=
  fun fu x _ hy => topG_ok (dc_ok hl) (fun _ _ hS => drR_ok (dc_ok hl) hS) ((h fu x).trans hy)
end Go.Proofs.Ytelpkjellakigaa
/- An operation or a call that touches few blocks: all others stay. No program in sight. -/
namespace Go.Proofs.Ytelpkjellakigaa.Rn
open Go Go.RowKit Go.Proofs.Ytelpkjellakigaa

/-- values that name no memory but blocks of p -/
def pf (p : Nat → Bool) : AV → Bool
  | .box id _ | .elt id _ _ _ | .osl id _ | .vsl id _ _ _ => p id
  | .agg cs | .tup cs | .fn _ cs => go p cs
  | .ro .. => false
  | .peek .. => false
  | _ => true
where go (p : Nat → Bool) : List AV → Bool
  | [] => true
  | a :: l => pf p a && go p l
theorem pf_at {p : Nat → Bool} : ∀ {cs : List AV} {i : Nat} {a : AV},pf.go p cs = true → cs[i]? = some a → pf p a = true
  | [],i,a,_,h => by simp at h
  | b :: l,i,a,h0,h => by
    rw [pf.go,Bool.and_eq_true] at h0
    cases i with
    | zero => simp at h;subst h;exact h0.1
    | succ i => exact pf_at h0.2 (by simpa using h)
def pfB (p : Nat → Bool) : AB → Bool
  | .dead => true
  | .box cs _ => pf.go p cs
  | .row _ rows _ => rows.all (pf.go p)
/-- what p's blocks stand for is the same in both -/
def SameP (p : Nat → Bool) (G G' : Gh) : Prop := ∀ id,p id = true → id < G.nx → id < G'.nx ∧ G'.ρ id = G.ρ id ∧ G'.ln id = G.ln id ∧ G'.sz id = G.sz id
theorem lift {p : Nat → Bool} {w : World} {G G' : Gh} (h : SameP p G G') {a : AV} {v : Value} (r : RelV w G a v) (hp : pf p a = true) : RelV w G' a v := by
  induction r with
  | dat r =>
    cases r with
    | ro => simp [pf] at hp
    | any => exact .dat (.any _)
    | und => exact .dat .und
    | int => exact .dat (.int _ _)
    | bool => exact .dat (.bool _)
    | str => exact .dat (.str _)
    | nilp => exact .dat .nilp
    | nils => exact .dat .nils
    | nilf => exact .dat .nilf
  | box id off g hid hs hr =>
    obtain ⟨a1,a2,a3,a4⟩ := h id (by simpa only [pf] using hp) hid
    exact .box id off g a1 (a4 ▸ hs) (by rw [a2];exact hr)
  | elt id n i j v hid hin hs hn hv hr =>
    obtain ⟨a1,a2,a3,a4⟩ := h id (by simpa only [pf] using hp) hid
    refine .elt id n i j v a1 hin (by omega) (by omega) hv (fun e => ?_)
    obtain ⟨g,c,e1,e2⟩ := hr (by omega)
    exact ⟨g,c,by rw [a2];exact e1,by rw [a4];exact e2⟩
  | osl id n v hid hs hn hv hr =>
    obtain ⟨a1,a2,a3,a4⟩ := h id (by simpa only [pf] using hp) hid
    exact .osl id n v a1 (by omega) (by omega) hv (fun e => by rw [a2];exact hr (by omega))
  | vsl id n lo len v hid hs hn hle hv hr =>
    obtain ⟨a1,a2,a3,a4⟩ := h id (by simpa only [pf] using hp) hid
    refine .vsl id n lo len v a1 (by omega) (by omega) hle hv (fun e => ?_)
    obtain ⟨A,c,e1,e2,e3,e4⟩ := hr (by omega)
    refine ⟨A,c,e1,e2,e3,fun hl => ?_⟩
    obtain ⟨g,c',e5,e6⟩ := e4 hl
    exact ⟨g,c',by rw [a2];exact e5,by rw [a4];exact e6⟩
  | peek row j b o f hr hb h1 h2 => simp [pf] at hp
  | agg cs vs hl _ ih => exact .agg cs vs hl fun i a v g1 g2 => ih i a v g1 g2 (pf_at (by simpa only [pf] using hp) g1)
  | tup cs vs hl _ ih => exact .tup cs vs hl fun i a v g1 g2 => ih i a v g1 g2 (pf_at (by simpa only [pf] using hp) g1)
  | fn f cs fs vs hf hl _ ih => exact .fn f cs fs vs hf hl fun i a v g1 g2 => ih i a v g1 g2 (pf_at (by simpa only [pf] using hp) g1)
theorem liftB {p : Nat → Bool} {w0 w : World} {G G' : Gh} {id : Nat} {b : AB} (h : SameP p G G') (r : ABok w0 w G id b) (hp : pfB p b = true) (hid : b = .dead ∨ p id = true) : ABok w0 w G' id b := by
  cases b with
  | dead => trivial
  | box cs e =>
    obtain ⟨h1,h2,g,vs,h3,h4,h5,h6⟩ := r
    obtain ⟨p1,p2,p3,p4⟩ := h id (hid.resolve_left (by simp)) h1
    refine ⟨p1,by rw [p4];exact h2,g,vs,by rw [p2];exact h3,h4,h5,fun i a hi => ?_⟩
    obtain ⟨v,g1,g2,g3⟩ := h6 i a hi
    exact ⟨v,g1,g2,lift h g3 (pf_at hp hi)⟩
  | row sz rows e =>
    obtain ⟨h1,h2,h3,h4,flat,h5,h6,h7⟩ := r
    obtain ⟨p1,p2,p3,p4⟩ := h id (hid.resolve_left (by simp)) h1
    refine ⟨p1,h2,by rw [p4];exact h3,by rw [p3];exact h4,flat,by rw [p2];exact h5,h6,fun i row hi => ?_⟩
    obtain ⟨g1,g2⟩ := h7 i row hi
    refine ⟨g1,fun j a hj => ?_⟩
    obtain ⟨v,g3,g4⟩ := g2 j a hj
    exact ⟨v,g3,lift h g4 (pf_at (List.all_eq_true.1 hp row (List.mem_of_getElem? hi)) hj)⟩
/-- the memory with the blocks of p alone -/
def cut (G : Gh) (p : Nat → Bool) (k : Nat) : Gh := ⟨fun id => if p id = true ∧ id < G.nx then G.ρ id else undef,fun b => ∃ id,p id = true ∧ id < G.nx ∧ ownBlk (G.ρ id) = some b,G.ln,G.sz,k,G.bs⟩
/-- p's blocks as they are in the one,all others as in the other -/
def join (G G1 : Gh) (p : Nat → Bool) : Gh := ⟨fun id => if p id = true ∧ id < G.nx then G1.ρ id else G.ρ id,fun b => G.own b ∨ G1.own b,fun id => if p id = true ∧ id < G.nx then G1.ln id else G.ln id,fun id => if p id = true ∧ id < G.nx then G1.sz id else G.sz id,G.nx,G.bs⟩
section
variable {p : Nat → Bool} {w0 w w' : World} {G G1 : Gh} {k : Nat} {hp hp2 : List (Nat × AB)}
theorem cut_mv {hp : List (Nat × AB)} (h : HR w0 w G hp) (hk : ∀ id,p id = true → id < k) : Mv p w G w (cut G p k) := by
  refine ⟨fun _ _ _ => rfl,fun b ⟨id,h1,h2,h3⟩ => .inl (h.ownhas id b h2 h3),rfl,fun id h1 h2 => ⟨hk id h1,?_,rfl,rfl⟩⟩
  show (if p id = true ∧ id < G.nx then G.ρ id else undef) = _
  rw [if_pos ⟨h1,h2⟩]
/-- the few blocks,said of the cut memory -/
theorem cut_hr (h : HR w0 w G hp) (hk : ∀ id,p id = true → id < k) (h2 : ∀ id,look .dead hp2 id = .dead ∨ (p id = true ∧ look .dead hp2 id = look .dead hp id ∧ (look .dead hp2 id).nmd p = true)) : HR w0 w (cut G p k) hp2 := by
  have hm := cut_mv h hk
  refine ⟨h.bs,h.below,fun b ⟨id,h1,h2,h3⟩ => h.ownlt b (h.ownhas id b h2 h3),fun id => ?_,fun id id' g h1 h2 hne e1 e2 => ?_,fun id g h1 h2 => ?_⟩
  · rcases h2 id with e | ⟨e1,e2,e3⟩
    · rw [e];trivial
    · exact ABok.mv (e2 ▸ h.blk id) hm e3 (.inr e1) (fun g _ => rfl)
  · have e1 : ownBlk (if p id = true ∧ id < G.nx then G.ρ id else undef) = some g := e1
    have e2 : ownBlk (if p id' = true ∧ id' < G.nx then G.ρ id' else undef) = some g := e2
    by_cases c1 : p id = true ∧ id < G.nx
    · by_cases c2 : p id' = true ∧ id' < G.nx
      · rw [if_pos c1] at e1
        rw [if_pos c2] at e2
        exact h.dist id id' g c1.2 c2.2 hne e1 e2
      · rw [if_neg c2] at e2;cases e2
    · rw [if_neg c1] at e1;cases e1
  · have h2 : ownBlk (if p id = true ∧ id < G.nx then G.ρ id else undef) = some g := h2
    by_cases c1 : p id = true ∧ id < G.nx
    · rw [if_pos c1] at h2;exact ⟨id,c1.1,c1.2,h2⟩
    · rw [if_neg c1] at h2;cases h2
/-- G,but with the blocks of N as G' has them -/
def patch (G G' : Gh) (N : Nat → Bool) : Gh := ⟨fun id => if N id = true then G'.ρ id else G.ρ id,G.own,fun id => if N id = true then G'.ln id else G.ln id,fun id => if N id = true then G'.sz id else G.sz id,G.nx,G.bs⟩
theorem patch_mv {lv N : Nat → Bool} {w : World} {G G' : Gh} (h : ∀ id,lv id = true → N id = false) : Mv lv w G w (patch G G' N) := by
  refine ⟨fun _ _ _ => rfl,fun _ hb => .inl hb,rfl,fun id hl hid => ?_⟩
  have hn : ¬ (N id = true) := by rw [h id hl];decide
  exact ⟨hid,if_neg hn,if_neg hn,if_neg hn⟩
/-- the numbers from k up to k2 -/
def newN (k k2 : Nat) (id : Nat) : Bool := Nat.ble k id && Nat.blt id k2
theorem newN_iff {k k2 id : Nat} : newN k k2 id = true ↔ k ≤ id ∧ id < k2 := by
  unfold newN
  rw [Bool.and_eq_true]
  simp
def orN (p : Nat → Bool) (k k2 : Nat) (id : Nat) : Bool := p id || newN k k2 id
theorem orN_iff {p : Nat → Bool} {k k2 id : Nat} : orN p k k2 id = true ↔ p id = true ∨ (k ≤ id ∧ id < k2) := by
  unfold orN
  rw [Bool.or_eq_true,newN_iff]
/-- the outcome,said of the whole memory -/
structure Out (p : Nat → Bool) (k k2 : Nat) (w0 w : World) (G : Gh) (hp2 : List (Nat × AB)) (w' : World) (G' : Gh) : Prop where
  hr : HR w0 w' G' hp2
  ext : Ext w (patch G G' (newN k k2)) w' G'
  nx : G'.nx = G.nx
  same : ∀ j,orN p k k2 j = false → G'.ρ j = G.ρ j ∧ G'.ln j = G.ln j ∧ (j < G.nx → ∀ g,ownBlk (G.ρ j) = some g → w'.heap[g]? = w.heap[g]?)
theorem join_out {k2 : Nat} (h : HR w0 w G hp) (hk : ∀ id,p id = true → id < k) (hkn : k2 ≤ G.nx) (h1 : HR w0 w' G1 hp2) (hx : Ext w (cut G p k) w' G1) (hn : G1.nx = k2)
    (h2 : ∀ id,look .dead hp2 id = .dead ∨ (orN p k k2 id = true ∧ pfB (orN p k k2) (look .dead hp2 id) = true)) : Out p k k2 w0 w G hp2 w' (join G G1 (orN p k k2)) ∧ SameP (orN p k k2) G1 (join G G1 (orN p k k2)) := by
  have hkk : k ≤ k2 := by rw [← hn];exact hx.nx
  have hlt2 : ∀ id,orN p k k2 id = true → id < k2 := fun id c => by
    rcases orN_iff.1 c with c | c
    · have := hk id c;omega
    · exact c.2
  have hs : SameP (orN p k k2) G1 (join G G1 (orN p k k2)) := by
    intro id c1 c2
    have hlt : id < G.nx := by have := hlt2 id c1;omega
    refine ⟨hlt,?_,?_,?_⟩
    · show (if orN p k k2 id = true ∧ id < G.nx then G1.ρ id else G.ρ id) = _;rw [if_pos ⟨c1,hlt⟩]
    · show (if orN p k k2 id = true ∧ id < G.nx then G1.ln id else G.ln id) = _;rw [if_pos ⟨c1,hlt⟩]
    · show (if orN p k k2 id = true ∧ id < G.nx then G1.sz id else G.sz id) = _;rw [if_pos ⟨c1,hlt⟩]
  have own1 : ∀ b,G1.own b → G.own b ∨ w.heap.size ≤ b := by
    intro b hb
    rcases hx.own2 b hb with ⟨id,c1,c2,c3⟩ | h'
    · exact .inl (h.ownhas id b c2 c3)
    · exact .inr h'
  have ext : Ext w (patch G (join G G1 (orN p k k2)) (newN k k2)) w' (join G G1 (orN p k k2)) := by
    refine ⟨hx.size,fun b hb hl => hx.keep b (fun ⟨id,c1,c2,c3⟩ => hb (h.ownhas id b c2 c3)) hl,fun b hb => hb.elim .inl (own1 b),Nat.le_refl _,rfl,fun id hid => ?_⟩
    have hid : id < G.nx := hid
    by_cases cn : newN k k2 id = true
    · have e1 : (patch G (join G G1 (orN p k k2)) (newN k k2)).ρ id = (join G G1 (orN p k k2)).ρ id := if_pos cn
      have e2 : (patch G (join G G1 (orN p k k2)) (newN k k2)).ln id = (join G G1 (orN p k k2)).ln id := if_pos cn
      have e3 : (patch G (join G G1 (orN p k k2)) (newN k k2)).sz id = (join G G1 (orN p k k2)).sz id := if_pos cn
      rw [e1,e2,e3]
      exact ⟨Nat.le_refl _,rfl,fun _ => rfl,fun _ => rfl⟩
    · have e1 : (patch G (join G G1 (orN p k k2)) (newN k k2)).ρ id = G.ρ id := if_neg cn
      have e2 : (patch G (join G G1 (orN p k k2)) (newN k k2)).ln id = G.ln id := if_neg cn
      have e3 : (patch G (join G G1 (orN p k k2)) (newN k k2)).sz id = G.sz id := if_neg cn
      rw [e1,e2,e3]
      show G.ln id ≤ (if orN p k k2 id = true ∧ id < G.nx then G1.ln id else G.ln id) ∧ G.sz id = (if orN p k k2 id = true ∧ id < G.nx then G1.sz id else G.sz id) ∧ ((if orN p k k2 id = true ∧ id < G.nx then G1.ln id else G.ln id) = G.ln id → (if orN p k k2 id = true ∧ id < G.nx then G1.ρ id else G.ρ id) = G.ρ id) ∧ (G.sz id = 0 → (if orN p k k2 id = true ∧ id < G.nx then G1.ln id else G.ln id) = G.ln id)
      by_cases c : orN p k k2 id = true ∧ id < G.nx
      · have cp : p id = true := (orN_iff.1 c.1).resolve_right fun h => cn (newN_iff.2 h)
        have hidk : id < (cut G p k).nx := hk id cp
        obtain ⟨a1,a2,a3,a4⟩ := hx.gh id hidk
        have e0 : (cut G p k).ρ id = G.ρ id := by show (if p id = true ∧ id < G.nx then G.ρ id else undef) = _;rw [if_pos ⟨cp,hid⟩]
        have a1 : G.ln id ≤ G1.ln id := a1
        have a2 : G.sz id = G1.sz id := a2
        have a3 : G1.ln id = G.ln id → G1.ρ id = G.ρ id := fun e => (a3 e).trans e0
        have a4 : G.sz id = 0 → G1.ln id = G.ln id := a4
        rw [if_pos c,if_pos c,if_pos c]
        exact ⟨a1,a2,a3,a4⟩
      · rw [if_neg c,if_neg c,if_neg c]
        exact ⟨Nat.le_refl _,rfl,fun _ => rfl,fun _ => rfl⟩
  have jρ : ∀ id,orN p k k2 id = true → id < G.nx → (join G G1 (orN p k k2)).ρ id = G1.ρ id := fun id c1 c2 => if_pos ⟨c1,c2⟩
  have jρ' : ∀ id,¬ (orN p k k2 id = true ∧ id < G.nx) → (join G G1 (orN p k k2)).ρ id = G.ρ id := fun id c => if_neg c
  have mix : ∀ id id' g,orN p k k2 id = true → id < G.nx → ¬ (orN p k k2 id' = true ∧ id' < G.nx) → id' < G.nx → ownBlk (G1.ρ id) = some g → ownBlk (G.ρ id') = some g → False := by
    intro id id' g c1 c2 c3 c4 e1 e2
    have hg1 : G1.own g := h1.ownhas id g (by rw [hn];exact hlt2 id c1) e1
    have hg := h.ownhas id' g c4 e2
    rcases hx.own2 g hg1 with ⟨q,d1,d2,d3⟩ | h'
    · exact h.dist q id' g d2 c4 (fun e => c3 (by rw [← e];exact ⟨orN_iff.2 (.inl d1),d2⟩)) d3 e2
    · have := (h.ownlt g hg).2;omega
  refine ⟨⟨⟨h.bs,h1.below,fun b hb => ?_,fun id => ?_,fun id id' g c1 c2 hne e1 e2 => ?_,fun id g c1 c2 => ?_⟩,ext,rfl,fun j hj => ?_⟩,hs⟩
  · rcases hb with hb | hb
    · have := h.ownlt b hb;have := hx.size;omega
    · exact h1.ownlt b hb
  · rcases h2 id with e | ⟨e1,e2⟩
    · rw [e];trivial
    · exact liftB hs (h1.blk id) e2 (.inr e1)
  · have c1 : id < G.nx := c1
    have c2 : id' < G.nx := c2
    by_cases d1 : orN p k k2 id = true ∧ id < G.nx
    · rw [jρ id d1.1 d1.2] at e1
      by_cases d2 : orN p k k2 id' = true ∧ id' < G.nx
      · rw [jρ id' d2.1 d2.2] at e2
        exact h1.dist id id' g (by rw [hn];exact hlt2 id d1.1) (by rw [hn];exact hlt2 id' d2.1) hne e1 e2
      · rw [jρ' id' d2] at e2
        exact mix id id' g d1.1 d1.2 d2 c2 e1 e2
    · rw [jρ' id d1] at e1
      by_cases d2 : orN p k k2 id' = true ∧ id' < G.nx
      · rw [jρ id' d2.1 d2.2] at e2
        exact mix id' id g d2.1 d2.2 d1 c1 e2 e1
      · rw [jρ' id' d2] at e2
        exact h.dist id id' g c1 c2 hne e1 e2
  · have c1 : id < G.nx := c1
    by_cases d1 : orN p k k2 id = true ∧ id < G.nx
    · rw [jρ id d1.1 d1.2] at c2
      exact .inr (h1.ownhas id g (by rw [hn];exact hlt2 id d1.1) c2)
    · rw [jρ' id d1] at c2
      exact .inl (h.ownhas id g c1 c2)
  · have c : ¬ (orN p k k2 j = true ∧ j < G.nx) := fun c => by rw [c.1] at hj;cases hj
    refine ⟨jρ' j c,if_neg c,fun hlt g e => ?_⟩
    have hg := h.ownhas j g hlt e
    refine hx.keep g (fun ⟨q,d1,d2,d3⟩ => ?_) (h.ownlt g hg).2
    exact h.dist q j g d2 hlt (fun e => c (by rw [← e];exact ⟨orN_iff.2 (.inl d1),d2⟩)) d3 e
end
end Go.Proofs.Ytelpkjellakigaa.Rn
/- An operation or a call that touches few blocks,inside a greater memory. No program in sight. -/
namespace Go.Proofs.Ytelpkjellakigaa.Rn
open Go Go.RowKit Go.Proofs.Ytelpkjellakigaa

/-- an operation or a call,from state to state -/
structure OpY (P : Program) (n : Nat) (o : Oper) (st st' : ASt) : Prop where
  out : ∀ K a w (Φ : Act → World → Prop) (Q : Exit → Act → World → Prop),Rel K n st a w → (∀ v w',Rel K n st' (a.put o.dst v) w' → Φ (a.put o.dst v) w') → o.wp P a w Φ Q
section
variable {P : Program} {n : Nat} {o : Oper} {st st' : ASt}
theorem OpY.ofV (h : OpV P n o st st') : OpY P n o st st' := ⟨fun K a w Φ Q r k => by
  obtain ⟨v,w',h1,h2⟩ := h K a w r
  exact oper_of_run h1 (k v w' h2)⟩
theorem OpY.call {cal : Operand} {args : Array Operand} {ats : Array TypeId} {F : FuncId} {caps xs : List AV} {x : AV} {hp : List (Nat × AB)} {nx : Nat}
    (ho : o.op = .call { callee := .value cal,args := args,argTypes := ats }) (hc : st.ev cal = .fn F caps) (hxs : args.toList.map st.ev ++ caps = xs) (hF : callable P F = true) (hd : dok o.dst n = true)
    (h : AC P F xs st.heap st.nx (fun x1 hp1 nx1 => x1 = x ∧ hp1 = hp ∧ nx1 = nx)) : OpY P n o st (callSt st o.dst x hp nx) := ⟨fun K a w Φ Q ⟨G,r⟩ k => by
  subst hxs
  have e1 := r.ev cal
  rw [hc] at e1
  obtain ⟨us,e2,hl,hr⟩ := e1.fn'
  have hargs : ArgsV w G (args.toList.map st.ev ++ caps) (args.map a.eval ++ us) := by
    refine ⟨by simp [hl],fun i x v hx hv => ?_⟩
    by_cases hi : i < args.size
    · rw [List.getElem?_append_left (by simpa using hi)] at hx
      rw [Array.getElem?_append_left (by simpa using hi)] at hv
      refine list_ev r args.toList i x v hx ?_
      rw [List.getElem?_map,Array.getElem?_toList]
      rw [Array.getElem?_map] at hv
      exact hv
    · rw [List.getElem?_append_right (by simp;omega)] at hx
      rw [Array.getElem?_append_right (by simp;omega)] at hv
      exact hr _ x v hx (by simpa using hv)
  have hcall := h K.w0 w G _ r.hr r.nx hargs
  have hrun : (execOp a.eval o).run P w = .ok (.enter F (args.map a.eval ++ us)) w := by
    simp [execOp,ho,resolve,e2,Deferred.ofValue,invoke,run_callFunc' hF]
  unfold Oper.wp
  rw [hrun]
  refine hcall.mono fun e w' ⟨v,x',hp',nx',G',he,⟨e3,e4,e5⟩,hnx,hHR,hRV,hExt⟩ => ?_
  subst he
  subst e3;subst e4;subst e5
  exact k v w' ⟨G',(r.turn nx' hnx hHR hExt).put (dok_lt hd) hRV⟩⟩
theorem memC_Y {C : Ctx} {self : SelfT} (hC : C.ok P) (hS : SelfOk P self) (hd : dok o.dst n = true) (h : memC C self st o = some st') : OpY P n o st st' := by
  unfold memC at h
  split at h
  · rename_i s p h1
    cases hb : obM C.T st o.op with
    | false => rw [hb] at h;cases h
    | true =>
      rw [hb] at h
      simp only [cond_true] at h
      injection h with h
      subst h
      exact .ofV (stepM_ok hC.T h1 (obM_ok h1 hb) hd)
  · split at h
    · rename_i s h1
      injection h with h
      subst h
      exact .ofV (stepXN_ok hC.T h1 hd)
    · obtain ⟨d,op,ty,ps,af,g⟩ := o
      simp only at h
      unfold callC at h
      split at h
      · rename_i cal args ats _ _
        split at h
        · rename_i F caps h1
          split at h
          · rename_i q h2
            split at h
            · rename_i x hp nx h3
              injection h with h
              subst h
              exact .call rfl h1 (evL_eq (st := st) args.toList caps).symm (allP_at hC.cas h2) hd (hS _ _ _ _ _ _ _ h3)
            · cases h
          · cases h
        · cases h
      · cases h
end
/-- what the operation leaves in its register -/
def dstV (st : ASt) (d : Option Nat) : AV := match d with
  | some t => look .any st.regs t
  | none => .any
theorem OpY.run {P : Program} {n : Nat} {o : Oper} {p : Nat → Bool} {k k2 : Nat} {rg : List (Nat × AV)} {hp Hp : List (Nat × AB)} {st' : ASt} {w0 w : World} {G : Gh} {a : Act}
    (h : OpY P n o ⟨rg,hp,k⟩ st') (hd : dok o.dst n = true) (hk : ∀ id,p id = true → id < k) (hn : st'.nx = k2)
    (hs : ∀ id,look .dead hp id = .dead ∨ (p id = true ∧ look .dead hp id = look .dead Hp id ∧ (look .dead hp id).nmd p = true))
    (ht : ∀ id,look .dead st'.heap id = .dead ∨ (orN p k k2 id = true ∧ pfB (orN p k k2) (look .dead st'.heap id) = true))
    (hr : ∀ t,(look .any rg t).nmd p = true) (hx : pf (orN p k k2) (dstV st' o.dst) = true)
    (hHR : HR w0 w G Hp) (hkn : k2 ≤ G.nx) (hsz : a.tmps.size = n) (hdf : a.defers = []) (hrg : ∀ t,RelV w G (look .any rg t) (a.tmps.getD t undef))
    {Φ : Act → World → Prop} {Q : Exit → Act → World → Prop} (hΦ : ∀ v w' G',Out p k k2 w0 w G st'.heap w' G' → RelV w' G' (dstV st' o.dst) v → Φ (a.put o.dst v) w') : o.wp P a w Φ Q := by
  have hm := cut_mv hHR hk
  have hHR1 := cut_hr (k := k) hHR hk hs
  have hR : RelG ⟨w0,w,cut G p k⟩ n ⟨rg,hp,k⟩ a w (cut G p k) := ⟨rfl,hHR1,Ext.refl _ _,hsz,hdf,fun t => (hrg t).mv hm (hr t)⟩
  refine h.out ⟨w0,w,cut G p k⟩ a w Φ Q ⟨_,hR⟩ fun v w' ⟨G1,r1⟩ => ?_
  obtain ⟨ho,hsm⟩ := join_out (hp := Hp) hHR hk hkn r1.hr r1.ext (r1.nx.trans hn) ht
  refine hΦ v w' _ ho ?_
  cases hdd : o.dst with
  | none => exact .dat (.any v)
  | some t =>
    rw [hdd] at hx r1 hd
    have hlt : t < n := dok_lt hd t rfl
    have e := r1.regs t
    have e2 : (a.put (some t) v).tmps.getD t undef = v := by
      show (a.tmps.setIfInBounds t v).getD t undef = v
      rw [getD_set (by rw [hsz];exact hlt),if_pos rfl]
    rw [e2] at e
    exact lift hsm e hx
end Go.Proofs.Ytelpkjellakigaa.Rn
