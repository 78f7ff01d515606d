/- A run of the abstract machine by one computed function: control, functions. No program in sight. -/
import Derived.Test.YtnbmldnahacnlaaSxR
import Derived.Scope
namespace Go.Proofs.Ytnbmldnahacnlaa
open Go Go.RowKit

section
variable {P : Program} {n : Nat} {T : Tab} {st st' : ASt} {o : Oper} {x : AV} {Q : Exit → ASt → Prop} {ops : Array Oper} {l : List Oper}
/-! ### Control -/
def loopN (f : ASt → Option (Exit × ASt)) : Nat → ASt → Option (Exit × ASt)
  | 0, _ => none
  | m + 1, st => match f st with
    | some (.normal, st') => loopN f m st'
    | r => r
def runR (C : Ctx) (self : SelfT) (n : Nat) (l : List Oper) (T : List (List Nat)) (st : ASt) : Option ASt :=
  runG C self n ⟨l⟩ T st.nx (runS C self n ⟨l⟩ (l.drop (cutG T 0 l))) 0 [] (l.take (cutG T 0 l)) st
def runC (C : Ctx) (self : SelfT) (fl n : Nat) : Code → ASt → Option (Exit × ASt)
  | .skip, st => some (.normal, st)
  | .label _, st => some (.normal, st)
  | .exit id, st => some (.exit id, st)
  | .ret, st => some (.ret, st)
  | .seq a b, st => match runC C self fl n a st with
    | some (.normal, st') => runC C self fl n b st'
    | r => r
  | .cond c a b, st => match st.ev c with
    | .bool true => runC C self fl n a st
    | .bool false => runC C self fl n b st
    | _ => none
  | .block id c, st => match runC C self fl n c st with
    | some (.exit id', st') => bif Nat.beq id' id then some (.normal, st') else some (.exit id', st')
    | r => r
  | .loop c, st => loopN (runC C self fl n c) fl st
  | .region _ ⟨l⟩ false, st => match runS C self n ⟨l⟩ l st with
    | some st' => some (.normal, st')
    | none => none
  | .region _ ⟨l⟩ true, st => bif planOk ⟨l⟩ n then (match runR C self n l (ancs l []) st with
    | some st' => some (.normal, st')
    | none => none) else none
  | .rangeFunc .., _ => none
  | .scope c, st => match runC C self fl n c st with
    | some (.goto _, _) => none
    | r => r
  | .goto _, _ => none
  | .refuse _, _ => none
theorem AW.mono {c : Code} {Q' : Exit → ASt → Prop} (h : AW P n c Q st) (hq : ∀ e s, Q e s → Q' e s) : AW P n c Q' st := .mk fun K a w r => wp_mono (h K a w r) fun e _ _ ⟨s, h1, h2⟩ => ⟨s, hq e s h1, h2⟩
/-- a scope that no jump leaves -/
def notGoto : Exit → Bool
  | .goto _ => false
  | _ => true
theorem AW.scope {c : Code} (h : AW P n c (fun e s => notGoto e = true ∧ Q e s) st) : AW P n (.scope c) Q st := .mk fun K a w r => wp_scope_straight (wp_mono (h K a w r) fun e a' w' ⟨s, ⟨h1, h2⟩, h3⟩ => by
  cases e with
  | goto l => cases h1
  | _ => exact ⟨s, h2, h3⟩)
theorem cutG_ok {T : List (List Nat)} : ∀ (l : List Oper) (i : Nat), tailOk' T (cutG T i l) (l.drop (cutG T i l - i)) = true := by
  intro l
  have hge : ∀ (l : List Oper) (i : Nat), i ≤ cutG T i l := by
    intro l
    induction l with
    | nil => intro i; exact Nat.le_refl _
    | cons o l ih =>
      intro i
      rw [cutG]
      cases h : tailOk' T i (o :: l) with
      | true => exact Nat.le_refl _
      | false => simp only [cond_false]; have := ih (i + 1); omega
  induction l with
  | nil => intro i; rw [cutG, Nat.sub_self]; rfl
  | cons o l ih =>
    intro i
    rw [cutG]
    cases h : tailOk' T i (o :: l) with
    | true => simp only [cond_true, Nat.sub_self]; exact h
    | false =>
      simp only [cond_false]
      have h1 := ih (i + 1)
      have h2 := hge l (i + 1)
      rw [show cutG T (i + 1) l - i = (cutG T (i + 1) l - (i + 1)) + 1 by omega, List.drop_succ_cons]
      exact h1
theorem loopN_ok {c : Code} {f : ASt → Option (Exit × ASt)} (hf : ∀ st e st', f st = some (e, st') → AW P n c (fun e1 s => e1 = e ∧ s = st') st) {m : Nat} {st : ASt} {e : Exit} {st' : ASt} (h : loopN f m st = some (e, st')) :
    AW P n (.loop c) (fun e1 s => e1 = e ∧ s = st') st := .mk fun K a w r => by
  have key : ∀ (m : Nat) (st : ASt), loopN f m st = some (e, st') → ∀ (a : Act) (w : World), Rel K n st a w → ∀ (b : Frame) (k : List Item) (cs : List Frame),
      ∃ e1 a' w', Qs K n (fun e1 s => e1 = e ∧ s = st') e1 a' w' ∧ Arrives P (lone (b.at a (.code c :: .inLoop c :: k)) cs w) b k cs e1 a' w' := by
    intro m
    induction m with
    | zero => intro st h; cases h
    | succ m ih =>
      intro st h a w hr b k cs
      rw [loopN] at h
      cases h1 : f st with
      | none => rw [h1] at h; cases h
      | some p =>
        obtain ⟨e0, s0⟩ := p
        rw [h1] at h
        obtain ⟨e₁, a₁, w₁, ⟨s1, ⟨rfl, rfl⟩, hr'⟩, harr⟩ := hf st e0 s0 h1 K a w hr b (.inLoop c :: k) cs
        have other : some (e₁, s1) = some (e, st') → e₁ ≠ .normal → Arrives P (lone (b.at a (.code c :: .inLoop c :: k)) cs w) b k cs e₁ a₁ w₁ → ∃ e1 a' w', Qs K n (fun e1 s => e1 = e ∧ s = st') e1 a' w' ∧ Arrives P (lone (b.at a (.code c :: .inLoop c :: k)) cs w) b k cs e1 a' w' := by
          intro h _ harr
          injection h with h
          injection h with h2 h3
          exact ⟨_, a₁, w₁, ⟨s1, ⟨h2, h3⟩, hr'⟩, harr⟩
        cases e₁ with
        | normal =>
          obtain ⟨e₂, a₂, w₂, hq₂, harr₂⟩ := ih s1 h a₁ w₁ hr' b k cs
          exact ⟨e₂, a₂, w₂, hq₂, .of_steps (Steps.trans harr (.one step_inLoop)) harr₂⟩
        | exit id => exact other h (by simp) (.pass (x := .inLoop c) rfl (fun _ _ => .inl (by simp)) harr)
        | goto l => exact other h (by simp) (.pass (x := .inLoop c) rfl (fun _ _ => .inl (by simp)) harr)
        | ret => exact other h (by simp) (.pass (x := .inLoop c) rfl (fun _ _ => .inl (by simp)) harr)
        | panic ch => exact other h (by simp) (.pass (x := .inLoop c) rfl (fun _ _ => .inl (by simp)) harr)
        | outgrown => exact other h (by simp) (.pass (x := .inLoop c) rfl (fun _ _ => .inl (by simp)) harr)
  intro b k cs
  obtain ⟨e1, a', w', hq, harr⟩ := key m st h a w r b k cs
  exact ⟨e1, a', w', hq, .of_steps (.one step_loop) harr⟩
theorem runC_ok {C : Ctx} {self : SelfT} {fl : Nat} (hC : C.ok P) (hS : SelfOk P self) : ∀ (c : Code) (st : ASt) (e : Exit) (st' : ASt), runC C self fl n c st = some (e, st') → AW P n c (fun e1 s => e1 = e ∧ s = st') st := by
  intro c
  induction c with
  | skip => intro st e st' h; rw [runC] at h; injection h with h; injection h with h1 h2; exact AW.skip ⟨h1, h2⟩
  | label l => intro st e st' h; rw [runC] at h; injection h with h; injection h with h1 h2; exact AW.label ⟨h1, h2⟩
  | exit id => intro st e st' h; rw [runC] at h; injection h with h; injection h with h1 h2; exact AW.exit ⟨h1, h2⟩
  | ret => intro st e st' h; rw [runC] at h; injection h with h; injection h with h1 h2; exact AW.ret ⟨h1, h2⟩
  | seq a b iha ihb =>
    intro st e st' h
    rw [runC] at h
    cases h1 : runC C self fl n a st with
    | none => rw [h1] at h; cases h
    | some p =>
      obtain ⟨e0, s0⟩ := p
      rw [h1] at h
      refine AW.seq ((iha st e0 s0 h1).mono ?_)
      rintro e1 s ⟨rfl, rfl⟩
      cases e1 with
      | normal => exact ihb _ _ _ h
      | _ =>
        injection h with h
        injection h with h2 h3
        exact ⟨h2, h3⟩
  | cond c a b iha ihb =>
    intro st e st' h
    rw [runC] at h
    split at h
    · rename_i h1
      exact AW.condT h1 (iha _ _ _ h)
    · rename_i h1
      exact AW.condF h1 (ihb _ _ _ h)
    · cases h
  | block id c ih =>
    intro st e st' h
    rw [runC] at h
    cases h1 : runC C self fl n c st with
    | none => rw [h1] at h; cases h
    | some p =>
      obtain ⟨e0, s0⟩ := p
      rw [h1] at h
      refine AW.block ((ih st e0 s0 h1).mono ?_)
      rintro e1 s ⟨rfl, rfl⟩
      cases e1 with
      | exit id' =>
        simp only at h
        cases hb : Nat.beq id' id with
        | true =>
          rw [hb] at h
          have := Nat.eq_of_beq_eq_true hb
          subst this
          simp only [cond_true] at h
          injection h with h
          injection h with h2 h3
          exact inA_eq ⟨h2, h3⟩
        | false =>
          rw [hb] at h
          simp only [cond_false] at h
          injection h with h
          injection h with h2 h3
          exact inA_ne hb ⟨h2, h3⟩
      | _ =>
        injection h with h
        injection h with h2 h3
        exact ⟨h2, h3⟩
  | loop c ih =>
    intro st e st' h
    rw [runC] at h
    exact loopN_ok ih h
  | region id ops d =>
    intro st e st' h
    obtain ⟨l⟩ := ops
    cases d with
    | false =>
      rw [runC] at h
      cases h1 : runS C self n ⟨l⟩ l st with
      | none => rw [h1] at h; cases h
      | some s =>
        rw [h1] at h
        injection h with h
        injection h with h2 h3
        exact AW.region (runS_ok hC hS l st s h1 ⟨h2, h3⟩)
    | true =>
      rw [runC] at h
      cases hp : planOk ⟨l⟩ n with
      | false => rw [hp] at h; cases h
      | true =>
        rw [hp] at h
        simp only [cond_true] at h
        cases h1 : runR C self n l (ancs l []) st with
        | none => rw [h1] at h; cases h
        | some s =>
          rw [h1] at h
          injection h with h
          injection h with h2 h3
          subst h3
          subst h2
          exact AW.drawG hC.mixed hp (cutG (ancs l []) 0 l) rfl rfl rfl (cutG_ok l 0) (runG_ok hC hS (fun s hs => runS_ok hC hS _ s _ hs ⟨rfl, rfl⟩) _ 0 [] st h1)
  | rangeFunc f ps a b => intro st e st' h; rw [runC] at h; cases h
  | scope c ih =>
    intro st e st' h
    rw [runC] at h
    cases h1 : runC C self fl n c st with
    | none => rw [h1] at h; cases h
    | some p =>
      obtain ⟨e0, s0⟩ := p
      rw [h1] at h
      refine AW.scope ((ih st e0 s0 h1).mono ?_)
      rintro e1 s ⟨rfl, rfl⟩
      cases e1 with
      | goto l => cases h
      | _ =>
        injection h with h
        injection h with h2 h3
        exact ⟨rfl, h2, h3⟩
  | goto l => intro st e st' h; rw [runC] at h; cases h
  | refuse w => intro st e st' h; rw [runC] at h; cases h

/-! ### Functions -/
def resC (C : Ctx) (st : ASt) : List ResultVar → Option (List AV)
  | [] => some []
  | .tmp t :: l => match resC C st l with
    | some xs => some (look .any st.regs t :: xs)
    | none => none
  | .cell t ty :: l => match look .any st.regs t, lk C.T.und ty, lk C.T.inf ty, resC C st l with
    | .box id 0, some D, some (_, s, _), some xs => match look .dead st.heap id with
      | .box cs _ => match partA cs 0 s (aggB D) with
        | some x => some (x :: xs)
        | none => none
      | _ => none
    | _, _, _, _ => none
theorem resC_ok {C : Ctx} (hC : C.ok P) {st : ASt} : ∀ {rs : List ResultVar} {xs : List AV}, resC C st rs = some xs → resL P st rs xs
  | [], xs, h => by injection h with h; subst h; trivial
  | .tmp t :: l, xs, h => by
    rw [resC] at h
    split at h
    · rename_i ys h1
      injection h with h
      subst h
      exact ⟨rfl, resC_ok hC h1⟩
    · cases h
  | .cell t ty :: l, xs, h => by
    rw [resC] at h
    split at h
    · rename_i id D z s b ys h1 h2 h3 h4
      split at h
      · rename_i cs e h5
        split at h
        · rename_i x h6
          injection h with h
          subst h
          exact ⟨⟨id, cs, e, D, _, _, _, h1, h5, allP_at hC.T.und h2, allP_at hC.T.inf h3, h6⟩, resC_ok hC h4⟩
        · cases h
      · cases h
    · cases h
def fL1 {α : Type} : List AV → (List AV → α) → α
  | [], k => k []
  | a :: l, k => fA1 a fun a => fL1 l fun l => k (a :: l)
theorem fL1_eq {α : Type} (l : List AV) : ∀ (k : List AV → α), fL1 l k = k l := by
  induction l with
  | nil => intro k; rfl
  | cons a l ih => intro k; rw [fL1, fA1_eq, ih]
def outC (C : Ctx) (rs : List ResultVar) : Option (Exit × ASt) → Option (AV × List (Nat × AB) × Nat)
  | some (.ret, st) => match resC C st rs with
    | some ys => some (oneOf ys, st.heap, st.nx)
    | none => none
  | some (.normal, st) => match resC C st rs with
    | some ys => some (oneOf ys, st.heap, st.nx)
    | none => none
  | _ => none
def run (C : Ctx) (fl : Nat) : Nat → Nat → List AV → List (Nat × AB) → Nat → Option (AV × List (Nat × AB) × Nat)
  | 0, _, _, _, _ => none
  | f + 1, F, xs, hp, nx => match lk C.fns F with
    | some fn => match fn.body with
      | some c => bif Nat.ble xs.length fn.ntmps then fL1 xs fun xs => outC C fn.results.toList (runC C (run C fl f) fl fn.ntmps c ⟨argR 0 xs, hp, nx⟩) else none
      | none => none
    | none => none
theorem run_ok {C : Ctx} (hC : C.ok P) (fl : Nat) : ∀ f, SelfOk P (run C fl f)
  | 0 => fun F xs hp nx x hp' nx' h => by cases h
  | f + 1 => fun F xs hp nx x hp' nx' h => by
    rw [run] at h
    split at h
    · rename_i fn h1
      split at h
      · rename_i c h2
        cases hb : Nat.ble xs.length fn.ntmps with
        | false => rw [hb] at h; cases h
        | true =>
          rw [hb] at h
          simp only [cond_true] at h
          rw [fL1_eq] at h
          cases hr : runC C (run C fl f) fl fn.ntmps c ⟨argR 0 xs, hp, nx⟩ with
          | none => rw [hr] at h; cases h
          | some p =>
            obtain ⟨e, st⟩ := p
            rw [hr] at h
            have hw := runC_ok hC (run_ok hC fl f) c _ _ _ hr
            have key : ∀ ys, resC C st fn.results.toList = some ys → oneOf ys = x → st.heap = hp' → st.nx = nx' → e = .ret ∨ e = .normal → AC P F xs hp nx (fun x1 hp1 nx1 => x1 = x ∧ hp1 = hp' ∧ nx1 = nx') := by
              intro ys h3 h4 h5 h6 he
              refine AC.body (allP_at hC.fns h1) h2 rfl rfl hb (hw.mono ?_)
              rintro e1 s ⟨rfl, rfl⟩
              exact ⟨he, ys, resC_ok hC h3, h4, h5, h6⟩
            cases e with
            | ret =>
              simp only [outC] at h
              split at h
              · rename_i ys h3
                injection h with h
                simp only [Prod.mk.injEq] at h
                exact key ys h3 h.1 h.2.1 h.2.2 (.inl rfl)
              · cases h
            | normal =>
              simp only [outC] at h
              split at h
              · rename_i ys h3
                injection h with h
                simp only [Prod.mk.injEq] at h
                exact key ys h3 h.1 h.2.1 h.2.2 (.inr rfl)
              · cases h
            | _ => cases h
      · cases h
    · cases h
/-- a closed call -/
def okRun (C : Ctx) (fl f : Nat) (F : Nat) (xs : List AV) : Option AV := match run C fl f F xs [] 0 with
  | some (y, hp, _) => frzRC hp 8 y
  | none => none
theorem AF.run {C : Ctx} (hC : C.ok P) (fl f : Nat) {F : Nat} {xs : List AV} {y : AV} (h : okRun C fl f F xs = some y) : AF P F xs y := by
  unfold okRun at h
  split at h
  · rename_i x hp nx h1
    exact AF.of_AC ((run_ok hC fl f _ _ _ _ _ _ _ h1).mono (by rintro x1 hp1 nx1 ⟨rfl, rfl, rfl⟩; exact frzRC_ok 8 _ _ h))
  · cases h
end
end Go.Proofs.Ytnbmldnahacnlaa
