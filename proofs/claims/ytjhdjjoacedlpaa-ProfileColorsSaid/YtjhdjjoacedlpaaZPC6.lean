/- ProfileColors: for every input this law returns true and leaves its arguments as they were. -/
import Derived.Test.YtjhdjjoacedlpaaZPC5
import Derived.Test.YtjhdjjoacedlpaaRows
import Derived.WalkKit
import Derived.ProofKit
import Derived.SizedLaws
import Derived.BigQuiet
import Derived.Deep.QuietTactic
import Derived.Deep.Slices
import Derived.OpenShut
/- As RnO,without the second way for regions that draw. No program in sight. -/
namespace Go.Proofs.Ytjhdjjoacedlpaa.Rn
open Go Go.RowKit Go.Proofs.Ytjhdjjoacedlpaa Go.Proofs.Ytjhdjjoacedlpaa.Dr

section
variable {P : Program} {n : Nat} {st st' : ASt} {o : Oper} {x : AV} {Q : Exit → ASt → Prop} {ops : Array Oper} {l : List Oper}
def runD (C : Ctx) (self : SelfT) (n : Nat) (l : List Oper) (T : List (List Nat)) (st : ASt) : Option ASt := bif planR l T && tailR l T (tailM T l.length) then runE C self n l T st else none
theorem runD_ok {C : Ctx} {self : SelfT} {id : Nat} (hC : C.ok P) (hS : SelfOk P self) (h : runD C self n l (ancs l []) st = some st') : AW P n (.region id ⟨l⟩ true) (fun e s => e = .normal ∧ s = st') st := by
  unfold runD at h
  cases hp : (planR l (ancs l []) && tailR l (ancs l []) (tailM (ancs l []) l.length)) with
  | false => rw [hp] at h;cases h
  | true =>
    rw [hp] at h;rw [Bool.and_eq_true] at hp;exact runE_ok hC hS hp.1 hp.2 h
def runC (C : Ctx) (self : SelfT) (fl n : Nat) : Code → ASt → Option (Exit × ASt)
  | .skip,st => some (.normal,st)
  | .label _,st => some (.normal,st)
  | .exit id,st => some (.exit id,st)
  | .ret,st => some (.ret,st)
  | .seq a b,st => match runC C self fl n a st with
    | some (.normal,st') => runC C self fl n b st'
    | r => r
  | .cond c a b,st => match st.ev c with
    | .bool true => runC C self fl n a st
    | .bool false => runC C self fl n b st
    | _ => none
  | .block id c,st => match runC C self fl n c st with
    | some (.exit id',st') => bif Nat.beq id' id then some (.normal,st') else some (.exit id',st')
    | r => r
  | .loop c,st => loopN (runC C self fl n c) fl st
  | .region _ ⟨l⟩ false,st => match runF C self n ⟨l⟩ l st with
    | some st' => some (.normal,st')
    | none => none
  | .region _ ⟨l⟩ true,st => match runD C self n l (ancs l []) st with
    | some st' => some (.normal,st')
    | none => none
  | .rangeFunc ..,_ => none
  | .scope c,st => match runC C self fl n c st with
    | some (.goto _,_) => none
    | r => r
  | .goto _,_ => none
  | .refuse _,_ => none
theorem runC_ok {C : Ctx} {self : SelfT} {fl : Nat} (hC : C.ok P) (hS : SelfOk P self) : ∀ (c : Code) (st : ASt) (e : Exit) (st' : ASt),runC C self fl n c st = some (e,st') → AW P n c (fun e1 s => e1 = e ∧ s = st') st := by
  intro c
  induction c with
  | skip => intro st e st' h;rw [runC] at h;injection h with h;injection h with h1 h2;exact AW.skip ⟨h1,h2⟩
  | label l => intro st e st' h;rw [runC] at h;injection h with h;injection h with h1 h2;exact AW.label ⟨h1,h2⟩
  | exit id => intro st e st' h;rw [runC] at h;injection h with h;injection h with h1 h2;exact AW.exit ⟨h1,h2⟩
  | ret => intro st e st' h;rw [runC] at h;injection h with h;injection h with h1 h2;exact AW.ret ⟨h1,h2⟩
  | seq a b iha ihb =>
    intro st e st' h;rw [runC] at h
    cases h1 : runC C self fl n a st with
    | none => rw [h1] at h;cases h
    | some p =>
      obtain ⟨e0,s0⟩ := p;rw [h1] at h;refine AW.seq ((iha st e0 s0 h1).mono ?_)
      rintro e1 s ⟨rfl,rfl⟩
      cases e1 with
      | normal => exact ihb _ _ _ h
      | _ =>
        injection h with h
        injection h with h2 h3
        exact ⟨h2,h3⟩
  | cond c a b iha ihb =>
    intro st e st' h;rw [runC] at h;split at h
    · rename_i h1;exact AW.condT h1 (iha _ _ _ h)
    · rename_i h1;exact AW.condF h1 (ihb _ _ _ h)
    · cases h
  | block id c ih =>
    intro st e st' h;rw [runC] at h
    cases h1 : runC C self fl n c st with
    | none => rw [h1] at h;cases h
    | some p =>
      obtain ⟨e0,s0⟩ := p;rw [h1] at h;refine AW.block ((ih st e0 s0 h1).mono ?_)
      rintro e1 s ⟨rfl,rfl⟩
      cases e1 with
      | exit id' =>
        simp only at h
        cases hb : Nat.beq id' id with
        | true =>
          rw [hb] at h;have := Nat.eq_of_beq_eq_true hb;subst this;simp only [cond_true] at h;injection h with h
          injection h with h2 h3
          exact inA_eq ⟨h2,h3⟩
        | false =>
          rw [hb] at h;simp only [cond_false] at h;injection h with h
          injection h with h2 h3
          exact inA_ne hb ⟨h2,h3⟩
      | _ =>
        injection h with h
        injection h with h2 h3
        exact ⟨h2,h3⟩
  | loop c ih =>
    intro st e st' h;rw [runC] at h;exact loopN_ok ih h
  | region id ops d =>
    intro st e st' h;obtain ⟨l⟩ := ops
    cases d with
    | false =>
      rw [runC] at h
      cases h1 : runF C self n ⟨l⟩ l st with
      | none => rw [h1] at h;cases h
      | some s =>
        rw [h1] at h;injection h with h
        injection h with h2 h3
        exact AW.region (runF_ok hC hS l st s h1 ⟨h2,h3⟩)
    | true =>
      rw [runC] at h
      cases h1 : runD C self n l (ancs l []) st with
      | none => rw [h1] at h;cases h
      | some s =>
        rw [h1] at h;injection h with h
        injection h with h2 h3
        subst h3;subst h2;exact runD_ok hC hS h1
  | rangeFunc f ps a b => intro st e st' h;rw [runC] at h;cases h
  | scope c ih =>
    intro st e st' h;rw [runC] at h
    cases h1 : runC C self fl n c st with
    | none => rw [h1] at h;cases h
    | some p =>
      obtain ⟨e0,s0⟩ := p;rw [h1] at h;refine AW.scope ((ih st e0 s0 h1).mono ?_)
      rintro e1 s ⟨rfl,rfl⟩
      cases e1 with
      | goto l => cases h
      | _ =>
        injection h with h
        injection h with h2 h3
        exact ⟨rfl,h2,h3⟩
  | goto l => intro st e st' h;rw [runC] at h;cases h
  | refuse w => intro st e st' h;rw [runC] at h;cases h

theorem out_ok {C : Ctx} {self : SelfT} (hC : C.ok P) (hS : SelfOk P self) {fl F : Nat} {fn : Func} {c : Code} {xs : List AV} {hp hp' : List (Nat × AB)} {nx nx' : Nat} {x : AV} (h1 : lk C.fns F = some fn) (h2 : fn.body = some c) (hb : Nat.ble xs.length fn.ntmps = true)
    (h : outC C fn.results.toList (runC C self fl fn.ntmps c ⟨argR 0 xs,hp,nx⟩) = some (x,hp',nx')) : AC P F xs hp nx (fun y h' n' => y = x ∧ h' = hp' ∧ n' = nx') := by
  cases hr : runC C self fl fn.ntmps c ⟨argR 0 xs,hp,nx⟩ with
  | none => rw [hr] at h;cases h
  | some p =>
    obtain ⟨e,st⟩ := p;rw [hr] at h;have hw := runC_ok hC hS c _ _ _ hr
    have key : ∀ ys,resC C st fn.results.toList = some ys → oneOf ys = x → st.heap = hp' → st.nx = nx' → e = .ret ∨ e = .normal → AC P F xs hp nx (fun x1 hp1 nx1 => x1 = x ∧ hp1 = hp' ∧ nx1 = nx') := by
      intro ys h3 h4 h5 h6 he;refine AC.body (allP_at hC.fns h1) h2 rfl rfl hb (hw.mono ?_)
      rintro e1 s ⟨rfl,rfl⟩
      exact ⟨he,ys,resC_ok hC h3,h4,h5,h6⟩
    cases e with
    | ret =>
      simp only [outC] at h;split at h
      · rename_i ys h3;injection h with h
        simp only [Prod.mk.injEq] at h;exact key ys h3 h.1 h.2.1 h.2.2 (.inl rfl)
      · cases h
    | normal =>
      simp only [outC] at h;split at h
      · rename_i ys h3;injection h with h
        simp only [Prod.mk.injEq] at h;exact key ys h3 h.1 h.2.1 h.2.2 (.inr rfl)
      · cases h
    | _ => cases h
def run (C : Ctx) (fl : Nat) : Nat → Nat → List AV → List (Nat × AB) → Nat → Option (AV × List (Nat × AB) × Nat)
  | 0,_,_,_,_ => none
  | f + 1,F,xs,hp,nx => match lk C.fns F with
    | some fn => match fn.body with
      | some c => bif Nat.ble xs.length fn.ntmps then (match fL1 xs fun xs => outC C fn.results.toList (runC C (run C fl f) fl fn.ntmps c ⟨argR 0 xs,hp,nx⟩) with
        | some (x,hp2,nx2) => gcK hp2 nx x fun hp3 => some (x,hp3,nx2)
        | none => none) else none
      | none => none
    | none => none
end
end Go.Proofs.Ytjhdjjoacedlpaa.Rn
/- Runs that answer some calls by residual programs. No program in sight. -/
namespace Go.Proofs.Ytjhdjjoacedlpaa.Rn
open Go Go.RowKit Go.Proofs.Ytjhdjjoacedlpaa
set_option linter.unusedSimpArgs false
set_option linter.unusedSectionVars false
set_option linter.unusedVariables false
def rowsD {α : Type} (f : List AV → Option (α × List AV)) : List (List AV) → Option (List α)
  | [] => some []
  | row :: l => match f row with
    | some (x,[]) => match rowsD f l with
      | some xs => some (x :: xs)
      | none => none
    | _ => none
def kindE (k k' : IntKind) : Bool := decide (k = k')
def decC : (t : Ty) → List AV → Option (t.den × List AV)
  | .int k,l => match l with
    | .int k' n :: l => bif kindE k' k then some (n,l) else none
    | _ => none
  | .bool,l => match l with
    | .bool b :: l => some (b,l)
    | _ => none
  | .str,l => match l with
    | .str s :: l => some (s.data.toList,l)
    | _ => none
  | .list t,l => match l with
    | .ro _ sz rows :: l => bif Nat.beq sz t.size then (match rowsD (decC t) rows with
      | some xs => some (xs,l)
      | none => none) else none
    | _ => none
  | .unit,l => some ((),l)
  | .pair a b,l => match decC a l with
    | some (x,l') => match decC b l' with
      | some (y,l'') => some ((x,y),l'')
      | none => none
    | none => none
  | .agg t,l => decC t l
  | .ptr _,_ => none
def allD (l : List (List AV)) : Bool := l.all fun row => row.all isD
def fzC (hp : List (Nat × AB)) : (t : Ty) → List AV → Option (t.den × List AV)
  | .int k,l => match l with
    | .int k' n :: l => bif kindE k' k then some (n,l) else none
    | _ => none
  | .bool,l => match l with
    | .bool b :: l => some (b,l)
    | _ => none
  | .str,l => match l with
    | .str s :: l => some (s.data.toList,l)
    | _ => none
  | .list t,l => match l with
    | a :: l => (match a with
      | .nils => some ([],l)
      | .ro _ sz rows => bif Nat.beq sz t.size then (match rowsD (decC t) rows with
        | some xs => some (xs,l)
        | none => none) else none
      | .osl id n => (match look .dead hp id with
        | .row sz rows _ => bif Nat.beq sz t.size && Nat.beq n rows.length && t.flat then (match rowsD (fzC hp t) rows with
          | some xs => some (xs,l)
          | none => none) else none
        | _ => none)
      | .vsl id n lo len => (match look .dead hp id with
        | .row sz rows _ => bif Nat.beq sz t.size && Nat.beq n rows.length && allD rows then (match rowsD (decC t) ((rows.drop lo).take len) with
          | some xs => some (xs,l)
          | none => none) else none
        | _ => none)
      | _ => none)
    | [] => none
  | .unit,l => some ((),l)
  | .pair a b,l => match fzC hp a l with
    | some (x,l') => match fzC hp b l' with
      | some (y,l'') => some ((x,y),l'')
      | none => none
    | none => none
  | .agg t,l => fzC hp t l
  | .ptr _,_ => none
def fzV (hp : List (Nat × AB)) : (t : Ty) → AV → Option t.den
  | .agg t,a => match a with
    | .agg cs => match fzC hp t cs with
      | some (x,[]) => some x
      | _ => none
    | _ => none
  | .ptr t,a => match a with
    | .box id 0 => match look .dead hp id with
      | .box cs _ => match fzC hp t cs with
        | some (x,[]) => bif Nat.blt 0 t.size then some x else none
        | _ => none
      | _ => none
    | _ => none
  | .int k,a => match fzC hp (.int k) [a] with
    | some (x,[]) => some x
    | _ => none
  | .bool,a => match fzC hp .bool [a] with
    | some (x,[]) => some x
    | _ => none
  | .str,a => match fzC hp .str [a] with
    | some (x,[]) => some x
    | _ => none
  | .list t,a => match fzC hp (.list t) [a] with
    | some (x,[]) => some x
    | _ => none
  | .unit,_ => none
  | .pair _ _,_ => none
def fzA (hp : List (Nat × AB)) : (t : Ty) → List AV → Option t.den
  | .pair a b,l => match l with
    | x :: l => match fzV hp a x,fzA hp b l with
      | some u,some v => some (u,v)
      | _,_ => none
    | [] => none
  | .unit,l => match l with
    | [] => some ()
    | _ => none
  | _,_ => none
section
variable {hp : List (Nat × AB)}
theorem rowsD_at {α : Type} {f : List AV → Option (α × List AV)} : ∀ {rows : List (List AV)} {xs : List α},rowsD f rows = some xs → rows.length = xs.length ∧ ∀ (i : Nat) (row : List AV) (x : α),rows[i]? = some row → xs[i]? = some x → f row = some (x,[])
  | [],xs,h => by injection h with h;subst h;exact ⟨rfl,fun i row x h => by simp at h⟩
  | r :: l,xs,h => by
    rw [rowsD] at h;split at h
    · rename_i x h1;split at h
      · rename_i ys h2;injection h with h
        subst h;obtain ⟨e1,e2⟩ := rowsD_at h2;refine ⟨by simp [e1],fun i row y hr hy => ?_⟩
        cases i with
        | zero => simp at hr hy;subst hr;subst hy;exact h1
        | succ i => exact e2 i row y (by simpa using hr) (by simpa using hy)
      · cases h
    · cases h
theorem oldR_app (l m : List AV) : oldR (l ++ m) = oldR l ++ oldR m := oldR_append l m
theorem old_rows {t : Ty} {rows : List (List AV)} {xs : List t.den} (hl : rows.length = xs.length) (h : ∀ (i : Nat) (row : List AV) (x : t.den),rows[i]? = some row → xs[i]? = some x → oldR row = t.cells false x) : oldRR rows = xs.map (t.cells false) := by
  rw [oldRR_map];apply List.ext_getElem?;intro i;rw [List.getElem?_map,List.getElem?_map];by_cases hi : i < rows.length
  · have h1 : rows[i]? = some rows[i] := List.getElem?_eq_getElem hi;have h2 : xs[i]? = some xs[i] := List.getElem?_eq_getElem (by omega);rw [h1,h2];exact congrArg some (h i _ _ h1 h2)
  · rw [List.getElem?_eq_none (by omega),List.getElem?_eq_none (by omega)];rfl
theorem decC_ok : ∀ (t : Ty) (l : List AV) (x : t.den) (r : List AV),decC t l = some (x,r) → ∃ pre,l = pre ++ r ∧ oldR pre = t.cells false x ∧ ∀ a ∈ pre,isD a = true
  | .int k,l,x,r,h => by
    rw [decC.eq_def] at h;simp only at h;split at h
    · rename_i k' n l'
      cases hc : kindE k' k with
      | false => rw [hc] at h;cases h
      | true =>
        rw [hc] at h;simp only [cond_true,Option.some.injEq,Prod.mk.injEq] at h;obtain ⟨rfl,rfl⟩ := h;have := of_decide_eq_true hc;subst this;exact ⟨[.int k' n],rfl,by simp [oldR,AV.old,Ty.cells],by simp [isD]⟩
    · cases h
  | .bool,l,x,r,h => by
    rw [decC.eq_def] at h;simp only at h;split at h
    · rename_i b l';simp only [Option.some.injEq,Prod.mk.injEq] at h;obtain ⟨rfl,rfl⟩ := h;exact ⟨[.bool b],rfl,by simp [oldR,AV.old,Ty.cells],by simp [isD]⟩
    · cases h
  | .str,l,x,r,h => by
    rw [decC.eq_def] at h;simp only at h;split at h
    · rename_i b l';simp only [Option.some.injEq,Prod.mk.injEq] at h;obtain ⟨rfl,rfl⟩ := h;exact ⟨[.str b],rfl,by simp [oldR,AV.old,Ty.cells],by simp [isD]⟩
    · cases h
  | .list t,l,x,r,h => by
    rw [decC.eq_def] at h;simp only at h;split at h
    · rename_i fr sz rows l'
      cases hc : Nat.beq sz t.size with
      | false => rw [hc] at h;cases h
      | true =>
        rw [hc] at h;simp only [cond_true] at h;split at h
        · rename_i xs h1;simp only [Option.some.injEq,Prod.mk.injEq] at h;obtain ⟨rfl,rfl⟩ := h;obtain ⟨e1,e2⟩ := rowsD_at h1;refine ⟨[.ro fr sz rows],rfl,?_,by simp [isD]⟩
          have hr : oldRR rows = xs.map (t.cells false) := old_rows e1 fun i row y hr hy => by
            obtain ⟨pre,g1,g2,_⟩ := decC_ok t row y [] (e2 i row y hr hy);rw [g1,List.append_nil];exact g2
          simp only [oldR,AV.old,Ty.cells,hr,Nat.eq_of_beq_eq_true hc]
        · cases h
    · cases h
  | .unit,l,x,r,h => by
    rw [decC] at h;simp only [Option.some.injEq,Prod.mk.injEq] at h;obtain ⟨_,rfl⟩ := h;exact ⟨[],rfl,by simp [oldR,Ty.cells],by simp⟩
  | .pair a b,l,x,r,h => by
    rw [decC] at h;split at h
    · rename_i u l1 h1;split at h
      · rename_i v l2 h2;simp only [Option.some.injEq,Prod.mk.injEq] at h;obtain ⟨rfl,rfl⟩ := h;obtain ⟨p1,q1,q2,q3⟩ := decC_ok a l u l1 h1;obtain ⟨p2,q4,q5,q6⟩ := decC_ok b l1 v l2 h2;refine ⟨p1 ++ p2,by rw [q1,q4,List.append_assoc],by rw [oldR_app,q2,q5,Ty.cells],fun c hc => ?_⟩;rcases List.mem_append.1 hc with hc | hc
        · exact q3 c hc
        · exact q6 c hc
      · cases h
    · cases h
  | .agg t,l,x,r,h => by
    rw [decC] at h;obtain ⟨pre,g1,g2,g3⟩ := decC_ok t l x r h;exact ⟨pre,g1,by rw [g2,Ty.cells],g3⟩
  | .ptr _,l,x,r,h => by rw [decC] at h;cases h
theorem one_frz {a b : AV} (h : FrzA hp a b) : FrzL hp [a] [b] := .cons h .nil
theorem fzC_ok : ∀ (t : Ty) (l : List AV) (x : t.den) (r : List AV),fzC hp t l = some (x,r) → ∃ pre,l = pre ++ r ∧ FrzL hp pre (t.cells false x)
  | .int k,l,x,r,h => by
    rw [fzC.eq_def] at h;simp only at h;split at h
    · rename_i k' n l'
      cases hc : kindE k' k with
      | false => rw [hc] at h;cases h
      | true =>
        rw [hc] at h;simp only [cond_true,Option.some.injEq,Prod.mk.injEq] at h;obtain ⟨rfl,rfl⟩ := h;have := of_decide_eq_true hc;subst this;exact ⟨[.int k' n],rfl,by rw [Ty.cells];exact one_frz (.dat _ rfl _ (by rw [AV.old]))⟩
    · cases h
  | .bool,l,x,r,h => by
    rw [fzC.eq_def] at h;simp only at h;split at h
    · rename_i b l';simp only [Option.some.injEq,Prod.mk.injEq] at h;obtain ⟨rfl,rfl⟩ := h;exact ⟨[.bool b],rfl,by rw [Ty.cells];exact one_frz (.dat _ rfl _ (by rw [AV.old]))⟩
    · cases h
  | .str,l,x,r,h => by
    rw [fzC.eq_def] at h;simp only at h;split at h
    · rename_i b l';simp only [Option.some.injEq,Prod.mk.injEq] at h;obtain ⟨rfl,rfl⟩ := h;exact ⟨[.str b],rfl,by rw [Ty.cells];exact one_frz (.dat _ rfl _ (by rw [AV.old]))⟩
    · cases h
  | .list t,l,x,r,h => by
    rw [fzC.eq_def] at h;simp only at h;split at h
    · rename_i a l';split at h
      · simp only [Option.some.injEq,Prod.mk.injEq] at h;obtain ⟨rfl,rfl⟩ := h;exact ⟨[.nils],rfl,by rw [Ty.cells];exact one_frz (.nilro _)⟩
      · rename_i fr sz rows
        cases hc : Nat.beq sz t.size with
        | false => rw [hc] at h;cases h
        | true =>
          rw [hc] at h;simp only [cond_true] at h;split at h
          · rename_i xs h1;simp only [Option.some.injEq,Prod.mk.injEq] at h;obtain ⟨rfl,rfl⟩ := h;obtain ⟨e1,e2⟩ := rowsD_at h1
            have hr : oldRR rows = xs.map (t.cells false) := old_rows e1 fun i row y hr hy => by
              obtain ⟨pre,g1,g2,_⟩ := decC_ok t row y [] (e2 i row y hr hy);rw [g1,List.append_nil];exact g2
            exact ⟨[.ro fr sz rows],rfl,by rw [Ty.cells];exact one_frz (.dat _ rfl _ (by rw [AV.old,hr,Nat.eq_of_beq_eq_true hc]))⟩
          · cases h
      · rename_i id n;split at h
        · rename_i sz rows e hb
          cases hc : (Nat.beq sz t.size && Nat.beq n rows.length && t.flat) with
          | false => rw [hc] at h;cases h
          | true =>
            rw [hc] at h;simp only [cond_true] at h;simp only [Bool.and_eq_true] at hc;split at h
            · rename_i xs h1;simp only [Option.some.injEq,Prod.mk.injEq] at h;obtain ⟨rfl,rfl⟩ := h;obtain ⟨e1,e2⟩ := rowsD_at h1;have c1 := Nat.eq_of_beq_eq_true hc.1.1;subst c1
              have key : ∀ (i : Nat) (row row' : List AV),rows[i]? = some row → (xs.map (t.cells false))[i]? = some row' → FrzL hp row row' := fun i row row' hr hr' => by
                rw [List.getElem?_map] at hr';obtain ⟨y,hy,rfl⟩ := Option.map_eq_some_iff.1 hr';obtain ⟨pre,g1,g2⟩ := fzC_ok t row y [] (e2 i row y hr hy);rw [g1,List.append_nil];exact g2
              refine ⟨[.osl id n],rfl,by
                rw [Ty.cells];refine one_frz (.oslN id n t.size rows _ e hb (Nat.eq_of_beq_eq_true hc.1.2) (by simpa using e1) (fun i row row' hr hr' => (key i row row' hr hr').len) (fun i row row' j a a' hr hr' ha ha' => (key i row row' hr hr').at j a a' ha ha') (fun row hr a ha => ?_));obtain ⟨y,_,rfl⟩ := List.mem_map.1 hr
                exact t.cells_isD _ _ a ha⟩
            · cases h
        · cases h
      · rename_i id n lo len;split at h
        · rename_i sz rows e hb
          cases hc : (Nat.beq sz t.size && Nat.beq n rows.length && allD rows) with
          | false => rw [hc] at h;cases h
          | true =>
            rw [hc] at h;simp only [cond_true] at h;simp only [Bool.and_eq_true] at hc;split at h
            · rename_i xs h1;simp only [Option.some.injEq,Prod.mk.injEq] at h;obtain ⟨rfl,rfl⟩ := h;obtain ⟨e1,e2⟩ := rowsD_at h1;have c1 := Nat.eq_of_beq_eq_true hc.1.1;subst c1
              have hr : oldRR ((rows.drop lo).take len) = xs.map (t.cells false) := old_rows e1 fun i row y hr hy => by
                obtain ⟨pre,g1,g2,_⟩ := decC_ok t row y [] (e2 i row y hr hy);rw [g1,List.append_nil];exact g2
              exact ⟨[.vsl id n lo len],rfl,by
                rw [Ty.cells]
                exact one_frz (.vsl id n lo len t.size rows _ e hb (Nat.eq_of_beq_eq_true hc.1.2) (fun row hr a ha => List.all_eq_true.1 (List.all_eq_true.1 hc.2 row hr) a ha) hr)⟩
            · cases h
        · cases h
      · cases h
    · cases h
  | .unit,l,x,r,h => by
    rw [fzC] at h;simp only [Option.some.injEq,Prod.mk.injEq] at h;obtain ⟨_,rfl⟩ := h;exact ⟨[],rfl,by rw [Ty.cells];exact .nil⟩
  | .pair a b,l,x,r,h => by
    rw [fzC] at h;split at h
    · rename_i u l1 h1;split at h
      · rename_i v l2 h2;simp only [Option.some.injEq,Prod.mk.injEq] at h;obtain ⟨rfl,rfl⟩ := h;obtain ⟨p1,q1,q2⟩ := fzC_ok a l u l1 h1;obtain ⟨p2,q4,q5⟩ := fzC_ok b l1 v l2 h2;exact ⟨p1 ++ p2,by rw [q1,q4,List.append_assoc],by rw [Ty.cells];exact q2.append q5⟩
      · cases h
    · cases h
  | .agg t,l,x,r,h => by
    rw [fzC] at h;obtain ⟨pre,g1,g2⟩ := fzC_ok t l x r h;exact ⟨pre,g1,by rw [Ty.cells];exact g2⟩
  | .ptr _,l,x,r,h => by rw [fzC] at h;cases h
theorem fzC_one {t : Ty} {a b : AV} {x : t.den} (h : fzC hp t [a] = some (x,[])) (hb : t.cells false x = [b]) : FrzA hp a b := by
  obtain ⟨pre,g1,g2⟩ := fzC_ok t [a] x [] h;rw [List.append_nil] at g1;subst g1;rw [hb] at g2;exact g2.at 0 a b rfl rfl
theorem fzV_ok (t : Ty) (a : AV) (x : t.den) (h : fzV hp t a = some x) : FrzA hp a (t.av false x) := by
  cases t with
  | agg t =>
    rw [fzV.eq_def] at h;simp only at h;split at h
    · rename_i cs;split at h
      · rename_i y h1;injection h with h
        subst h;obtain ⟨pre,g1,g2⟩ := fzC_ok t cs y [] h1;rw [List.append_nil] at g1;subst g1;rw [Ty.av];exact .agg _ _ g2.len g2.at
      · cases h
    · cases h
  | ptr t =>
    rw [fzV.eq_def] at h;simp only at h;split at h
    · rename_i id;split at h
      · rename_i cs e hb;split at h
        · rename_i y h1
          cases hc : Nat.blt 0 t.size with
          | false => rw [hc] at h;cases h
          | true =>
            rw [hc] at h;injection h with h
            subst h;obtain ⟨pre,g1,g2⟩ := fzC_ok t cs y [] h1;rw [List.append_nil] at g1;subst g1;rw [Ty.av];refine .peekBox id _ _ e hb g2.len g2.at (t.cells_isD _ _) (fun e1 => ?_);have := t.cells_length false y;rw [e1] at this;simp at hc;simp at this;omega
        · cases h
      · cases h
    · cases h
  | int k =>
    rw [fzV.eq_def] at h;simp only at h;split at h
    · rename_i y h1;injection h with h
      subst h;exact fzC_one h1 (by rw [Ty.cells,Ty.av])
    · cases h
  | bool =>
    rw [fzV.eq_def] at h;simp only at h;split at h
    · rename_i y h1;injection h with h
      subst h;exact fzC_one h1 (by rw [Ty.cells,Ty.av])
    · cases h
  | str =>
    rw [fzV.eq_def] at h;simp only at h;split at h
    · rename_i y h1;injection h with h
      subst h;exact fzC_one h1 (by rw [Ty.cells,Ty.av])
    · cases h
  | list t =>
    rw [fzV.eq_def] at h;simp only at h;split at h
    · rename_i y h1;injection h with h
      subst h;exact fzC_one h1 (by rw [Ty.cells,Ty.av])
    · cases h
  | unit => rw [fzV.eq_def] at h;cases h
  | pair a b => rw [fzV.eq_def] at h;cases h
theorem fzA_ok : ∀ (t : Ty) (l : List AV) (x : t.den),fzA hp t l = some x → FrzL hp l (t.avs false x)
  | .pair a b,l,x,h => by
    rw [fzA.eq_def] at h;simp only at h;split at h
    · rename_i c l;split at h
      · rename_i u v h1 h2;injection h with h
        subst h;rw [Ty.avs];exact .cons (fzV_ok a c u h1) (fzA_ok b l v h2)
      · cases h
    · cases h
  | .unit,l,x,h => by
    rw [fzA.eq_def] at h;simp only at h;split at h
    · rw [Ty.avs]
      · exact .nil
      · simp
    · cases h
  | .int k,l,x,h => by rw [fzA.eq_def] at h;cases h
  | .bool,l,x,h => by rw [fzA.eq_def] at h;cases h
  | .str,l,x,h => by rw [fzA.eq_def] at h;cases h
  | .list t,l,x,h => by rw [fzA.eq_def] at h;cases h
  | .agg t,l,x,h => by rw [fzA.eq_def] at h;cases h
  | .ptr t,l,x,h => by rw [fzA.eq_def] at h;cases h
end
def orc (fu : Nat) (l : List (Nat × Ctr)) : SelfT := fun F xs hp nx => match lk l F with
  | some c => match fzA hp c.a xs with
    | some x => match c.f fu x with
      | some y => some (oneOf (c.r.avs true y),hp,nx)
      | none => none
    | none => none
  | none => none
theorem orc_ok {P : Program} {fu : Nat} {l : List (Nat × Ctr)} (hl : allP (CtrOk P) l) : SelfOk P (orc fu l) := fun F xs hp nx x hp' nx' h => by
  unfold orc at h;split at h
  · rename_i c h1;split at h
    · rename_i z h2;split at h
      · rename_i y h3;simp only [Option.some.injEq,Prod.mk.injEq] at h;obtain ⟨rfl,rfl,rfl⟩ := h;have hz := fzA_ok _ _ _ h2;exact AC.of_AF (allP_at hl h1 fu z y h3) hz.len hz.at ⟨rfl,rfl,rfl⟩
      · cases h
    · cases h
  · cases h
def runO (C : Ctx) (fl : Nat) (O : SelfT) : Nat → SelfT
  | 0,_,_,_,_ => none
  | f + 1,F,xs,hp,nx => match fL1 xs fun xs => O F xs hp nx with
    | some r => some r
    | none => match lk C.fns F with
      | some fn => match fn.body with
        | some c => bif Nat.ble xs.length fn.ntmps then (match fL1 xs fun xs => outC C fn.results.toList (runC C (runO C fl O f) fl fn.ntmps c ⟨argR 0 xs,hp,nx⟩) with
          | some (x,hp2,nx2) => gcK hp2 nx x fun hp3 => some (x,hp3,nx2)
          | none => none) else none
        | none => none
      | none => none
section
variable {P : Program}
theorem runO_ok {C : Ctx} (hC : C.ok P) (fl : Nat) {O : SelfT} (hO : SelfOk P O) : ∀ f,SelfOk P (runO C fl O f)
  | 0 => fun F xs hp nx x hp' nx' h => by cases h
  | f + 1 => fun F xs hp nx x hp' nx' h => by
    rw [runO] at h;split at h
    · rename_i r hr;injection h with h
      subst h;rw [fL1_eq] at hr;exact hO F xs hp nx x hp' nx' hr
    · split at h
      · rename_i fn h1;split at h
        · rename_i c h2
          cases hb : Nat.ble xs.length fn.ntmps with
          | false => rw [hb] at h;cases h
          | true =>
            rw [hb] at h;simp only [cond_true] at h;split at h
            · rename_i x2 hp2 nx2 h0;obtain ⟨hp3,g1,g2⟩ := gcK_eq hp2 nx x2;rw [g2] at h;simp only [Option.some.injEq,Prod.mk.injEq] at h;obtain ⟨rfl,rfl,rfl⟩ := h;refine AC.lesH (hp1 := hp2) ?_ g1;rw [fL1_eq] at h0;exact out_ok hC (runO_ok hC fl hO f) h1 h2 hb h0
            · cases h
        · cases h
      · cases h
def okRunO (C : Ctx) (fl : Nat) (O : SelfT) (f : Nat) (F : Nat) (xs : List AV) : Option AV := match runO C fl O f F xs [] 0 with
  | some (y,hp,_) => frzRC hp 8 y
  | none => none
theorem AF.runO {C : Ctx} (hC : C.ok P) (fl fu f : Nat) {l : List (Nat × Ctr)} (hl : allP (CtrOk P) l) {F : Nat} {xs : List AV} {y : AV} (h : okRunO C fl (orc fu l) f F xs = some y) : AF P F xs y := by
  unfold okRunO at h;split at h
  · rename_i x hp nx h1;exact AF.of_AC ((runO_ok hC fl (orc_ok hl) f _ _ _ _ _ _ _ h1).mono (by rintro x1 hp1 nx1 ⟨rfl,rfl,rfl⟩;exact frzRC_ok 8 _ _ h))
  · cases h
end
end Go.Proofs.Ytjhdjjoacedlpaa.Rn
/- Residual programs of functions (printed by a program out of the code),checked by the kernel,and the contracts that follow. -/
namespace Go.Proofs.Ytjhdjjoacedlpaa
open Go Go.RowKit
set_option linter.unusedVariables false
def profile_Sum_l2 (fu : Nat) (v0 : (Int) × (Int)) (j0 : ((Int) × (Int)) → Option ((Int) × (Unit))) (j3 : ((Int) × (Int)) → Option ((Int) × (Unit))) (v3 : (Int) × (Int)) : Option ((Int) × (Unit)) :=
  bif (decide (v3.2 < (8 : Int))) then
    let v4 : Int := (bits BinOp.xor IntKind.u32 (v3.1 / 2 ^ (Int.toNat (1 : Int))) (bits BinOp.and IntKind.u32 (3988292384 : Int) (IntKind.u32.wrap (-(bits BinOp.and IntKind.u32 v3.1 (1 : Int))))))
    j3 ((v4,(IntKind.i64.wrap (v3.2 + (1 : Int)))))
  else
  j0 ((v3.1,(IntKind.i64.wrap (v0.2 + (1 : Int)))))
def profile_Sum_l1 (fu : Nat) (a : (List (Int)) × (Unit)) (j0 : ((Int) × (Int)) → Option ((Int) × (Unit))) (v0 : (Int) × (Int)) : Option ((Int) × (Unit)) :=
  bif (decide (v0.2 < (List.length a.1 : Int))) then
    bif ((decide ((0 : Int) ≤ v0.2)) && (decide (v0.2 < (List.length a.1 : Int)))) then
    let v1 : Int := (List.getD a.1 (Int.toNat v0.2) 0)
    let v2 : Int := (bits BinOp.xor IntKind.u32 v0.1 (IntKind.u32.wrap v1))
    loopF (profile_Sum_l2 fu v0 j0) fu ((v2,(0 : Int)))
    else none
  else
  let v1 : Int := (IntKind.i64.wrap (bits BinOp.xor IntKind.u32 (4294967295 : Int) v0.1))
  some ((v1,()))
def profile_Sum_r (fu : Nat) (a : (List (Int)) × (Unit)) : Option ((Int) × (Unit)) :=
  loopF (profile_Sum_l1 fu a) fu (((4294967295 : Int),(0 : Int)))
def profile_Sum_an : An := (.n none .z (.n none .z (.n none (.n none .z (.n none (.n (some ⟨[6,7,2],[],[],[.reg 3 (.int .u32),.reg 8 (.int .i64)],0,[]⟩) (.n none .z (.n none .z (.n none (.n none (.n none .z (.n none .z (.n none .z (.n none (.n (some ⟨[8],[],[],[.reg 3 (.int .u32),.reg 16 (.int .i64)],0,[]⟩) (.n none .z (.n none .z (.n none (.n none .z .z) .z))) .z) .z)))) .z) .z))) .z) .z)) (.n none .z .z))))
noncomputable def profile_Sum_dc : List (Nat × Ctr) := []
def profile_Sum_ctr : Ctr := ⟨(.pair (.list (.int .u8)) .unit),(.pair (.int .i64) .unit),profile_Sum_r,33⟩
theorem profile_Sum_ok : CtrOk Try.prog 33 profile_Sum_ctr := ctr_ok (l := profile_Sum_dc) (f := 12) (an := profile_Sum_an) trivial fun fu x => by kernel_rfl
end Go.Proofs.Ytjhdjjoacedlpaa
/- profileWorks,by a run with short tables. -/
set_option maxRecDepth 1000000
namespace Go.Proofs.Ytjhdjjoacedlpaa
open Go Go.RowKit
def profileWorks_tab : Tab := {
  und := [(3,.int .i64),
    (5,.int .u8),
    (57,.slice 5),
    (9,.string),
    (143, .struct #[fd "X" 3 0 false "" 0, fd "Y" 3 1 false "" 8]),
    (24,.slice 3),
    (138,.int .u32),
    (156, .struct #[fd "name" 9 0 false "printworks/profile" 0, fd "data" 57 1 false "printworks/profile" 16]),
    (187,.array 4 3),
    (141,.array 4 57),
    (71,.slice 143),
    (22,.slice 9),
    (73, .struct #[fd "Points" 71 0 false "" 0]),
    (152,.slice 156),
    (26, .struct #[fd "In" 3 0 false "" 0, fd "Out" 3 1 false "" 8, fd "Size" 3 2 false "" 16, fd "Values" 24 3 false "" 24]),
    (139,.int .u64),
    (32,.int .i64),
    (30, .struct #[fd "L" 3 0 false "" 0, fd "A" 3 1 false "" 8, fd "B" 3 2 false "" 16]),
    (28, .struct #[fd "Name" 9 0 false "" 0, fd "Inks" 22 1 false "" 16, fd "Curves" 23 2 false "" 40, fd "Table" 26 3 false "" 64]),
    (23,.slice 73),
    (145,.array 4 9),
    (120,.pointer 28),
    (122,.pointer 26),
    (4,.bool)],
  inf := [(3,(some (.int .i64 0),1,8)),
    (5,(some (.int .u8 0),1,1)),
    (57,(some (.slice none 0 0),1,24)),
    (9,(some (.string ByteArray.empty),1,16)),
    (143,(some (.agg #[.int .i64 0,.int .i64 0]),2,16)),
    (24,(some (.slice none 0 0),1,24)),
    (138,(some (.int .u32 0),1,4)),
    (156,(some (.agg #[.string ByteArray.empty,.slice none 0 0]),2,40)),
    (187,(some (.agg #[.int .i64 0,.int .i64 0,.int .i64 0,.int .i64 0]),4,32)),
    (141,(some (.agg #[.slice none 0 0,.slice none 0 0,.slice none 0 0,.slice none 0 0]),4,96)),
    (71,(some (.slice none 0 0),1,24)),
    (22,(some (.slice none 0 0),1,24)),
    (73,(some (.agg #[.slice none 0 0]),1,24)),
    (152,(some (.slice none 0 0),1,24)),
    (26,(some (.agg #[.int .i64 0,.int .i64 0,.int .i64 0,.slice none 0 0]),4,48)),
    (139,(some (.int .u64 0),1,8)),
    (32,(some (.int .i64 0),1,8)),
    (30,(some (.agg #[.int .i64 0,.int .i64 0,.int .i64 0]),3,24)),
    (28,(some (.agg #[.string ByteArray.empty,.slice none 0 0,.slice none 0 0,.int .i64 0,.int .i64 0,.int .i64 0,.slice none 0 0]),7,112)),
    (23,(some (.slice none 0 0),1,24)),
    (145,(some (.agg #[.string ByteArray.empty,.string ByteArray.empty,.string ByteArray.empty,.string ByteArray.empty]),4,64)),
    (120,(some (.pointer none),1,8)),
    (122,(some (.pointer none),1,8)),
    (4,(some (.bool false),1,1))],
  fld := [(143,[(0,(1,false)),(1,(1,false))]),
    (156,[(0,(1,false)),(1,(1,false))]),
    (73,[(0,(1,false))]),
    (26,[(0,(1,false)),(1,(1,false)),(2,(1,false)),(3,(1,false))]),
    (30,[(0,(1,false)),(1,(1,false)),(2,(1,false))]),
    (28,[(0,(1,false)),(1,(1,false)),(2,(1,false)),(3,(4,true))])],
  eqs := [(143,2),(187,4),(30,3)] }
theorem profileWorks_tab_ok : profileWorks_tab.ok Try.prog := ⟨(by unfold profileWorks_tab;(repeat (refine alP1 (by kernel_rfl) ?_));exact trivial),
  (by unfold profileWorks_tab;(repeat (refine alP1 (by kernel_rfl) ?_));exact trivial),
  (by unfold profileWorks_tab;(repeat (refine alP1 (by kernel_rfl) ?_));exact trivial),
  (by unfold profileWorks_tab;(repeat (refine alP1 ⟨by kernel_rfl,by kernel_rfl⟩ ?_));exact trivial)⟩
noncomputable def profileWorks_ctx : Ctx := ⟨profileWorks_tab,[(32,Try.f32),(85,Try.f85),(126,Try.f126),(38,Try.f38),(40,Try.f40),(98,Try.f98),(99,Try.f99),(100,Try.f100),(101,Try.f101),(140,Try.f140),(72,Try.f72),(86,Try.f86),(95,Try.f95),(97,Try.f97),(139,Try.f139),(148,Try.f148),(147,Try.f147),(137,Try.f137),(96,Try.f96),(138,Try.f138),(35,Try.f35),(90,Try.f90),(91,Try.f91),(92,Try.f92),(33,Try.f33),(47,Try.f47),(104,Try.f104),(141,Try.f141),(142,Try.f142),(60,Try.f60)],[(32,0),(85,0),(126,0),(38,0),(40,0),(98,0),(99,0),(100,0),(101,0),(140,0),(72,0),(86,0),(95,0),(97,0),(139,0),(148,0),(147,0),(137,0),(96,0),(138,0),(35,0),(90,0),(91,0),(92,0),(33,0),(47,0),(104,0),(141,0),(142,0),(60,0)]⟩
def profileWorks_cas : List (Nat × Nat) := [(32,0),(85,0),(126,0),(38,0),(40,0),(98,0),(99,0),(100,0),(101,0),(140,0),(72,0),(86,0),(95,0),(97,0),(139,0),(148,0),(147,0),(137,0),(96,0),(138,0),(35,0),(90,0),(91,0),(92,0),(33,0),(47,0),(104,0),(141,0),(142,0),(60,0)]
theorem profileWorks_ctx_ok : profileWorks_ctx.ok Try.prog := ⟨profileWorks_tab_ok,⟨Try.func32,⟨Try.func85,⟨Try.func126,⟨Try.func38,⟨Try.func40,⟨Try.func98,⟨Try.func99,⟨Try.func100,⟨Try.func101,⟨Try.func140,⟨Try.func72,⟨Try.func86,⟨Try.func95,⟨Try.func97,⟨Try.func139,⟨Try.func148,⟨Try.func147,⟨Try.func137,⟨Try.func96,⟨Try.func138,⟨Try.func35,⟨Try.func90,⟨Try.func91,⟨Try.func92,⟨Try.func33,⟨Try.func47,⟨Try.func104,⟨Try.func141,⟨Try.func142,⟨Try.func60,trivial⟩⟩⟩⟩⟩⟩⟩⟩⟩⟩⟩⟩⟩⟩⟩⟩⟩⟩⟩⟩⟩⟩⟩⟩⟩⟩⟩⟩⟩⟩,(by unfold profileWorks_cas;(repeat (refine alP1 (by kernel_rfl) ?_));exact trivial : allP (fun k _ => callable Try.prog k = true) profileWorks_cas),by kernel_rfl⟩
noncomputable def profileWorks_orc : List (Nat × Ctr) := [(profile_Sum_ctr.nm,profile_Sum_ctr)]
theorem profileWorks_orc_ok : allP (CtrOk Try.prog) profileWorks_orc := ⟨profile_Sum_ok,trivial⟩
theorem profileWorks_f : AF Try.prog 32 [] (.bool true) := Rn.AF.runO profileWorks_ctx_ok 1000 100000 20 profileWorks_orc_ok (by kernel_rfl)
def law_profileWorks_r (_ : Nat) (_ : Unit) : Option (Bool × Unit) := some (true,())
def law_profileWorks_ctr : Ctr := ⟨.unit,.pair .bool .unit,law_profileWorks_r,32⟩
theorem law_profileWorks_ok : CtrOk Try.prog 32 law_profileWorks_ctr := fun _ _ y h => by
  have h : some (true,()) = some y := h;injection h with h
  subst h;exact profileWorks_f
end Go.Proofs.Ytjhdjjoacedlpaa
/- Residual programs of functions (printed by a program out of the code),checked by the kernel,and the contracts that follow. -/
namespace Go.Proofs.Ytjhdjjoacedlpaa
open Go Go.RowKit
set_option linter.unusedVariables false
def R_GridScaled_j2 (fu : Nat) (j1 : (Int × List Int) → Option (List Int × Unit)) (v2 : Int × List Int) : Option (List Int × Unit) :=
  j1 (((IntKind.i64.wrap (v2.1 + (1 : Int))),v2.2))
def R_GridScaled_j4 (fu : Nat) (a : (Int × Int × Int × List Int) × List Int × Unit) (v4 : Int × Int × Int × Int) (j4 : (Int × Int × Int × Int) → Option (List Int × Unit)) (v9 : Int × Int × Int × Int) : Option (List Int × Unit) :=
  let v10 : Int := (IntKind.i64.wrap ((IntKind.i64.wrap (v9.1 * a.1.2.2.1)) + v9.2.1))
  j4 ((v10,(v9.2.2.1,(v9.2.2.2,(IntKind.i64.wrap (v4.2.2.2 + (1 : Int)))))))
def R_GridScaled_l5 (fu : Nat) (a : (Int × Int × Int × List Int) × List Int × Unit) (v1 : Int × List Int) (v4 : Int × Int × Int × Int) (v5 : Int) (j2 : (Int × List Int) → Option (List Int × Unit)) (j6 : (Int × List Int) → Option (List Int × Unit)) (v6 : Int × List Int) : Option (List Int × Unit) :=
  bif (decide (v6.1 < (List.length v1.2 : Int))) then
    let v7 : Int := v6.1
    bif ((decide ((0 : Int) ≤ v7)) && (decide (v7 < (List.length v6.2 : Int)))) then
    bif ((decide ((0 : Int) ≤ (IntKind.i64.wrap ((IntKind.i64.wrap (v4.1 * a.1.2.1)) + v7)))) && (decide ((IntKind.i64.wrap ((IntKind.i64.wrap (v4.1 * a.1.2.1)) + v7)) < (List.length a.1.2.2.2 : Int)))) then
    let v8 : Int := (List.getD a.1.2.2.2 (Int.toNat (IntKind.i64.wrap ((IntKind.i64.wrap (v4.1 * a.1.2.1)) + v7))) 0)
    bif ((decide ((0 : Int) ≤ v7)) && (decide (v7 < (List.length v6.2 : Int)))) then
    j6 (((IntKind.i64.wrap (v6.1 + (1 : Int))),(List.set v6.2 (Int.toNat v7) (IntKind.i64.wrap ((List.getD v6.2 (Int.toNat v7) 0) + (IntKind.i64.wrap (v5 * v8)))))))
    else none
    else none
    else none
  else
  j2 ((v1.1,v6.2))
def R_GridScaled_l3 (fu : Nat) (a : (Int × Int × Int × List Int) × List Int × Unit) (v0 : Int) (v1 : Int × List Int) (v3 : Int) (j2 : (Int × List Int) → Option (List Int × Unit)) (j4 : (Int × Int × Int × Int) → Option (List Int × Unit)) (v4 : Int × Int × Int × Int) : Option (List Int × Unit) :=
  bif (decide (v4.2.2.2 < (List.length a.2.1 : Int))) then
    bif ((decide ((0 : Int) ≤ v4.2.2.2)) && (decide (v4.2.2.2 < (List.length a.2.1 : Int)))) then
    let v5 : Int := (List.getD a.2.1 (Int.toNat v4.2.2.2) 0)
    let v6 : Int := v4.2.2.2
    bif (decide (v0 ≠ (0 : Int))) then
    bif (decide (v0 ≠ (0 : Int))) then
    let v7 : Int := (IntKind.i64.wrap (Int.tdiv v5 v0))
    let v8 : Int := (Int.tmod v5 v0)
    joinF (R_GridScaled_j4 fu a v4 j4) fun j9 =>
    bif ((decide ((0 : Int) ≤ v6)) && (decide (v6 ≤ (64 : Int)))) then
    bif (decide ((bits BinOp.and IntKind.i64 (v3 / 2 ^ (Int.toNat v6)) (1 : Int)) = (1 : Int))) then
      let v10 : Int := (min v4.2.2.1 v8)
      let v11 : Int := (IntKind.i64.wrap (v7 + (1 : Int)))
      j9 ((v4.1,(v11,(v4.2.1,v10))))
    else
    let v10 : Int := (max v4.2.1 v8)
    j9 ((v4.1,(v7,(v10,v4.2.2.1))))
    else none
    else none
    else none
    else none
  else
  let v5 : Int := (IntKind.i64.wrap (v4.2.2.1 - v4.2.1))
  bif (decide ((0 : Int) < v5)) then
    loopF (R_GridScaled_l5 fu a v1 v4 v5 j2) fu (((0 : Int),v1.2))
  else
  j2 (v1)
def R_GridScaled_l1 (fu : Nat) (a : (Int × Int × Int × List Int) × List Int × Unit) (v0 : Int) (j1 : (Int × List Int) → Option (List Int × Unit)) (v1 : Int × List Int) : Option (List Int × Unit) :=
  bif (decide (v1.1 < (IntKind.i64.wrap ((1 : Int) * 2 ^ (Int.toNat a.1.1))))) then
    joinF (R_GridScaled_j2 fu j1) fun j2 =>
    let v3 : Int := v1.1
    loopF (R_GridScaled_l3 fu a v0 v1 v3 j2) fu (((0 : Int),((0 : Int),(v0,(0 : Int)))))
  else
  some ((v1.2,()))
def R_GridScaled_r (fu : Nat) (a : (Int × Int × Int × List Int) × List Int × Unit) : Option (List Int × Unit) :=
  bif (decide ((IntKind.i64.wrap (a.1.2.2.1 - (1 : Int))) ≠ (0 : Int))) then
  let v0 : Int := (IntKind.i64.wrap (Int.tdiv (65280 : Int) (IntKind.i64.wrap (a.1.2.2.1 - (1 : Int)))))
  bif ((decide ((0 : Int) ≤ a.1.2.1)) && (decide (((8 : Int) * a.1.2.1) ≤ (281474976710656 : Int)))) then
  bif ((decide ((0 : Int) ≤ a.1.1)) && (decide (a.1.1 ≤ (64 : Int)))) then
  loopF (R_GridScaled_l1 fu a v0) fu (((0 : Int),(List.replicate (Int.toNat a.1.2.1) (0 : Int))))
  else none
  else none
  else none
def R_GridScaled_an : An := (.n none .z (.n none .z (.n none .z (.n none (.n none .z (.n none (.n (some ⟨[6,1,2,5,26,4],[0],[],[.reg 27 (.int .i64),.row 1 true (.int .i64) 3 0],0,[]⟩) (.n none .z (.n none .z (.n (some ⟨[],[],[],[.reg 27 (.int .i64),.row 1 true (.int .i64) 3 0],0,[]⟩) (.n none (.n none .z (.n none .z (.n none (.n none .z (.n none (.n (some ⟨[27,31,7,32],[1],[],[.reg 10 (.int .i64),.reg 9 (.int .i64),.reg 8 (.int .i64),.reg 33 (.int .i64)],0,[]⟩) (.n none .z (.n none .z (.n none (.n none (.n none .z (.n none (.dr [] []) (.n (some ⟨[33],[],[],[.reg 10 (.int .i64),.reg 13 (.int .i64),.reg 9 (.int .i64),.reg 8 (.int .i64)],0,[]⟩) (.n none .z (.n none (.n none .z .z) .z)) .z))) .z) .z))) .z) .z)) (.n none .z (.n none .z (.n none (.n none .z (.n none (.n (some ⟨[27,15,10,70],[],[],[.reg 71 (.int .i64),.row 1 true (.int .i64) 3 0],0,[]⟩) (.n none .z (.n none .z (.n none (.n none (.n none .z (.dr [] [])) .z) .z))) .z) .z)) .z)))))) .z) .z))) .z) .z)) (.n none .z .z)))))
noncomputable def R_GridScaled_dc : List (Nat × Ctr) := []
def R_GridScaled_ctr : Ctr := ⟨(.pair (.agg (.pair (.int .i64) (.pair (.int .i64) (.pair (.int .i64) (.list (.int .i64)))))) (.pair (.list (.int .i64)) .unit)),(.pair (.list (.int .i64)) .unit),R_GridScaled_r,44⟩
theorem R_GridScaled_ok : CtrOk Try.prog 44 R_GridScaled_ctr := ctr_ok (l := R_GridScaled_dc) (f := 12) (an := R_GridScaled_an) trivial fun fu x => by kernel_rfl
def law_ProfileColors_l2 (fu : Nat) (a : (List UInt8 × List (List UInt8) × List (List (Int × Int)) × Int × Int × Int × List Int) × List Int × Unit) (v1 : (Int × Int × Int) × Int × Unit) (v2 : Int) (v4 : List Int) (v5 : Int) (j10 : (Int × List Int) → Option (Bool × Unit)) (v10 : Int × List Int) : Option (Bool × Unit) :=
  bif (decide (v10.1 < (List.length a.2.1 : Int))) then
    bif ((decide ((0 : Int) ≤ v10.1)) && (decide (v10.1 < (List.length a.2.1 : Int)))) then
    let v11 : Int := (List.getD a.2.1 (Int.toNat v10.1) 0)
    let v12 : Int := v10.1
    bif ((decide ((0 : Int) ≤ v12)) && (decide (v12 < (List.length a.1.2.2.1 : Int)))) then
    let v13 : List (Int × Int) := (List.getD a.1.2.2.1 (Int.toNat v12) [])
    bindO (R_CurveAt_r fu ((v13,((IntKind.i64.wrap ((256 : Int) * v11)),())))) fun v14 =>
    bif ((decide ((0 : Int) ≤ v12)) && (decide (v12 < (List.length v10.2 : Int)))) then
    j10 (((IntKind.i64.wrap (v10.1 + (1 : Int))),(List.set v10.2 (Int.toNat v12) v14.1)))
    else none
    else none
    else none
  else
  bif (decide (v2 = (0 : Int))) then
    bindO (R_Forward_r fu ((a.1,(a.2.1,())))) fun v11 =>
    bif ((decide (v1.1.1 = v11.1.1)) && ((decide (v1.1.2.1 = v11.1.2.1)) && (decide (v1.1.2.2 = v11.1.2.2)))) then
      bif (decide (v5 = (0 : Int))) then
        bindO (R_GridScaled_r fu ((a.1.2.2.2,(v10.2,())))) fun v12 =>
        bindO (R_SameInts_r fu ((v4,(v12.1,())))) fun v13 =>
        let v14 : Bool := v13.1
        some ((v14,()))
      else
      some ((false,()))
    else
    some ((false,()))
  else
  some ((false,()))
def law_ProfileColors_j1 (fu : Nat) (a : (List UInt8 × List (List UInt8) × List (List (Int × Int)) × Int × Int × Int × List Int) × List Int × Unit) (v1 : (Int × Int × Int) × Int × Unit) (v2 : Int) (v4 : List Int) (v5 : Int) (v9 : Int) : Option (Bool × Unit) :=
  bif (decide (v9 ≠ (0 : Int))) then
    bindO (law_none_r fu ((((decide (v1.1.1 = (0 : Int))) && ((decide (v1.1.2.1 = (0 : Int))) && (decide (v1.1.2.2 = (0 : Int))))),(v2,(v9,()))))) fun v10 =>
    bif v10.1 then
      bindO (law_none_r fu (((decide ((List.length v4 : Int) = (0 : Int))),(v5,(v9,()))))) fun v11 =>
      let v12 : Bool := v11.1
      some ((v12,()))
    else
    some ((false,()))
  else
  bif ((decide ((0 : Int) ≤ (List.length a.2.1 : Int))) && (decide (((8 : Int) * (List.length a.2.1 : Int)) ≤ (281474976710656 : Int)))) then
  loopF (law_ProfileColors_l2 fu a v1 v2 v4 v5) fu (((0 : Int),(List.replicate (Int.toNat (List.length a.2.1 : Int)) (0 : Int))))
  else none
def law_ProfileColors_r (fu : Nat) (a : (List UInt8 × List (List UInt8) × List (List (Int × Int)) × Int × Int × Int × List Int) × List Int × Unit) : Option (Bool × Unit) :=
  bindO (law_profileWorks_r fu (())) fun v0 =>
  bif (!v0.1) then
    some ((false,()))
  else
  bindO (profile_Forward_r fu ((a.1,(a.2.1,())))) fun v1 =>
  let v2 : Int := v1.2.1
  bindO (profile_Exact_r fu ((a.1,(a.2.1,())))) fun v3 =>
  let v4 : List Int := v3.1
  let v5 : Int := v3.2.1
  bindO (R_ProfileErr_r fu ((a.1,()))) fun v6 =>
  let v7 : Int := v6.1
  bindO (profile_Check_r fu ((a.1,()))) fun v8 =>
  bif (decide (v8.1 ≠ v7)) then
    some ((false,()))
  else
  joinF (law_ProfileColors_j1 fu a v1 v2 v4 v5) fun j9 =>
  bif (decide (v7 = (0 : Int))) then
    bindO (R_TonesErr_r fu ((a.2.1,((List.length a.1.2.1 : Int),((255 : Int),()))))) fun v10 =>
    let v11 : Int := v10.1
    j9 (v11)
  else
  j9 (v7)
def law_ProfileColors_an : An := (.n none .z (.n none (.n none .z (.n none (.n none .z .z) .z)) (.n none .z (.n none .z (.n none .z (.n none (.n none .z (.n none (.n none .z .z) .z)) (.n (some ⟨[2,7,8,1,5,6],[0,1],[],[.reg 9 (.int .i64)],0,[]⟩) (.n none .z (.n none .z .z)) (.n none (.n none .z (.n none (.n none .z .z) .z)) (.n none .z (.n none (.n none .z (.n none (.n (some ⟨[10,59,60],[],[],[.reg 61 (.int .i64),.row 2 true (.int .i64) 3 0],0,[]⟩) (.n none .z (.n none .z (.n none (.n none (.n none .z .z) .z) .z))) .z) .z)) (.n none (.dr [] []) .z)))))))))))
noncomputable def law_ProfileColors_dc : List (Nat × Ctr) := [(17,R_ProfileErr_ctr),(20,law_none_ctr),(31,R_SameInts_ctr),(32,law_profileWorks_ctr),(38,profile_Forward_ctr),(39,profile_Exact_ctr),(40,profile_Check_ctr),(41,R_TonesErr_ctr),(42,R_CurveAt_ctr),(43,R_Forward_ctr),(44,R_GridScaled_ctr)]
def law_ProfileColors_ctr : Ctr := ⟨(.pair (.agg (.pair .str (.pair (.list .str) (.pair (.list (.list (.pair (.int .i64) (.int .i64)))) (.pair (.int .i64) (.pair (.int .i64) (.pair (.int .i64) (.list (.int .i64))))))))) (.pair (.list (.int .i64)) .unit)),(.pair .bool .unit),law_ProfileColors_r,8⟩
theorem law_ProfileColors_ok : CtrOk Try.prog 8 law_ProfileColors_ctr := ctr_ok (l := law_ProfileColors_dc) (f := 12) (an := law_ProfileColors_an) ⟨R_ProfileErr_ok,⟨law_none_ok,⟨R_SameInts_ok,⟨law_profileWorks_ok,⟨profile_Forward_ok,⟨profile_Exact_ok,⟨profile_Check_ok,⟨R_TonesErr_ok,⟨R_CurveAt_ok,⟨R_Forward_ok,⟨R_GridScaled_ok,trivial⟩⟩⟩⟩⟩⟩⟩⟩⟩⟩⟩ fun fu x => by kernel_rfl
end Go.Proofs.Ytjhdjjoacedlpaa
/- Grids: what the checks,the place of a node,Node and Step compute. -/
namespace Go.Proofs.Ytjhdjjoacedlpaa
open Go Go.RowKit
set_option linter.unusedSimpArgs false
set_option linter.unusedSectionVars false
set_option linter.unusedVariables false
theorem within_s (fu : Nat) (x lo hi : Int) : R_Within_r fu (x,(lo,(hi,()))) = some (decide (lo ≤ x ∧ x ≤ hi),()) := by
  unfold R_Within_r;by_cases h : lo ≤ x
  · rw [bif_pos h];by_cases h' : x ≤ hi
    · rw [decide_eq_true h',decide_eq_true ⟨h,h'⟩]
    · rw [decide_eq_false h',decide_eq_false (by omega)]
  · rw [bif_neg h,decide_eq_false (by omega)]
theorem none_s (fu : Nat) (z : Bool) (g w : Int) : law_none_r fu (z,(g,(w,()))) = some (z && decide (g = w),()) := by
  unfold law_none_r
  cases z <;> rfl
theorem stLoop {X β : Type} {f : (X → Option β) → X → Option β} {n fu : Nat} (hn : n < fu) {st : Nat → X} {x0 : X} {fin : Option β} (h0 : st 0 = x0)
    (step : ∀ j (i : Nat),i < n → f j (st i) = j (st (i + 1))) (last : ∀ j,f j (st n) = fin) : loopF f fu x0 = fin := by
  have key := errGen (f := f) (n := n) (st := st) (E := fun _ => 0) (out := fun _ => none) (fin := fin) (fun j i hi _ => by rw [if_pos rfl];exact step j i hi) (fun _ => last) fu 0 (by omega) (by omega) (by omega);rw [if_pos (firstE_all _ _ fun _ _ _ => rfl),h0] at key;exact key
abbrev GrT := Int × (Int × (Int × List Int))
theorem pw_bd {s : Int} {i : Nat} (h0 : 0 ≤ s) (h1 : s ≤ 9) (hi : i ≤ 4) : 0 ≤ s ^ i ∧ s ^ i ≤ 6561 := by
  obtain ⟨s,rfl⟩ := Int.eq_ofNat_of_zero_le h0;have : ∀ s : Nat,s < 10 → ∀ i : Nat,i < 5 → 0 ≤ ((s : Nat) : Int) ^ i ∧ ((s : Nat) : Int) ^ i ≤ 6561 := by decide
  exact this s (by omega) i (by omega)
section
variable {fu : Nat} (hf : 18446744073709551616 ≤ fu)
include hf
theorem power_r {s n : Int} (h0 : 0 ≤ s) (h1 : s ≤ 9) (h2 : 0 ≤ n) (h3 : n ≤ 4) : R_Power_r fu (s,(n,())) = some (s ^ n.toNat,()) := by
  obtain ⟨n,rfl⟩ := Int.eq_ofNat_of_zero_le h2;unfold R_Power_r;refine stLoop (n := n) (st := fun i => (s ^ i,(i : Int))) (by omega) (by simp) (fun j i hi => ?_) (fun j => ?_)
  · have hb := pw_bd (i := i) h0 h1 (by omega);have hb' := pw_bd (i := i + 1) h0 h1 (by omega);rw [Int.pow_succ] at hb';unfold R_Power_l1;simp (disch := omega) only [joinF_eq,bindO_some,s_wr,s_td,s_tm,s_pos,s_neg,cond_true,cond_false,Bool.not_true,Bool.not_false,Bool.true_and,Bool.and_true,Bool.false_and,Bool.and_false,bne_self_eq_false,decide_true,decide_false,Int.toNat_natCast];rw [Int.pow_succ];rfl
  · unfold R_Power_l1;simp (disch := omega) only [joinF_eq,bindO_some,s_wr,s_td,s_tm,s_pos,s_neg,cond_true,cond_false,Bool.not_true,Bool.not_false,Bool.true_and,Bool.and_true,Bool.false_and,Bool.and_false,bne_self_eq_false,decide_true,decide_false,Int.toNat_natCast]
end
def shOk (i o s : Int) : Prop := (1 ≤ i ∧ i ≤ 4) ∧ (1 ≤ o ∧ o ≤ 8) ∧ (2 ≤ s ∧ s ≤ 9) ∧ s ≠ 8
instance (i o s : Int) : Decidable (shOk i o s) := by unfold shOk;infer_instance
def shE (i o s : Int) : Int := if shOk i o s then (if 32768 < s ^ i.toNat * o then 2 else 0) else 3
def vlE (l : List Int) (i : Nat) : Int := if -32768 ≤ l.getD i 0 ∧ l.getD i 0 ≤ 65535 then 0 else 3
def grE (g : GrT) : Int := if shE g.1 g.2.1 g.2.2.1 = 0 then (if (g.2.2.2.length : Int) = g.2.2.1 ^ g.1.toNat * g.2.1 then firstE (vlE g.2.2.2) g.2.2.2.length 0 else 4) else shE g.1 g.2.1 g.2.2.1
def tnE (l : List Int) (m : Int) (i : Nat) : Int := if 0 ≤ l.getD i 0 ∧ l.getD i 0 ≤ m then 0 else 3
def tonesE (l : List Int) (n m : Int) : Int := if (l.length : Int) = n then firstE (tnE l m) l.length 0 else 4
theorem shE3 {i o s : Int} (h : ¬ shOk i o s) : shE i o s = 3 := by unfold shE;rw [if_neg h]
theorem shE2 {i o s : Int} (h : shOk i o s) (h' : 32768 < s ^ i.toNat * o) : shE i o s = 2 := by unfold shE;rw [if_pos h,if_pos h']
theorem shE0 {i o s : Int} (h : shOk i o s) (h' : ¬ 32768 < s ^ i.toNat * o) : shE i o s = 0 := by unfold shE;rw [if_pos h,if_neg h']
theorem sh_bd {i o s : Int} (h : shOk i o s) : 0 ≤ s ^ i.toNat ∧ s ^ i.toNat ≤ 6561 ∧ 0 ≤ s ^ i.toNat * o ∧ s ^ i.toNat * o ≤ 52488 := by
  unfold shOk at h;obtain ⟨h1,h2⟩ := pw_bd (s := s) (i := i.toNat) (by omega) (by omega) (by omega);have h3 := Int.mul_nonneg h1 (show 0 ≤ o by omega);have h4 := Int.mul_le_mul h2 (show o ≤ 8 by omega) (by omega) (by omega);omega
section
variable {fu : Nat} (hf : 18446744073709551616 ≤ fu) {i o s : Int}
include hf
theorem shapeErr_r : R_ShapeErr_r fu (i,(o,(s,()))) = some (shE i o s,()) := by
  unfold R_ShapeErr_r;have kt : shE i o s = 3 → R_ShapeErr_j1 fu (i,(o,(s,()))) true = some (shE i o s,()) := fun h => by unfold R_ShapeErr_j1;rw [h];rfl
  by_cases c1 : 1 ≤ i ∧ i ≤ 4
  · by_cases c2 : 1 ≤ o ∧ o ≤ 8
    · by_cases c3 : 2 ≤ s ∧ s ≤ 9
      · by_cases c4 : s = 8
        · have e := shE3 (i := i) (o := o) (s := s) (fun h => h.2.2.2 c4);simp only [joinF_eq,within_s,bindO_some,decide_eq_true c1,decide_eq_true c2,decide_eq_true c3,decide_eq_true c4,Bool.not_true,cond_false];exact kt e
        · have ok : shOk i o s := ⟨c1,c2,c3,c4⟩;obtain ⟨b1,b2,b3,b4⟩ := sh_bd ok;simp only [joinF_eq,within_s,bindO_some,decide_eq_true c1,decide_eq_true c2,decide_eq_true c3,decide_eq_false c4,Bool.not_true,cond_false];unfold R_ShapeErr_j1;simp (disch := omega) only [joinF_eq,bindO_some,s_wr,s_td,s_tm,s_pos,s_neg,cond_true,cond_false,Bool.not_true,Bool.not_false,Bool.true_and,Bool.and_true,Bool.false_and,Bool.and_false,bne_self_eq_false,decide_true,decide_false,Int.toNat_natCast,power_r hf];by_cases c5 : 32768 < s ^ i.toNat * o
          · rw [shE2 ok c5];simp (disch := omega) only [joinF_eq,bindO_some,s_wr,s_td,s_tm,s_pos,s_neg,cond_true,cond_false,Bool.not_true,Bool.not_false,Bool.true_and,Bool.and_true,Bool.false_and,Bool.and_false,bne_self_eq_false,decide_true,decide_false,Int.toNat_natCast]
          · rw [shE0 ok c5];simp (disch := omega) only [joinF_eq,bindO_some,s_wr,s_td,s_tm,s_pos,s_neg,cond_true,cond_false,Bool.not_true,Bool.not_false,Bool.true_and,Bool.and_true,Bool.false_and,Bool.and_false,bne_self_eq_false,decide_true,decide_false,Int.toNat_natCast]
      · have e := shE3 (i := i) (o := o) (s := s) (fun h => c3 h.2.2.1);simp only [joinF_eq,within_s,bindO_some,decide_eq_true c1,decide_eq_true c2,decide_eq_false c3,Bool.not_true,Bool.not_false,cond_false,cond_true];exact kt e
    · have e := shE3 (i := i) (o := o) (s := s) (fun h => c2 h.2.1);simp only [joinF_eq,within_s,bindO_some,decide_eq_true c1,decide_eq_false c2,Bool.not_true,Bool.not_false,cond_false,cond_true];exact kt e
  · have e := shE3 (i := i) (o := o) (s := s) (fun h => c1 h.1);simp only [joinF_eq,within_s,bindO_some,decide_eq_false c1,Bool.not_false,cond_true];exact kt e
theorem nodes_r : grid_nodes_r fu (i,(o,(s,()))) = some ((if shE i o s = 0 then s ^ i.toNat else 0),(shE i o s,())) := by
  unfold grid_nodes_r;have kt : shE i o s = 3 → grid_nodes_j1 fu (i,(o,(s,()))) true = some ((if shE i o s = 0 then s ^ i.toNat else 0),(shE i o s,())) := fun h => by unfold grid_nodes_j1;rw [h];rfl
  by_cases c1 : i < 1
  · simp (disch := omega) only [joinF_eq,bindO_some,s_wr,s_td,s_tm,s_pos,s_neg,cond_true,cond_false,Bool.not_true,Bool.not_false,Bool.true_and,Bool.and_true,Bool.false_and,Bool.and_false,bne_self_eq_false,decide_true,decide_false,Int.toNat_natCast];exact kt (shE3 fun h => by unfold shOk at h;omega)
  by_cases c2 : 4 < i
  · simp (disch := omega) only [joinF_eq,bindO_some,s_wr,s_td,s_tm,s_pos,s_neg,cond_true,cond_false,Bool.not_true,Bool.not_false,Bool.true_and,Bool.and_true,Bool.false_and,Bool.and_false,bne_self_eq_false,decide_true,decide_false,Int.toNat_natCast];exact kt (shE3 fun h => by unfold shOk at h;omega)
  by_cases c3 : o < 1
  · simp (disch := omega) only [joinF_eq,bindO_some,s_wr,s_td,s_tm,s_pos,s_neg,cond_true,cond_false,Bool.not_true,Bool.not_false,Bool.true_and,Bool.and_true,Bool.false_and,Bool.and_false,bne_self_eq_false,decide_true,decide_false,Int.toNat_natCast];exact kt (shE3 fun h => by unfold shOk at h;omega)
  by_cases c4 : 8 < o
  · simp (disch := omega) only [joinF_eq,bindO_some,s_wr,s_td,s_tm,s_pos,s_neg,cond_true,cond_false,Bool.not_true,Bool.not_false,Bool.true_and,Bool.and_true,Bool.false_and,Bool.and_false,bne_self_eq_false,decide_true,decide_false,Int.toNat_natCast];exact kt (shE3 fun h => by unfold shOk at h;omega)
  simp (disch := omega) only [joinF_eq,bindO_some,s_wr,s_td,s_tm,s_pos,s_neg,cond_true,cond_false,Bool.not_true,Bool.not_false,Bool.true_and,Bool.and_true,Bool.false_and,Bool.and_false,bne_self_eq_false,decide_true,decide_false,Int.toNat_natCast];unfold grid_nodes_j1;simp (disch := omega) only [joinF_eq,bindO_some,s_wr,s_td,s_tm,s_pos,s_neg,cond_true,cond_false,Bool.not_true,Bool.not_false,Bool.true_and,Bool.and_true,Bool.false_and,Bool.and_false,bne_self_eq_false,decide_true,decide_false,Int.toNat_natCast]
  have kf : ∀ b : Bool,(b = true ↔ (2 ≤ s ∧ s ≤ 9) ∧ s ≠ 8) → grid_nodes_j2 fu (i,(o,(s,()))) b = some ((if shE i o s = 0 then s ^ i.toNat else 0),(shE i o s,())) := by
    intro b hb;unfold grid_nodes_j2;cases b
    · rw [shE3 (fun h => by unfold shOk at h;have := hb.2 h.2.2;cases this)];rfl
    · have ok : shOk i o s := ⟨by omega,by omega,(hb.1 rfl).1,(hb.1 rfl).2⟩;obtain ⟨b1,b2,b3,b4⟩ := sh_bd ok;have ok' := ok;unfold shOk at ok';obtain ⟨n,rfl⟩ := Int.eq_ofNat_of_zero_le (show 0 ≤ i by omega);rw [Int.toNat_natCast] at b1 b2 b3 b4;simp (disch := omega) only [joinF_eq,bindO_some,s_wr,s_td,s_tm,s_pos,s_neg,cond_true,cond_false,Bool.not_true,Bool.not_false,Bool.true_and,Bool.and_true,Bool.false_and,Bool.and_false,bne_self_eq_false,decide_true,decide_false,Int.toNat_natCast];refine stLoop (n := n) (st := fun i => (s ^ i,(i : Int))) (by omega) (by simp) (fun j k hk => ?_) (fun j => ?_)
      · have hb := pw_bd (s := s) (i := k) (by omega) (by omega) (by omega);have hb' := pw_bd (s := s) (i := k + 1) (by omega) (by omega) (by omega);rw [Int.pow_succ] at hb';unfold grid_nodes_l3;simp (disch := omega) only [joinF_eq,bindO_some,s_wr,s_td,s_tm,s_pos,s_neg,cond_true,cond_false,Bool.not_true,Bool.not_false,Bool.true_and,Bool.and_true,Bool.false_and,Bool.and_false,bne_self_eq_false,decide_true,decide_false,Int.toNat_natCast];rw [Int.pow_succ];rfl
      · unfold grid_nodes_l3;simp (disch := omega) only [joinF_eq,bindO_some,s_wr,s_td,s_tm,s_pos,s_neg,cond_true,cond_false,Bool.not_true,Bool.not_false,Bool.true_and,Bool.and_true,Bool.false_and,Bool.and_false,bne_self_eq_false,decide_true,decide_false,Int.toNat_natCast];by_cases c5 : 32768 < s ^ n * o
        · rw [shE2 ok (by rw [Int.toNat_natCast];exact c5)];simp (disch := omega) only [joinF_eq,bindO_some,s_wr,s_td,s_tm,s_pos,s_neg,cond_true,cond_false,Bool.not_true,Bool.not_false,Bool.true_and,Bool.and_true,Bool.false_and,Bool.and_false,bne_self_eq_false,decide_true,decide_false,Int.toNat_natCast];rfl
        · rw [shE0 ok (by rw [Int.toNat_natCast];exact c5)];simp (disch := omega) only [joinF_eq,bindO_some,s_wr,s_td,s_tm,s_pos,s_neg,cond_true,cond_false,Bool.not_true,Bool.not_false,Bool.true_and,Bool.and_true,Bool.false_and,Bool.and_false,bne_self_eq_false,decide_true,decide_false,Int.toNat_natCast];rfl
  by_cases d2 : s = 2
  · simp (disch := omega) only [joinF_eq,bindO_some,s_wr,s_td,s_tm,s_pos,s_neg,cond_true,cond_false,Bool.not_true,Bool.not_false,Bool.true_and,Bool.and_true,Bool.false_and,Bool.and_false,bne_self_eq_false,decide_true,decide_false,Int.toNat_natCast];exact kf _ (by simp;omega)
  by_cases d3 : s = 3
  · simp (disch := omega) only [joinF_eq,bindO_some,s_wr,s_td,s_tm,s_pos,s_neg,cond_true,cond_false,Bool.not_true,Bool.not_false,Bool.true_and,Bool.and_true,Bool.false_and,Bool.and_false,bne_self_eq_false,decide_true,decide_false,Int.toNat_natCast];exact kf _ (by simp;omega)
  by_cases d4 : s = 4
  · simp (disch := omega) only [joinF_eq,bindO_some,s_wr,s_td,s_tm,s_pos,s_neg,cond_true,cond_false,Bool.not_true,Bool.not_false,Bool.true_and,Bool.and_true,Bool.false_and,Bool.and_false,bne_self_eq_false,decide_true,decide_false,Int.toNat_natCast];exact kf _ (by simp;omega)
  by_cases d5 : s = 5
  · simp (disch := omega) only [joinF_eq,bindO_some,s_wr,s_td,s_tm,s_pos,s_neg,cond_true,cond_false,Bool.not_true,Bool.not_false,Bool.true_and,Bool.and_true,Bool.false_and,Bool.and_false,bne_self_eq_false,decide_true,decide_false,Int.toNat_natCast];exact kf _ (by simp;omega)
  by_cases d6 : s = 6
  · simp (disch := omega) only [joinF_eq,bindO_some,s_wr,s_td,s_tm,s_pos,s_neg,cond_true,cond_false,Bool.not_true,Bool.not_false,Bool.true_and,Bool.and_true,Bool.false_and,Bool.and_false,bne_self_eq_false,decide_true,decide_false,Int.toNat_natCast];exact kf _ (by simp;omega)
  by_cases d7 : s = 7
  · simp (disch := omega) only [joinF_eq,bindO_some,s_wr,s_td,s_tm,s_pos,s_neg,cond_true,cond_false,Bool.not_true,Bool.not_false,Bool.true_and,Bool.and_true,Bool.false_and,Bool.and_false,bne_self_eq_false,decide_true,decide_false,Int.toNat_natCast];exact kf _ (by simp;omega)
  simp (disch := omega) only [joinF_eq,bindO_some,s_wr,s_td,s_tm,s_pos,s_neg,cond_true,cond_false,Bool.not_true,Bool.not_false,Bool.true_and,Bool.and_true,Bool.false_and,Bool.and_false,bne_self_eq_false,decide_true,decide_false,Int.toNat_natCast];exact kf _ (by rw [decide_eq_true_eq];omega)
variable {vs : List Int} (hv : (vs.length : Int) ≤ 9223372036854775807)
include hv
theorem gridErr_r : R_GridErr_r fu ((i,(o,(s,vs))),()) = some (grE (i,(o,(s,vs))),()) := by
  unfold R_GridErr_r grE;simp only [shapeErr_r hf,bindO_some];by_cases c : shE i o s = 0
  · have ok : shOk i o s := by
      refine Classical.byContradiction fun h => ?_
      rw [shE3 h] at c;omega
    obtain ⟨b1,b2,b3,b4⟩ := sh_bd ok;have ok' := ok;unfold shOk at ok';rw [if_pos c];simp (disch := omega) only [joinF_eq,bindO_some,s_wr,s_td,s_tm,s_pos,s_neg,cond_true,cond_false,Bool.not_true,Bool.not_false,Bool.true_and,Bool.and_true,Bool.false_and,Bool.and_false,bne_self_eq_false,decide_true,decide_false,Int.toNat_natCast,power_r hf];by_cases c2 : (vs.length : Int) = s ^ i.toNat * o
    · rw [if_pos c2];simp (disch := omega) only [joinF_eq,bindO_some,s_wr,s_td,s_tm,s_pos,s_neg,cond_true,cond_false,Bool.not_true,Bool.not_false,Bool.true_and,Bool.and_true,Bool.false_and,Bool.and_false,bne_self_eq_false,decide_true,decide_false,Int.toNat_natCast];rw [errLoop (n := vs.length) (E := vlE vs) (out := fun e => some (e,())) (fin := some (0,())) (by omega)]
      · split
        · rename_i e;rw [e]
        · rfl
      · intro j k hk;unfold R_GridErr_l1 vlE;simp (disch := omega) only [joinF_eq,bindO_some,s_wr,s_td,s_tm,s_pos,s_neg,cond_true,cond_false,Bool.not_true,Bool.not_false,Bool.true_and,Bool.and_true,Bool.false_and,Bool.and_false,bne_self_eq_false,decide_true,decide_false,Int.toNat_natCast,within_s];by_cases g : -32768 ≤ vs.getD k 0 ∧ vs.getD k 0 ≤ 65535
        · rw [if_pos g,decide_eq_true g];simp (disch := omega) only [joinF_eq,bindO_some,s_wr,s_td,s_tm,s_pos,s_neg,cond_true,cond_false,Bool.not_true,Bool.not_false,Bool.true_and,Bool.and_true,Bool.false_and,Bool.and_false,bne_self_eq_false,decide_true,decide_false,Int.toNat_natCast];rfl
        · rw [if_neg g,decide_eq_false g];simp (disch := omega) only [joinF_eq,bindO_some,s_wr,s_td,s_tm,s_pos,s_neg,cond_true,cond_false,Bool.not_true,Bool.not_false,Bool.true_and,Bool.and_true,Bool.false_and,Bool.and_false,bne_self_eq_false,decide_true,decide_false,Int.toNat_natCast];rfl
      · intro j;unfold R_GridErr_l1;simp (disch := omega) only [joinF_eq,bindO_some,s_wr,s_td,s_tm,s_pos,s_neg,cond_true,cond_false,Bool.not_true,Bool.not_false,Bool.true_and,Bool.and_true,Bool.false_and,Bool.and_false,bne_self_eq_false,decide_true,decide_false,Int.toNat_natCast]
    · rw [if_neg c2];simp (disch := omega) only [joinF_eq,bindO_some,s_wr,s_td,s_tm,s_pos,s_neg,cond_true,cond_false,Bool.not_true,Bool.not_false,Bool.true_and,Bool.and_true,Bool.false_and,Bool.and_false,bne_self_eq_false,decide_true,decide_false,Int.toNat_natCast]
  · rw [if_neg c];simp (disch := omega) only [joinF_eq,bindO_some,s_wr,s_td,s_tm,s_pos,s_neg,cond_true,cond_false,Bool.not_true,Bool.not_false,Bool.true_and,Bool.and_true,Bool.false_and,Bool.and_false,bne_self_eq_false,decide_true,decide_false,Int.toNat_natCast]
theorem check_r : grid_Check_r fu ((i,(o,(s,vs))),()) = some (grE (i,(o,(s,vs))),()) := by
  unfold grid_Check_r grE;simp only [nodes_r hf,bindO_some];by_cases c : shE i o s = 0
  · have ok : shOk i o s := by
      refine Classical.byContradiction fun h => ?_
      rw [shE3 h] at c;omega
    obtain ⟨b1,b2,b3,b4⟩ := sh_bd ok;have ok' := ok;unfold shOk at ok';simp only [if_pos c];simp (disch := omega) only [joinF_eq,bindO_some,s_wr,s_td,s_tm,s_pos,s_neg,cond_true,cond_false,Bool.not_true,Bool.not_false,Bool.true_and,Bool.and_true,Bool.false_and,Bool.and_false,bne_self_eq_false,decide_true,decide_false,Int.toNat_natCast];by_cases c2 : (vs.length : Int) = s ^ i.toNat * o
    · rw [if_pos c2];simp (disch := omega) only [joinF_eq,bindO_some,s_wr,s_td,s_tm,s_pos,s_neg,cond_true,cond_false,Bool.not_true,Bool.not_false,Bool.true_and,Bool.and_true,Bool.false_and,Bool.and_false,bne_self_eq_false,decide_true,decide_false,Int.toNat_natCast];rw [errLoop (n := vs.length) (E := vlE vs) (out := fun e => some (e,())) (fin := some (0,())) (by omega)]
      · split
        · rename_i e;rw [e]
        · rfl
      · intro j k hk;have t3 : ¬ (-32768 ≤ vs.getD k 0 ∧ vs.getD k 0 ≤ 65535) → vlE vs k = 3 := fun h => by unfold vlE;rw [if_neg h]
        have t0 : (-32768 ≤ vs.getD k 0 ∧ vs.getD k 0 ≤ 65535) → vlE vs k = 0 := fun h => by unfold vlE;rw [if_pos h]
        unfold grid_Check_l1;simp (disch := omega) only [joinF_eq,bindO_some,s_wr,s_td,s_tm,s_pos,s_neg,cond_true,cond_false,Bool.not_true,Bool.not_false,Bool.true_and,Bool.and_true,Bool.false_and,Bool.and_false,bne_self_eq_false,decide_true,decide_false,Int.toNat_natCast];by_cases g : vs.getD k 0 < -32768
        · rw [t3 (by omega)];simp (disch := omega) only [joinF_eq,bindO_some,s_wr,s_td,s_tm,s_pos,s_neg,cond_true,cond_false,Bool.not_true,Bool.not_false,Bool.true_and,Bool.and_true,Bool.false_and,Bool.and_false,bne_self_eq_false,decide_true,decide_false,Int.toNat_natCast,grid_Check_j2];rfl
        by_cases g2 : 65535 < vs.getD k 0
        · rw [t3 (by omega)];simp (disch := omega) only [joinF_eq,bindO_some,s_wr,s_td,s_tm,s_pos,s_neg,cond_true,cond_false,Bool.not_true,Bool.not_false,Bool.true_and,Bool.and_true,Bool.false_and,Bool.and_false,bne_self_eq_false,decide_true,decide_false,Int.toNat_natCast,grid_Check_j2];rfl
        · rw [t0 (by omega)];simp (disch := omega) only [joinF_eq,bindO_some,s_wr,s_td,s_tm,s_pos,s_neg,cond_true,cond_false,Bool.not_true,Bool.not_false,Bool.true_and,Bool.and_true,Bool.false_and,Bool.and_false,bne_self_eq_false,decide_true,decide_false,Int.toNat_natCast,grid_Check_j2];rfl
      · intro j;unfold grid_Check_l1;simp (disch := omega) only [joinF_eq,bindO_some,s_wr,s_td,s_tm,s_pos,s_neg,cond_true,cond_false,Bool.not_true,Bool.not_false,Bool.true_and,Bool.and_true,Bool.false_and,Bool.and_false,bne_self_eq_false,decide_true,decide_false,Int.toNat_natCast]
    · rw [if_neg c2];simp (disch := omega) only [joinF_eq,bindO_some,s_wr,s_td,s_tm,s_pos,s_neg,cond_true,cond_false,Bool.not_true,Bool.not_false,Bool.true_and,Bool.and_true,Bool.false_and,Bool.and_false,bne_self_eq_false,decide_true,decide_false,Int.toNat_natCast]
  · simp only [if_neg c];simp (disch := omega) only [joinF_eq,bindO_some,s_wr,s_td,s_tm,s_pos,s_neg,cond_true,cond_false,Bool.not_true,Bool.not_false,Bool.true_and,Bool.and_true,Bool.false_and,Bool.and_false,bne_self_eq_false,decide_true,decide_false,Int.toNat_natCast]
end
end Go.Proofs.Ytjhdjjoacedlpaa
/- Grids: the place of a node,Node and Step,and the law GridNodes. -/
namespace Go.Proofs.Ytjhdjjoacedlpaa
open Go Go.RowKit
set_option linter.unusedSimpArgs false
set_option linter.unusedSectionVars false
set_option linter.unusedVariables false
theorem grE_ok {i o s : Int} {vs : List Int} (h : grE (i,(o,(s,vs))) = 0) : shOk i o s ∧ ¬ 32768 < s ^ i.toNat * o ∧ (vs.length : Int) = s ^ i.toNat * o ∧ ∀ k,k < vs.length → -32768 ≤ vs.getD k 0 ∧ vs.getD k 0 ≤ 65535 := by
  unfold grE at h;by_cases c : shE i o s = 0
  · simp only [if_pos c] at h
    have ok : shOk i o s := by
      refine Classical.byContradiction fun h => ?_
      rw [shE3 h] at c;omega
    refine ⟨ok,fun h' => by rw [shE2 ok h'] at c;omega,?_⟩;by_cases c2 : (vs.length : Int) = s ^ i.toNat * o
    · rw [if_pos c2] at h;refine ⟨c2,fun k hk => ?_⟩;have := firstE_ok _ _ h k (by omega) (by omega);unfold vlE at this;split at this
      · assumption
      · omega
    · rw [if_neg c2] at h;omega
  · simp only [if_neg c] at h;omega
theorem tones_ok {l : List Int} {n m : Int} (h : tonesE l n m = 0) : (l.length : Int) = n ∧ ∀ k,k < l.length → 0 ≤ l.getD k 0 ∧ l.getD k 0 ≤ m := by
  unfold tonesE at h;split at h
  · rename_i c;refine ⟨c,fun k hk => ?_⟩;have := firstE_ok _ _ h k (by omega) (by omega);unfold tnE at this;split at this
    · assumption
    · omega
  · omega
def horN (s : Int) (l : List Int) : Nat → Int
  | 0 => 0
  | i + 1 => horN s l i * s + l.getD i 0
theorem horN_bd {s : Int} (h1 : 1 ≤ s) {l : List Int} : ∀ (n : Nat),(∀ k,k < n → 0 ≤ l.getD k 0 ∧ l.getD k 0 ≤ s - 1) → 0 ≤ horN s l n ∧ horN s l n ≤ s ^ n - 1
  | 0,_ => by simp [horN]
  | n + 1,h => by
    obtain ⟨a,b⟩ := horN_bd h1 n (fun k hk => h k (by omega));have c := h n (by omega);have d := Int.mul_nonneg a (show 0 ≤ s by omega);have e := Int.mul_le_mul_of_nonneg_right b (show 0 ≤ s by omega);rw [Int.sub_mul,Int.one_mul] at e;rw [horN,Int.pow_succ];omega
theorem horN_take (s : Int) (l : List Int) (m : Nat) : ∀ (n : Nat),n ≤ m → horN s (l.take m) n = horN s l n
  | 0,_ => rfl
  | n + 1,h => by
    rw [horN,horN,horN_take s l m n (by omega),List.getD_eq_getElem?_getD,List.getD_eq_getElem?_getD,List.getElem?_take_of_lt (by omega)]
section
variable {fu : Nat} (hf : 18446744073709551616 ≤ fu)
include hf
theorem tonesErr_r {l : List Int} (hl : (l.length : Int) ≤ 9223372036854775807) {n m : Int} : R_TonesErr_r fu (l,(n,(m,()))) = some (tonesE l n m,()) := by
  unfold R_TonesErr_r tonesE;by_cases c : (l.length : Int) = n
  · rw [if_pos c];simp (disch := omega) only [joinF_eq,bindO_some,s_wr,s_td,s_tm,s_pos,s_neg,cond_true,cond_false,Bool.not_true,Bool.not_false,Bool.true_and,Bool.and_true,Bool.false_and,Bool.and_false,bne_self_eq_false,decide_true,decide_false,Int.toNat_natCast];rw [errLoop (n := l.length) (E := tnE l m) (out := fun e => some (e,())) (fin := some (0,())) (by omega)]
    · split
      · rename_i e;rw [e]
      · rfl
    · intro j i hi;unfold R_TonesErr_l1 tnE;simp (disch := omega) only [joinF_eq,bindO_some,s_wr,s_td,s_tm,s_pos,s_neg,cond_true,cond_false,Bool.not_true,Bool.not_false,Bool.true_and,Bool.and_true,Bool.false_and,Bool.and_false,bne_self_eq_false,decide_true,decide_false,Int.toNat_natCast,within_s];by_cases g : 0 ≤ l.getD i 0 ∧ l.getD i 0 ≤ m
      · rw [if_pos g,decide_eq_true g];simp (disch := omega) only [joinF_eq,bindO_some,s_wr,s_td,s_tm,s_pos,s_neg,cond_true,cond_false,Bool.not_true,Bool.not_false,Bool.true_and,Bool.and_true,Bool.false_and,Bool.and_false,bne_self_eq_false,decide_true,decide_false,Int.toNat_natCast];rfl
      · rw [if_neg g,decide_eq_false g];simp (disch := omega) only [joinF_eq,bindO_some,s_wr,s_td,s_tm,s_pos,s_neg,cond_true,cond_false,Bool.not_true,Bool.not_false,Bool.true_and,Bool.and_true,Bool.false_and,Bool.and_false,bne_self_eq_false,decide_true,decide_false,Int.toNat_natCast];rfl
    · intro j;unfold R_TonesErr_l1;simp (disch := omega) only [joinF_eq,bindO_some,s_wr,s_td,s_tm,s_pos,s_neg,cond_true,cond_false,Bool.not_true,Bool.not_false,Bool.true_and,Bool.and_true,Bool.false_and,Bool.and_false,bne_self_eq_false,decide_true,decide_false,Int.toNat_natCast]
  · rw [if_neg c];simp (disch := omega) only [joinF_eq,bindO_some,s_wr,s_td,s_tm,s_pos,s_neg,cond_true,cond_false,Bool.not_true,Bool.not_false,Bool.true_and,Bool.and_true,Bool.false_and,Bool.and_false,bne_self_eq_false,decide_true,decide_false,Int.toNat_natCast]
theorem at_r {i o s : Int} {vs l : List Int} (h1 : 1 ≤ s) (h2 : s ≤ 9) (h3 : 0 ≤ o) (h4 : o ≤ 8) (hl : l.length ≤ 4) (hb : ∀ k,k < l.length → 0 ≤ l.getD k 0 ∧ l.getD k 0 ≤ s - 1) :
    grid_at_r fu ((i,(o,(s,vs))),(l,())) = some (horN s l l.length * o,()) := by
  unfold grid_at_r
  have bd : ∀ n,n ≤ l.length → 0 ≤ horN s l n ∧ horN s l n ≤ 6561 := fun n hn => by
    have a := horN_bd h1 n (fun k hk => hb k (by omega));have b := pw_bd (s := s) (i := n) (by omega) h2 (by omega);omega
  refine stLoop (n := l.length) (st := fun i => (horN s l i,(i : Int))) (by omega) rfl (fun j k hk => ?_) (fun j => ?_)
  · have a := bd k (by omega);have b := hb k hk;have c := Int.mul_nonneg a.1 (show 0 ≤ s by omega);have d := Int.mul_le_mul a.2 h2 (show 0 ≤ s by omega) (by omega);unfold grid_at_l1;simp (disch := omega) only [joinF_eq,bindO_some,s_wr,s_td,s_tm,s_pos,s_neg,cond_true,cond_false,Bool.not_true,Bool.not_false,Bool.true_and,Bool.and_true,Bool.false_and,Bool.and_false,bne_self_eq_false,decide_true,decide_false,Int.toNat_natCast];rfl
  · have a := bd l.length (by omega);have c := Int.mul_nonneg a.1 h3;have d := Int.mul_le_mul a.2 h4 h3 (by omega);unfold grid_at_l1;simp (disch := omega) only [joinF_eq,bindO_some,s_wr,s_td,s_tm,s_pos,s_neg,cond_true,cond_false,Bool.not_true,Bool.not_false,Bool.true_and,Bool.and_true,Bool.false_and,Bool.and_false,bne_self_eq_false,decide_true,decide_false,Int.toNat_natCast]
theorem sameI_r {l : List Int} (hl : (l.length : Int) ≤ 9223372036854775807) : R_SameInts_r fu (l,(l,())) = some (true,()) := by
  unfold R_SameInts_r;simp (disch := omega) only [joinF_eq,bindO_some,s_wr,s_td,s_tm,s_pos,s_neg,cond_true,cond_false,Bool.not_true,Bool.not_false,Bool.true_and,Bool.and_true,Bool.false_and,Bool.and_false,bne_self_eq_false,decide_true,decide_false,Int.toNat_natCast];rw [errLoop (n := l.length) (E := fun _ => 0) (out := fun e => some (true,())) (fin := some (true,())) (by omega)]
  · split <;> rfl
  · intro j i hi;unfold R_SameInts_l1;simp (disch := omega) only [joinF_eq,bindO_some,s_wr,s_td,s_tm,s_pos,s_neg,cond_true,cond_false,Bool.not_true,Bool.not_false,Bool.true_and,Bool.and_true,Bool.false_and,Bool.and_false,bne_self_eq_false,decide_true,decide_false,Int.toNat_natCast];rfl
  · intro j;unfold R_SameInts_l1;simp (disch := omega) only [joinF_eq,bindO_some,s_wr,s_td,s_tm,s_pos,s_neg,cond_true,cond_false,Bool.not_true,Bool.not_false,Bool.true_and,Bool.and_true,Bool.false_and,Bool.and_false,bne_self_eq_false,decide_true,decide_false,Int.toNat_natCast]
end
end Go.Proofs.Ytjhdjjoacedlpaa
/- Tables rewritten from the left. No program in sight. -/
namespace Go.Proofs.Ytjhdjjoacedlpaa
open Go Go.RowKit
set_option linter.unusedVariables false
theorem tabP_set {o q : Nat} {A B : Int → Int} {v : Int} (hq : q < o) (hv : A q = v) : (tabL o fun k => if k < (q : Int) then A k else B k).set q v = tabL o fun k => if k < ((q + 1 : Nat) : Int) then A k else B k := by
  have := tabL_set (n := o) (G := fun k => if k < (q : Int) then A k else B k) (G' := fun k => if k < ((q + 1 : Nat) : Int) then A k else B k) (k := (q : Int)) (v := v) (by omega) (by rw [if_pos (by omega)];exact hv) (fun i h0 h1 h2 => by
    by_cases c : i < (q : Int)
    · rw [if_pos c,if_pos (by omega)]
    · rw [if_neg c,if_neg (by omega)])
  rw [Int.toNat_natCast] at this;exact this
theorem tabP_get {o q : Nat} {A B : Int → Int} (hq : q < o) : (tabL o fun k => if k < (q : Int) then A k else B k).getD q 0 = B q := by
  rw [tabL_getDN hq,if_neg (by omega)]
theorem getD_set' {l : List Int} {k i : Nat} {v : Int} (hk : k < l.length) : (l.set k v).getD i 0 = if i = k then v else l.getD i 0 := by
  rw [List.getD_eq_getElem?_getD,List.getElem?_set];by_cases e : k = i
  · subst e;rw [if_pos rfl,if_pos hk,if_pos rfl];rfl
  · rw [if_neg e,if_neg (fun h => e h.symm),List.getD_eq_getElem?_getD]
end Go.Proofs.Ytjhdjjoacedlpaa
/- Grids: what the document's interpolation computes;the loops for any result. -/
namespace Go.Proofs.Ytjhdjjoacedlpaa
open Go Go.RowKit
set_option linter.unusedSimpArgs false
set_option linter.unusedSectionVars false
set_option linter.unusedVariables false
set_option linter.unusedVariables false
def raw_j3 {β : Type} (fu : Nat) (v4 : Int) (v6 : (Int) × ((List (Int)) × ((List (Int)) × (List (Int))))) (v7 : Int) (v8 : Int) (v9 : (Int) × (List (Int))) (j6 : ((Int) × ((List (Int)) × ((List (Int)) × (List (Int))))) → Option β) (j9 : ((Int) × (List (Int))) → Option β) (v10 : Bool) : Option β :=
  bif v10 then
    bif (((decide ((0 : Int) ≤ (IntKind.i64.wrap (v9.1 - (1 : Int))))) && (decide ((IntKind.i64.wrap (v9.1 - (1 : Int))) < (List.length v9.2 : Int)))) && (decide ((IntKind.i64.wrap (v9.1 - (1 : Int))) < (4 : Int)))) then
    bif (((decide ((0 : Int) ≤ v9.1)) && (decide (v9.1 < (List.length v9.2 : Int)))) && (decide (v9.1 < (4 : Int)))) then
    let v11 : Int := (IntKind.i64.wrap (v9.1 - (1 : Int)))
    j9 ((v11,(List.set v9.2 (Int.toNat v9.1) (List.getD v9.2 (Int.toNat (IntKind.i64.wrap (v9.1 - (1 : Int)))) 0))))
    else none
    else none
  else
  bif (((decide ((0 : Int) ≤ v9.1)) && (decide (v9.1 < (List.length v9.2 : Int)))) && (decide (v9.1 < (4 : Int)))) then
  j6 (((IntKind.i64.wrap (v6.1 + (1 : Int))),((List.set v6.2.1 (Int.toNat v8) (Int.tmod v7 v4)),((List.set v6.2.2.1 (Int.toNat v8) (IntKind.i64.wrap (Int.tdiv v7 v4))),(List.set v9.2 (Int.toNat v9.1) v8)))))
  else none
def raw_l2 {β : Type} (fu : Nat) (v4 : Int) (v6 : (Int) × ((List (Int)) × ((List (Int)) × (List (Int))))) (v7 : Int) (v8 : Int) (j6 : ((Int) × ((List (Int)) × ((List (Int)) × (List (Int))))) → Option β) (j9 : ((Int) × (List (Int))) → Option β) (v9 : (Int) × (List (Int))) : Option β :=
  joinF (raw_j3 fu v4 v6 v7 v8 v9 j6 j9) fun j10 =>
  bif (decide ((0 : Int) < v9.1)) then
    bif (((decide ((0 : Int) ≤ (IntKind.i64.wrap (v9.1 - (1 : Int))))) && (decide ((IntKind.i64.wrap (v9.1 - (1 : Int))) < (List.length v9.2 : Int)))) && (decide ((IntKind.i64.wrap (v9.1 - (1 : Int))) < (4 : Int)))) then
    bif (((decide ((0 : Int) ≤ (List.getD v9.2 (Int.toNat (IntKind.i64.wrap (v9.1 - (1 : Int)))) 0))) && (decide ((List.getD v9.2 (Int.toNat (IntKind.i64.wrap (v9.1 - (1 : Int)))) 0) < (List.length (List.set v6.2.1 (Int.toNat v8) (Int.tmod v7 v4)) : Int)))) && (decide ((List.getD v9.2 (Int.toNat (IntKind.i64.wrap (v9.1 - (1 : Int)))) 0) < (4 : Int)))) then
    bif (((decide ((0 : Int) ≤ v8)) && (decide (v8 < (List.length (List.set v6.2.1 (Int.toNat v8) (Int.tmod v7 v4)) : Int)))) && (decide (v8 < (4 : Int)))) then
    j10 ((decide ((List.getD (List.set v6.2.1 (Int.toNat v8) (Int.tmod v7 v4)) (Int.toNat (List.getD v9.2 (Int.toNat (IntKind.i64.wrap (v9.1 - (1 : Int)))) 0)) 0) < (List.getD (List.set v6.2.1 (Int.toNat v8) (Int.tmod v7 v4)) (Int.toNat v8) 0))))
    else none
    else none
    else none
  else
  j10 (false)
def raw_j6 {β : Type} (fu : Nat) (j8 : ((Int) × ((Int) × ((List (Int)) × (List (Int))))) → Option β) (v9 : (Int) × ((Int) × ((List (Int)) × (List (Int))))) : Option β :=
  let v10 : Int := (IntKind.i64.wrap (v9.1 + (1 : Int)))
  j8 ((v9.2.1,(v10,(v9.2.2.1,v9.2.2.2))))
def raw_j8 {β : Type} (fu : Nat) (v5 : Int) (v6 : (Int) × ((List (Int)) × ((List (Int)) × (List (Int))))) (v8 : (Int) × ((Int) × ((List (Int)) × (List (Int))))) (v10 : (Int) × ((Int) × ((List (Int)) × (List (Int))))) (j7 : (List (Int)) → Option β) (j9 : ((Int) × ((Int) × ((List (Int)) × (List (Int))))) → Option β) (v11 : (Int) × (List (Int))) : Option β :=
  bif (decide (v8.2.1 < v5)) then
    let v12 : Int := v10.1
    bif (decide (v10.1 = (0 : Int))) then
      j7 (v11.2)
    else
    bif (((decide ((0 : Int) ≤ v8.2.1)) && (decide (v8.2.1 < (List.length v6.2.2.2 : Int)))) && (decide (v8.2.1 < (4 : Int)))) then
    bif (((decide ((0 : Int) ≤ (List.getD v6.2.2.2 (Int.toNat v8.2.1) 0))) && (decide ((List.getD v6.2.2.2 (Int.toNat v8.2.1) 0) < (List.length v10.2.2.2 : Int)))) && (decide ((List.getD v6.2.2.2 (Int.toNat v8.2.1) 0) < (4 : Int)))) then
    bif (((decide ((0 : Int) ≤ (List.getD v6.2.2.2 (Int.toNat v8.2.1) 0))) && (decide ((List.getD v6.2.2.2 (Int.toNat v8.2.1) 0) < (List.length v10.2.2.2 : Int)))) && (decide ((List.getD v6.2.2.2 (Int.toNat v8.2.1) 0) < (4 : Int)))) then
    j9 ((v8.2.1,(v12,(v11.2,(List.set v10.2.2.2 (Int.toNat (List.getD v6.2.2.2 (Int.toNat v8.2.1) 0)) (IntKind.i64.wrap ((List.getD v10.2.2.2 (Int.toNat (List.getD v6.2.2.2 (Int.toNat v8.2.1) 0)) 0) + (1 : Int))))))))
    else none
    else none
    else none
  else
  j9 ((v8.2.1,(v11.1,(v11.2,v10.2.2.2))))
def raw_l9 {β : Type} (fu : Nat) (a : ((Int) × ((Int) × ((Int) × (List (Int))))) × ((List (Int)) × (Unit))) (v10 : (Int) × ((Int) × ((List (Int)) × (List (Int))))) (v12 : Int) (v14 : Int) (j11 : ((Int) × (List (Int))) → Option β) (j15 : ((Int) × (List (Int))) → Option β) (v15 : (Int) × (List (Int))) : Option β :=
  bif (decide (v15.1 < (List.length v10.2.2.1 : Int))) then
    let v16 : Int := v15.1
    bif ((decide ((0 : Int) ≤ v16)) && (decide (v16 < (List.length v15.2 : Int)))) then
    bif ((decide ((0 : Int) ≤ (IntKind.i64.wrap (v14 + v16)))) && (decide ((IntKind.i64.wrap (v14 + v16)) < (List.length a.1.2.2.2 : Int)))) then
    let v17 : Int := (List.getD a.1.2.2.2 (Int.toNat (IntKind.i64.wrap (v14 + v16))) 0)
    bif ((decide ((0 : Int) ≤ v16)) && (decide (v16 < (List.length v15.2 : Int)))) then
    j15 (((IntKind.i64.wrap (v15.1 + (1 : Int))),(List.set v15.2 (Int.toNat v16) (IntKind.i64.wrap ((List.getD v15.2 (Int.toNat v16) 0) + (IntKind.i64.wrap (v12 * v17)))))))
    else none
    else none
    else none
  else
  j11 ((v10.2.1,v15.2))
def raw_j7 {β : Type} (fu : Nat) (a : ((Int) × ((Int) × ((Int) × (List (Int))))) × ((List (Int)) × (Unit))) (v5 : Int) (v6 : (Int) × ((List (Int)) × ((List (Int)) × (List (Int))))) (v8 : (Int) × ((Int) × ((List (Int)) × (List (Int))))) (j7 : (List (Int)) → Option β) (j9 : ((Int) × ((Int) × ((List (Int)) × (List (Int))))) → Option β) (v10 : (Int) × ((Int) × ((List (Int)) × (List (Int))))) : Option β :=
  joinF (raw_j8 fu v5 v6 v8 v10 j7 j9) fun j11 =>
  let v12 : Int := (IntKind.i64.wrap (v10.2.1 - v10.1))
  bif (decide ((0 : Int) < v12)) then
    bif ((decide ((List.length v10.2.2.2 : Int) = (4 : Int))) && ((decide ((0 : Int) ≤ v5)) && (decide (v5 ≤ (List.length v10.2.2.2 : Int))))) then
    bindO (grid_at_r fu (((a.1.1,(a.1.2.1,(a.1.2.2.1,a.1.2.2.2))),((List.drop (Int.toNat (0 : Int)) (List.take (Int.toNat v5) v10.2.2.2)),())))) fun v13 =>
    let v14 : Int := v13.1
    loopF (raw_l9 fu a v10 v12 v14 j11) fu (((0 : Int),v10.2.2.1))
    else none
  else
  j11 ((v10.2.1,v10.2.2.1))
def raw_l5 {β : Type} (fu : Nat) (a : ((Int) × ((Int) × ((Int) × (List (Int))))) × ((List (Int)) × (Unit))) (v5 : Int) (v6 : (Int) × ((List (Int)) × ((List (Int)) × (List (Int))))) (j7 : (List (Int)) → Option β) (j8 : ((Int) × ((Int) × ((List (Int)) × (List (Int))))) → Option β) (v8 : (Int) × ((Int) × ((List (Int)) × (List (Int))))) : Option β :=
  bif (decide (v8.2.1 ≤ v5)) then
    joinF (raw_j6 fu j8) fun j9 =>
    joinF (raw_j7 fu a v5 v6 v8 j7 j9) fun j10 =>
    bif (decide (v8.2.1 < v5)) then
      bif (((decide ((0 : Int) ≤ v8.2.1)) && (decide (v8.2.1 < (List.length v6.2.2.2 : Int)))) && (decide (v8.2.1 < (4 : Int)))) then
      bif (((decide ((0 : Int) ≤ (List.getD v6.2.2.2 (Int.toNat v8.2.1) 0))) && (decide ((List.getD v6.2.2.2 (Int.toNat v8.2.1) 0) < (List.length v6.2.1 : Int)))) && (decide ((List.getD v6.2.2.2 (Int.toNat v8.2.1) 0) < (4 : Int)))) then
      let v11 : Int := (List.getD v6.2.1 (Int.toNat (List.getD v6.2.2.2 (Int.toNat v8.2.1) 0)) 0)
      j10 ((v11,(v8.1,(v8.2.2.1,v8.2.2.2))))
      else none
      else none
    else
    j10 (((0 : Int),(v8.1,(v8.2.2.1,v8.2.2.2))))
  else
  j7 (v8.2.2.1)
def raw_l1 {β : Type} (K : List Int → Option β) (fu : Nat) (a : ((Int) × ((Int) × ((Int) × (List (Int))))) × ((List (Int)) × (Unit))) (v4 : Int) (v5 : Int) (j6 : ((Int) × ((List (Int)) × ((List (Int)) × (List (Int))))) → Option β) (v6 : (Int) × ((List (Int)) × ((List (Int)) × (List (Int))))) : Option β :=
  bif (decide (v6.1 < (List.length a.2.1 : Int))) then
    bif ((decide ((0 : Int) ≤ v6.1)) && (decide (v6.1 < (List.length a.2.1 : Int)))) then
    let v7 : Int := (List.getD a.2.1 (Int.toNat v6.1) 0)
    let v8 : Int := v6.1
    bif (decide (v4 ≠ (0 : Int))) then
    bif (decide (v4 ≠ (0 : Int))) then
    bif (((decide ((0 : Int) ≤ v8)) && (decide (v8 < (List.length v6.2.2.1 : Int)))) && (decide (v8 < (4 : Int)))) then
    bif (((decide ((0 : Int) ≤ v8)) && (decide (v8 < (List.length v6.2.1 : Int)))) && (decide (v8 < (4 : Int)))) then
    loopF (raw_l2 fu v4 v6 v7 v8 j6) fu ((v8,v6.2.2.2))
    else none
    else none
    else none
    else none
    else none
  else
  bif ((decide ((0 : Int) ≤ a.1.2.1)) && (decide (((8 : Int) * a.1.2.1) ≤ (281474976710656 : Int)))) then
  joinF K fun j7 =>
  loopF (raw_l5 fu a v5 v6 j7) fu ((v4,((0 : Int),((List.replicate (Int.toNat a.1.2.1) (0 : Int)),v6.2.2.1))))
  else none
def sc_j3 {β : Type} (fu : Nat) (j12 : ((Int) × (List (Int))) → Option β) (v13 : (Int) × (List (Int))) : Option β :=
  j12 (((IntKind.i64.wrap (v13.1 + (1 : Int))),v13.2))
def sc_j5 {β : Type} (fu : Nat) (a : ((Int) × ((Int) × ((Int) × (List (Int))))) × ((List (Int)) × (Unit))) (v15 : (Int) × ((Int) × ((Int) × (Int)))) (j15 : ((Int) × ((Int) × ((Int) × (Int)))) → Option β) (v20 : (Int) × ((Int) × ((Int) × (Int)))) : Option β :=
  let v21 : Int := (IntKind.i64.wrap ((IntKind.i64.wrap (v20.1 * a.1.2.2.1)) + v20.2.1))
  j15 ((v21,(v20.2.2.1,(v20.2.2.2,(IntKind.i64.wrap (v15.2.2.2 + (1 : Int)))))))
def sc_l6 {β : Type} (fu : Nat) (a : ((Int) × ((Int) × ((Int) × (List (Int))))) × ((List (Int)) × (Unit))) (v12 : (Int) × (List (Int))) (v15 : (Int) × ((Int) × ((Int) × (Int)))) (v16 : Int) (j13 : ((Int) × (List (Int))) → Option β) (j17 : ((Int) × (List (Int))) → Option β) (v17 : (Int) × (List (Int))) : Option β :=
  bif (decide (v17.1 < (List.length v12.2 : Int))) then
    let v18 : Int := v17.1
    bif ((decide ((0 : Int) ≤ v18)) && (decide (v18 < (List.length v17.2 : Int)))) then
    bif ((decide ((0 : Int) ≤ (IntKind.i64.wrap ((IntKind.i64.wrap (v15.1 * a.1.2.1)) + v18)))) && (decide ((IntKind.i64.wrap ((IntKind.i64.wrap (v15.1 * a.1.2.1)) + v18)) < (List.length a.1.2.2.2 : Int)))) then
    let v19 : Int := (List.getD a.1.2.2.2 (Int.toNat (IntKind.i64.wrap ((IntKind.i64.wrap (v15.1 * a.1.2.1)) + v18))) 0)
    bif ((decide ((0 : Int) ≤ v18)) && (decide (v18 < (List.length v17.2 : Int)))) then
    j17 (((IntKind.i64.wrap (v17.1 + (1 : Int))),(List.set v17.2 (Int.toNat v18) (IntKind.i64.wrap ((List.getD v17.2 (Int.toNat v18) 0) + (IntKind.i64.wrap (v16 * v19)))))))
    else none
    else none
    else none
  else
  j13 ((v12.1,v17.2))
def sc_l4 {β : Type} (fu : Nat) (a : ((Int) × ((Int) × ((Int) × (List (Int))))) × ((List (Int)) × (Unit))) (v11 : Int) (v12 : (Int) × (List (Int))) (v14 : Int) (j13 : ((Int) × (List (Int))) → Option β) (j15 : ((Int) × ((Int) × ((Int) × (Int)))) → Option β) (v15 : (Int) × ((Int) × ((Int) × (Int)))) : Option β :=
  bif (decide (v15.2.2.2 < (List.length a.2.1 : Int))) then
    bif ((decide ((0 : Int) ≤ v15.2.2.2)) && (decide (v15.2.2.2 < (List.length a.2.1 : Int)))) then
    let v16 : Int := (List.getD a.2.1 (Int.toNat v15.2.2.2) 0)
    let v17 : Int := v15.2.2.2
    bif (decide (v11 ≠ (0 : Int))) then
    bif (decide (v11 ≠ (0 : Int))) then
    let v18 : Int := (IntKind.i64.wrap (Int.tdiv v16 v11))
    let v19 : Int := (Int.tmod v16 v11)
    joinF (sc_j5 fu a v15 j15) fun j20 =>
    bif ((decide ((0 : Int) ≤ v17)) && (decide (v17 ≤ (64 : Int)))) then
    bif (decide ((bits BinOp.and IntKind.i64 (v14 / 2 ^ (Int.toNat v17)) (1 : Int)) = (1 : Int))) then
      let v21 : Int := (min v15.2.2.1 v19)
      let v22 : Int := (IntKind.i64.wrap (v18 + (1 : Int)))
      j20 ((v15.1,(v22,(v15.2.1,v21))))
    else
    let v21 : Int := (max v15.2.1 v19)
    j20 ((v15.1,(v18,(v21,v15.2.2.1))))
    else none
    else none
    else none
    else none
  else
  let v16 : Int := (IntKind.i64.wrap (v15.2.2.1 - v15.2.1))
  bif (decide ((0 : Int) < v16)) then
    loopF (sc_l6 fu a v12 v15 v16 j13) fu (((0 : Int),v12.2))
  else
  j13 ((v12.1,v12.2))
def sc_l2 {β : Type} (K : (Int × List Int) → Option β) (fu : Nat) (a : ((Int) × ((Int) × ((Int) × (List (Int))))) × ((List (Int)) × (Unit))) (v11 : Int) (j12 : ((Int) × (List (Int))) → Option β) (v12 : (Int) × (List (Int))) : Option β :=
  bif (decide (v12.1 < (IntKind.i64.wrap ((1 : Int) * 2 ^ (Int.toNat a.1.1))))) then
    joinF (sc_j3 fu j12) fun j13 =>
    let v14 : Int := v12.1
    loopF (sc_l4 fu a v11 v12 v14 j13) fu (((0 : Int),((0 : Int),(v11,(0 : Int)))))
  else
  K v12
structure InOk (n o s : Nat) (vs l : List Int) (t : Int) : Prop where
  n1 : 1 ≤ n
  n4 : n ≤ 4
  o1 : 1 ≤ o
  o8 : o ≤ 8
  s2 : 2 ≤ s
  s9 : s ≤ 9
  sz : s ^ n * o ≤ 32768
  hv : vs.length = s ^ n * o
  vb : ∀ k,k < vs.length → -32768 ≤ vs.getD k 0 ∧ vs.getD k 0 ≤ 65535
  hl : l.length = n
  bl : ∀ k,k < n → 0 ≤ l.getD k 0 ∧ l.getD k 0 ≤ 65280
  t1 : 8160 ≤ t
  t2 : t ≤ 65280
  tt : t * (s - 1) = 65280
def inP (l : List Int) (t : Int) (k : Nat) : Int := l.getD k 0 % t
def inC (l : List Int) (t : Int) (k : Nat) : Int := l.getD k 0 / t
def inV (o : Nat) (vs : List Int) (x q : Int) : Int := vs.getD (x * (o : Int) + q).toNat 0
section
variable {n o s : Nat} {vs l : List Int} {t : Int} (h : InOk n o s vs l t)
include h
theorem in_pc {k : Nat} (hk : k < n) : (0 ≤ inP l t k ∧ inP l t k < t) ∧ (0 ≤ inC l t k ∧ inC l t k ≤ (s : Int) - 1) ∧ (0 < inP l t k → inC l t k ≤ (s : Int) - 2) := by
  have a := h.bl k hk;have t1 := h.t1;have tt := h.tt;have s2 := h.s2;have e1 := Int.emod_nonneg (l.getD k 0) (show t ≠ 0 by omega);have e2 := Int.emod_lt_of_pos (l.getD k 0) (show 0 < t by omega);have e3 := Int.emod_add_mul_ediv (l.getD k 0) t;have e4 := Int.ediv_nonneg a.1 (show 0 ≤ t by omega);unfold inP inC
  have e5 : l.getD k 0 / t ≤ (s : Int) - 1 := by
    have := Int.ediv_le_ediv (show 0 < t by omega) a.2;rw [show (65280 : Int) / t = (s : Int) - 1 from Int.ediv_eq_of_eq_mul_right (by omega) tt.symm] at this;exact this
  refine ⟨⟨e1,e2⟩,⟨e4,e5⟩,fun g => ?_⟩;by_cases c : l.getD k 0 / t < (s : Int) - 1
  · omega
  · have : l.getD k 0 / t = (s : Int) - 1 := by omega
    rw [this,tt] at e3;omega
theorem nd_bd {x : Nat} : ∀ m,m ≤ n → 0 ≤ ndF (inC l t) s x m ∧ ndF (inC l t) s x m ≤ (10 : Int) ^ m - 1
  | 0,_ => by simp [ndF]
  | m + 1,hm => by
    obtain ⟨a,b⟩ := nd_bd (x := x) m (by omega);have c := (in_pc h (k := m) (by omega)).2.1;have d := dg2 x m;have s9 := h.s9;have s2 := h.s2;have e := Int.mul_le_mul b (show (s : Int) ≤ 10 by omega) (by omega) (by omega);have f := Int.mul_nonneg a (show 0 ≤ (s : Int) by omega);rw [Int.sub_mul] at e;rw [ndF,Int.pow_succ];omega
theorem nd_lt {x : Nat} (hw : 0 < wF n t (inP l t) x) : ∀ m,m ≤ n → 0 ≤ ndF (inC l t) s x m ∧ ndF (inC l t) s x m ≤ (s : Int) ^ m - 1
  | 0,_ => by simp [ndF]
  | m + 1,hm => by
    obtain ⟨a,b⟩ := nd_lt hw m (by omega);obtain ⟨⟨c1,c2⟩,⟨c3,c4⟩,c5⟩ := in_pc h (k := m) (by omega)
    have hd : inC l t m + (dg 2 x m : Int) ≤ (s : Int) - 1 := by
      rcases dg2 x m with g | g
      · omega
      · have e1 := lsF_le (t := t) (p := inP l t) (x := x) n m (by omega) g;have e2 := msF_0 (p := inP l t) (x := x) n;unfold wF at hw;have := c5 (by omega);omega
    have s2 := h.s2;have e := Int.mul_le_mul_of_nonneg_right b (show 0 ≤ (s : Int) by omega);have f := Int.mul_nonneg a (show 0 ≤ (s : Int) by omega);rw [Int.sub_mul,Int.one_mul] at e;rw [ndF,Int.pow_succ];omega
theorem nd_at {x : Nat} (hw : 0 < wF n t (inP l t) x) {q : Nat} (hq : q < o) : 0 ≤ ndF (inC l t) s x n * (o : Int) + q ∧ ndF (inC l t) s x n * (o : Int) + q < (vs.length : Int) ∧ ndF (inC l t) s x n * (o : Int) ≤ 32768 ∧ -32768 ≤ inV o vs (ndF (inC l t) s x n) q ∧ inV o vs (ndF (inC l t) s x n) q ≤ 65535 := by
  obtain ⟨a,b⟩ := nd_lt h hw n (Nat.le_refl _);have c := Int.mul_le_mul_of_nonneg_right b (show 0 ≤ (o : Int) by omega);have d := Int.mul_nonneg a (show 0 ≤ (o : Int) by omega);have hv : (vs.length : Int) = (s : Int) ^ n * (o : Int) := by rw [h.hv,Int.natCast_mul,Int.natCast_pow]
  have sz := h.sz;have hv' := h.hv;rw [Int.sub_mul,Int.one_mul,← hv] at c;have lt : ndF (inC l t) s x n * (o : Int) + q < (vs.length : Int) := by omega
  have := h.vb (ndF (inC l t) s x n * (o : Int) + q).toNat (by omega);exact ⟨by omega,lt,by omega,this⟩
theorem w_bd {x : Nat} : wF n t (inP l t) x ≤ 65280 ∧ -65280 ≤ wF n t (inP l t) x := by
  have t1 := h.t1;have t2 := h.t2;have a := lsF_t (t := t) (p := inP l t) (x := x) n;have b := msF_0 (p := inP l t) (x := x) n;have c := lsF_ge (p := inP l t) (x := x) (L := 0) (t := t) (by omega) n fun k hk _ => (in_pc h hk).1.1
  have d := msF_le (p := inP l t) (x := x) (M := t) (by omega) n fun k hk _ => by have := (in_pc h hk).1.2;omega
  unfold wF;omega
theorem prod_bd' {a b : Int} (h0 : 0 ≤ a) (h1 : a ≤ 65280) (h2 : -32768 ≤ b) (h3 : b ≤ 65535) : -4278190080 ≤ a * b ∧ a * b ≤ 4278190080 := by
  have e1 := Int.mul_le_mul_of_nonneg_left h3 h0;have e2 := Int.mul_le_mul_of_nonneg_left h2 h0;omega
theorem c_bd {x q : Nat} (hq : q < o) : -4278190080 ≤ cF n t (inP l t) (inC l t) s (inV o vs) x q ∧ cF n t (inP l t) (inC l t) s (inV o vs) x q ≤ 4278190080 := by
  unfold cF;split
  · rename_i hw;obtain ⟨_,_,_,a,b⟩ := nd_at h hw hq;have c := (w_bd h (x := x)).1;exact prod_bd' h (by omega) c a b
  · omega
theorem sm_bd {q : Nat} (hq : q < o) : ∀ x : Nat,-4278190080 * (x : Int) ≤ smF n t (inP l t) (inC l t) s (inV o vs) x q ∧ smF n t (inP l t) (inC l t) s (inV o vs) x q ≤ 4278190080 * (x : Int)
  | 0 => by simp [smF]
  | x + 1 => by
    have a := sm_bd hq x;have b := c_bd h (x := x) hq;rw [smF];omega
end
theorem bit_and : ∀ a : Nat,a < 16 → bits .and .i64 (a : Int) 1 = ((a % 2 : Nat) : Int) := by decide
theorem bit_at {x k : Nat} (hx : x < 16) : bits .and .i64 ((x : Int) / 2 ^ k) 1 = (dg 2 x k : Int) := by
  have e : (x : Int) / 2 ^ k = ((x / 2 ^ k : Nat) : Int) := by
    rw [Int.natCast_ediv,Int.natCast_pow];rfl
  rw [e,bit_and _ (Nat.lt_of_le_of_lt (Nat.div_le_self _ _) hx)];rfl
section
variable {n o s : Nat} {vs l : List Int} {t : Int} (h : InOk n o s vs l t) {fu : Nat} (hf : 18446744073709551616 ≤ fu)
include h hf
theorem sc_set {β : Type} {j : (Int × List Int) → Option β} {x : Nat} (hx : x < 2 ^ n) :
    loopF (sc_l4 fu (((n : Int),((o : Int),((s : Int),vs))),(l,())) t ((x : Int),tabL o (smF n t (inP l t) (inC l t) s (inV o vs) x)) (x : Int) (sc_j3 fu j)) fu ((0 : Int),((0 : Int),(t,(0 : Int)))) =
      j (((x + 1 : Nat) : Int),tabL o (smF n t (inP l t) (inC l t) s (inV o vs) (x + 1))) := by
  have h' := h;obtain ⟨n1,n4,o1,o8,s2,s9,sz,hv,vb,hl,bl,t1,t2,tt⟩ := h';have hx16 : x < 16 := Nat.lt_of_lt_of_le hx (Nat.pow_le_pow_right (by decide) n4);refine stLoop (n := n) (st := fun k => (ndF (inC l t) s x k,(msF (inP l t) x k,(lsF t (inP l t) x k,(k : Int))))) (by omega) rfl (fun j' k hk => ?_) (fun j' => ?_)
  · obtain ⟨⟨p1,p2⟩,⟨c1,c2⟩,_⟩ := in_pc h hk;have e1 : l.getD k 0 % t = inP l t k := rfl;have e2 : l.getD k 0 / t = inC l t k := rfl;have b := bl k hk;obtain ⟨nb1,nb2⟩ := nd_bd h (x := x) k (by omega);obtain ⟨nb3,nb4⟩ := nd_bd h (x := x) (k + 1) (by omega);have q1 := pw_bd (s := 9) (i := k) (by decide) (by decide) (by omega)
    have nb5 : (10 : Int) ^ k ≤ 1000 := by
      have : k = 0 ∨ k = 1 ∨ k = 2 ∨ k = 3 := by omega
      rcases this with e | e | e | e <;> (rw [e];decide)
    have ml := Int.mul_nonneg nb1 (show 0 ≤ (s : Int) by omega);have ml2 := Int.mul_le_mul (show ndF (inC l t) s x k ≤ 999 by omega) (show (s : Int) ≤ 9 by omega) (by omega) (by omega);unfold sc_l4;simp (disch := omega) only [joinF_eq,bindO_some,s_wr,s_td,s_tm,s_pos,s_neg,cond_true,cond_false,Bool.not_true,Bool.not_false,Bool.true_and,Bool.and_true,Bool.false_and,Bool.and_false,bne_self_eq_false,decide_true,decide_false,Int.toNat_natCast];rw [e1,e2];rcases dg2 x k with g | g
    · have be : bits .and .i64 ((x : Int) / 2 ^ k) 1 = 0 := by rw [bit_at hx16,g];rfl
      simp (disch := omega) only [joinF_eq,bindO_some,s_wr,s_td,s_tm,s_pos,s_neg,cond_true,cond_false,Bool.not_true,Bool.not_false,Bool.true_and,Bool.and_true,Bool.false_and,Bool.and_false,bne_self_eq_false,decide_true,decide_false,Int.toNat_natCast];unfold sc_j5;simp (disch := omega) only [joinF_eq,bindO_some,s_wr,s_td,s_tm,s_pos,s_neg,cond_true,cond_false,Bool.not_true,Bool.not_false,Bool.true_and,Bool.and_true,Bool.false_and,Bool.and_false,bne_self_eq_false,decide_true,decide_false,Int.toNat_natCast];rw [ndF,msF,lsF,g,if_neg (by decide),if_neg (by decide)];simp only [Int.natCast_zero,Int.add_zero];rfl
    · have be : bits .and .i64 ((x : Int) / 2 ^ k) 1 = 1 := by rw [bit_at hx16,g];rfl
      simp (disch := omega) only [joinF_eq,bindO_some,s_wr,s_td,s_tm,s_pos,s_neg,cond_true,cond_false,Bool.not_true,Bool.not_false,Bool.true_and,Bool.and_true,Bool.false_and,Bool.and_false,bne_self_eq_false,decide_true,decide_false,Int.toNat_natCast];unfold sc_j5;simp (disch := omega) only [joinF_eq,bindO_some,s_wr,s_td,s_tm,s_pos,s_neg,cond_true,cond_false,Bool.not_true,Bool.not_false,Bool.true_and,Bool.and_true,Bool.false_and,Bool.and_false,bne_self_eq_false,decide_true,decide_false,Int.toNat_natCast];rw [ndF,msF,lsF,g,if_pos rfl,if_pos rfl];rfl
  · have wb := w_bd h (x := x);unfold sc_l4;simp (disch := omega) only [joinF_eq,bindO_some,s_wr,s_td,s_tm,s_pos,s_neg,cond_true,cond_false,Bool.not_true,Bool.not_false,Bool.true_and,Bool.and_true,Bool.false_and,Bool.and_false,bne_self_eq_false,decide_true,decide_false,Int.toNat_natCast];have a1 := lsF_t (t := t) (p := inP l t) (x := x) n;have a2 := msF_0 (p := inP l t) (x := x) n;unfold wF at wb;by_cases hw : 0 < lsF t (inP l t) x n - msF (inP l t) x n
    · simp (disch := omega) only [joinF_eq,bindO_some,s_wr,s_td,s_tm,s_pos,s_neg,cond_true,cond_false,Bool.not_true,Bool.not_false,Bool.true_and,Bool.and_true,Bool.false_and,Bool.and_false,bne_self_eq_false,decide_true,decide_false,Int.toNat_natCast];have hw' : 0 < wF n t (inP l t) x := hw;refine stLoop (n := o) (st := fun q => ((q : Int),tabL o (fun k => if k < (q : Int) then smF n t (inP l t) (inC l t) s (inV o vs) (x + 1) k else smF n t (inP l t) (inC l t) s (inV o vs) x k))) (by omega) ?_ (fun j' q hq => ?_) (fun j' => ?_)
      · exact Prod.ext rfl (tabL_congr fun i h0 h1 => rfl)
      · obtain ⟨d1,d2,d3,d4,d5⟩ := nd_at h hw' hq;have d6 := (nd_lt h hw' n (Nat.le_refl _)).1;have d7 := Int.mul_nonneg d6 (show 0 ≤ (o : Int) by omega);have pb := prod_bd' h (show 0 ≤ lsF t (inP l t) x n - msF (inP l t) x n by omega) (show lsF t (inP l t) x n - msF (inP l t) x n ≤ 65280 by omega) d4 d5;have sb := sm_bd h hq x
        have e1 : smF n t (inP l t) (inC l t) s (inV o vs) (x + 1) q = smF n t (inP l t) (inC l t) s (inV o vs) x q + (lsF t (inP l t) x n - msF (inP l t) x n) * inV o vs (ndF (inC l t) s x n) q := by
          rw [smF,cF,if_pos hw'];rfl
        have e2 : vs.getD (ndF (inC l t) s x n * (o : Int) + (q : Int)).toNat 0 = inV o vs (ndF (inC l t) s x n) q := rfl;unfold sc_l6;simp (disch := omega) only [joinF_eq,bindO_some,s_wr,s_td,s_tm,s_pos,s_neg,cond_true,cond_false,Bool.not_true,Bool.not_false,Bool.true_and,Bool.and_true,Bool.false_and,Bool.and_false,bne_self_eq_false,decide_true,decide_false,Int.toNat_natCast,tabL_length];rw [e2];simp only [tabP_get hq];simp (disch := omega) only [joinF_eq,bindO_some,s_wr,s_td,s_tm,s_pos,s_neg,cond_true,cond_false,Bool.not_true,Bool.not_false,Bool.true_and,Bool.and_true,Bool.false_and,Bool.and_false,bne_self_eq_false,decide_true,decide_false,Int.toNat_natCast];rw [tabP_set hq e1];rfl
      · have e1 : (tabL o fun k => if k < ((o : Nat) : Int) then smF n t (inP l t) (inC l t) s (inV o vs) (x + 1) k else smF n t (inP l t) (inC l t) s (inV o vs) x k) = tabL o (smF n t (inP l t) (inC l t) s (inV o vs) (x + 1)) := tabL_congr fun i h0 h1 => by rw [if_pos h1]
        unfold sc_l6;simp (disch := omega) only [joinF_eq,bindO_some,s_wr,s_td,s_tm,s_pos,s_neg,cond_true,cond_false,Bool.not_true,Bool.not_false,Bool.true_and,Bool.and_true,Bool.false_and,Bool.and_false,bne_self_eq_false,decide_true,decide_false,Int.toNat_natCast,tabL_length];rw [e1];unfold sc_j3;simp (disch := omega) only [joinF_eq,bindO_some,s_wr,s_td,s_tm,s_pos,s_neg,cond_true,cond_false,Bool.not_true,Bool.not_false,Bool.true_and,Bool.and_true,Bool.false_and,Bool.and_false,bne_self_eq_false,decide_true,decide_false,Int.toNat_natCast];rfl
    · simp (disch := omega) only [joinF_eq,bindO_some,s_wr,s_td,s_tm,s_pos,s_neg,cond_true,cond_false,Bool.not_true,Bool.not_false,Bool.true_and,Bool.and_true,Bool.false_and,Bool.and_false,bne_self_eq_false,decide_true,decide_false,Int.toNat_natCast]
      have e1 : tabL o (smF n t (inP l t) (inC l t) s (inV o vs) (x + 1)) = tabL o (smF n t (inP l t) (inC l t) s (inV o vs) x) := tabL_congr fun i h0 h1 => by
        rw [smF,c_zero hw,Int.add_zero]
      rw [e1];unfold sc_j3;simp (disch := omega) only [joinF_eq,bindO_some,s_wr,s_td,s_tm,s_pos,s_neg,cond_true,cond_false,Bool.not_true,Bool.not_false,Bool.true_and,Bool.and_true,Bool.false_and,Bool.and_false,bne_self_eq_false,decide_true,decide_false,Int.toNat_natCast];rfl
theorem sc_all {β : Type} {K : (Int × List Int) → Option β} : loopF (sc_l2 K fu (((n : Int),((o : Int),((s : Int),vs))),(l,())) t) fu ((0 : Int),List.replicate o (0 : Int)) = K (((2 ^ n : Nat) : Int),tabL o (smF n t (inP l t) (inC l t) s (inV o vs) (2 ^ n))) := by
  have h' := h;obtain ⟨n1,n4,o1,o8,s2,s9,sz,hv,vb,hl,bl,t1,t2,tt⟩ := h';have h16 : 2 ^ n ≤ 16 := Nat.pow_le_pow_right (by decide) n4;have e2 : (2 : Int) ^ n = ((2 ^ n : Nat) : Int) := by rw [Int.natCast_pow];rfl
  refine stLoop (n := 2 ^ n) (st := fun x => ((x : Int),tabL o (smF n t (inP l t) (inC l t) s (inV o vs) x))) (by omega) ?_ (fun j x hx => ?_) (fun j => ?_)
  · exact Prod.ext rfl (tabL_rep (G := smF n t (inP l t) (inC l t) s (inV o vs) 0) fun i _ _ => rfl)
  · unfold sc_l2;simp (disch := omega) only [joinF_eq,bindO_some,s_wr,s_td,s_tm,s_pos,s_neg,cond_true,cond_false,Bool.not_true,Bool.not_false,Bool.true_and,Bool.and_true,Bool.false_and,Bool.and_false,bne_self_eq_false,decide_true,decide_false,Int.toNat_natCast];exact sc_set h hf hx
  · have e3 : IntKind.i64.wrap ((1 : Int) * 2 ^ n) = ((2 ^ n : Nat) : Int) := by
      rw [Int.one_mul,e2];generalize 2 ^ n = N at *
      exact wr64 (by omega) (by omega)
    unfold sc_l2;simp only [Int.toNat_natCast,e3];exact bif_neg (by omega)
end
end Go.Proofs.Ytjhdjjoacedlpaa
/- Grids: what Raw computes: the axes sorted by their parts,and the sum over their heads. -/
namespace Go.Proofs.Ytjhdjjoacedlpaa
open Go Go.RowKit
set_option linter.unusedSimpArgs false
set_option linter.unusedSectionVars false
set_option linter.unusedVariables false
theorem Srt.congr {n : Nat} {p : Nat → Int} {σ σ' : Nat → Nat} (h : Srt n p σ) (e : ∀ i,i < n → σ' i = σ i) : Srt n p σ' :=
  ⟨fun i hi => by rw [e i hi];exact h.lt i hi,fun i j hi hj g => h.inj i j hi hj (by rw [← e i hi,← e j hj];exact g),fun k hk => by
    obtain ⟨i,hi,g⟩ := h.sur k hk
    exact ⟨i,hi,by rw [e i hi];exact g⟩,fun i j hij hj => by rw [e i (by omega),e j hj];exact h.srt i j hij hj⟩
def insF (σ : Nat → Nat) (k j i : Nat) : Nat := if i < j then σ i else if i = j then k else σ (i - 1)
theorem srt_ins {k j : Nat} {p : Nat → Int} {σ : Nat → Nat} (h : Srt k p σ) (hj : j ≤ k) (h1 : ∀ i,i < j → p k ≤ p (σ i)) (h2 : ∀ i,j ≤ i → i < k → p (σ i) ≤ p k) : Srt (k + 1) p (insF σ k j) := by
  have a : ∀ i,i < j → insF σ k j i = σ i := fun i hi => by unfold insF;rw [if_pos hi]
  have b : insF σ k j j = k := by unfold insF;rw [if_neg (by omega),if_pos rfl]
  have c : ∀ i,j < i → insF σ k j i = σ (i - 1) := fun i hi => by unfold insF;rw [if_neg (by omega),if_neg (by omega)]
  have tri : ∀ i,i < j ∨ i = j ∨ j < i := fun i => by omega
  refine ⟨fun i hi => ?_,fun i i' hi hi' e => ?_,fun q hq => ?_,fun i i' hii hi' => ?_⟩
  · rcases tri i with g | g | g
    · rw [a i g];have := h.lt i (by omega);omega
    · rw [g,b];omega
    · rw [c i g];have := h.lt (i - 1) (by omega);omega
  · rcases tri i with g | g | g <;> rcases tri i' with g' | g' | g'
    · rw [a i g,a i' g'] at e;exact h.inj i i' (by omega) (by omega) e
    · rw [a i g,g',b] at e;have := h.lt i (by omega);omega
    · rw [a i g,c i' g'] at e;have := h.inj i (i' - 1) (by omega) (by omega) e;omega
    · rw [a i' g',g,b] at e;have := h.lt i' (by omega);omega
    · omega
    · rw [c i' g',g,b] at e;have := h.lt (i' - 1) (by omega);omega
    · rw [a i' g',c i g] at e;have := h.inj (i - 1) i' (by omega) (by omega) e;omega
    · rw [c i g,g',b] at e;have := h.lt (i - 1) (by omega);omega
    · rw [c i g,c i' g'] at e;have := h.inj (i - 1) (i' - 1) (by omega) (by omega) e;omega
  · by_cases e : q = k
    · exact ⟨j,by omega,by rw [b,e]⟩
    · obtain ⟨i,hi,g⟩ := h.sur q (by omega);by_cases f : i < j
      · exact ⟨i,by omega,by rw [a i f,g]⟩
      · exact ⟨i + 1,by omega,by rw [c (i + 1) (by omega),Nat.add_sub_cancel,g]⟩
  · rcases tri i with g | g | g <;> rcases tri i' with g' | g' | g'
    · rw [a i g,a i' g'];exact h.srt i i' hii (by omega)
    · rw [a i g,g',b];exact h1 i g
    · rw [a i g,c i' g'];exact h.srt i (i' - 1) (by omega) (by omega)
    · omega
    · rw [g,g'];exact Int.le_refl _
    · rw [g,b,c i' g'];exact h2 (i' - 1) (by omega) (by omega)
    · omega
    · omega
    · rw [c i g,c i' g'];exact h.srt (i - 1) (i' - 1) (by omega) (by omega)
def partT (l : List Int) (t : Int) (k : Nat) : List Int := tabL 4 fun i => if i < (k : Int) then inP l t i.toNat else 0
def cellT (l : List Int) (t : Int) (k : Nat) : List Int := tabL 4 fun i => if i < (k : Int) then inC l t i.toNat else 0
def axS (ax : List Int) (i : Nat) : Nat := (ax.getD i 0).toNat
section
variable {l : List Int} {t : Int}
theorem partT_len {k : Nat} : (partT l t k).length = 4 := tabL_length _ _
theorem cellT_len {k : Nat} : (cellT l t k).length = 4 := tabL_length _ _
theorem partT_set {k : Nat} (hk : k < 4) : (partT l t k).set k (l.getD k 0 % t) = partT l t (k + 1) := tabP_set (A := fun i => inP l t i.toNat) (B := fun _ => 0) hk (by simp only [Int.toNat_natCast];rfl)
theorem cellT_set {k : Nat} (hk : k < 4) : (cellT l t k).set k (l.getD k 0 / t) = cellT l t (k + 1) := tabP_set (A := fun i => inC l t i.toNat) (B := fun _ => 0) hk (by simp only [Int.toNat_natCast];rfl)
theorem partT_at {k i : Nat} (hi : i < k) (h4 : i < 4) : (partT l t k).getD i 0 = inP l t i := by
  unfold partT;rw [tabL_getDN h4,if_pos (by omega),Int.toNat_natCast]
theorem cellT_at {k i : Nat} (hi : i < k) (h4 : i < 4) : (cellT l t k).getD i 0 = inC l t i := by
  unfold cellT;rw [tabL_getDN h4,if_pos (by omega),Int.toNat_natCast]
end
structure AxOk (k : Nat) (p : Nat → Int) (ax : List Int) : Prop where
  len : ax.length = 4
  nn : ∀ i,i < k → ax.getD i 0 = (axS ax i : Int)
  srt : Srt k p (axS ax)
section
variable {n o s : Nat} {vs l : List Int} {t : Int} (h : InOk n o s vs l t) {fu : Nat} (hf : 18446744073709551616 ≤ fu)
include h hf
theorem raw_ins {β : Type} {j : (Int × (List Int × (List Int × List Int))) → Option β} {k : Nat} (hk : k < n) {ax : List Int} (hax : AxOk k (inP l t) ax) :
    ∃ ax',AxOk (k + 1) (inP l t) ax' ∧ loopF (raw_l2 fu t ((k : Int),(partT l t k,(cellT l t k,ax))) (l.getD k 0) (k : Int) j) fu ((k : Int),ax) = j (((k + 1 : Nat) : Int),(partT l t (k + 1),(cellT l t (k + 1),ax'))) := by
  have h' := h;obtain ⟨n1,n4,o1,o8,s2,s9,sz,hv,vb,hl,bl,t1,t2,tt⟩ := h';have bl := bl k hk;obtain ⟨⟨p1,p2⟩,⟨c1,c2⟩,_⟩ := in_pc h hk;have c1' : 0 ≤ l.getD k 0 / t := c1;have c2' : l.getD k 0 / t ≤ (s : Int) - 1 := c2;obtain ⟨a1,a2,a3⟩ := hax;have pl := partT_len (l := l) (t := t) (k := k);have pl1 := partT_len (l := l) (t := t) (k := k + 1);have cl := cellT_len (l := l) (t := t) (k := k);have pk := partT_at (l := l) (t := t) (k := k + 1) (i := k) (by omega) (by omega)
  refine postLoop (f := raw_l2 fu t ((k : Int),(partT l t k,(cellT l t k,ax))) (l.getD k 0) (k : Int) j) (fun x => x.1.toNat)
    (fun x => ∃ m : Nat,x.1 = m ∧ m ≤ k ∧ x.2.length = 4 ∧ (∀ i,i < m → x.2.getD i 0 = ax.getD i 0) ∧ ∀ i,m ≤ i → i < k → x.2.getD (i + 1) 0 = ax.getD i 0 ∧ inP l t (axS ax i) ≤ inP l t k)
    (fun r => ∃ ax',AxOk (k + 1) (inP l t) ax' ∧ r = j (((k + 1 : Nat) : Int),(partT l t (k + 1),(cellT l t (k + 1),ax')))) ?_ fu ((k : Int),ax) ⟨k,rfl,Nat.le_refl _,a1,fun _ _ => rfl,fun i h1 h2 => by omega⟩ (by simp only;omega)
  rintro j2 ⟨_,a⟩ ⟨m,rfl,m1,m2,m3,m4⟩
  simp only at m2 m3 m4
  have stop : (∀ i,i < m → inP l t k ≤ inP l t (axS ax i)) → raw_j3 fu t ((k : Int),(partT l t k,(cellT l t k,ax))) (l.getD k 0) (k : Int) ((m : Int),a) j j2 false = j (((k + 1 : Nat) : Int),(partT l t (k + 1),(cellT l t (k + 1),a.set m (k : Int)))) ∧ AxOk (k + 1) (inP l t) (a.set m (k : Int)) := by
    intro hlt;refine ⟨?_,?_⟩
    · unfold raw_j3;simp (disch := omega) only [joinF_eq,bindO_some,s_wr,s_td,s_tm,s_pos,s_neg,cond_true,cond_false,Bool.not_true,Bool.not_false,Bool.true_and,Bool.and_true,Bool.false_and,Bool.and_false,bne_self_eq_false,decide_true,decide_false,Int.toNat_natCast,partT_set,cellT_set];rfl
    · have e : ∀ i,i < k + 1 → (a.set m (k : Int)).getD i 0 = (insF (axS ax) k m i : Int) := by
        intro i hi;rw [getD_set' (by omega)];unfold insF;by_cases g : i < m
        · rw [if_neg (by omega),if_pos g,m3 i g];exact a2 i (by omega)
        · rw [if_neg g];by_cases g2 : i = m
          · rw [if_pos g2,if_pos g2]
          · rw [if_neg g2,if_neg g2];have := (m4 (i - 1) (by omega) (by omega)).1;rw [show i - 1 + 1 = i by omega] at this;rw [this];exact a2 (i - 1) (by omega)
      have e' : ∀ i,i < k + 1 → axS (a.set m (k : Int)) i = insF (axS ax) k m i := fun i hi => by
        unfold axS at *
        rw [e i hi];exact Int.toNat_natCast _
      exact ⟨by rw [List.length_set];exact m2,fun i hi => by rw [e' i hi];exact e i hi,(srt_ins a3 m1 hlt fun i h1 h2 => (m4 i h1 h2).2).congr e'⟩
  by_cases hm : m = 0
  · subst hm;obtain ⟨s1,s2⟩ := stop fun i hi => absurd hi (Nat.not_lt_zero _)
    refine .inr ⟨_,s2,?_⟩;rw [← s1];unfold raw_l2;simp (disch := omega) only [joinF_eq,bindO_some,s_wr,s_td,s_tm,s_pos,s_neg,cond_true,cond_false,Bool.not_true,Bool.not_false,Bool.true_and,Bool.and_true,Bool.false_and,Bool.and_false,bne_self_eq_false,decide_true,decide_false,Int.toNat_natCast]
  · obtain ⟨m,rfl⟩ : ∃ m',m = m' + 1 := ⟨m - 1,by omega⟩;have g1 := m3 m (by omega);have g2 := a2 m (by omega);have g3 := a3.lt m (by omega);have g4 := partT_at (l := l) (t := t) (k := k + 1) (i := axS ax m) (by omega) (by omega);have e0 : ((m + 1 : Nat) : Int) - 1 = (m : Int) := by omega
    have go : ∀ b : Bool,(b = true ↔ inP l t (axS ax m) < inP l t k) → (∃ x' : Int × List Int,(∃ m : Nat,x'.1 = m ∧ m ≤ k ∧ x'.2.length = 4 ∧ (∀ i,i < m → x'.2.getD i 0 = ax.getD i 0) ∧ ∀ i,m ≤ i → i < k → x'.2.getD (i + 1) 0 = ax.getD i 0 ∧ inP l t (axS ax i) ≤ inP l t k) ∧ x'.1.toNat < ((m + 1 : Nat) : Int).toNat ∧ raw_j3 fu t ((k : Int),(partT l t k,(cellT l t k,ax))) (l.getD k 0) (k : Int) (((m + 1 : Nat) : Int),a) j j2 b = j2 x') ∨
        ∃ ax',AxOk (k + 1) (inP l t) ax' ∧ raw_j3 fu t ((k : Int),(partT l t k,(cellT l t k,ax))) (l.getD k 0) (k : Int) (((m + 1 : Nat) : Int),a) j j2 b = j (((k + 1 : Nat) : Int),(partT l t (k + 1),(cellT l t (k + 1),ax'))) := by
      intro b hb
      cases b with
      | false =>
        have hge : ¬ inP l t (axS ax m) < inP l t k := fun g => by have := hb.2 g;cases this
        obtain ⟨s1,s2⟩ := stop fun i hi => by
          have := a3.srt i m (by omega) (by omega);omega
        exact .inr ⟨_,s2,s1⟩
      | true =>
        have hlt := hb.1 rfl;refine .inl ⟨((m : Int),a.set (m + 1) (ax.getD m 0)),⟨m,rfl,by omega,by simp only;rw [List.length_set];exact m2,fun i hi => ?_,fun i h1 h2 => ?_⟩,by simp only;omega,?_⟩
        · simp only;rw [getD_set' (by omega),if_neg (by omega)];exact m3 i (by omega)
        · simp only;rw [getD_set' (by omega)];by_cases e : i = m
          · subst e;rw [if_pos rfl];exact ⟨rfl,by omega⟩
          · rw [if_neg (by omega)];exact m4 i (by omega) h2
        · unfold raw_j3;simp (disch := omega) only [joinF_eq,bindO_some,s_wr,s_td,s_tm,s_pos,s_neg,cond_true,cond_false,Bool.not_true,Bool.not_false,Bool.true_and,Bool.and_true,Bool.false_and,Bool.and_false,bne_self_eq_false,decide_true,decide_false,Int.toNat_natCast];simp only [e0,Int.toNat_natCast,g1]
    unfold raw_l2;simp (disch := omega) only [joinF_eq,bindO_some,s_wr,s_td,s_tm,s_pos,s_neg,cond_true,cond_false,Bool.not_true,Bool.not_false,Bool.true_and,Bool.and_true,Bool.false_and,Bool.and_false,bne_self_eq_false,decide_true,decide_false,Int.toNat_natCast,partT_set];simp only [e0,Int.toNat_natCast,g1,g2,pk,g4];simp (disch := omega) only [joinF_eq,bindO_some,s_wr,s_td,s_tm,s_pos,s_neg,cond_true,cond_false,Bool.not_true,Bool.not_false,Bool.true_and,Bool.and_true,Bool.false_and,Bool.and_false,bne_self_eq_false,decide_true,decide_false,Int.toNat_natCast];exact go _ (by rw [decide_eq_true_eq])
end
end Go.Proofs.Ytjhdjjoacedlpaa
/- Grids: Raw adds up what the heads of the sorted axes give: the document's interpolation. -/
namespace Go.Proofs.Ytjhdjjoacedlpaa
open Go Go.RowKit
set_option linter.unusedSimpArgs false
set_option linter.unusedSectionVars false
set_option linter.unusedVariables false
theorem tabP_zero {o : Nat} {A B : Int → Int} : (tabL o fun k => if k < ((0 : Nat) : Int) then A k else B k) = tabL o B := tabL_congr fun i h0 h1 => if_neg (by omega)
section
variable {n o s : Nat} {vs l : List Int} {t : Int} (h : InOk n o s vs l t)
include h
theorem nd_dig {x : Nat} (hw : 0 < wF n t (inP l t) x) {k : Nat} (hk : k < n) : 0 ≤ inC l t k + (dg 2 x k : Int) ∧ inC l t k + (dg 2 x k : Int) ≤ (s : Int) - 1 := by
  obtain ⟨⟨c1,c2⟩,⟨c3,c4⟩,c5⟩ := in_pc h hk;rcases dg2 x k with g | g
  · omega
  · have e1 := lsF_le (t := t) (p := inP l t) (x := x) n k hk g;have e2 := msF_0 (p := inP l t) (x := x) n;unfold wF at hw;have := c5 (by omega);omega
theorem hor_nd {x : Nat} {cell : List Int} (hc : ∀ k,k < n → cell.getD k 0 = inC l t k + (dg 2 x k : Int)) : ∀ m,m ≤ n → horN (s : Int) cell m = ndF (inC l t) s x m
  | 0,_ => rfl
  | m + 1,hm => by rw [horN,ndF,hor_nd hc m (by omega),hc m (by omega)]
theorem at_nd {fu : Nat} (hf : 18446744073709551616 ≤ fu) {x : Nat} (hw : 0 < wF n t (inP l t) x) {cell : List Int} (hl : cell.length = 4) (hc : ∀ k,k < n → cell.getD k 0 = inC l t k + (dg 2 x k : Int)) :
    grid_at_r fu (((n : Int),((o : Int),((s : Int),vs))),(List.drop (Int.toNat (0 : Int)) (List.take n cell),())) = some (ndF (inC l t) s x n * (o : Int),()) := by
  have h' := h;obtain ⟨n1,n4,o1,o8,s2,s9,sz,hv,_⟩ := h';have e : (List.take n cell).length = n := by rw [List.length_take];omega
  have := at_r hf (i := (n : Int)) (o := (o : Int)) (s := (s : Int)) (vs := vs) (l := List.take n cell) (by omega) (by omega) (by omega) (by omega) (by omega) (fun k hk => by
    have d := nd_dig h hw (k := k) (by omega);rw [List.getD_eq_getElem?_getD,List.getElem?_take_of_lt (by omega),← List.getD_eq_getElem?_getD,hc k (by omega)]
    exact d)
  rw [e,horN_take _ _ _ _ (Nat.le_refl _),hor_nd h hc n (Nat.le_refl _)] at this;exact this
theorem ch_bd {σ : Nat → Nat} {q : Nat} (hq : q < o) : ∀ j : Nat,-4278190080 * (j : Int) ≤ chS n t (inP l t) (inC l t) s (inV o vs) σ q j ∧ chS n t (inP l t) (inC l t) s (inV o vs) σ q j ≤ 4278190080 * (j : Int)
  | 0 => by simp [chS]
  | j + 1 => by
    have a := ch_bd (σ := σ) hq j;have b := c_bd h (x := mkF n σ j) hq;rw [chS];omega
variable {fu : Nat} (hf : 18446744073709551616 ≤ fu)
include hf
theorem raw_head {β : Type} {K : List Int → Option β} {j8 : (Int × (Int × (List Int × List Int))) → Option β} {ax cell : List Int} (hax : AxOk n (inP l t) ax) {j : Nat} (hj : j ≤ n) (hl4 : cell.length = 4) (hc : ∀ k,k < n → cell.getD k 0 = inC l t k + (chB (axS ax) j k : Int)) {wt out : _} :
    raw_j7 fu (((n : Int),((o : Int),((s : Int),vs))),(l,())) (n : Int) ((n : Int),(partT l t n,(cellT l t n,ax))) (wt,((j : Int),(out,cell))) K (raw_j6 fu j8) (wtF n t (inP l t) (axS ax) (j + 1),(wtF n t (inP l t) (axS ax) j,(tabL o (fun q => chS n t (inP l t) (inC l t) s (inV o vs) (axS ax) q j),cell))) =
      raw_j8 fu (n : Int) ((n : Int),(partT l t n,(cellT l t n,ax))) (wt,((j : Int),(out,cell))) (wtF n t (inP l t) (axS ax) (j + 1),(wtF n t (inP l t) (axS ax) j,(tabL o (fun q => chS n t (inP l t) (inC l t) s (inV o vs) (axS ax) q j),cell))) K (raw_j6 fu j8) (wtF n t (inP l t) (axS ax) j,tabL o (fun q => chS n t (inP l t) (inC l t) s (inV o vs) (axS ax) q (j + 1))) := by
  have h' := h;obtain ⟨n1,n4,o1,o8,s2,s9,sz,hv,vb,hl,bl,t1,t2,tt⟩ := h';have hp : ∀ k,k < n → 0 ≤ inP l t k ∧ inP l t k ≤ t := fun k hk => by have := (in_pc h hk).1;omega
  have hw := mk_w hax.srt (t := t) hp hj;have wb := w_bd h (x := mkF n (axS ax) j);unfold raw_j7;generalize hJ : raw_j8 fu (n : Int) ((n : Int),(partT l t n,(cellT l t n,ax))) (wt,((j : Int),(out,cell))) (wtF n t (inP l t) (axS ax) (j + 1),(wtF n t (inP l t) (axS ax) j,(tabL o (fun q => chS n t (inP l t) (inC l t) s (inV o vs) (axS ax) q j),cell))) K (raw_j6 fu j8) = J;by_cases g : 0 < wF n t (inP l t) (mkF n (axS ax) j)
  · have hc' : ∀ k,k < n → cell.getD k 0 = inC l t k + (dg 2 (mkF n (axS ax) j) k : Int) := fun k hk => by rw [hc k hk,mk_dg hk]
    have e0 : IntKind.i64.wrap (wtF n t (inP l t) (axS ax) j - wtF n t (inP l t) (axS ax) (j + 1)) = wF n t (inP l t) (mkF n (axS ax) j) := by
      rw [← hw];exact wr64 (by omega) (by omega)
    simp only [e0,joinF_eq];simp (disch := omega) only [joinF_eq,bindO_some,s_wr,s_td,s_tm,s_pos,s_neg,cond_true,cond_false,Bool.not_true,Bool.not_false,Bool.true_and,Bool.and_true,Bool.false_and,Bool.and_false,bne_self_eq_false,decide_true,decide_false,Int.toNat_natCast,at_nd h hf g hl4 hc'];refine stLoop (n := o) (st := fun q => ((q : Int),tabL o (fun k => if k < (q : Int) then chS n t (inP l t) (inC l t) s (inV o vs) (axS ax) k (j + 1) else chS n t (inP l t) (inC l t) s (inV o vs) (axS ax) k j))) (by omega) ?_ (fun j' q hq => ?_) (fun j' => ?_)
    · exact Prod.ext rfl (tabP_zero (A := fun k => chS n t (inP l t) (inC l t) s (inV o vs) (axS ax) k (j + 1)) (B := fun k => chS n t (inP l t) (inC l t) s (inV o vs) (axS ax) k j))
    · obtain ⟨d1,d2,d3,d4,d5⟩ := nd_at h g hq;have d6 := (nd_lt h g n (Nat.le_refl _)).1;have d7 := Int.mul_nonneg d6 (show 0 ≤ (o : Int) by omega);have pb := prod_bd' h (show 0 ≤ wF n t (inP l t) (mkF n (axS ax) j) by omega) wb.1 d4 d5;have sb := ch_bd h (σ := axS ax) hq j
      have e1 : chS n t (inP l t) (inC l t) s (inV o vs) (axS ax) q (j + 1) = chS n t (inP l t) (inC l t) s (inV o vs) (axS ax) q j + wF n t (inP l t) (mkF n (axS ax) j) * inV o vs (ndF (inC l t) s (mkF n (axS ax) j) n) q := by
        rw [chS,cF,if_pos g]
      have e2 : vs.getD (ndF (inC l t) s (mkF n (axS ax) j) n * (o : Int) + (q : Int)).toNat 0 = inV o vs (ndF (inC l t) s (mkF n (axS ax) j) n) q := rfl;unfold raw_l9;simp (disch := omega) only [joinF_eq,bindO_some,s_wr,s_td,s_tm,s_pos,s_neg,cond_true,cond_false,Bool.not_true,Bool.not_false,Bool.true_and,Bool.and_true,Bool.false_and,Bool.and_false,bne_self_eq_false,decide_true,decide_false,Int.toNat_natCast,tabL_length];rw [e2];simp only [tabP_get hq];simp (disch := omega) only [joinF_eq,bindO_some,s_wr,s_td,s_tm,s_pos,s_neg,cond_true,cond_false,Bool.not_true,Bool.not_false,Bool.true_and,Bool.and_true,Bool.false_and,Bool.and_false,bne_self_eq_false,decide_true,decide_false,Int.toNat_natCast];rw [tabP_set hq e1];rfl
    · have e1 : (tabL o fun k => if k < ((o : Nat) : Int) then chS n t (inP l t) (inC l t) s (inV o vs) (axS ax) k (j + 1) else chS n t (inP l t) (inC l t) s (inV o vs) (axS ax) k j) = tabL o (fun k => chS n t (inP l t) (inC l t) s (inV o vs) (axS ax) k (j + 1)) := tabL_congr fun i h0 h1 => by rw [if_pos h1]
      unfold raw_l9;simp (disch := omega) only [joinF_eq,bindO_some,s_wr,s_td,s_tm,s_pos,s_neg,cond_true,cond_false,Bool.not_true,Bool.not_false,Bool.true_and,Bool.and_true,Bool.false_and,Bool.and_false,bne_self_eq_false,decide_true,decide_false,Int.toNat_natCast,tabL_length];rw [e1]
  · have e0 : IntKind.i64.wrap (wtF n t (inP l t) (axS ax) j - wtF n t (inP l t) (axS ax) (j + 1)) = wF n t (inP l t) (mkF n (axS ax) j) := by
      rw [← hw];exact wr64 (by omega) (by omega)
    simp only [e0,joinF_eq];simp (disch := omega) only [joinF_eq,bindO_some,s_wr,s_td,s_tm,s_pos,s_neg,cond_true,cond_false,Bool.not_true,Bool.not_false,Bool.true_and,Bool.and_true,Bool.false_and,Bool.and_false,bne_self_eq_false,decide_true,decide_false,Int.toNat_natCast]
    have e1 : tabL o (fun k => chS n t (inP l t) (inC l t) s (inV o vs) (axS ax) k (j + 1)) = tabL o (fun k => chS n t (inP l t) (inC l t) s (inV o vs) (axS ax) k j) := tabL_congr fun i h0 h1 => by
      rw [chS,c_zero g,Int.add_zero]
    rw [e1]
theorem raw_sum {β : Type} {K : List Int → Option β} {ax : List Int} (hax : AxOk n (inP l t) ax) :
    loopF (raw_l5 fu (((n : Int),((o : Int),((s : Int),vs))),(l,())) (n : Int) ((n : Int),(partT l t n,(cellT l t n,ax))) K) fu (t,((0 : Int),(List.replicate o (0 : Int),cellT l t n))) = K (tabL o (smF n t (inP l t) (inC l t) s (inV o vs) (2 ^ n))) := by
  have h' := h;obtain ⟨n1,n4,o1,o8,s2,s9,sz,hv,vb,hl,bl,t1,t2,tt⟩ := h';have hp : ∀ k,k < n → 0 ≤ inP l t k ∧ inP l t k ≤ t := fun k hk => by have := (in_pc h hk).1;omega
  have es : tabL o (smF n t (inP l t) (inC l t) s (inV o vs) (2 ^ n)) = tabL o (fun q => chS n t (inP l t) (inC l t) s (inV o vs) (axS ax) q (n + 1)) := tabL_congr fun i _ _ => simplex hax.srt
  rw [es];have axl := hax.len;have pl := partT_len (l := l) (t := t) (k := n)
  refine postLoop (f := raw_l5 fu (((n : Int),((o : Int),((s : Int),vs))),(l,())) (n : Int) ((n : Int),(partT l t n,(cellT l t n,ax))) K) (fun x => ((n : Int) + 1 - x.2.1).toNat)
    (fun x => ∃ j : Nat,j ≤ n + 1 ∧ x.2.1 = j ∧ x.2.2.1 = tabL o (fun q => chS n t (inP l t) (inC l t) s (inV o vs) (axS ax) q j) ∧ (j ≤ n → x.1 = wtF n t (inP l t) (axS ax) j ∧ x.2.2.2.length = 4 ∧ ∀ k,k < n → x.2.2.2.getD k 0 = inC l t k + (chB (axS ax) j k : Int)))
    (fun r => r = K (tabL o (fun q => chS n t (inP l t) (inC l t) s (inV o vs) (axS ax) q (n + 1)))) ?_ fu _ ⟨0,Nat.zero_le _,rfl,?_,fun _ => ⟨rfl,cellT_len,fun k hk => ?_⟩⟩ (by simp only;omega)
  · rintro j2 ⟨wt,_,out,cell⟩ ⟨j,hj,rfl,rfl,hr⟩
    simp only at hr;by_cases c : j = n + 1
    · subst c;refine .inr ?_;unfold raw_l5;simp (disch := omega) only [joinF_eq,bindO_some,s_wr,s_td,s_tm,s_pos,s_neg,cond_true,cond_false,Bool.not_true,Bool.not_false,Bool.true_and,Bool.and_true,Bool.false_and,Bool.and_false,bne_self_eq_false,decide_true,decide_false,Int.toNat_natCast]
    · have hj' : j ≤ n := by omega
      obtain ⟨rfl,hl4,hc⟩ := hr hj'
      have key : ∀ out : List Int,(∃ x' : Int × (Int × (List Int × List Int)),(∃ j : Nat,j ≤ n + 1 ∧ x'.2.1 = j ∧ x'.2.2.1 = tabL o (fun q => chS n t (inP l t) (inC l t) s (inV o vs) (axS ax) q j) ∧ (j ≤ n → x'.1 = wtF n t (inP l t) (axS ax) j ∧ x'.2.2.2.length = 4 ∧ ∀ k,k < n → x'.2.2.2.getD k 0 = inC l t k + (chB (axS ax) j k : Int))) ∧ ((n : Int) + 1 - x'.2.1).toNat < ((n : Int) + 1 - (j : Int)).toNat ∧
            raw_j8 fu (n : Int) ((n : Int),(partT l t n,(cellT l t n,ax))) (wtF n t (inP l t) (axS ax) j,((j : Int),(out,cell))) (wtF n t (inP l t) (axS ax) (j + 1),(wtF n t (inP l t) (axS ax) j,(tabL o (fun q => chS n t (inP l t) (inC l t) s (inV o vs) (axS ax) q j),cell))) K (raw_j6 fu j2) (wtF n t (inP l t) (axS ax) j,tabL o (fun q => chS n t (inP l t) (inC l t) s (inV o vs) (axS ax) q (j + 1))) = j2 x') ∨
          raw_j8 fu (n : Int) ((n : Int),(partT l t n,(cellT l t n,ax))) (wtF n t (inP l t) (axS ax) j,((j : Int),(out,cell))) (wtF n t (inP l t) (axS ax) (j + 1),(wtF n t (inP l t) (axS ax) j,(tabL o (fun q => chS n t (inP l t) (inC l t) s (inV o vs) (axS ax) q j),cell))) K (raw_j6 fu j2) (wtF n t (inP l t) (axS ax) j,tabL o (fun q => chS n t (inP l t) (inC l t) s (inV o vs) (axS ax) q (j + 1))) = K (tabL o (fun q => chS n t (inP l t) (inC l t) s (inV o vs) (axS ax) q (n + 1))) := by
        intro out;by_cases g : j < n
        · have sj := hax.srt.lt j g;have nj := hax.nn j g;by_cases z : wtF n t (inP l t) (axS ax) (j + 1) = 0
          · refine .inr ?_;unfold raw_j8;simp (disch := omega) only [joinF_eq,bindO_some,s_wr,s_td,s_tm,s_pos,s_neg,cond_true,cond_false,Bool.not_true,Bool.not_false,Bool.true_and,Bool.and_true,Bool.false_and,Bool.and_false,bne_self_eq_false,decide_true,decide_false,Int.toNat_natCast];exact congrArg K (tabL_congr fun i _ _ => (chain_end hax.srt hp (by omega) z (n + 1) (by omega) (Nat.le_refl _)).symm)
          · have cj := hc (axS ax j) sj;rw [chB_at hax.srt (by omega) g,if_neg (Nat.lt_irrefl _),show inC l t (axS ax j) + ((0 : Nat) : Int) = inC l t (axS ax j) by omega] at cj;have cb := (in_pc h sj).2.1;refine .inl ⟨(wtF n t (inP l t) (axS ax) (j + 1),(((j + 1 : Nat) : Int),(tabL o (fun q => chS n t (inP l t) (inC l t) s (inV o vs) (axS ax) q (j + 1)),cell.set (axS ax j) (inC l t (axS ax j) + 1)))),⟨j + 1,by omega,rfl,rfl,fun _ => ⟨rfl,by simp only;rw [List.length_set];exact hl4,fun k hk => ?_⟩⟩,by simp only;omega,?_⟩
            · simp only;rw [getD_set' (by omega)];obtain ⟨i,hi,rfl⟩ := hax.srt.sur k hk;rw [hc _ hk,chB_at hax.srt (by omega) hi,chB_at hax.srt (by omega) hi];by_cases e : i = j
              · subst e;rw [if_pos rfl,if_pos (by omega)];rfl
              · rw [if_neg (fun e' => e (hax.srt.inj _ _ hi g e'))];by_cases e2 : i < j
                · rw [if_pos e2,if_pos (by omega)]
                · rw [if_neg e2,if_neg (by omega)]
            · unfold raw_j8;simp (disch := omega) only [joinF_eq,bindO_some,s_wr,s_td,s_tm,s_pos,s_neg,cond_true,cond_false,Bool.not_true,Bool.not_false,Bool.true_and,Bool.and_true,Bool.false_and,Bool.and_false,bne_self_eq_false,decide_true,decide_false,Int.toNat_natCast];have e9 : (ax.getD j 0).toNat = axS ax j := rfl;rw [e9,cj];unfold raw_j6;simp (disch := omega) only [joinF_eq,bindO_some,s_wr,s_td,s_tm,s_pos,s_neg,cond_true,cond_false,Bool.not_true,Bool.not_false,Bool.true_and,Bool.and_true,Bool.false_and,Bool.and_false,bne_self_eq_false,decide_true,decide_false,Int.toNat_natCast];rfl
        · have e : j = n := by omega
          subst e;refine .inl ⟨(wtF j t (inP l t) (axS ax) j,(((j + 1 : Nat) : Int),(tabL o (fun q => chS j t (inP l t) (inC l t) s (inV o vs) (axS ax) q (j + 1)),cell))),⟨j + 1,by omega,rfl,rfl,fun h => absurd h (by omega)⟩,by simp only;omega,?_⟩;unfold raw_j8;simp (disch := omega) only [joinF_eq,bindO_some,s_wr,s_td,s_tm,s_pos,s_neg,cond_true,cond_false,Bool.not_true,Bool.not_false,Bool.true_and,Bool.and_true,Bool.false_and,Bool.and_false,bne_self_eq_false,decide_true,decide_false,Int.toNat_natCast];unfold raw_j6;simp (disch := omega) only [joinF_eq,bindO_some,s_wr,s_td,s_tm,s_pos,s_neg,cond_true,cond_false,Bool.not_true,Bool.not_false,Bool.true_and,Bool.and_true,Bool.false_and,Bool.and_false,bne_self_eq_false,decide_true,decide_false,Int.toNat_natCast];rfl
      unfold raw_l5;by_cases g : j < n
      · have nj := hax.nn j g;have sj := hax.srt.lt j g;have pj := partT_at (l := l) (t := t) (k := n) (i := axS ax j) sj (by omega);have ew : wtF n t (inP l t) (axS ax) (j + 1) = inP l t (axS ax j) := by rw [wtF,if_pos g]
        have rh := fun out => raw_head h hf (K := K) (j8 := j2) hax hj' hl4 hc (wt := wtF n t (inP l t) (axS ax) j) (out := out)
        have kk := key (tabL o (fun q => chS n t (inP l t) (inC l t) s (inV o vs) (axS ax) q j));rw [ew] at rh kk;simp (disch := omega) only [joinF_eq,bindO_some,s_wr,s_td,s_tm,s_pos,s_neg,cond_true,cond_false,Bool.not_true,Bool.not_false,Bool.true_and,Bool.and_true,Bool.false_and,Bool.and_false,bne_self_eq_false,decide_true,decide_false,Int.toNat_natCast];have e9 : (ax.getD j 0).toNat = axS ax j := rfl;rw [e9,pj,rh];exact kk
      · have ew : wtF n t (inP l t) (axS ax) (j + 1) = 0 := by rw [wtF,if_neg g]
        have rh := fun out => raw_head h hf (K := K) (j8 := j2) hax hj' hl4 hc (wt := wtF n t (inP l t) (axS ax) j) (out := out)
        have kk := key (tabL o (fun q => chS n t (inP l t) (inC l t) s (inV o vs) (axS ax) q j));rw [ew] at rh kk;simp (disch := omega) only [joinF_eq,bindO_some,s_wr,s_td,s_tm,s_pos,s_neg,cond_true,cond_false,Bool.not_true,Bool.not_false,Bool.true_and,Bool.and_true,Bool.false_and,Bool.and_false,bne_self_eq_false,decide_true,decide_false,Int.toNat_natCast];rw [rh];exact kk
  · exact (tabL_rep fun i _ _ => rfl).symm
  · simp only;rw [cellT_at hk (by omega)]
    have : chB (axS ax) 0 k = 0 := by
      unfold chB;rw [if_neg]
      rintro ⟨i,hi,_⟩
      exact absurd hi (Nat.not_lt_zero _)
    rw [this];simp
theorem raw_all {β : Type} {K : List Int → Option β} : loopF (raw_l1 K fu (((n : Int),((o : Int),((s : Int),vs))),(l,())) t (n : Int)) fu ((0 : Int),([0,0,0,0],([0,0,0,0],[0,0,0,0]))) = K (tabL o (smF n t (inP l t) (inC l t) s (inV o vs) (2 ^ n))) := by
  have h' := h;obtain ⟨n1,n4,o1,o8,s2,s9,sz,hv,vb,hl,bl,t1,t2,tt⟩ := h'
  refine postLoop (f := raw_l1 K fu (((n : Int),((o : Int),((s : Int),vs))),(l,())) t (n : Int)) (fun x => ((n : Int) - x.1).toNat)
    (fun x => ∃ (k : Nat) (ax : List Int),k ≤ n ∧ AxOk k (inP l t) ax ∧ x = ((k : Int),(partT l t k,(cellT l t k,ax)))) (fun r => r = K (tabL o (smF n t (inP l t) (inC l t) s (inV o vs) (2 ^ n)))) ?_ fu _ ⟨0,[0,0,0,0],Nat.zero_le _,⟨rfl,fun i hi => absurd hi (Nat.not_lt_zero _),fun i hi => absurd hi (Nat.not_lt_zero _),fun i j hi => absurd hi (Nat.not_lt_zero _),fun k hk => absurd hk (Nat.not_lt_zero _),fun i j _ hj => absurd hj (Nat.not_lt_zero _)⟩,rfl⟩ (by simp only;omega)
  rintro j _ ⟨k,ax,hk,hax,rfl⟩
  have pl := partT_len (l := l) (t := t) (k := k);have cl := cellT_len (l := l) (t := t) (k := k);by_cases c : k < n
  · obtain ⟨ax',g1,g2⟩ := raw_ins h hf (j := j) c hax;refine .inl ⟨_,⟨k + 1,ax',by omega,g1,rfl⟩,by simp only;omega,?_⟩;rw [← g2];unfold raw_l1;simp (disch := omega) only [joinF_eq,bindO_some,s_wr,s_td,s_tm,s_pos,s_neg,cond_true,cond_false,Bool.not_true,Bool.not_false,Bool.true_and,Bool.and_true,Bool.false_and,Bool.and_false,bne_self_eq_false,decide_true,decide_false,Int.toNat_natCast]
  · have e : k = n := by omega
    subst e;refine .inr ?_;unfold raw_l1;simp (disch := omega) only [joinF_eq,bindO_some,s_wr,s_td,s_tm,s_pos,s_neg,cond_true,cond_false,Bool.not_true,Bool.not_false,Bool.true_and,Bool.and_true,Bool.false_and,Bool.and_false,bne_self_eq_false,decide_true,decide_false,Int.toNat_natCast];exact raw_sum h hf hax
end
end Go.Proofs.Ytjhdjjoacedlpaa
/- Numbers: what the small functions compute. -/
namespace Go.Proofs.Ytjhdjjoacedlpaa
open Go Go.RowKit
set_option linter.unusedSimpArgs false
set_option linter.unusedSectionVars false
set_option linter.unusedVariables false

theorem floor_s (fu : Nat) {n d : Int} (hd : 0 < d) (h1 : d ≤ 9223372036854775807) (h2 : -9223372036854775808 ≤ n) (h3 : n ≤ 9223372036854775807) : R_Floor_r fu (n,(d,())) = some (n / d,()) := by
  unfold R_Floor_r;simp only [joinF_eq];rw [bif_pos (by omega)];have hm := Int.tmod_add_mul_tdiv n d;have hm1 := Int.natAbs_tmod n d;have h4 : n.tdiv d * d = n - n.tmod d := by rw [Int.mul_comm];omega
  have h5 : (n.tmod d).natAbs ≤ n.natAbs := by rw [hm1];exact Nat.mod_le _ _
  have hb : -9223372036854775808 ≤ n.tdiv d * d ∧ n.tdiv d * d ≤ 9223372036854775807 := by
    rcases Int.le_total 0 n with hn | hn
    · have := Int.tmod_nonneg d hn;omega
    · have := Int.tmod_nonneg (a := -n) d (by omega);rw [Int.neg_tmod] at this;omega
  obtain ⟨b1,b2⟩ := hb;have hq := Int.natAbs_tdiv n d;have hq' : (n.tdiv d).natAbs ≤ n.natAbs := by rw [hq];exact Nat.div_le_self _ _
  have hq3 : n.tdiv d ≤ 9223372036854775807 := by
    rcases Int.le_total 0 n with hn | hn
    · omega
    · have := Int.tdiv_nonneg (a := -n) (b := d) (by omega) (by omega);rw [Int.neg_tdiv] at this;omega
  rw [wr64 (x := n.tdiv d) (by omega) hq3,wr64 (x := n.tdiv d * d) b1 b2];by_cases hc : n < n.tdiv d * d
  · have hlow : -9223372036854775807 ≤ n.tdiv d := by
      rcases Int.lt_or_le d 2 with g | g
      · obtain rfl : d = 1 := by omega
        rw [Int.tdiv_one] at hc;omega
      · have h6 : (n.tdiv d).natAbs ≤ n.natAbs / 2 := by
          rw [hq];exact Nat.div_le_div_left (by omega) (by omega)
        omega
    rw [bif_pos hc,wr64 (x := n.tdiv d - 1) (by omega) (by omega),tdiv_over hd hc];rfl
  · rw [bif_neg hc,tdiv_under hd (by omega)];rfl
theorem floor_mul' {n d : Int} (hd : 0 < d) : n / d * d ≤ n ∧ n < n / d * d + d := by
  have h1 := Int.mul_ediv_add_emod n d;have h2 := Int.emod_nonneg n (by omega : d ≠ 0);have h3 := Int.emod_lt_of_pos n hd;rw [Int.mul_comm] at h1;omega
theorem round_s (fu : Nat) {n d : Int} (hd : 0 < d) (h1 : d ≤ 1000000000000000) (h2 : -1000000000000000000 ≤ n) (h3 : n ≤ 1000000000000000000) : R_Round_r fu (n,(d,())) = some (rnd n d,()) := by
  unfold R_Round_r;simp only;rw [floor_s fu hd (by omega) (by omega) (by omega)];simp only [bindO_some,joinF_eq];obtain ⟨b1,b2⟩ := floor_mul' (n := n) hd
  have hq : -1000000000000000001 ≤ n / d ∧ n / d ≤ 1000000000000000000 := by
    constructor
    · rcases Int.lt_or_le (n / d) 0 with g | g
      · have : n / d * d ≤ n / d * 1 := Int.mul_le_mul_of_nonpos_left (by omega) (by omega);have h4 : n / d * d - n / d * 1 ≤ 0 := by omega
        have h5 : (n / d + 1) * d ≤ (n / d + 1) * 1 := Int.mul_le_mul_of_nonpos_left (by omega) (by omega);rw [Int.add_mul] at h5;omega
      · omega
    · rcases Int.lt_or_le (n / d) 1 with g | g
      · omega
      · have : n / d * 1 ≤ n / d * d := Int.mul_le_mul_of_nonneg_left (by omega) (by omega);omega
  rw [wr64 (x := n / d * d) (by omega) (by omega),wr64 (x := n - n / d * d) (by omega) (by omega),wr64 (x := 2 * (n - n / d * d)) (by omega) (by omega)];by_cases hc : d ≤ 2 * (n - n / d * d)
  · rw [bif_pos hc,wr64 (x := n / d + 1) (by omega) (by omega),rnd_up hd hc];rfl
  · rw [bif_neg hc,rnd_down hd (by omega)];rfl
theorem nearest_s (fu : Nat) {n d : Int} (hd : 0 < d) (h1 : d ≤ 1000000000000000) (h2 : -1000000000000000000 ≤ n) (h3 : n ≤ 1000000000000000000) : curve_Nearest_r fu (n,(d,())) = some (rnd n d,()) := by
  obtain ⟨g1,g2⟩ := tdiv_abs (n := 2 * n + d) (m := 2002000000000000000) (2 * d) (by omega) (by omega);unfold curve_Nearest_r rnd;simp only [joinF_eq];rw [wr64 (x := 2 * n) (by omega) (by omega),wr64 (x := 2 * n + d) (by omega) (by omega),wr64 (x := 2 * d) (by omega) (by omega),bif_pos (by omega),bif_pos (by omega),wr64 (x := (2 * n + d).tdiv (2 * d)) (by omega) (by omega)];by_cases hc : (2 * n + d).tmod (2 * d) < 0
  · rw [bif_pos hc,wr64 (x := (2 * n + d).tdiv (2 * d) - 1) (by omega) (by omega),tdiv_neg (by omega) hc];rfl
  · rw [bif_neg hc,tdiv_pos (by omega) (by omega)];rfl
end Go.Proofs.Ytjhdjjoacedlpaa
/- Curves,names,tones (out of the spot texts). -/
namespace Go.Proofs.Ytjhdjjoacedlpaa
open Go Go.RowKit
set_option linter.unusedSimpArgs false
set_option linter.unusedSectionVars false
set_option linter.unusedVariables false
namespace Sp
theorem rbset : (∀ {α : Type} (a b : α),(bif true then a else b) = a) ∧ (∀ {α : Type} (a b : α),(bif false then a else b) = b) ∧ ((!true) = false) ∧ ((!false) = true) ∧ (∀ b : Bool,(true && b) = b) ∧ (∀ b : Bool,(b && true) = b) ∧ (∀ b : Bool,(false && b) = false) ∧ (∀ b : Bool,(b && false) = false) ∧ (decide True = true) ∧ (decide False = false) := ⟨fun _ _ => rfl,fun _ _ => rfl,rfl,rfl,Bool.true_and,Bool.and_true,Bool.false_and,Bool.and_false,rfl,rfl⟩

def labR (c : Int × Int × Int) : Int := if 0 ≤ c.1 ∧ c.1 ≤ 10000 ∧ -12800 ≤ c.2.1 ∧ c.2.1 ≤ 12800 ∧ -12800 ≤ c.2.2 ∧ c.2.2 ≤ 12800 then 0 else 3
theorem labErr_s (fu : Nat) (c : Int × Int × Int) : R_LabErr_r fu (c,()) = some (labR c,()) := by
  obtain ⟨l,a,b⟩ := c;unfold R_LabErr_r labR;simp only [joinF_eq,within_s,bindO_some];by_cases h1 : 0 ≤ l ∧ l ≤ 10000
  · rw [decide_eq_true h1];by_cases h2 : -12800 ≤ a ∧ a ≤ 12800
    · rw [decide_eq_true h2];by_cases h3 : -12800 ≤ b ∧ b ≤ 12800
      · rw [decide_eq_true h3,if_pos (by omega)];rfl
      · rw [decide_eq_false h3,if_neg (by omega)];rfl
    · rw [decide_eq_false h2,if_neg (by omega)];rfl
  · rw [decide_eq_false h1,if_neg (by omega)];rfl
theorem refChk_s (fu : Nat) (c : Int × Int × Int) : refspace_Check_r fu (c,()) = some (labR c,()) := by
  obtain ⟨l,a,b⟩ := c;unfold refspace_Check_r labR;simp only [joinF_eq];by_cases h1 : l < 0
  · rw [bif_pos h1,if_neg (by omega)];rfl
  rw [bif_neg h1];by_cases h2 : 10000 < l
  · rw [bif_pos h2,if_neg (by omega)];rfl
  rw [bif_neg h2];by_cases h3 : a < -12800
  · rw [bif_pos h3,if_neg (by omega)];rfl
  rw [bif_neg h3];by_cases h4 : 12800 < a
  · rw [bif_pos h4,if_neg (by omega)];rfl
  rw [bif_neg h4];by_cases h5 : b < -12800
  · rw [bif_pos h5,if_neg (by omega)];rfl
  rw [bif_neg h5];by_cases h6 : 12800 < b
  · rw [decide_eq_true h6,if_neg (by omega)];rfl
  rw [decide_eq_false h6,if_pos (by omega)];rfl
structure CurveOk (ps : List (Int × Int)) : Prop where
  two : 2 ≤ ps.length
  most : ps.length ≤ 33
  bd : ∀ (i : Nat) (x y : Int),ps[i]? = some (x,y) → 0 ≤ x ∧ x ≤ 65280 ∧ 0 ≤ y ∧ y ≤ 65280
  step : ∀ (i : Nat) (x y u v : Int),ps[i]? = some (x,y) → ps[i + 1]? = some (u,v) → x < u ∧ y ≤ v
  first : ∀ x y,ps[0]? = some (x,y) → x = 0
  last : ∀ x y,ps[ps.length - 1]? = some (x,y) → x = 65280

theorem CurveOk.le {ps : List (Int × Int)} (h : CurveOk ps) {i j : Nat} (hij : i ≤ j) {x y u v : Int} (hi : ps[i]? = some (x,y)) (hj : ps[j]? = some (u,v)) : x ≤ u ∧ y ≤ v ∧ (i < j → x < u) := by
  induction j generalizing u v with
  | zero =>
    obtain rfl : i = 0 := by omega
    rw [hi] at hj;simp at hj;omega
  | succ j ih =>
    rcases Nat.lt_or_ge i (j + 1) with hlt | hge
    · have hjl : j < ps.length := by have := (List.getElem?_eq_some_iff.1 hj).1;omega
      obtain ⟨⟨a,b⟩,hab⟩ : ∃ p,ps[j]? = some p := ⟨_,List.getElem?_eq_getElem hjl⟩;have h1 := ih (by omega) hab;have h2 := h.step j a b u v hab hj;omega
    · obtain rfl : i = j + 1 := by omega
      rw [hi] at hj;simp at hj;omega

def curveAtL (x : Int) : Int × Int → List (Int × Int) → Int
  | _,[] => -1
  | p,q :: r => if x ≤ q.1 then rnd (p.2 * (q.1 - x) + q.2 * (x - p.1)) (q.1 - p.1) else curveAtL x q r
def curveAt (ps : List (Int × Int)) (x : Int) : Int := curveAtL x (ps.getD 0 (0,0)) (ps.drop 1)

def segV (x a b c d : Int) : Int := rnd (b * (c - x) + d * (x - a)) (c - a)
theorem rnd_add (a b : Int) {d : Int} (hd : 0 < d) : rnd (a * d + b) d = a + rnd b d := by
  unfold rnd;rw [show 2 * (a * d + b) + d = (2 * b + d) + (2 * d) * a from by rw [Int.mul_add,Int.mul_assoc,Int.mul_comm d a];omega];rw [Int.add_mul_ediv_left _ _ (by omega),Int.add_comm]
theorem rnd_zero {d : Int} (hd : 0 < d) : rnd 0 d = 0 := by
  unfold rnd;exact Int.ediv_eq_zero_of_lt (by omega) (by omega)
theorem segV_eq {x a b c d : Int} (h : a < c) : segV x a b c d = b + rnd ((d - b) * (x - a)) (c - a) := by
  unfold segV;rw [← rnd_add b _ (by omega)];congr 1;simp only [Int.mul_sub,Int.sub_mul];omega
theorem segV_end {a b c d : Int} (h : a < c) : segV c a b c d = d := by
  unfold segV;rw [Int.sub_self,Int.mul_zero,Int.zero_add];have := rnd_add d 0 (d := c - a) (by omega);rw [Int.add_zero,rnd_zero (by omega)] at this;omega
theorem segV_start {a b c d : Int} (h : a < c) : segV a a b c d = b := by
  rw [segV_eq h,Int.sub_self,Int.mul_zero,rnd_zero (by omega)];omega

theorem curveAtL_seg {x : Int} {p : Int × Int} {l : List (Int × Int)} {i : Nat} {a b c d : Int} (hlo : ∀ (j : Nat) (u v : Int),j < i → l[j]? = some (u,v) → u < x) (hi : (p :: l)[i]? = some (a,b)) (hi' : l[i]? = some (c,d)) (hx : x ≤ c) :
    curveAtL x p l = segV x a b c d := by
  induction l generalizing p i with
  | nil => simp at hi'
  | cons q r ih =>
    cases i with
    | zero =>
      simp only [List.getElem?_cons_zero,Option.some.injEq] at hi hi';subst hi;subst hi'
      rw [curveAtL,if_pos hx];rfl
    | succ i =>
      have := hlo 0 q.1 q.2 (by omega) rfl;rw [curveAtL,if_neg (by omega)];exact ih (fun j u v hj hl => hlo (j + 1) u v (Nat.succ_lt_succ hj) (by simpa using hl)) (by simpa using hi) (by simpa using hi')

theorem curveAt_seg {ps : List (Int × Int)} (h : CurveOk ps) {x : Int} {i : Nat} {a b c d : Int} (hi : ps[i]? = some (a,b)) (hi' : ps[i + 1]? = some (c,d)) (h0 : i = 0 ∨ a < x) (hx : x ≤ c) : curveAt ps x = segV x a b c d := by
  cases ps with
  | nil => simp at hi
  | cons p l =>
    refine curveAtL_seg (i := i) ?_ (by simpa using hi) (by simpa using hi') hx;intro j u v hj hl;have := h.le (i := j + 1) (j := i) (by omega) (by simpa using hl) hi;omega
theorem curveAt_found {ps : List (Int × Int)} (h : CurveOk ps) {x : Int} {i : Nat} {a b c d : Int} (hi : ps[i]? = some (a,b)) (hi' : ps[i + 1]? = some (c,d)) (h0 : a ≤ x) (hx : x < c ∨ i + 1 = ps.length - 1) (hx' : x ≤ 65280) :
    curveAt ps x = segV x a b c d := by
  have hxc : x ≤ c := by
    rcases hx with hx | hx
    · omega
    · have := h.last c d (by rw [← hx];exact hi');omega
  rcases Nat.eq_zero_or_pos i with rfl | hp
  · exact curveAt_seg h hi hi' (.inl rfl) hxc
  rcases Int.lt_or_eq_of_le h0 with hlt | rfl
  · exact curveAt_seg h hi hi' (.inr hlt) hxc
  · have hil : i - 1 < ps.length := by have := (List.getElem?_eq_some_iff.1 hi).1;omega
    obtain ⟨⟨e,f⟩,hef⟩ : ∃ p,ps[i - 1]? = some p := ⟨_,List.getElem?_eq_getElem hil⟩;have hi2 : ps[i - 1 + 1]? = some (a,b) := by rw [show i - 1 + 1 = i from by omega];exact hi
    have s1 := h.step (i - 1) e f a b hef hi2;have s2 := h.step i a b c d hi hi';rw [curveAt_seg h hef hi2 (.inr s1.1) (Int.le_refl _),segV_end s1.1,segV_start s2.1]
theorem segV_bd {x a b c d : Int} (h1 : a < c) (h2 : a ≤ x) (h3 : x ≤ c) (h4 : 0 ≤ b) (h5 : b ≤ d) (h6 : d ≤ 65280) : 0 ≤ segV x a b c d ∧ segV x a b c d ≤ 65280 := by
  rw [segV_eq h1];have e1 : 0 ≤ (d - b) * (x - a) := Int.mul_nonneg (by omega) (by omega);have e2 : (d - b) * (x - a) ≤ (d - b) * (c - a) := Int.mul_le_mul_of_nonneg_left (by omega) (by omega);have e3 : 0 ≤ rnd ((d - b) * (x - a)) (c - a) := by unfold rnd;exact Int.ediv_nonneg (by omega) (by omega)
  have e4 : rnd ((d - b) * (x - a)) (c - a) ≤ d - b := by
    have e5 := rnd_add (d - b) 0 (d := c - a) (by omega);rw [Int.add_zero,rnd_zero (by omega),Int.add_zero] at e5
    have e6 : rnd ((d - b) * (x - a)) (c - a) ≤ rnd ((d - b) * (c - a)) (c - a) := by
      unfold rnd;exact Int.ediv_le_ediv (by omega) (by omega)
    omega
  omega
theorem curveAt_first {ps : List (Int × Int)} (h : CurveOk ps) {x : Int} (h0 : 0 ≤ x) (h1 : x ≤ 65280) : ∃ i a b c d,ps[i]? = some (a,b) ∧ ps[i + 1]? = some (c,d) ∧ a ≤ x ∧ x ≤ c ∧ (i = 0 ∨ a < x) ∧ curveAt ps x = segV x a b c d := by
  have key : ∀ n i,n + i + 1 = ps.length → (∀ a b,ps[i]? = some (a,b) → i = 0 ∧ a ≤ x ∨ a < x) → i + 1 < ps.length ∨ i = 0 →
      ∃ i a b c d,ps[i]? = some (a,b) ∧ ps[i + 1]? = some (c,d) ∧ a ≤ x ∧ x ≤ c ∧ (i = 0 ∨ a < x) ∧ curveAt ps x = segV x a b c d := by
    intro n
    induction n with
    | zero => intro i hi _ h';have := h.two;omega
    | succ n ih =>
      intro i hi hlo _;obtain ⟨⟨a,b⟩,hab⟩ : ∃ p,ps[i]? = some p := ⟨_,List.getElem?_eq_getElem (by omega)⟩;obtain ⟨⟨c,d⟩,hcd⟩ : ∃ p,ps[i + 1]? = some p := ⟨_,List.getElem?_eq_getElem (by omega)⟩;have hl := hlo a b hab;by_cases hx : x ≤ c
      · exact ⟨i,a,b,c,d,hab,hcd,by omega,hx,by omega,curveAt_seg h hab hcd (by omega) hx⟩
      · have hne : i + 1 ≠ ps.length - 1 := by
          intro he;have := h.last c d (by rw [← he];exact hcd);omega
        refine ih (i + 1) (by omega) ?_ (.inl (by omega));intro a' b' h';rw [hcd] at h';simp at h';omega
  have h2 := h.two;refine key (ps.length - 1) 0 (by omega) ?_ (.inr rfl);intro a b hab;have := h.first a b hab;omega
theorem curveAt_bd {ps : List (Int × Int)} (h : CurveOk ps) {x : Int} (h0 : 0 ≤ x) (h1 : x ≤ 65280) : 0 ≤ curveAt ps x ∧ curveAt ps x ≤ 65280 := by
  obtain ⟨i,a,b,c,d,hi,hi',g1,g2,_,g4⟩ := curveAt_first h h0 h1;have b1 := h.bd i a b hi;have b2 := h.bd (i + 1) c d hi';have b3 := h.step i a b c d hi hi';rw [g4];exact segV_bd b3.1 g1 g2 b1.2.2.1 b3.2 b2.2.2.2


def cP (ps : List (Int × Int)) (i : Nat) : Int × Int := ps.getD i (0,0)
theorem cP_of {ps : List (Int × Int)} {i : Nat} {p : Int × Int} (h : ps[i]? = some p) : cP ps i = p := by
  unfold cP;rw [List.getD_eq_getElem?_getD,h];rfl
theorem cP_get {ps : List (Int × Int)} {i : Nat} (h : i < ps.length) : ps[i]? = some ((cP ps i).1,(cP ps i).2) := by
  unfold cP;rw [List.getD_eq_getElem?_getD,List.getElem?_eq_getElem h];rfl
def ptE (ps : List (Int × Int)) (i : Nat) : Int :=
  if (0 ≤ (cP ps i).1 ∧ (cP ps i).1 ≤ 65280) ∧ 0 ≤ (cP ps i).2 ∧ (cP ps i).2 ≤ 65280 then
    (if 0 < i ∧ ((cP ps i).1 ≤ (cP ps (i - 1)).1 ∨ (cP ps i).2 < (cP ps (i - 1)).2) then 18 else 0) else 3
def curE (ps : List (Int × Int)) : Int :=
  if 33 < ps.length then 2 else if ps.length < 2 then 1 else if firstE (ptE ps) ps.length 0 = 0 then (if (cP ps 0).1 = 0 ∧ (cP ps (ps.length - 1)).1 = 65280 then 0 else 4) else firstE (ptE ps) ps.length 0
theorem curE_ok {ps : List (Int × Int)} (h : curE ps = 0) : CurveOk ps := by
  unfold curE at h;by_cases h0 : 33 < ps.length
  · rw [if_pos h0] at h;omega
  rw [if_neg h0] at h;by_cases h1 : ps.length < 2
  · rw [if_pos h1] at h;omega
  rw [if_neg h1] at h;by_cases h2 : firstE (ptE ps) ps.length 0 = 0
  · rw [if_pos h2] at h;by_cases h3 : (cP ps 0).1 = 0 ∧ (cP ps (ps.length - 1)).1 = 65280
    · have hE : ∀ i,i < ps.length → ptE ps i = 0 := fun i hi => firstE_ok _ 0 h2 i (by omega) (by omega)
      have hB : ∀ i,i < ps.length → ((0 ≤ (cP ps i).1 ∧ (cP ps i).1 ≤ 65280) ∧ 0 ≤ (cP ps i).2 ∧ (cP ps i).2 ≤ 65280) ∧ ¬ (0 < i ∧ ((cP ps i).1 ≤ (cP ps (i - 1)).1 ∨ (cP ps i).2 < (cP ps (i - 1)).2)) := by
        intro i hi;have e := hE i hi;unfold ptE at e;split at e
        · rename_i c;split at e
          · omega
          · rename_i d;exact ⟨c,d⟩
        · omega
      refine ⟨by omega,by omega,?_,?_,?_,?_⟩
      · intro i x y hx;have hi := (List.getElem?_eq_some_iff.1 hx).1;have := (hB i hi).1;rw [cP_of hx] at this;exact ⟨this.1.1,this.1.2,this.2.1,this.2.2⟩
      · intro i x y u v hx hu;have hi := (List.getElem?_eq_some_iff.1 hu).1;have := (hB (i + 1) hi).2;rw [Nat.add_sub_cancel,cP_of hx,cP_of hu] at this;simp only at this;omega
      · intro x y hx;have := h3.1;rw [cP_of hx] at this;exact this
      · intro x y hx;have := h3.2;rw [cP_of hx] at this;exact this
    · rw [if_neg h3] at h;omega
  · rw [if_neg h2] at h;exact absurd h h2
section
variable {fu : Nat} (hf : 18446744073709551616 ≤ fu) {ps : List (Int × Int)}
include hf
theorem curCheck_r : curve_Check_r fu (ps,()) = some (curE ps,()) := by
  unfold curve_Check_r curE;by_cases c1 : 33 < ps.length
  · rw [if_pos c1];simp (disch := omega) only [joinF_eq,bindO_some,s_wr,s_td,s_tm,s_pos,s_neg,Int.toNat_natCast,rbset]
  rw [if_neg c1];by_cases c2 : ps.length < 2
  · rw [if_pos c2];simp (disch := omega) only [joinF_eq,bindO_some,s_wr,s_td,s_tm,s_pos,s_neg,Int.toNat_natCast,rbset]
  rw [if_neg c2];simp (disch := omega) only [joinF_eq,bindO_some,s_wr,s_td,s_tm,s_pos,s_neg,Int.toNat_natCast,rbset];rw [errLoop (n := ps.length) (E := ptE ps) (out := fun e => some (e,())) (fin := some (if (cP ps 0).1 = 0 ∧ (cP ps (ps.length - 1)).1 = 65280 then 0 else 4,())) (by omega)]
  · split <;> rfl
  · intro j i hi;unfold curve_Check_l1;simp (disch := omega) only [joinF_eq,bindO_some,s_wr,s_td,s_tm,s_pos,s_neg,Int.toNat_natCast,rbset];show (bif decide ((cP ps i).1 < 0) then _ else bif decide (65280 < (cP ps i).1) then _ else bif decide ((cP ps i).2 < 0) then _ else curve_Check_j2 fu _ _ (cP ps i) j (decide (65280 < (cP ps i).2))) = _
    have t3 : ¬ ((0 ≤ (cP ps i).1 ∧ (cP ps i).1 ≤ 65280) ∧ 0 ≤ (cP ps i).2 ∧ (cP ps i).2 ≤ 65280) → ∀ v,curve_Check_j2 fu (ps,()) i v j true = if ptE ps i = 0 then j ((i : Int) + 1) else some (ptE ps i,()) := by
      intro h v;have : ptE ps i = 3 := by unfold ptE;rw [if_neg h]
      rw [this];rfl
    by_cases g1 : (cP ps i).1 < 0
    · simp (disch := omega) only [joinF_eq,bindO_some,s_wr,s_td,s_tm,s_pos,s_neg,Int.toNat_natCast,rbset];exact t3 (by omega) _
    by_cases g2 : 65280 < (cP ps i).1
    · simp (disch := omega) only [joinF_eq,bindO_some,s_wr,s_td,s_tm,s_pos,s_neg,Int.toNat_natCast,rbset];exact t3 (by omega) _
    by_cases g3 : (cP ps i).2 < 0
    · simp (disch := omega) only [joinF_eq,bindO_some,s_wr,s_td,s_tm,s_pos,s_neg,Int.toNat_natCast,rbset];exact t3 (by omega) _
    by_cases g4 : 65280 < (cP ps i).2
    · simp (disch := omega) only [joinF_eq,bindO_some,s_wr,s_td,s_tm,s_pos,s_neg,Int.toNat_natCast,rbset];exact t3 (by omega) _
    have hb : (0 ≤ (cP ps i).1 ∧ (cP ps i).1 ≤ 65280) ∧ 0 ≤ (cP ps i).2 ∧ (cP ps i).2 ≤ 65280 := by omega
    have t18 : 0 < i ∧ ((cP ps i).1 ≤ (cP ps (i - 1)).1 ∨ (cP ps i).2 < (cP ps (i - 1)).2) → ptE ps i = 18 := fun h => by unfold ptE;rw [if_pos hb,if_pos h]
    have t0 : ¬ (0 < i ∧ ((cP ps i).1 ≤ (cP ps (i - 1)).1 ∨ (cP ps i).2 < (cP ps (i - 1)).2)) → ptE ps i = 0 := fun h => by unfold ptE;rw [if_pos hb,if_neg h]
    unfold curve_Check_j2;by_cases z : 0 < i
    · simp (disch := omega) only [joinF_eq,bindO_some,s_wr,s_td,s_tm,s_pos,s_neg,Int.toNat_natCast,rbset];rw [show ((i : Int) - 1).toNat = i - 1 by omega];show (bif decide ((cP ps i).1 ≤ (cP ps (i - 1)).1) then _ else curve_Check_j3 fu _ j (decide ((cP ps i).2 < (cP ps (i - 1)).2))) = _;by_cases g5 : (cP ps i).1 ≤ (cP ps (i - 1)).1
      · rw [t18 (by omega)];simp (disch := omega) only [joinF_eq,bindO_some,s_wr,s_td,s_tm,s_pos,s_neg,cond_true,cond_false,Bool.not_true,Bool.not_false,Bool.true_and,Bool.and_true,Bool.false_and,Bool.and_false,bne_self_eq_false,decide_true,decide_false,Int.toNat_natCast,curve_Check_j3];rfl
      by_cases g6 : (cP ps i).2 < (cP ps (i - 1)).2
      · rw [t18 (by omega)];simp (disch := omega) only [joinF_eq,bindO_some,s_wr,s_td,s_tm,s_pos,s_neg,cond_true,cond_false,Bool.not_true,Bool.not_false,Bool.true_and,Bool.and_true,Bool.false_and,Bool.and_false,bne_self_eq_false,decide_true,decide_false,Int.toNat_natCast,curve_Check_j3];rfl
      · rw [t0 (by omega)];simp (disch := omega) only [joinF_eq,bindO_some,s_wr,s_td,s_tm,s_pos,s_neg,cond_true,cond_false,Bool.not_true,Bool.not_false,Bool.true_and,Bool.and_true,Bool.false_and,Bool.and_false,bne_self_eq_false,decide_true,decide_false,Int.toNat_natCast,curve_Check_j3];rfl
    · rw [t0 (by omega)];simp (disch := omega) only [joinF_eq,bindO_some,s_wr,s_td,s_tm,s_pos,s_neg,cond_true,cond_false,Bool.not_true,Bool.not_false,Bool.true_and,Bool.and_true,Bool.false_and,Bool.and_false,bne_self_eq_false,decide_true,decide_false,Int.toNat_natCast,curve_Check_j3];rfl
  · intro j;unfold curve_Check_l1;simp (disch := omega) only [joinF_eq,bindO_some,s_wr,s_td,s_tm,s_pos,s_neg,Int.toNat_natCast,rbset];rw [show ((ps.length : Int) - 1).toNat = ps.length - 1 by omega];show (bif decide ((cP ps 0).1 ≠ 0) then _ else curve_Check_j4 fu (decide ((cP ps (ps.length - 1)).1 ≠ 65280))) = _;by_cases g1 : (cP ps 0).1 = 0
    · by_cases g2 : (cP ps (ps.length - 1)).1 = 65280
      · rw [if_pos ⟨g1,g2⟩];simp (disch := omega) only [joinF_eq,bindO_some,s_wr,s_td,s_tm,s_pos,s_neg,cond_true,cond_false,Bool.not_true,Bool.not_false,Bool.true_and,Bool.and_true,Bool.false_and,Bool.and_false,bne_self_eq_false,decide_true,decide_false,Int.toNat_natCast,curve_Check_j4]
      · rw [if_neg (by omega)];simp (disch := omega) only [joinF_eq,bindO_some,s_wr,s_td,s_tm,s_pos,s_neg,cond_true,cond_false,Bool.not_true,Bool.not_false,Bool.true_and,Bool.and_true,Bool.false_and,Bool.and_false,bne_self_eq_false,decide_true,decide_false,Int.toNat_natCast,curve_Check_j4]
    · rw [if_neg (by omega)];simp (disch := omega) only [joinF_eq,bindO_some,s_wr,s_td,s_tm,s_pos,s_neg,cond_true,cond_false,Bool.not_true,Bool.not_false,Bool.true_and,Bool.and_true,Bool.false_and,Bool.and_false,bne_self_eq_false,decide_true,decide_false,Int.toNat_natCast,curve_Check_j4]
theorem curErr_r : R_CurveErr_r fu (ps,()) = some (curE ps,()) := by
  unfold R_CurveErr_r curE;by_cases c1 : 33 < ps.length
  · rw [if_pos c1];simp (disch := omega) only [joinF_eq,bindO_some,s_wr,s_td,s_tm,s_pos,s_neg,Int.toNat_natCast,rbset]
  rw [if_neg c1];by_cases c2 : ps.length < 2
  · rw [if_pos c2];simp (disch := omega) only [joinF_eq,bindO_some,s_wr,s_td,s_tm,s_pos,s_neg,Int.toNat_natCast,rbset]
  rw [if_neg c2];simp (disch := omega) only [joinF_eq,bindO_some,s_wr,s_td,s_tm,s_pos,s_neg,Int.toNat_natCast,rbset]
  refine loopF_spec (f := R_CurveErr_l1 fu (ps,())) (fun s : Int × Int × Int => ((ps.length : Int) - s.2.2).toNat) (fun s => (0 ≤ s.2.2 ∧ s.2.2 ≤ ps.length) ∧ (s.2.2 = 0 → s.1 = -1 ∧ s.2.1 = 0) ∧ (0 < s.2.2 → s.1 = (cP ps (s.2.2.toNat - 1)).1 ∧ s.2.1 = (cP ps (s.2.2.toNat - 1)).2))
    (fun s => some (if firstE (ptE ps) (ps.length - s.2.2.toNat) s.2.2.toNat = 0 then (if (cP ps 0).1 = 0 ∧ (cP ps (ps.length - 1)).1 = 65280 then 0 else 4) else firstE (ptE ps) (ps.length - s.2.2.toNat) s.2.2.toNat,())) ?_ fu (-1,(0,0)) ⟨⟨by simp,by simp⟩,by simp,by simp⟩ (by simp;omega)
  rintro j ⟨x,y,i⟩ ⟨⟨k0,k1⟩,k2,k3⟩ ih
  simp only at k0 k1 k2 k3;obtain ⟨i,rfl⟩ := Int.eq_ofNat_of_zero_le k0;rw [Int.toNat_natCast] at k3;unfold R_CurveErr_l1;by_cases hi : i < ps.length
  · have ih' := ih ((cP ps i).1,((cP ps i).2,(i : Int) + 1)) ⟨⟨by simp only;omega,by simp only;omega⟩,by simp only;omega,fun _ => by simp only;rw [show ((i : Int) + 1).toNat - 1 = i by omega];exact ⟨rfl,rfl⟩⟩ (by simp only;omega);simp only at ih';rw [show ((i : Int) + 1).toNat = i + 1 by omega] at ih';simp (disch := omega) only [joinF_eq,bindO_some,s_wr,s_td,s_tm,s_pos,s_neg,Int.toNat_natCast,rbset];rw [firstE_step hi];show bindO (R_Within_r fu ((cP ps i).1,(0,(65280,())))) _ = _;rw [within_s];simp (disch := omega) only [joinF_eq,bindO_some,s_wr,s_td,s_tm,s_pos,s_neg,Int.toNat_natCast,rbset]
    have t3 : ¬ ((0 ≤ (cP ps i).1 ∧ (cP ps i).1 ≤ 65280) ∧ 0 ≤ (cP ps i).2 ∧ (cP ps i).2 ≤ 65280) → ptE ps i = 3 := by
      intro h;unfold ptE;rw [if_neg h]
    by_cases g1 : 0 ≤ (cP ps i).1 ∧ (cP ps i).1 ≤ 65280
    · rw [decide_eq_true g1];simp (disch := omega) only [joinF_eq,bindO_some,s_wr,s_td,s_tm,s_pos,s_neg,Int.toNat_natCast,rbset];show bindO (R_Within_r fu ((cP ps i).2,(0,(65280,())))) _ = _;rw [within_s];simp (disch := omega) only [joinF_eq,bindO_some,s_wr,s_td,s_tm,s_pos,s_neg,Int.toNat_natCast,rbset];by_cases g2 : 0 ≤ (cP ps i).2 ∧ (cP ps i).2 ≤ 65280
      · rw [decide_eq_true g2];simp (disch := omega) only [joinF_eq,bindO_some,s_wr,s_td,s_tm,s_pos,s_neg,cond_true,cond_false,Bool.not_true,Bool.not_false,Bool.true_and,Bool.and_true,Bool.false_and,Bool.and_false,bne_self_eq_false,decide_true,decide_false,Int.toNat_natCast,R_CurveErr_j2];show (bif decide ((cP ps i).1 ≤ x) then _ else R_CurveErr_j3 fu _ (cP ps i) j (decide ((cP ps i).2 < y))) = _
        have o : ptE ps i = if (cP ps i).1 ≤ x ∨ (cP ps i).2 < y then 18 else 0 := by
          unfold ptE;rw [if_pos ⟨g1,g2⟩]
          by_cases z : 0 < i
          · obtain ⟨q1,q2⟩ := k3 (by omega);rw [q1,q2];by_cases w : (cP ps i).1 ≤ (cP ps (i - 1)).1 ∨ (cP ps i).2 < (cP ps (i - 1)).2
            · rw [if_pos ⟨z,w⟩,if_pos w]
            · rw [if_neg (fun q => w q.2),if_neg w]
          · obtain ⟨q1,q2⟩ := k2 (by omega);rw [if_neg (fun q => z q.1),if_neg (by omega)]
        by_cases g5 : (cP ps i).1 ≤ x
        · rw [if_pos (.inl g5)] at o;rw [o];simp (disch := omega) only [joinF_eq,bindO_some,s_wr,s_td,s_tm,s_pos,s_neg,cond_true,cond_false,Bool.not_true,Bool.not_false,Bool.true_and,Bool.and_true,Bool.false_and,Bool.and_false,bne_self_eq_false,decide_true,decide_false,Int.toNat_natCast,R_CurveErr_j3];rfl
        by_cases g6 : (cP ps i).2 < y
        · rw [if_pos (.inr g6)] at o;rw [o];simp (disch := omega) only [joinF_eq,bindO_some,s_wr,s_td,s_tm,s_pos,s_neg,cond_true,cond_false,Bool.not_true,Bool.not_false,Bool.true_and,Bool.and_true,Bool.false_and,Bool.and_false,bne_self_eq_false,decide_true,decide_false,Int.toNat_natCast,R_CurveErr_j3];rfl
        · rw [if_neg (by omega)] at o;rw [o];simp (disch := omega) only [joinF_eq,bindO_some,s_wr,s_td,s_tm,s_pos,s_neg,cond_true,cond_false,Bool.not_true,Bool.not_false,Bool.true_and,Bool.and_true,Bool.false_and,Bool.and_false,bne_self_eq_false,decide_true,decide_false,Int.toNat_natCast,R_CurveErr_j3];exact ih'
      · rw [t3 (fun q => g2 q.2),decide_eq_false g2];rfl
    · rw [t3 (fun q => g1 q.1),decide_eq_false g1];rfl
  · have e : i = ps.length := by omega
    subst e;obtain ⟨q1,q2⟩ := k3 (by omega);simp (disch := omega) only [joinF_eq,bindO_some,s_wr,s_td,s_tm,s_pos,s_neg,Int.toNat_natCast,rbset];rw [Nat.sub_self];show (bif decide ((cP ps 0).1 ≠ 0) then _ else R_CurveErr_j4 fu (decide (x ≠ 65280))) = some (if (cP ps 0).1 = 0 ∧ (cP ps (ps.length - 1)).1 = 65280 then 0 else 4,());rw [q1];by_cases g1 : (cP ps 0).1 = 0
    · by_cases g2 : (cP ps (ps.length - 1)).1 = 65280
      · rw [if_pos ⟨g1,g2⟩];simp (disch := omega) only [joinF_eq,bindO_some,s_wr,s_td,s_tm,s_pos,s_neg,cond_true,cond_false,Bool.not_true,Bool.not_false,Bool.true_and,Bool.and_true,Bool.false_and,Bool.and_false,bne_self_eq_false,decide_true,decide_false,Int.toNat_natCast,R_CurveErr_j4]
      · rw [if_neg (by omega)];simp (disch := omega) only [joinF_eq,bindO_some,s_wr,s_td,s_tm,s_pos,s_neg,cond_true,cond_false,Bool.not_true,Bool.not_false,Bool.true_and,Bool.and_true,Bool.false_and,Bool.and_false,bne_self_eq_false,decide_true,decide_false,Int.toNat_natCast,R_CurveErr_j4]
    · rw [if_neg (by omega)];simp (disch := omega) only [joinF_eq,bindO_some,s_wr,s_td,s_tm,s_pos,s_neg,cond_true,cond_false,Bool.not_true,Bool.not_false,Bool.true_and,Bool.and_true,Bool.false_and,Bool.and_false,bne_self_eq_false,decide_true,decide_false,Int.toNat_natCast,R_CurveErr_j4]
section
variable (ok : CurveOk ps) {x : Int} (h0 : 0 ≤ x) (h1 : x ≤ 65280)
include ok h0 h1
theorem seg_bd {i k : Nat} (hik : i < k) (hk : k < ps.length) : (0 ≤ (cP ps i).1 ∧ (cP ps i).1 < (cP ps k).1 ∧ (cP ps k).1 ≤ 65280) ∧ 0 ≤ (cP ps i).2 ∧ (cP ps i).2 ≤ (cP ps k).2 ∧ (cP ps k).2 ≤ 65280 := by
  have a1 := cP_get (ps := ps) (i := i) (by omega);have a2 := cP_get (ps := ps) (i := k) hk;have b1 := ok.bd i _ _ a1;have b2 := ok.bd k _ _ a2;have b3 := ok.le (i := i) (j := k) (by omega) a1 a2;omega
theorem curRaw_r : curve_Raw_r fu (ps,(x,())) = some (curveAt ps x,()) := by
  have hl := ok.two;have hm := ok.most;unfold curve_Raw_r;simp (disch := omega) only [joinF_eq,bindO_some,s_wr,s_td,s_tm,s_pos,s_neg,Int.toNat_natCast,rbset]
  refine postLoop (f := curve_Raw_l1 fu (ps,(x,()))) (fun s : Int × Int => (s.1 - s.2).toNat) (fun s => ∃ h l : Nat,s = ((h : Int),(l : Int)) ∧ l < h ∧ h < ps.length ∧ (cP ps l).1 ≤ x ∧ (x < (cP ps h).1 ∨ h = ps.length - 1)) (fun r => r = some (curveAt ps x,())) ?_ fu ((ps.length : Int) - 1,0)
    ⟨ps.length - 1,0,by rw [show ((ps.length - 1 : Nat) : Int) = (ps.length : Int) - 1 by omega];rfl,by omega,by omega,by rw [ok.first _ _ (cP_get (by omega))];exact h0,.inr rfl⟩ (by simp only;omega)
  rintro j _ ⟨h,l,rfl,k1,k2,k3,k4⟩
  unfold curve_Raw_l1;by_cases c : 1 < (h : Int) - l
  · refine .inl ?_;simp (disch := omega) only [joinF_eq,bindO_some,s_wr,s_td,s_tm,s_pos,s_neg,Int.toNat_natCast,rbset];obtain ⟨m,hm2⟩ : ∃ m : Nat,m = (l + h) / 2 := ⟨_,rfl⟩;have e : ((l : Int) + h) / 2 = (m : Int) := by omega
    simp (disch := omega) only [joinF_eq,bindO_some,s_wr,s_td,s_tm,s_pos,s_neg,cond_true,cond_false,Bool.not_true,Bool.not_false,Bool.true_and,Bool.and_true,Bool.false_and,Bool.and_false,bne_self_eq_false,decide_true,decide_false,Int.toNat_natCast,e];show ∃ x',_ ∧ _ ∧ (bif decide ((cP ps m).1 ≤ x) then _ else _) = _;by_cases g : (cP ps m).1 ≤ x
    · simp (disch := omega) only [joinF_eq,bindO_some,s_wr,s_td,s_tm,s_pos,s_neg,Int.toNat_natCast,rbset];exact ⟨(h,m),⟨h,m,rfl,by omega,k2,g,k4⟩,by simp only;omega,rfl⟩
    · simp (disch := omega) only [joinF_eq,bindO_some,s_wr,s_td,s_tm,s_pos,s_neg,Int.toNat_natCast,rbset];exact ⟨(m,l),⟨m,l,rfl,by omega,by omega,k3,.inl (by omega)⟩,by simp only;omega,rfl⟩
  · refine .inr ?_;obtain rfl : h = l + 1 := by omega
    obtain ⟨b1,b2⟩ := seg_bd hf ok h0 h1 (i := l) (k := l + 1) (by omega) k2;have a1 := cP_get (ps := ps) (i := l) (by omega);have a2 := cP_get (ps := ps) (i := l + 1) k2;have hv := curveAt_found ok a1 a2 k3 (by omega) h1;rw [hv,segV_eq (by omega)];simp (disch := omega) only [joinF_eq,bindO_some,s_wr,s_td,s_tm,s_pos,s_neg,Int.toNat_natCast,rbset];show bindO (curve_Nearest_r fu (IntKind.i64.wrap (IntKind.i64.wrap ((cP ps (l + 1)).2 - (cP ps l).2) * IntKind.i64.wrap (x - (cP ps l).1)),(IntKind.i64.wrap ((cP ps (l + 1)).1 - (cP ps l).1),()))) _ = _
    have hx : x ≤ (cP ps (l + 1)).1 := by
      rcases k4 with k4 | k4
      · omega
      · have := ok.last _ _ (by rw [← k4];exact a2);omega
    have m1 : 0 ≤ ((cP ps (l + 1)).2 - (cP ps l).2) * (x - (cP ps l).1) := Int.mul_nonneg (by omega) (by omega);have m2 : ((cP ps (l + 1)).2 - (cP ps l).2) * (x - (cP ps l).1) ≤ 65280 * 65280 := Int.mul_le_mul (by omega) (by omega) (by omega) (by omega);have sb := segV_bd (x := x) (a := (cP ps l).1) (b := (cP ps l).2) (c := (cP ps (l + 1)).1) (d := (cP ps (l + 1)).2) (by omega) k3 hx (by omega) (by omega) (by omega);rw [segV_eq (by omega)] at sb;generalize hpr : ((cP ps (l + 1)).2 - (cP ps l).2) * (x - (cP ps l).1) = pr at *
    simp (disch := omega) only [joinF_eq,bindO_some,s_wr,s_td,s_tm,s_pos,s_neg,cond_true,cond_false,Bool.not_true,Bool.not_false,Bool.true_and,Bool.and_true,Bool.false_and,Bool.and_false,bne_self_eq_false,decide_true,decide_false,Int.toNat_natCast,hpr];rw [nearest_s fu (by omega) (by omega) (by omega) (by omega)];simp (disch := omega) only [joinF_eq,bindO_some,s_wr,s_td,s_tm,s_pos,s_neg,Int.toNat_natCast,rbset];show some (IntKind.i64.wrap ((cP ps l).2 + _),()) = _;simp (disch := omega) only [joinF_eq,bindO_some,s_wr,s_td,s_tm,s_pos,s_neg,Int.toNat_natCast,rbset]
theorem curAt_r : R_CurveAt_r fu (ps,(x,())) = some (curveAt ps x,()) := by
  have hl := ok.two;have hm := ok.most;unfold R_CurveAt_r;refine postLoop (f := R_CurveAt_l1 fu (ps,(x,()))) (fun s : Int => ((ps.length : Int) - s).toNat) (fun s => ∃ i : Nat,s = (i : Int) + 1 ∧ i + 1 < ps.length ∧ (i = 0 ∨ (cP ps i).1 < x)) (fun r => r = some (curveAt ps x,())) ?_ fu 1 ⟨0,rfl,by omega,.inl rfl⟩ (by omega)
  rintro j _ ⟨i,rfl,k1,k2⟩
  obtain ⟨b1,b2⟩ := seg_bd hf ok h0 h1 (i := i) (k := i + 1) (by omega) k1;have a1 := cP_get (ps := ps) (i := i) (by omega);have a2 := cP_get (ps := ps) (i := i + 1) k1;unfold R_CurveAt_l1;simp (disch := omega) only [joinF_eq,bindO_some,s_wr,s_td,s_tm,s_pos,s_neg,Int.toNat_natCast,rbset];rw [show ((i : Int) + 1 - 1).toNat = i by omega,show ((i : Int) + 1).toNat = i + 1 by omega];show (∃ x',_ ∧ _ ∧ (bif decide (x ≤ (cP ps (i + 1)).1) then _ else _) = _) ∨ (bif decide (x ≤ (cP ps (i + 1)).1) then _ else _) = _;by_cases g : x ≤ (cP ps (i + 1)).1
  · refine .inr ?_;have hv := curveAt_seg ok a1 a2 k2 g;rw [hv];unfold segV
    have hx : (cP ps i).1 ≤ x := by
      rcases k2 with k2 | k2
      · subst k2;have := ok.first _ _ a1;omega
      · omega
    simp (disch := omega) only [joinF_eq,bindO_some,s_wr,s_td,s_tm,s_pos,s_neg,Int.toNat_natCast,rbset];show bindO (R_Round_r fu (IntKind.i64.wrap (IntKind.i64.wrap ((cP ps i).2 * IntKind.i64.wrap ((cP ps (i + 1)).1 - x)) + IntKind.i64.wrap ((cP ps (i + 1)).2 * IntKind.i64.wrap (x - (cP ps i).1))),(IntKind.i64.wrap ((cP ps (i + 1)).1 - (cP ps i).1),()))) _ = _;have m1 : 0 ≤ (cP ps i).2 * ((cP ps (i + 1)).1 - x) := Int.mul_nonneg (by omega) (by omega);have m2 : (cP ps i).2 * ((cP ps (i + 1)).1 - x) ≤ 65280 * 65280 := Int.mul_le_mul (by omega) (by omega) (by omega) (by omega);have m3 : 0 ≤ (cP ps (i + 1)).2 * (x - (cP ps i).1) := Int.mul_nonneg (by omega) (by omega);have m4 : (cP ps (i + 1)).2 * (x - (cP ps i).1) ≤ 65280 * 65280 := Int.mul_le_mul (by omega) (by omega) (by omega) (by omega);generalize hp : (cP ps i).2 * ((cP ps (i + 1)).1 - x) = p at *
    generalize hq : (cP ps (i + 1)).2 * (x - (cP ps i).1) = q at *
    simp (disch := omega) only [joinF_eq,bindO_some,s_wr,s_td,s_tm,s_pos,s_neg,cond_true,cond_false,Bool.not_true,Bool.not_false,Bool.true_and,Bool.and_true,Bool.false_and,Bool.and_false,bne_self_eq_false,decide_true,decide_false,Int.toNat_natCast,hp,hq];rw [round_s fu (by omega) (by omega) (by omega) (by omega)];simp (disch := omega) only [joinF_eq,bindO_some,s_wr,s_td,s_tm,s_pos,s_neg,Int.toNat_natCast,rbset]
  · refine .inl ⟨(i : Int) + 1 + 1,⟨i + 1,by omega,?_,.inr (by omega)⟩,by omega,?_⟩
    · rcases Nat.lt_or_ge (i + 1 + 1) ps.length with q | q
      · exact q
      · have := ok.last _ _ (by rw [show ps.length - 1 = i + 1 by omega];exact a2);omega
    · simp (disch := omega) only [joinF_eq,bindO_some,s_wr,s_td,s_tm,s_pos,s_neg,Int.toNat_natCast,rbset]
end
end
def lowC (c : Int) : Prop := 97 ≤ c ∧ c ≤ 122
def restC (c : Int) : Prop := lowC c ∨ (48 ≤ c ∧ c ≤ 57) ∨ c = 45
instance (c : Int) : Decidable (lowC c) := by unfold lowC;infer_instance
instance (c : Int) : Decidable (restC c) := by unfold restC;infer_instance
def chr (s : List UInt8) (i : Nat) : Int := (s.getD i 0).toNat
def nameE (s : List UInt8) (i : Nat) : Int := if lowC (chr s i) ∨ (0 < i ∧ restC (chr s i)) then 0 else 1
def nameB (s : List UInt8) : Bool := decide ((1 ≤ s.length ∧ s.length ≤ 16) ∧ firstE (nameE s) s.length 0 = 0)
section
variable {fu : Nat} (hf : 18446744073709551616 ≤ fu)
include hf
theorem name_r {s : List UInt8} : R_Name_r fu (s,()) = some (nameB s,()) := by
  unfold R_Name_r R_Name_j1 nameB;by_cases c1 : s.length < 1
  · rw [decide_eq_false (p := _ ∧ _) (by omega)];simp (disch := omega) only [joinF_eq,bindO_some,s_wr,s_td,s_tm,s_pos,s_neg,Int.toNat_natCast,rbset]
  by_cases c2 : 16 < s.length
  · rw [decide_eq_false (p := _ ∧ _) (by omega)];simp (disch := omega) only [joinF_eq,bindO_some,s_wr,s_td,s_tm,s_pos,s_neg,Int.toNat_natCast,rbset]
  simp (disch := omega) only [joinF_eq,bindO_some,s_wr,s_td,s_tm,s_pos,s_neg,Int.toNat_natCast,rbset];rw [errLoop (n := s.length) (E := nameE s) (out := fun _ => some (false,())) (fin := some (true,())) (by omega)]
  · by_cases e : firstE (nameE s) s.length 0 = 0
    · rw [if_pos e,decide_eq_true ⟨by omega,e⟩]
    · rw [if_neg e,decide_eq_false (fun h => e h.2)]
  · intro j i hi;unfold R_Name_l2;simp (disch := omega) only [joinF_eq,bindO_some,s_wr,s_td,s_tm,s_pos,s_neg,Int.toNat_natCast,rbset];show (bif decide (97 ≤ chr s i) then R_Name_j3 fu _ _ j (decide (chr s i ≤ 122)) else _) = _;have t0 : lowC (chr s i) ∨ (0 < i ∧ restC (chr s i)) → nameE s i = 0 := fun h => by unfold nameE;rw [if_pos h]
    have t1 : ¬ (lowC (chr s i) ∨ (0 < i ∧ restC (chr s i))) → nameE s i = 1 := fun h => by unfold nameE;rw [if_neg h]
    unfold restC lowC at t0 t1
    have k : ∀ b,(b = true ↔ 97 ≤ chr s i ∧ chr s i ≤ 122) → R_Name_j3 fu (s,()) i j b = if nameE s i = 0 then j ((i : Int) + 1) else some (false,()) := by
      intro b hb;unfold R_Name_j3;cases b
      · have hb : ¬ (97 ≤ chr s i ∧ chr s i ≤ 122) := fun h => by simpa using hb.2 h
        simp (disch := omega) only [joinF_eq,bindO_some,s_wr,s_td,s_tm,s_pos,s_neg,Int.toNat_natCast,rbset];by_cases z : i = 0
        · rw [t1 (by omega)];simp (disch := omega) only [joinF_eq,bindO_some,s_wr,s_td,s_tm,s_pos,s_neg,cond_true,cond_false,Bool.not_true,Bool.not_false,Bool.true_and,Bool.and_true,Bool.false_and,Bool.and_false,bne_self_eq_false,decide_true,decide_false,Int.toNat_natCast,R_Name_j4];rfl
        simp (disch := omega) only [joinF_eq,bindO_some,s_wr,s_td,s_tm,s_pos,s_neg,Int.toNat_natCast,rbset];show (bif decide (chr s i ≠ 45) then (bif decide (chr s i < 48) then _ else R_Name_j4 fu _ j (decide (57 < chr s i))) else _) = _;by_cases g1 : chr s i = 45
        · rw [t0 (by omega)];simp (disch := omega) only [joinF_eq,bindO_some,s_wr,s_td,s_tm,s_pos,s_neg,cond_true,cond_false,Bool.not_true,Bool.not_false,Bool.true_and,Bool.and_true,Bool.false_and,Bool.and_false,bne_self_eq_false,decide_true,decide_false,Int.toNat_natCast,R_Name_j4];rfl
        by_cases g2 : chr s i < 48
        · rw [t1 (by omega)];simp (disch := omega) only [joinF_eq,bindO_some,s_wr,s_td,s_tm,s_pos,s_neg,cond_true,cond_false,Bool.not_true,Bool.not_false,Bool.true_and,Bool.and_true,Bool.false_and,Bool.and_false,bne_self_eq_false,decide_true,decide_false,Int.toNat_natCast,R_Name_j4];rfl
        by_cases g3 : 57 < chr s i
        · rw [t1 (by omega)];simp (disch := omega) only [joinF_eq,bindO_some,s_wr,s_td,s_tm,s_pos,s_neg,cond_true,cond_false,Bool.not_true,Bool.not_false,Bool.true_and,Bool.and_true,Bool.false_and,Bool.and_false,bne_self_eq_false,decide_true,decide_false,Int.toNat_natCast,R_Name_j4];rfl
        · rw [t0 (by omega)];simp (disch := omega) only [joinF_eq,bindO_some,s_wr,s_td,s_tm,s_pos,s_neg,cond_true,cond_false,Bool.not_true,Bool.not_false,Bool.true_and,Bool.and_true,Bool.false_and,Bool.and_false,bne_self_eq_false,decide_true,decide_false,Int.toNat_natCast,R_Name_j4];rfl
      · have hb := hb.1 rfl;rw [t0 (by omega)];simp (disch := omega) only [joinF_eq,bindO_some,s_wr,s_td,s_tm,s_pos,s_neg,cond_true,cond_false,Bool.not_true,Bool.not_false,Bool.true_and,Bool.and_true,Bool.false_and,Bool.and_false,bne_self_eq_false,decide_true,decide_false,Int.toNat_natCast,R_Name_j4];rfl
    by_cases g1 : 97 ≤ chr s i
    · simp (disch := omega) only [joinF_eq,bindO_some,s_wr,s_td,s_tm,s_pos,s_neg,Int.toNat_natCast,rbset];refine k _ ?_;rw [decide_eq_true_eq];omega
    · simp (disch := omega) only [joinF_eq,bindO_some,s_wr,s_td,s_tm,s_pos,s_neg,Int.toNat_natCast,rbset];refine k _ ?_;simp;omega
  · intro j;unfold R_Name_l2;simp (disch := omega) only [joinF_eq,bindO_some,s_wr,s_td,s_tm,s_pos,s_neg,Int.toNat_natCast,rbset]
theorem isName_r {s : List UInt8} : profile_IsName_r fu (s,()) = some (nameB s,()) := by
  unfold profile_IsName_r profile_IsName_j1 nameB;by_cases c1 : s.length < 1
  · rw [decide_eq_false (p := _ ∧ _) (by omega)];simp (disch := omega) only [joinF_eq,bindO_some,s_wr,s_td,s_tm,s_pos,s_neg,Int.toNat_natCast,rbset]
  by_cases c2 : 16 < s.length
  · rw [decide_eq_false (p := _ ∧ _) (by omega)];simp (disch := omega) only [joinF_eq,bindO_some,s_wr,s_td,s_tm,s_pos,s_neg,Int.toNat_natCast,rbset]
  simp (disch := omega) only [joinF_eq,bindO_some,s_wr,s_td,s_tm,s_pos,s_neg,Int.toNat_natCast,rbset];show (bif decide (chr s 0 < 97) then _ else (bif decide (122 < chr s 0) then _ else _)) = _
  have hz : ¬ (97 ≤ chr s 0 ∧ chr s 0 ≤ 122) → firstE (nameE s) s.length 0 ≠ 0 := by
    intro h e;have := firstE_ok _ 0 e 0 (by omega) (by omega);unfold nameE lowC at this;rw [if_neg (by omega)] at this;omega
  by_cases c3 : chr s 0 < 97
  · rw [decide_eq_false (p := _ ∧ _) (fun h => hz (by omega) h.2)];simp (disch := omega) only [joinF_eq,bindO_some,s_wr,s_td,s_tm,s_pos,s_neg,Int.toNat_natCast,rbset]
  by_cases c4 : 122 < chr s 0
  · rw [decide_eq_false (p := _ ∧ _) (fun h => hz (by omega) h.2)];simp (disch := omega) only [joinF_eq,bindO_some,s_wr,s_td,s_tm,s_pos,s_neg,Int.toNat_natCast,rbset]
  simp (disch := omega) only [joinF_eq,bindO_some,s_wr,s_td,s_tm,s_pos,s_neg,Int.toNat_natCast,rbset];rw [errLoop (n := s.length) (E := nameE s) (out := fun _ => some (false,())) (fin := some (true,())) (by omega)]
  · by_cases e : firstE (nameE s) s.length 0 = 0
    · rw [if_pos e,decide_eq_true ⟨by omega,e⟩]
    · rw [if_neg e,decide_eq_false (fun h => e h.2)]
  · intro j i hi;unfold profile_IsName_l2;simp (disch := omega) only [joinF_eq,bindO_some,s_wr,s_td,s_tm,s_pos,s_neg,Int.toNat_natCast,rbset];have t0 : lowC (chr s i) ∨ (0 < i ∧ restC (chr s i)) → nameE s i = 0 := fun h => by unfold nameE;rw [if_pos h]
    have t1 : ¬ (lowC (chr s i) ∨ (0 < i ∧ restC (chr s i))) → nameE s i = 1 := fun h => by unfold nameE;rw [if_neg h]
    unfold restC lowC at t0 t1;have z : i = 0 → 97 ≤ chr s i ∧ chr s i ≤ 122 := by rintro rfl;omega
    show (bif decide (chr s i < 97) then (bif decide (chr s i < 48) then profile_IsName_j3 fu _ j (decide (chr s i ≠ 45)) else (bif decide (57 < chr s i) then profile_IsName_j3 fu _ j (decide (chr s i ≠ 45)) else profile_IsName_j3 fu _ j false))
      else (bif decide (122 < chr s i) then (bif decide (chr s i < 48) then profile_IsName_j3 fu _ j (decide (chr s i ≠ 45)) else (bif decide (57 < chr s i) then profile_IsName_j3 fu _ j (decide (chr s i ≠ 45)) else profile_IsName_j3 fu _ j false)) else profile_IsName_j3 fu _ j false)) = _
    by_cases g1 : chr s i < 97
    · by_cases g2 : chr s i < 48
      · by_cases g3 : chr s i = 45
        · rw [t0 (by omega)];simp (disch := omega) only [joinF_eq,bindO_some,s_wr,s_td,s_tm,s_pos,s_neg,cond_true,cond_false,Bool.not_true,Bool.not_false,Bool.true_and,Bool.and_true,Bool.false_and,Bool.and_false,bne_self_eq_false,decide_true,decide_false,Int.toNat_natCast,profile_IsName_j3];rfl
        · rw [t1 (by omega)];simp (disch := omega) only [joinF_eq,bindO_some,s_wr,s_td,s_tm,s_pos,s_neg,cond_true,cond_false,Bool.not_true,Bool.not_false,Bool.true_and,Bool.and_true,Bool.false_and,Bool.and_false,bne_self_eq_false,decide_true,decide_false,Int.toNat_natCast,profile_IsName_j3];rfl
      · by_cases g3 : 57 < chr s i
        · rw [t1 (by omega)];simp (disch := omega) only [joinF_eq,bindO_some,s_wr,s_td,s_tm,s_pos,s_neg,cond_true,cond_false,Bool.not_true,Bool.not_false,Bool.true_and,Bool.and_true,Bool.false_and,Bool.and_false,bne_self_eq_false,decide_true,decide_false,Int.toNat_natCast,profile_IsName_j3];rfl
        · rw [t0 (by omega)];simp (disch := omega) only [joinF_eq,bindO_some,s_wr,s_td,s_tm,s_pos,s_neg,cond_true,cond_false,Bool.not_true,Bool.not_false,Bool.true_and,Bool.and_true,Bool.false_and,Bool.and_false,bne_self_eq_false,decide_true,decide_false,Int.toNat_natCast,profile_IsName_j3];rfl
    · by_cases g2 : 122 < chr s i
      · rw [t1 (by omega)];simp (disch := omega) only [joinF_eq,bindO_some,s_wr,s_td,s_tm,s_pos,s_neg,cond_true,cond_false,Bool.not_true,Bool.not_false,Bool.true_and,Bool.and_true,Bool.false_and,Bool.and_false,bne_self_eq_false,decide_true,decide_false,Int.toNat_natCast,profile_IsName_j3];rfl
      · rw [t0 (by omega)];simp (disch := omega) only [joinF_eq,bindO_some,s_wr,s_td,s_tm,s_pos,s_neg,cond_true,cond_false,Bool.not_true,Bool.not_false,Bool.true_and,Bool.and_true,Bool.false_and,Bool.and_false,bne_self_eq_false,decide_true,decide_false,Int.toNat_natCast,profile_IsName_j3];rfl
  · intro j;unfold profile_IsName_l2;simp (disch := omega) only [joinF_eq,bindO_some,s_wr,s_td,s_tm,s_pos,s_neg,Int.toNat_natCast,rbset]
end
def tnE (l : List Int) (m : Int) (i : Nat) : Int := if 0 ≤ l.getD i 0 ∧ l.getD i 0 ≤ m then 0 else 3
def tonesE (l : List Int) (n m : Int) : Int := if (l.length : Int) = n then firstE (tnE l m) l.length 0 else 4
section
variable {fu : Nat} (hf : 18446744073709551616 ≤ fu) {l : List Int} (hl : (l.length : Int) ≤ 9223372036854775807) {n : Int}
include hf hl
theorem tonesErr_r {m : Int} : R_TonesErr_r fu (l,(n,(m,()))) = some (tonesE l n m,()) := by
  unfold R_TonesErr_r tonesE;by_cases c : (l.length : Int) = n
  · rw [if_pos c];simp (disch := omega) only [joinF_eq,bindO_some,s_wr,s_td,s_tm,s_pos,s_neg,Int.toNat_natCast,rbset];rw [errLoop (n := l.length) (E := tnE l m) (out := fun e => some (e,())) (fin := some (0,())) (by omega)]
    · split
      · rename_i e;rw [e]
      · rfl
    · intro j i hi;unfold R_TonesErr_l1 tnE;simp (disch := omega) only [joinF_eq,bindO_some,s_wr,s_td,s_tm,s_pos,s_neg,cond_true,cond_false,Bool.not_true,Bool.not_false,Bool.true_and,Bool.and_true,Bool.false_and,Bool.and_false,bne_self_eq_false,decide_true,decide_false,Int.toNat_natCast,within_s];by_cases g : 0 ≤ l.getD i 0 ∧ l.getD i 0 ≤ m
      · rw [if_pos g,decide_eq_true g];simp (disch := omega) only [joinF_eq,bindO_some,s_wr,s_td,s_tm,s_pos,s_neg,Int.toNat_natCast,rbset];rfl
      · rw [if_neg g,decide_eq_false g];simp (disch := omega) only [joinF_eq,bindO_some,s_wr,s_td,s_tm,s_pos,s_neg,Int.toNat_natCast,rbset];rfl
    · intro j;unfold R_TonesErr_l1;simp (disch := omega) only [joinF_eq,bindO_some,s_wr,s_td,s_tm,s_pos,s_neg,Int.toNat_natCast,rbset]
  · rw [if_neg c];simp (disch := omega) only [joinF_eq,bindO_some,s_wr,s_td,s_tm,s_pos,s_neg,Int.toNat_natCast,rbset]
theorem tones_r : profile_Tones_r fu (l,(n,())) = some (tonesE l n 255,()) := by
  unfold profile_Tones_r tonesE;by_cases c : (l.length : Int) = n
  · rw [if_pos c];simp (disch := omega) only [joinF_eq,bindO_some,s_wr,s_td,s_tm,s_pos,s_neg,Int.toNat_natCast,rbset];rw [errLoop (n := l.length) (E := tnE l 255) (out := fun e => some (e,())) (fin := some (0,())) (by omega)]
    · split
      · rename_i e;rw [e]
      · rfl
    · intro j i hi;have t3 : ¬ (0 ≤ l.getD i 0 ∧ l.getD i 0 ≤ 255) → tnE l 255 i = 3 := fun h => by unfold tnE;rw [if_neg h]
      have t0 : (0 ≤ l.getD i 0 ∧ l.getD i 0 ≤ 255) → tnE l 255 i = 0 := fun h => by unfold tnE;rw [if_pos h]
      unfold profile_Tones_l1;simp (disch := omega) only [joinF_eq,bindO_some,s_wr,s_td,s_tm,s_pos,s_neg,Int.toNat_natCast,rbset];by_cases g : l.getD i 0 < 0
      · rw [t3 (by omega)];simp (disch := omega) only [joinF_eq,bindO_some,s_wr,s_td,s_tm,s_pos,s_neg,cond_true,cond_false,Bool.not_true,Bool.not_false,Bool.true_and,Bool.and_true,Bool.false_and,Bool.and_false,bne_self_eq_false,decide_true,decide_false,Int.toNat_natCast,profile_Tones_j2];rfl
      by_cases g2 : 255 < l.getD i 0
      · rw [t3 (by omega)];simp (disch := omega) only [joinF_eq,bindO_some,s_wr,s_td,s_tm,s_pos,s_neg,cond_true,cond_false,Bool.not_true,Bool.not_false,Bool.true_and,Bool.and_true,Bool.false_and,Bool.and_false,bne_self_eq_false,decide_true,decide_false,Int.toNat_natCast,profile_Tones_j2];rfl
      · rw [t0 (by omega)];simp (disch := omega) only [joinF_eq,bindO_some,s_wr,s_td,s_tm,s_pos,s_neg,cond_true,cond_false,Bool.not_true,Bool.not_false,Bool.true_and,Bool.and_true,Bool.false_and,Bool.and_false,bne_self_eq_false,decide_true,decide_false,Int.toNat_natCast,profile_Tones_j2];rfl
    · intro j;unfold profile_Tones_l1;simp (disch := omega) only [joinF_eq,bindO_some,s_wr,s_td,s_tm,s_pos,s_neg,Int.toNat_natCast,rbset]
  · rw [if_neg c];simp (disch := omega) only [joinF_eq,bindO_some,s_wr,s_td,s_tm,s_pos,s_neg,Int.toNat_natCast,rbset]
end
section
variable {fu : Nat} (hf : 18446744073709551616 ≤ fu)
include hf
end
end Sp
end Go.Proofs.Ytjhdjjoacedlpaa
/- Lists of names. -/
namespace Go.Proofs.Ytjhdjjoacedlpaa
open Go Go.RowKit
set_option linter.unusedSimpArgs false
set_option linter.unusedSectionVars false
set_option linter.unusedVariables false
namespace Co
def orE (a b : Int) : Int := if a = 0 then b else a
theorem or_r (a b : Int) : (bif decide (a ≠ 0) then some (a,()) else some (b,())) = some (orE a b,()) := by
  unfold orE;by_cases h : a = 0
  · rw [if_pos h,bif_neg (fun g => g h)]
  · rw [if_neg h,bif_pos h]
theorem orE_zero (a : Int) : orE a 0 = a := by unfold orE;split <;> omega
theorem orE_eq {a b : Int} (h : orE a b = 0) : a = 0 ∧ b = 0 := by
  unfold orE at h;split at h
  · exact ⟨by omega,h⟩
  · omega
theorem errLoopO {f : (Int → Option (Int × Unit)) → Int → Option (Int × Unit)} {n fu : Nat} (hn : n < fu) {E : Nat → Int} {F : Int}
    (step : ∀ j (i : Nat),i < n → f j i = if E i = 0 then j ((i : Int) + 1) else some (E i,())) (last : ∀ j,f j n = some (F,())) :
    loopF f fu 0 = some (orE (firstE E n 0) F,()) := by
  rw [errLoop hn (out := fun e => some (e,())) step last];unfold orE;by_cases h : firstE E n 0 = 0
  · rw [if_pos h,if_pos h]
  · rw [if_neg h,if_neg h]
def nmTwin (l : List (List UInt8)) (i : Nat) : Prop := ∃ k,k < i ∧ l.getD k [] = l.getD i []
open Classical in
noncomputable def nmE (l : List (List UInt8)) (i : Nat) : Int := if Sp.nameB (l.getD i []) = true then (if nmTwin l i then 7 else 0) else 6
theorem take_at {α : Type} {l : List α} {d : α} {i k : Nat} (hk : k < i) : (List.drop (Int.toNat (0 : Int)) (List.take i l)).getD k d = l.getD k d := by
  rw [show (Int.toNat (0 : Int)) = 0 from rfl,List.drop_zero,List.getD_eq_getElem?_getD,List.getD_eq_getElem?_getD,List.getElem?_take_of_lt hk]
theorem take_ln {α : Type} {l : List α} {i : Nat} (hi : i < l.length) : (List.drop (Int.toNat (0 : Int)) (List.take i l)).length = i := by
  rw [show (Int.toNat (0 : Int)) = 0 from rfl,List.drop_zero,List.length_take];omega
section
variable {fu : Nat} (hf : 18446744073709551616 ≤ fu)
include hf
theorem names_r {l : List (List UInt8)} (hl : (l.length : Int) ≤ 9223372036854775807) : profile_Names_r fu (l,()) = some (orE (firstE (nmE l) l.length 0) 0,()) := by
  unfold profile_Names_r;refine errLoopO (by omega) (fun j i hi => ?_) (fun j => ?_)
  · unfold profile_Names_l1;simp only [Int.toNat_natCast];rw [bif_pos (by omega),bif_and (by omega) (by omega),Sp.isName_r hf];simp only [bindO_some];by_cases c : Sp.nameB (l.getD i []) = true
    · rw [c,Bool.not_true,cond_false,bif_and (by omega) (by omega)]
      rcases findLoop (f := profile_Names_l2 fu (l,()) i (l.getD i []) j) (n := i) (fu := fu) (by omega) (p := fun k => l.getD k [] = l.getD i []) (hit := fun _ => some (7,())) (miss := j ((i : Int) + 1))
        (fun j' k hk hp => by
          unfold profile_Names_l2;simp only [Int.toNat_natCast,take_at hk,take_ln hi]
          rw [bif_pos (by omega),bif_and (by omega) (by omega),bif_pos hp.symm])
        (fun j' k hk hp => by
          unfold profile_Names_l2;simp only [Int.toNat_natCast,take_at hk,take_ln hi]
          rw [bif_pos (by omega),bif_and (by omega) (by omega),bif_neg (fun g => hp g.symm),s_wr (by omega) (by omega)])
        (fun j' => by
          unfold profile_Names_l2;simp only [Int.toNat_natCast,take_ln hi]
          rw [bif_neg (by omega),s_wr (by omega) (by omega)]) with ⟨k,hk,hp,_,h⟩ | ⟨hp,h⟩
      · have e : nmE l i = 7 := by unfold nmE;rw [if_pos c,if_pos ⟨k,hk,hp⟩]
        rw [h,e];rfl
      · have e : nmE l i = 0 := by unfold nmE;rw [if_pos c,if_neg (fun ⟨k,hk,q⟩ => hp k hk q)]
        rw [h,e];rfl
    · have e : nmE l i = 6 := by unfold nmE;rw [if_neg c]
      rw [Bool.eq_false_iff.2 c,Bool.not_false,cond_true,e];rfl
  · unfold profile_Names_l1;rw [bif_neg (by simp only;omega)]
theorem namesErr_r {l : List (List UInt8)} (hl : (l.length : Int) ≤ 9223372036854775807) : R_NamesErr_r fu (l,()) = some (orE (firstE (nmE l) l.length 0) 0,()) := by
  unfold R_NamesErr_r;refine errLoopO (by omega) (fun j i hi => ?_) (fun j => ?_)
  · unfold R_NamesErr_l1;simp only [Int.toNat_natCast];rw [bif_pos (by omega),bif_and (by omega) (by omega),Sp.name_r hf];simp only [bindO_some];by_cases c : Sp.nameB (l.getD i []) = true
    · rw [c,Bool.not_true,cond_false]
      rcases findLoop (f := R_NamesErr_l2 fu (l,()) i (l.getD i []) j) (n := i) (fu := fu) (by omega) (p := fun k => l.getD k [] = l.getD i []) (hit := fun _ => some (7,())) (miss := j ((i : Int) + 1))
        (fun j' k hk hp => by
          unfold R_NamesErr_l2;simp only [Int.toNat_natCast]
          rw [bif_pos (by omega),bif_and (by omega) (by omega),bif_pos hp])
        (fun j' k hk hp => by
          unfold R_NamesErr_l2;simp only [Int.toNat_natCast]
          rw [bif_pos (by omega),bif_and (by omega) (by omega),bif_neg hp,s_wr (by omega) (by omega)])
        (fun j' => by
          unfold R_NamesErr_l2;simp only [Int.toNat_natCast]
          rw [bif_neg (by omega),s_wr (by omega) (by omega)]) with ⟨k,hk,hp,_,h⟩ | ⟨hp,h⟩
      · have e : nmE l i = 7 := by unfold nmE;rw [if_pos c,if_pos ⟨k,hk,hp⟩]
        rw [h,e];rfl
      · have e : nmE l i = 0 := by unfold nmE;rw [if_pos c,if_neg (fun ⟨k,hk,q⟩ => hp k hk q)]
        rw [h,e];rfl
    · have e : nmE l i = 6 := by unfold nmE;rw [if_neg c]
      rw [Bool.eq_false_iff.2 c,Bool.not_false,cond_true,e];rfl
  · unfold R_NamesErr_l1;rw [bif_neg (by simp only;omega)]
end
end Co
end Go.Proofs.Ytjhdjjoacedlpaa
/- Profiles: what Check and ProfileErr compute. -/
namespace Go.Proofs.Ytjhdjjoacedlpaa
open Go Go.RowKit
set_option linter.unusedSimpArgs false
set_option linter.unusedSectionVars false
set_option linter.unusedVariables false
namespace Pc
open Co Sp
abbrev ProT := List UInt8 × (List (List UInt8) × (List (List (Int × Int)) × GrT))
def cvE (cs : List (List (Int × Int))) (k : Nat) : Int := curE (cs.getD k [])
def lbE (vs : List Int) (k : Nat) : Int := labR (vs.getD (3 * k) 0,(vs.getD (3 * k + 1) 0,vs.getD (3 * k + 2) 0))
def tbE (n : Int) (g : GrT) : Int := if g.1 = n ∧ g.2.1 = 3 then firstE (lbE g.2.2.2) (g.2.2.2.length / 3) 0 else 4
noncomputable def pfE (p : ProT) : Int :=
  if nameB p.1 = true then (if 4 < (p.2.1.length : Int) then 2 else if (p.2.1.length : Int) = 0 then 1 else
    orE (firstE (nmE p.2.1) p.2.1.length 0) (if (p.2.2.1.length : Int) = p.2.1.length then orE (firstE (cvE p.2.2.1) p.2.2.1.length 0) (orE (grE p.2.2.2) (tbE p.2.1.length p.2.2.2)) else 4)) else 6
structure WfP (p : ProT) : Prop where
  inks : (p.2.1.length : Int) ≤ 9223372036854775807
  cvs : (p.2.2.1.length : Int) ≤ 9223372036854775807
  vals : (p.2.2.2.2.2.2.length : Int) ≤ 9223372036854775807
theorem or_some (a : Int) (x : Int) : (bif decide (a ≠ 0) then some (a,()) else some (x,())) = some (orE a x,()) := or_r a x
theorem if_or {a : Int} {F : Int} : (if a = 0 then some (F,()) else some (a,())) = some (orE a F,()) := by
  unfold orE;by_cases h : a = 0
  · rw [if_pos h,if_pos h]
  · rw [if_neg h,if_neg h]
theorem getD_drop {l : List Int} {n j : Nat} : (l.drop n).getD j 0 = l.getD (n + j) 0 := by
  rw [List.getD_eq_getElem?_getD,List.getD_eq_getElem?_getD,List.getElem?_drop]
section
variable {fu : Nat} (hf : 18446744073709551616 ≤ fu) {p : ProT} (hp : WfP p)
include hf hp
theorem labs_r (m : Nat) (hm : p.2.2.2.2.2.2.length = 3 * m) : loopF (profile_Check_l3 fu) fu p.2.2.2.2.2.2 = some (firstE (lbE p.2.2.2.2.2.2) m 0,()) := by
  have hv := hp.vals;generalize p.2.2.2.2.2.2 = vs at *
  have := errGen (f := profile_Check_l3 fu) (n := m) (st := fun k => vs.drop (3 * k)) (E := lbE vs) (out := fun e => some (e,())) (fin := some (0,())) (fun j i hi _ => ?_) (fun _ j => ?_) fu 0 (Nat.zero_le _) (by omega) (fun k hk => absurd hk (Nat.not_lt_zero _))
  · simp only [Nat.mul_zero,List.drop_zero,Nat.sub_zero] at this;rw [this,if_or];unfold orE;split
    · rename_i h;rw [h]
    · rfl
  · unfold profile_Check_l3;have hl : (vs.drop (3 * i)).length = 3 * m - 3 * i := by rw [List.length_drop,hm]
    simp only [hl,getD_drop,refChk_s,bindO_some,show Int.toNat (0 : Int) = 0 from rfl,show Int.toNat (1 : Int) = 1 from rfl,show Int.toNat (2 : Int) = 2 from rfl,show Int.toNat (3 : Int) = 3 from rfl,Int.toNat_natCast,Nat.add_zero];rw [bif_pos (by omega),bif_pos (by omega),bif_pos (by omega),bif_pos (by omega)];have e : labR (vs.getD (3 * i) 0,vs.getD (3 * i + 1) 0,vs.getD (3 * i + 2) 0) = lbE vs i := rfl;rw [e];by_cases c : lbE vs i = 0
    · rw [if_pos c,bif_neg (fun g => g c),bif_pos (by omega)];congr 1;rw [List.take_of_length_le (by omega),List.drop_drop];rfl
    · rw [if_neg c,bif_pos c]
  · unfold profile_Check_l3;have hl : (vs.drop (3 * m)).length = 0 := by rw [List.length_drop,hm];omega
    simp only [hl];rfl
theorem rlabs_r (m : Nat) (hm : p.2.2.2.2.2.2.length = 3 * m) : loopF (R_ProfileErr_l3 fu (p,())) fu 0 = some (firstE (lbE p.2.2.2.2.2.2) m 0,()) := by
  have hv := hp.vals
  have h1 : 3 * m < 9223372036854775807 := by
    have : p.2.2.2.2.2.2.length ≤ 9223372036854775807 := by omega
    omega
  have := errGen (f := R_ProfileErr_l3 fu (p,())) (n := m) (st := fun k : Nat => ((3 * k : Nat) : Int)) (E := lbE p.2.2.2.2.2.2) (out := fun e => some (e,())) (fin := some (0,())) (fun j i hi _ => ?_) (fun _ j => ?_) fu 0 (Nat.zero_le _) (by omega) (fun k hk => absurd hk (Nat.not_lt_zero _))
  · simp only [Nat.mul_zero,Nat.sub_zero] at this;rw [show ((0 : Int)) = ((0 : Nat) : Int) from rfl,this,if_or];unfold orE;split
    · rename_i h;rw [h]
    · rfl
  · unfold R_ProfileErr_l3;simp only [hm];rw [bif_pos (by omega),bif_and (by omega) (by omega),s_wr (x := ((3 * i : Nat) : Int) + 1) (by omega) (by omega),bif_and (by omega) (by omega),s_wr (x := ((3 * i : Nat) : Int) + 2) (by omega) (by omega),bif_and (by omega) (by omega),labErr_s];simp only [bindO_some,show (((3 * i : Nat) : Int) + 1).toNat = 3 * i + 1 by omega,show (((3 * i : Nat) : Int) + 2).toNat = 3 * i + 2 by omega,Int.toNat_natCast];have e : labR (p.2.2.2.2.2.2.getD (3 * i) 0,p.2.2.2.2.2.2.getD (3 * i + 1) 0,p.2.2.2.2.2.2.getD (3 * i + 2) 0) = lbE p.2.2.2.2.2.2 i := rfl;rw [e];by_cases c : lbE p.2.2.2.2.2.2 i = 0
    · rw [if_pos c,bif_neg (fun g => g c),s_wr (by omega) (by omega)];congr 1
    · rw [if_neg c,bif_pos c]
  · unfold R_ProfileErr_l3;simp only [hm];rw [bif_neg (by omega)]
omit hf hp in
theorem mult {g : GrT} (h : grE g = 0) (h3 : g.2.1 = 3) : ∃ m,g.2.2.2.length = 3 * m := by
  obtain ⟨i,o,s,vs⟩ := g;have h3 : o = 3 := h3;subst h3;obtain ⟨ok,_,ok3,_⟩ := grE_ok h;obtain ⟨b0,b1,_,_⟩ := sh_bd ok;refine ⟨(s ^ i.toNat).toNat,?_⟩;show vs.length = _;omega
theorem tab_r (hg : grE p.2.2.2 = 0) : (bif decide (p.2.2.2.1 ≠ (p.2.1.length : Int)) then profile_Check_j2 fu (p,()) true else profile_Check_j2 fu (p,()) (decide (p.2.2.2.2.1 ≠ (3 : Int)))) = some (tbE p.2.1.length p.2.2.2,()) := by
  unfold tbE;by_cases c1 : p.2.2.2.1 = (p.2.1.length : Int)
  · rw [bif_neg (fun g => g c1)];by_cases c2 : p.2.2.2.2.1 = 3
    · rw [if_pos ⟨c1,c2⟩];unfold profile_Check_j2;rw [show (decide (p.2.2.2.2.1 ≠ (3 : Int))) = false from decide_eq_false (fun g => g c2),cond_false];obtain ⟨m,hm⟩ := mult hg c2;have hm' : p.2.2.2.2.2.2.length = 3 * m := hm;rw [show p.2.2.2.2.2.2.length / 3 = m by omega];exact labs_r hf hp m hm'
    · rw [if_neg (fun g => c2 g.2)];unfold profile_Check_j2;rw [decide_eq_true (show p.2.2.2.2.1 ≠ 3 from c2)];rfl
  · rw [bif_pos c1,if_neg (fun g => c1 g.1)];rfl
theorem rtab_r (hg : grE p.2.2.2 = 0) : (bif decide (p.2.2.2.1 ≠ (p.2.1.length : Int)) then R_ProfileErr_j2 fu (p,()) true else R_ProfileErr_j2 fu (p,()) (decide (p.2.2.2.2.1 ≠ (3 : Int)))) = some (tbE p.2.1.length p.2.2.2,()) := by
  unfold tbE;by_cases c1 : p.2.2.2.1 = (p.2.1.length : Int)
  · rw [bif_neg (fun g => g c1)];by_cases c2 : p.2.2.2.2.1 = 3
    · rw [if_pos ⟨c1,c2⟩];unfold R_ProfileErr_j2;rw [show (decide (p.2.2.2.2.1 ≠ (3 : Int))) = false from decide_eq_false (fun g => g c2),cond_false];obtain ⟨m,hm⟩ := mult hg c2;have hm' : p.2.2.2.2.2.2.length = 3 * m := hm;rw [show p.2.2.2.2.2.2.length / 3 = m by omega];exact rlabs_r hf hp m hm'
    · rw [if_neg (fun g => c2 g.2)];unfold R_ProfileErr_j2;rw [decide_eq_true (show p.2.2.2.2.1 ≠ 3 from c2)];rfl
  · rw [bif_pos c1,if_neg (fun g => c1 g.1)];rfl
theorem pcheck_r : profile_Check_r fu (p,()) = some (pfE p,()) := by
  have hi := hp.inks;have hc := hp.cvs;unfold profile_Check_r pfE;simp only [isName_r hf,bindO_some];by_cases c0 : nameB p.1 = true
  rotate_left
  · rw [Bool.eq_false_iff.2 c0,Bool.not_false,cond_true];rfl
  rw [c0,Bool.not_true,cond_false,if_pos rfl];by_cases c1 : 4 < (p.2.1.length : Int)
  · rw [s_pos c1,if_pos c1];rfl
  rw [s_neg c1,if_neg c1,cond_false];by_cases c2 : (p.2.1.length : Int) = 0
  · rw [s_pos c2,if_pos c2];rfl
  rw [s_neg c2,if_neg c2,cond_false,names_r hf hi];simp only [bindO_some,orE_zero];refine Eq.trans ?_ (or_some _ _);refine congrArg (fun x => bif decide (firstE (nmE p.2.1) p.2.1.length 0 ≠ 0) then some (firstE (nmE p.2.1) p.2.1.length 0,()) else x) ?_;by_cases c3 : (p.2.2.1.length : Int) = p.2.1.length
  rotate_left
  · rw [bif_pos c3,if_neg c3]
  rw [bif_neg (fun g => g c3),if_pos c3];rw [errLoop (n := p.2.2.1.length) (fu := fu) (E := cvE p.2.2.1) (out := fun e => some (e,())) (fin := some (orE (grE p.2.2.2) (tbE p.2.1.length p.2.2.2),())) (by omega) (fun j i hi => ?_) (fun j => ?_)]
  · exact if_or
  · unfold profile_Check_l1;simp only [Int.toNat_natCast,curCheck_r hf,bindO_some];rw [bif_pos (by omega),bif_and (by omega) (by omega)];have e : curE (p.2.2.1.getD i []) = cvE p.2.2.1 i := rfl;rw [e];by_cases c : cvE p.2.2.1 i = 0
    · rw [if_pos c,bif_neg (fun g => g c),s_wr (by omega) (by omega)]
    · rw [if_neg c,bif_pos c]
  · unfold profile_Check_l1;simp only [joinF_eq];rw [bif_neg (by omega),check_r hf hp.vals];simp only [bindO_some];by_cases c : grE p.2.2.2 = 0
    · rw [bif_neg (p := grE (p.2.2.2.1,(p.2.2.2.2.1,(p.2.2.2.2.2.1,p.2.2.2.2.2.2))) ≠ 0) (fun g => g c),tab_r hf hp c];unfold orE;rw [if_pos c]
    · rw [bif_pos (p := grE (p.2.2.2.1,(p.2.2.2.2.1,(p.2.2.2.2.2.1,p.2.2.2.2.2.2))) ≠ 0) c];unfold orE;rw [if_neg c]
theorem perr_r : R_ProfileErr_r fu (p,()) = some (pfE p,()) := by
  have hi := hp.inks;have hc := hp.cvs;unfold R_ProfileErr_r pfE;simp only [name_r hf,bindO_some];by_cases c0 : nameB p.1 = true
  rotate_left
  · rw [Bool.eq_false_iff.2 c0,Bool.not_false,cond_true];rfl
  rw [c0,Bool.not_true,cond_false,if_pos rfl];by_cases c1 : 4 < (p.2.1.length : Int)
  · rw [bif_pos c1,if_pos c1]
  rw [bif_neg c1,if_neg c1];by_cases c2 : (p.2.1.length : Int) = 0
  · rw [bif_pos c2,if_pos c2]
  rw [bif_neg c2,if_neg c2,namesErr_r hf hi];simp only [bindO_some,orE_zero];refine Eq.trans ?_ (or_some _ _);refine congrArg (fun x => bif decide (firstE (nmE p.2.1) p.2.1.length 0 ≠ 0) then some (firstE (nmE p.2.1) p.2.1.length 0,()) else x) ?_;by_cases c3 : (p.2.2.1.length : Int) = p.2.1.length
  rotate_left
  · rw [bif_pos c3,if_neg c3]
  rw [bif_neg (fun g => g c3),if_pos c3];rw [errLoop (n := p.2.2.1.length) (fu := fu) (E := cvE p.2.2.1) (out := fun e => some (e,())) (fin := some (orE (grE p.2.2.2) (tbE p.2.1.length p.2.2.2),())) (by omega) (fun j i hi => ?_) (fun j => ?_)]
  · exact if_or
  · unfold R_ProfileErr_l1;simp only [Int.toNat_natCast,curErr_r hf,bindO_some];rw [bif_pos (by omega),bif_and (by omega) (by omega)];have e : curE (p.2.2.1.getD i []) = cvE p.2.2.1 i := rfl;rw [e];by_cases c : cvE p.2.2.1 i = 0
    · rw [if_pos c,bif_neg (fun g => g c),s_wr (by omega) (by omega)]
    · rw [if_neg c,bif_pos c]
  · unfold R_ProfileErr_l1;simp only [joinF_eq];rw [bif_neg (by omega),gridErr_r hf hp.vals];simp only [bindO_some];by_cases c : grE p.2.2.2 = 0
    · rw [bif_neg (p := grE (p.2.2.2.1,(p.2.2.2.2.1,(p.2.2.2.2.2.1,p.2.2.2.2.2.2))) ≠ 0) (fun g => g c),rtab_r hf hp c];unfold orE;rw [if_pos c]
    · rw [bif_pos (p := grE (p.2.2.2.1,(p.2.2.2.2.1,(p.2.2.2.2.2.1,p.2.2.2.2.2.2))) ≠ 0) c];unfold orE;rw [if_neg c]
end
end Pc
end Go.Proofs.Ytjhdjjoacedlpaa
/- Profiles: Fine,Forward and Exact;the law ProfileColors. -/
namespace Go.Proofs.Ytjhdjjoacedlpaa
open Go Go.RowKit
set_option linter.unusedSimpArgs false
set_option linter.unusedSectionVars false
set_option linter.unusedVariables false
namespace Pc
theorem quick_raw (fu : Nat) (a : (Int × (Int × (Int × List Int))) × (List Int × Unit)) (v0 v1 v2 : Int) : grid_Quick_l1 fu a v0 v1 v2 = raw_l1 (grid_Quick_j4 fu v0) fu a v1 v2 := rfl
theorem at_sc (fu : Nat) (a : (Int × (Int × (Int × List Int))) × (List Int × Unit)) (v0 : Int) : R_GridAt_l1 fu a v0 = sc_l2 (fun v1 => loopF (R_GridAt_l6 fu a v1) fu (((0 : Int),v1.2))) fu a v0 := rfl
section
variable {n o s : Nat} {vs l : List Int} {t : Int} (h : InOk n o s vs l t) {fu : Nat} (hf : 18446744073709551616 ≤ fu)
include h hf
theorem quick_r : grid_Quick_r fu (((n : Int),((o : Int),((s : Int),vs))),(l,())) = some (tabL o (fun q => rnd (smF n t (inP l t) (inC l t) s (inV o vs) (2 ^ n) q) t),()) := by
  have h' := h;obtain ⟨n1,n4,o1,o8,s2,s9,sz,hv,vb,hl,bl,t1,t2,tt⟩ := h';have ht : (65280 : Int) / ((s : Int) - 1) = t := Int.ediv_eq_of_eq_mul_left (by omega) tt.symm;unfold grid_Quick_r;simp (disch := omega) only [joinF_eq,bindO_some,s_wr,s_td,s_tm,s_pos,s_neg,cond_true,cond_false,Bool.not_true,Bool.not_false,Bool.true_and,Bool.and_true,Bool.false_and,Bool.and_false,bne_self_eq_false,decide_true,decide_false,Int.toNat_natCast];rw [ht];rw [quick_raw,raw_all h hf];unfold grid_Quick_j4
  have sb : ∀ q,q < o → -1000000000000 ≤ smF n t (inP l t) (inC l t) s (inV o vs) (2 ^ n) q ∧ smF n t (inP l t) (inC l t) s (inV o vs) (2 ^ n) q ≤ 1000000000000 := fun q hq => by
    have a := sm_bd h hq (2 ^ n);have : 2 ^ n ≤ 16 := Nat.pow_le_pow_right (by decide) n4;generalize 2 ^ n = N at *
    omega
  generalize hS : smF n t (inP l t) (inC l t) s (inV o vs) (2 ^ n) = S at *
  refine stLoop (n := o) (st := fun q => ((q : Int),tabL o (fun k => if k < (q : Int) then rnd (S k) t else S k))) (by omega) ?_ (fun j' q hq => ?_) (fun j' => ?_)
  · exact Prod.ext rfl (tabP_zero (A := fun k => rnd (S k) t) (B := S))
  · have := sb q hq;unfold grid_Quick_l5;simp (disch := omega) only [joinF_eq,bindO_some,s_wr,s_td,s_tm,s_pos,s_neg,cond_true,cond_false,Bool.not_true,Bool.not_false,Bool.true_and,Bool.and_true,Bool.false_and,Bool.and_false,bne_self_eq_false,decide_true,decide_false,Int.toNat_natCast,tabL_length];simp only [tabP_get hq];simp (disch := omega) only [joinF_eq,bindO_some,s_wr,s_td,s_tm,s_pos,s_neg,cond_true,cond_false,Bool.not_true,Bool.not_false,Bool.true_and,Bool.and_true,Bool.false_and,Bool.and_false,bne_self_eq_false,decide_true,decide_false,Int.toNat_natCast,nearest_s fu];rw [tabP_set hq rfl];rfl
  · unfold grid_Quick_l5;simp (disch := omega) only [joinF_eq,bindO_some,s_wr,s_td,s_tm,s_pos,s_neg,cond_true,cond_false,Bool.not_true,Bool.not_false,Bool.true_and,Bool.and_true,Bool.false_and,Bool.and_false,bne_self_eq_false,decide_true,decide_false,Int.toNat_natCast,tabL_length];have e1 : (tabL o fun k => if k < ((o : Nat) : Int) then rnd (S k) t else S k) = tabL o (fun k => rnd (S k) t) := tabL_congr fun i h0 h1 => by rw [if_pos h1]
    rw [e1]
theorem gridAt_r : R_GridAt_r fu (((n : Int),((o : Int),((s : Int),vs))),(l,())) = some (tabL o (fun q => rnd (smF n t (inP l t) (inC l t) s (inV o vs) (2 ^ n) q) t),()) := by
  have h' := h;obtain ⟨n1,n4,o1,o8,s2,s9,sz,hv,vb,hl,bl,t1,t2,tt⟩ := h';have ht : (65280 : Int) / ((s : Int) - 1) = t := Int.ediv_eq_of_eq_mul_left (by omega) tt.symm;unfold R_GridAt_r;simp (disch := omega) only [joinF_eq,bindO_some,s_wr,s_td,s_tm,s_pos,s_neg,cond_true,cond_false,Bool.not_true,Bool.not_false,Bool.true_and,Bool.and_true,Bool.false_and,Bool.and_false,bne_self_eq_false,decide_true,decide_false,Int.toNat_natCast];rw [ht];rw [at_sc,sc_all h hf]
  have sb : ∀ q,q < o → -1000000000000 ≤ smF n t (inP l t) (inC l t) s (inV o vs) (2 ^ n) q ∧ smF n t (inP l t) (inC l t) s (inV o vs) (2 ^ n) q ≤ 1000000000000 := fun q hq => by
    have a := sm_bd h hq (2 ^ n);have : 2 ^ n ≤ 16 := Nat.pow_le_pow_right (by decide) n4;generalize 2 ^ n = N at *
    omega
  generalize hS : smF n t (inP l t) (inC l t) s (inV o vs) (2 ^ n) = S at *
  refine stLoop (n := o) (st := fun q => ((q : Int),tabL o (fun k => if k < (q : Int) then rnd (S k) t else S k))) (by omega) ?_ (fun j' q hq => ?_) (fun j' => ?_)
  · exact Prod.ext rfl (tabP_zero (A := fun k => rnd (S k) t) (B := S))
  · have := sb q hq;unfold R_GridAt_l6;simp (disch := omega) only [joinF_eq,bindO_some,s_wr,s_td,s_tm,s_pos,s_neg,cond_true,cond_false,Bool.not_true,Bool.not_false,Bool.true_and,Bool.and_true,Bool.false_and,Bool.and_false,bne_self_eq_false,decide_true,decide_false,Int.toNat_natCast,tabL_length];simp only [tabP_get hq];rw [ht];simp (disch := omega) only [joinF_eq,bindO_some,s_wr,s_td,s_tm,s_pos,s_neg,cond_true,cond_false,Bool.not_true,Bool.not_false,Bool.true_and,Bool.and_true,Bool.false_and,Bool.and_false,bne_self_eq_false,decide_true,decide_false,Int.toNat_natCast,round_s fu];rw [tabP_set hq rfl];rfl
  · unfold R_GridAt_l6;simp (disch := omega) only [joinF_eq,bindO_some,s_wr,s_td,s_tm,s_pos,s_neg,cond_true,cond_false,Bool.not_true,Bool.not_false,Bool.true_and,Bool.and_true,Bool.false_and,Bool.and_false,bne_self_eq_false,decide_true,decide_false,Int.toNat_natCast,tabL_length];have e1 : (tabL o fun k => if k < ((o : Nat) : Int) then rnd (S k) t else S k) = tabL o (fun k => rnd (S k) t) := tabL_congr fun i h0 h1 => by rw [if_pos h1]
    rw [e1]
end
def inE (g : GrT) (l : List Int) : Int := if grE g = 0 then tonesE l g.1 65280 else grE g
section
variable {fu : Nat} (hf : 18446744073709551616 ≤ fu) {i o s : Int} {vs l : List Int} (hv : (vs.length : Int) ≤ 9223372036854775807) (hl : (l.length : Int) ≤ 9223372036854775807)
theorem in_ok (h : inE (i,(o,(s,vs))) l = 0) : ∃ n' o' s' : Nat,i = n' ∧ o = o' ∧ s = s' ∧ InOk n' o' s' vs l (65280 / ((s' : Int) - 1)) := by
  unfold inE at h;by_cases c : grE (i,(o,(s,vs))) = 0
  · rw [if_pos c] at h;obtain ⟨ok,ok2,ok3,ok4⟩ := grE_ok c;obtain ⟨l1,l2⟩ := tones_ok h;unfold shOk at ok;obtain ⟨n,rfl⟩ := Int.eq_ofNat_of_zero_le (show 0 ≤ i by omega);obtain ⟨o,rfl⟩ := Int.eq_ofNat_of_zero_le (show 0 ≤ o by omega);obtain ⟨s,rfl⟩ := Int.eq_ofNat_of_zero_le (show 0 ≤ s by omega);have e : (s : Int) ^ ((n : Int)).toNat * (o : Int) = ((s ^ n * o : Nat) : Int) := by rw [Int.toNat_natCast,Int.natCast_mul,Int.natCast_pow]
    rw [e] at ok2 ok3;have ts : s = 2 ∨ s = 3 ∨ s = 4 ∨ s = 5 ∨ s = 6 ∨ s = 7 ∨ s = 9 := by omega
    refine ⟨n,o,s,rfl,rfl,rfl,⟨by omega,by omega,by omega,by omega,by omega,by omega,by omega,by omega,ok4,by omega,fun k hk => l2 k (by omega),?_,?_,?_⟩⟩
    · rcases ts with h | h | h | h | h | h | h <;> subst h <;> decide
    · rcases ts with h | h | h | h | h | h | h <;> subst h <;> decide
    · rcases ts with h | h | h | h | h | h | h <;> subst h <;> decide
  · rw [if_neg c] at h;omega
end
open Co Sp
def cvL (cs : List (List (Int × Int))) (l : List Int) : List Int := tabL l.length fun q => curveAt (cs.getD q.toNat []) (256 * l.getD q.toNat 0)
theorem cvL_len (cs : List (List (Int × Int))) (l : List Int) : (cvL cs l).length = l.length := tabL_length _ _
theorem cvL_at {cs : List (List (Int × Int))} {l : List Int} {k : Nat} (hk : k < l.length) : (cvL cs l).getD k 0 = curveAt (cs.getD k []) (256 * l.getD k 0) := by
  unfold cvL;rw [tabL_getDN hk,Int.toNat_natCast]
noncomputable def fwE (p : ProT) (l : List Int) : Int := if pfE p = 0 then tonesE l p.2.1.length 255 else pfE p
structure ProOk (p : ProT) (l : List Int) : Prop where
  cur : ∀ k,k < l.length → CurveOk (p.2.2.1.getD k [])
  len : l.length = p.2.2.1.length
  bd : ∀ k,k < l.length → 0 ≤ l.getD k 0 ∧ l.getD k 0 ≤ 255
  inE : inE p.2.2.2 (cvL p.2.2.1 l) = 0
  out : p.2.2.2.2.1 = 3
theorem firstE_at0 {E : Nat → Int} {n : Nat} (h : firstE E n 0 = 0) {k : Nat} (hk : k < n) : E k = 0 := firstE_ok _ 0 h k (by omega) (by omega)
theorem pf_ok {p : ProT} (h : pfE p = 0) : (∀ k,k < p.2.2.1.length → CurveOk (p.2.2.1.getD k [])) ∧ (p.2.2.1.length : Int) = p.2.1.length ∧ grE p.2.2.2 = 0 ∧ p.2.2.2.1 = p.2.1.length ∧ p.2.2.2.2.1 = 3 := by
  unfold pfE at h;by_cases c0 : nameB p.1 = true
  rotate_left
  · rw [if_neg c0] at h;omega
  rw [if_pos c0] at h;by_cases c1 : 4 < (p.2.1.length : Int)
  · rw [if_pos c1] at h;omega
  rw [if_neg c1] at h;by_cases c2 : (p.2.1.length : Int) = 0
  · rw [if_pos c2] at h;omega
  rw [if_neg c2] at h;obtain ⟨_,h⟩ := orE_eq h;by_cases c3 : (p.2.2.1.length : Int) = p.2.1.length
  rotate_left
  · rw [if_neg c3] at h;omega
  rw [if_pos c3] at h;obtain ⟨h1,h⟩ := orE_eq h;obtain ⟨h2,h⟩ := orE_eq h;unfold tbE at h;by_cases c4 : p.2.2.2.1 = (p.2.1.length : Int) ∧ p.2.2.2.2.1 = 3
  · exact ⟨fun k hk => curE_ok (firstE_at0 h1 hk),c3,h2,c4.1,c4.2⟩
  · rw [if_neg c4] at h;omega
theorem fw_ok {p : ProT} {l : List Int} (h : fwE p l = 0) : ProOk p l := by
  unfold fwE at h;by_cases c : pfE p = 0
  · rw [if_pos c] at h;obtain ⟨a1,a2,a3,a4,a5⟩ := pf_ok c;obtain ⟨b1,b2⟩ := tones_ok h;refine ⟨fun k hk => a1 k (by omega),by omega,b2,?_,a5⟩;unfold Pc.inE;rw [if_pos a3];unfold tonesE;rw [cvL_len,if_pos (by omega)];refine firstE_all _ _ fun k _ hk => ?_
    unfold tnE;rw [cvL_at (by omega)];have := b2 k (by omega);have := curveAt_bd (a1 k (by omega)) (x := 256 * l.getD k 0) (by omega) (by omega);rw [if_pos (by omega)]
  · rw [if_neg c] at h;exact absurd h c
theorem ptones_r {fu : Nat} (hf : 18446744073709551616 ≤ fu) {l : List Int} (hl : (l.length : Int) ≤ 9223372036854775807) {n : Int} : profile_Tones_r fu (l,(n,())) = some (tonesE l n 255,()) := Sp.tones_r hf hl
section
variable {fu : Nat} (hf : 18446744073709551616 ≤ fu) {p : ProT} {l : List Int} (ok : ProOk p l) (hl : l.length ≤ 4)
include hf ok hl
theorem fine_r : profile_Fine_r fu (p,(l,())) = some (cvL p.2.2.1 l,()) := by
  have hlen := ok.len;unfold profile_Fine_r;simp only;rw [bif_and (by omega) (by omega),Int.toNat_natCast];refine stLoop (n := l.length) (st := fun k : Nat => ((k : Int),tabL l.length (fun q => if q < (k : Int) then curveAt (p.2.2.1.getD q.toNat []) (256 * l.getD q.toNat 0) else 0))) (by omega) ?_ (fun j k hk => ?_) (fun j => ?_)
  · refine Prod.ext rfl ?_;show (tabL l.length fun q => if q < ((0 : Nat) : Int) then curveAt (p.2.2.1.getD q.toNat []) (256 * l.getD q.toNat 0) else 0) = List.replicate l.length 0;exact tabL_rep fun q h0 h1 => by rw [if_neg (by omega)]
  · have hb := ok.bd k hk;have hc := ok.cur k hk;unfold profile_Fine_l1 profile_FineOne_r;simp only [Int.toNat_natCast,tabL_length];rw [bif_pos (by omega),bif_and (by omega) (by omega),bif_and (by omega) (by omega),s_wr (x := 256 * l.getD k 0) (by omega) (by omega),curRaw_r hf hc (by omega) (by omega)];simp only [bindO_some];rw [bif_and (by omega) (by omega),s_wr (by omega) (by omega),tabP_set (A := fun q => curveAt (p.2.2.1.getD q.toNat []) (256 * l.getD q.toNat 0)) (B := fun _ => 0) hk (by simp only [Int.toNat_natCast])];rfl
  · have e1 : (tabL l.length fun q => if q < ((l.length : Nat) : Int) then curveAt (p.2.2.1.getD q.toNat []) (256 * l.getD q.toNat 0) else 0) = cvL p.2.2.1 l := tabL_congr fun i h0 h1 => by rw [if_pos h1]
    unfold profile_Fine_l1;simp only [e1];rw [bif_neg (by omega)]
def colF (p : ProT) (l : List Int) (q : Int) : Int := rnd (smF p.2.2.2.1.toNat (65280 / (p.2.2.2.2.2.1 - 1)) (inP (cvL p.2.2.1 l) (65280 / (p.2.2.2.2.2.1 - 1))) (inC (cvL p.2.2.1 l) (65280 / (p.2.2.2.2.2.1 - 1))) p.2.2.2.2.2.1 (inV 3 p.2.2.2.2.2.2) (2 ^ p.2.2.2.1.toNat) q) (65280 / (p.2.2.2.2.2.1 - 1))
def exF' (p : ProT) (l : List Int) : List Int := tabL 3 (smF p.2.2.2.1.toNat (65280 / (p.2.2.2.2.2.1 - 1)) (inP (cvL p.2.2.1 l) (65280 / (p.2.2.2.2.2.1 - 1))) (inC (cvL p.2.2.1 l) (65280 / (p.2.2.2.2.2.1 - 1))) p.2.2.2.2.2.1 (inV 3 p.2.2.2.2.2.2) (2 ^ p.2.2.2.1.toNat))
omit hl in
theorem gquick_r : grid_Quick_r fu ((p.2.2.2.1,(p.2.2.2.2.1,(p.2.2.2.2.2.1,p.2.2.2.2.2.2))),(cvL p.2.2.1 l,())) = some (tabL 3 (colF p l),()) := by
  obtain ⟨nm,inks,cs,i,o,s,vs⟩ := p;obtain ⟨n,o',s',e1,e2,e3,hk⟩ := in_ok ok.inE;have h3 : o = 3 := ok.out;subst e1;subst e3
  obtain rfl : o' = 3 := by omega
  subst h3;have := quick_r hk hf;unfold colF;simp only [Int.toNat_natCast];exact this
omit hl in
theorem ggridAt_r : R_GridAt_r fu ((p.2.2.2.1,(p.2.2.2.2.1,(p.2.2.2.2.2.1,p.2.2.2.2.2.2))),(cvL p.2.2.1 l,())) = some (tabL 3 (colF p l),()) := by
  obtain ⟨nm,inks,cs,i,o,s,vs⟩ := p;obtain ⟨n,o',s',e1,e2,e3,hk⟩ := in_ok ok.inE;have h3 : o = 3 := ok.out;subst e1;subst e3
  obtain rfl : o' = 3 := by omega
  subst h3;have := gridAt_r hk hf;unfold colF;simp only [Int.toNat_natCast];exact this
omit hf ok hl in
theorem tab3 (F : Int → Int) : (tabL 3 F).length = 3 ∧ (tabL 3 F).getD 0 0 = F 0 ∧ (tabL 3 F).getD 1 0 = F 1 ∧ (tabL 3 F).getD 2 0 = F 2 :=
  ⟨tabL_length _ _,tabL_getDN (i := 0) (by omega),tabL_getDN (i := 1) (by omega),tabL_getDN (i := 2) (by omega)⟩
theorem pquick_r : profile_Quick_r fu (p,(l,())) = some ((colF p l 0,(colF p l 1,colF p l 2)),()) := by
  unfold profile_Quick_r;simp only [fine_r hf ok hl,bindO_some,gquick_r hf ok];obtain ⟨h1,h2,h3,h4⟩ := tab3 (colF p l);simp only [h1,h2,h3,h4,show Int.toNat (0 : Int) = 0 from rfl,show Int.toNat (1 : Int) = 1 from rfl,show Int.toNat (2 : Int) = 2 from rfl];rfl
theorem rforward_r : R_Forward_r fu (p,(l,())) = some ((colF p l 0,(colF p l 1,colF p l 2)),()) := by
  have hlen := ok.len;unfold R_Forward_r;simp only;rw [bif_and (by omega) (by omega),Int.toNat_natCast];refine stLoop (n := l.length) (st := fun k : Nat => ((k : Int),tabL l.length (fun q => if q < (k : Int) then curveAt (p.2.2.1.getD q.toNat []) (256 * l.getD q.toNat 0) else 0))) (by omega) ?_ (fun j k hk => ?_) (fun j => ?_)
  · refine Prod.ext rfl ?_;show (tabL l.length fun q => if q < ((0 : Nat) : Int) then curveAt (p.2.2.1.getD q.toNat []) (256 * l.getD q.toNat 0) else 0) = List.replicate l.length 0;exact tabL_rep fun q h0 h1 => by rw [if_neg (by omega)]
  · have hb := ok.bd k hk;have hc := ok.cur k hk;unfold R_Forward_l1;simp only [Int.toNat_natCast,tabL_length];rw [bif_pos (by omega),bif_and (by omega) (by omega),bif_and (by omega) (by omega),s_wr (x := 256 * l.getD k 0) (by omega) (by omega),curAt_r hf hc (by omega) (by omega)];simp only [bindO_some];rw [bif_and (by omega) (by omega),s_wr (by omega) (by omega),tabP_set (A := fun q => curveAt (p.2.2.1.getD q.toNat []) (256 * l.getD q.toNat 0)) (B := fun _ => 0) hk (by simp only [Int.toNat_natCast])];rfl
  · have e1 : (tabL l.length fun q => if q < ((l.length : Nat) : Int) then curveAt (p.2.2.1.getD q.toNat []) (256 * l.getD q.toNat 0) else 0) = cvL p.2.2.1 l := tabL_congr fun i h0 h1 => by rw [if_pos h1]
    unfold R_Forward_l1;simp only [e1];rw [bif_neg (by omega),ggridAt_r hf ok];simp only [bindO_some];obtain ⟨h1,h2,h3,h4⟩ := tab3 (colF p l);simp only [h1,h2,h3,h4,show Int.toNat (0 : Int) = 0 from rfl,show Int.toNat (1 : Int) = 1 from rfl,show Int.toNat (2 : Int) = 2 from rfl];rfl
omit ok hl in
theorem scaled_sc (a : (Int × (Int × (Int × List Int))) × (List Int × Unit)) (v0 : Int) : R_GridScaled_l1 fu a v0 = sc_l2 (fun v1 => some (v1.2,())) fu a v0 := rfl
omit hl in
theorem rscaled_r : R_GridScaled_r fu ((p.2.2.2.1,(p.2.2.2.2.1,(p.2.2.2.2.2.1,p.2.2.2.2.2.2))),(cvL p.2.2.1 l,())) = some (exF' p l,()) := by
  obtain ⟨nm,inks,cs,i,o,s,vs⟩ := p;obtain ⟨n,o',s',e1,e2,e3,hk⟩ := in_ok ok.inE;have h3 : o = 3 := ok.out;subst e1;subst e3
  obtain rfl : o' = 3 := by omega
  subst h3;have h' := hk;obtain ⟨n1,n4,o1,o8,s2,s9,sz,hv,vb,hl,bl,t1,t2,tt⟩ := h';unfold R_GridScaled_r;simp (disch := omega) only [joinF_eq,bindO_some,s_wr,s_td,s_tm,s_pos,s_neg,cond_true,cond_false,Bool.not_true,Bool.not_false,Bool.true_and,Bool.and_true,Bool.false_and,Bool.and_false,bne_self_eq_false,decide_true,decide_false,Int.toNat_natCast];rw [scaled_sc hf];refine Eq.trans (?_ : _ = loopF (sc_l2 (fun v1 => some (v1.2,())) fu (((n : Int),(((3 : Nat) : Int),((s' : Int),vs))),(cvL cs l,())) (65280 / ((s' : Int) - 1))) fu ((0 : Int),List.replicate 3 (0 : Int))) ((sc_all hk hf).trans ?_)
  · rfl
  · unfold exF';simp only [Int.toNat_natCast]
theorem exact_r (hp : WfP p) (c : pfE p = 0) (ht : tonesE l p.2.1.length 255 = 0) (hll : (l.length : Int) ≤ 9223372036854775807) : profile_Exact_r fu (p,(l,())) = some (exF' p l,(0,())) := by
  unfold profile_Exact_r;simp only [pcheck_r hf hp,bindO_some,ptones_r hf hll,c];rw [ht];simp only [fine_r hf ok hl,bindO_some];obtain ⟨nm,inks,cs,i,o,s,vs⟩ := p;obtain ⟨n,o',s',e1,e2,e3,hk⟩ := in_ok ok.inE;have h3 : o = 3 := ok.out;subst e1;subst e3
  obtain rfl : o' = 3 := by omega
  subst h3;have h' := hk;obtain ⟨n1,n4,o1,o8,s2,s9,sz,hv,vb,hl,bl,t1,t2,tt⟩ := h';simp only;simp (disch := omega) only [joinF_eq,bindO_some,s_wr,s_td,s_tm,s_pos,s_neg,cond_true,cond_false,Bool.not_true,Bool.not_false,Bool.true_and,Bool.and_true,Bool.false_and,Bool.and_false,bne_self_eq_false,decide_true,decide_false,Int.toNat_natCast];have key := raw_all hk hf (K := profile_Exact_j4 fu);refine Eq.trans ?_ (key.trans ?_)
  · rfl
  · unfold profile_Exact_j4 exF';simp only [Int.toNat_natCast]
end
theorem wfLen {n : Nat} (h : n ≤ maxLen) : (n : Int) ≤ 9223372036854775807 := by unfold maxLen at h;omega
theorem profileColors_r {fu : Nat} (hf : 18446744073709551616 ≤ fu) {p : ProT} {l : List Int} (hp : WfP p) (hll : (l.length : Int) ≤ 9223372036854775807) (hW : law_profileWorks_r fu () = some (true,())) : law_ProfileColors_r fu (p,(l,())) = some (true,()) := by
  have hF : profile_Forward_r fu (p,(l,())) = if fwE p l = 0 then some ((colF p l 0,(colF p l 1,colF p l 2)),(0,())) else some ((0,(0,0)),(fwE p l,())) := by
    unfold profile_Forward_r;simp only [pcheck_r hf hp,bindO_some,ptones_r hf hll];by_cases c : pfE p = 0
    · have e : fwE p l = tonesE l p.2.1.length 255 := by unfold fwE;rw [if_pos c]
      rw [bif_neg (fun g => g c)];by_cases c2 : tonesE l p.2.1.length 255 = 0
      · have ok := fw_ok (e.trans c2);obtain ⟨a1,a2,a3,a4,a5⟩ := pf_ok c
        have : p.2.2.1.length ≤ 4 := by
          obtain ⟨ok1,_⟩ := grE_ok (i := p.2.2.2.1) (o := p.2.2.2.2.1) (s := p.2.2.2.2.2.1) (vs := p.2.2.2.2.2.2) a3;unfold shOk at ok1;omega
        have hl := ok.len;rw [bif_neg (fun g => g c2),if_pos (e.trans c2),pquick_r hf ok (by omega)];rfl
      · rw [bif_pos c2,if_neg (by rw [e];exact c2),e]
    · have e : fwE p l = pfE p := by unfold fwE;rw [if_neg c]
      rw [bif_pos c,if_neg (by rw [e];exact c),e]
  unfold law_ProfileColors_r;simp only [hW,bindO_some,Bool.not_true,cond_false,hF,perr_r hf hp,pcheck_r hf hp,joinF_eq];by_cases c : pfE p = 0
  · have e : fwE p l = tonesE l p.2.1.length 255 := by unfold fwE;rw [if_pos c]
    by_cases c2 : tonesE l p.2.1.length 255 = 0
    · have ok := fw_ok (e.trans c2);obtain ⟨a1,a2,a3,a4,a5⟩ := pf_ok c
      have : p.2.2.1.length ≤ 4 := by
        obtain ⟨ok1,_⟩ := grE_ok (i := p.2.2.2.1) (o := p.2.2.2.2.1) (s := p.2.2.2.2.2.1) (vs := p.2.2.2.2.2.2) a3;unfold shOk at ok1;omega
      have hl := ok.len;rw [if_pos (e.trans c2)];simp only [bindO_some,exact_r hf ok (by omega) hp c c2 hll,ne_eq,not_true_eq_false,decide_false,cond_false,c,decide_true,cond_true,tonesErr_r hf hll,c2];unfold law_ProfileColors_j1;simp only [ne_eq,not_true_eq_false,decide_false,cond_false];rw [bif_and (by omega) (by omega),Int.toNat_natCast];refine stLoop (n := l.length) (st := fun k : Nat => ((k : Int),tabL l.length (fun q => if q < (k : Int) then curveAt (p.2.2.1.getD q.toNat []) (256 * l.getD q.toNat 0) else 0))) (by omega) ?_ (fun j k hk => ?_) (fun j => ?_)
      · refine Prod.ext rfl ?_;show (tabL l.length fun q => if q < ((0 : Nat) : Int) then curveAt (p.2.2.1.getD q.toNat []) (256 * l.getD q.toNat 0) else 0) = List.replicate l.length 0;exact tabL_rep fun q h0 h1 => by rw [if_neg (by omega)]
      · have hb := ok.bd k hk;have hc := ok.cur k hk;unfold law_ProfileColors_l2;simp only [Int.toNat_natCast,tabL_length];rw [bif_pos (by omega),bif_and (by omega) (by omega),bif_and (by omega) (by omega),s_wr (x := 256 * l.getD k 0) (by omega) (by omega),curAt_r hf hc (by omega) (by omega)];simp only [bindO_some];rw [bif_and (by omega) (by omega),s_wr (by omega) (by omega),tabP_set (A := fun q => curveAt (p.2.2.1.getD q.toNat []) (256 * l.getD q.toNat 0)) (B := fun _ => 0) hk (by simp only [Int.toNat_natCast])];rfl
      · have e1 : (tabL l.length fun q => if q < ((l.length : Nat) : Int) then curveAt (p.2.2.1.getD q.toNat []) (256 * l.getD q.toNat 0) else 0) = cvL p.2.2.1 l := tabL_congr fun i h0 h1 => by rw [if_pos h1]
        have h3 : ((exF' p l).length : Int) ≤ 9223372036854775807 := by unfold exF';rw [tabL_length];omega
        unfold law_ProfileColors_l2;simp only [e1];rw [bif_neg (by omega)];simp only [decide_true,cond_true,rforward_r hf ok (by omega),bindO_some,Bool.and_true,rscaled_r hf ok,sameI_r hf h3]
    · rw [if_neg (by rw [e];exact c2)]
      have hE : profile_Exact_r fu (p,(l,())) = some ([],(tonesE l p.2.1.length 255,())) := by
        unfold profile_Exact_r;simp only [pcheck_r hf hp,bindO_some,ptones_r hf hll,c];rw [bif_neg (fun g => g rfl),bif_pos c2]
      simp only [bindO_some,hE,ne_eq,not_true_eq_false,decide_false,cond_false,c,decide_true,cond_true,tonesErr_r hf hll];unfold law_ProfileColors_j1;rw [bif_pos c2,e];simp only [none_s,bindO_some];simp
  · have e : fwE p l = pfE p := by unfold fwE;rw [if_neg c]
    rw [if_neg (by rw [e];exact c)]
    have hE : profile_Exact_r fu (p,(l,())) = some ([],(pfE p,())) := by
      unfold profile_Exact_r;simp only [pcheck_r hf hp,bindO_some];rw [bif_pos c]
    simp only [bindO_some,hE];rw [bif_neg (fun g => g rfl),bif_neg c];unfold law_ProfileColors_j1;rw [bif_pos c,e];simp only [none_s,bindO_some];simp
end Pc
end Go.Proofs.Ytjhdjjoacedlpaa
/- The step from a walk to a law's row,once for all laws of the seat: a law that returns true and leaves all that was there as it was. -/
namespace Go.Proofs.Ytjhdjjoacedlpaa
open Go.ChangeShapes Go.WideShapes Go.ChangeAt Go.RowKit

theorem own : ownKnob Try.prog.godebug = none := by kernel_rfl
theorem laidOut : laidOutB Try.prog = true := by kernel_rfl
theorem boolT : Try.prog.underlying 4 = some .bool := Try.underlying4

theorem trodAll_stays {H : Type} {enc : TypeId × Value → H} {P : Program} (hl : laidOutB P = true) {W W' : World} (hb : Below W.heap.size W W') :
    ∀ {ts : List TypeId} {vs : List Value} {ds : List (DataW H)} {ps : List MemPlace},(∀ t ∈ ts,P.readableRec t = true ∧ t < P.types.size) → DataW.TrodAll enc P W 0 (fun _ => true) true ts vs ds ps →
      (∀ x ∈ ps,x.block < W.heap.size) → DataW.TrodAll enc P W' 0 (fun b => decide (b < W.heap.size)) true ts vs ds ps
  | [],[],[],_,_,h,_ => h
  | t :: ts,v :: vs,d :: ds,_,hr,⟨p,q,h1,h2,e⟩,hlt =>
    ⟨p,q,Below.trod hl (hr t (by simp)).1 (hr t (by simp)).2 h1 hb (fun x hx => hlt x (by rw [e];simp [hx])),
      trodAll_stays hl hb (fun t' ht => hr t' (by simp [ht])) h2 (fun x hx => hlt x (by rw [e];simp [hx])),e⟩
  | [],[],_ :: _,_,_,h,_ => h.elim
  | [],_ :: _,_,_,_,h,_ => h.elim
  | _ :: _,[],_,_,_,h,_ => h.elim
  | _ :: _,_ :: _,[],_,_,h,_ => h.elim

def readsAll (P : Program) (ts : List TypeId) : Bool := ts.all fun t => P.readableRec t && decide (t < P.types.size)
theorem readsAll_all {P : Program} {ts : List TypeId} (h : readsAll P ts = true) : ∀ t ∈ ts,P.readableRec t = true ∧ t < P.types.size := by
  intro t ht;have := List.all_eq_true.1 h t ht;simpa using this

theorem trodAll_length {H : Type} {enc : TypeId × Value → H} {P : Program} {W : World} {base : Nat} {spare : Nat → Bool} {held : Bool} :
    ∀ {ts : List TypeId} {vs : List Value} {ds : List (DataW H)} {ps : List MemPlace},DataW.TrodAll enc P W base spare held ts vs ds ps → ds.length = ts.length
  | [],[],[],_,_ => rfl
  | _ :: _,_ :: _,_ :: _,_,⟨_,_,_,h2,_⟩ => by simp [trodAll_length h2]
  | [],[],_ :: _,_,h => h.elim
  | [],_ :: _,_,_,h => h.elim
  | _ :: _,[],_,_,h => h.elim
  | _ :: _,_ :: _,[],_,h => h.elim

set_option maxRecDepth 100000 in
theorem law_lifted {os : Os} (started : os.Started) {H : Type} {enc : TypeId × Value → H} {f : FuncId} {fn : Func} {s : ChangeSpec}
    (noInit : Try.checked.prog.inits.idxOf? f = none) (hfn : Try.checked.prog.funcs[f]? = some fn)
    (witness : ∃ (w : World) (tape : Tape) (i : Input),w.os = os ∧ (w.forCall tape i).Shaped Try.checked.prog ∧ i.vars = [] ∧ Input.okWide Try.checked.prog (w.forCall tape i) .any w.heap.size f i ∧
      s.pre6 enc Try.checked.prog fn [] false (w.forCall tape i).memory i.args ∧ ({} : Assume).holds Try.checked.prog (lone (Frame.enter Try.checked.prog f i.args .normal) [] (w.forCall tape i)))
    (hvars : s.vars = []) (hres : fn.resultTypes = #[4]) (hread : readsAll Try.prog fn.params.toList = true)
    (hspec : ∀ ds : List (DataW H),ds.length = fn.params.toList.length → s.fn H ds = { results := [.lit (.bool true)],args := ds })
    (walk : ∀ (W : World) (base : Nat) (args : List Value) (ds : List (DataW H)) (ps : List MemPlace),
      (∀ (j : Nat) t v,fn.params[j]? = some t → args[j]? = some v → Value.okWide Try.prog W .any base t v) → DataW.TrodAll enc Try.prog W 0 (fun _ => true) true fn.params.toList args ds ps →
      (DataW.weightsEach Try.prog fn.params.toList ds).all (· ≤ reachBytes) = true → (∀ x ∈ ps,x.block < W.heap.size) →
      Calls Try.prog f args.toArray W fun e W' => e = .returned (.bool true) ∧ Below W.heap.size W W') :
    ReturnsInHanded {} Try.checked os f .any (s.pre6 enc Try.checked.prog fn [] false) (s.post enc Try.checked.prog fn false true false false) := by
  refine returnsInHanded_of_change_sized (C := Try.checked) own started noInit hfn witness ?_;intro W base args ds gs before hval hW _ hsz _;have hW' := hW;obtain ⟨p,q,hA0,hV,rfl,hfz,hnd⟩ := hW;rw [hvars] at hV;obtain ⟨rfl,rfl⟩ := trodVars_none hV;have hA : DataW.TrodAll enc Try.prog W 0 (fun _ => true) true fn.params.toList args.toList ds p := hA0;have hlen : ds.length = fn.params.toList.length := trodAll_length hA;have hlt : ∀ x ∈ p,x.block < W.heap.size := fun x hx => hW'.lt x (by simpa using hx)
  have hargs : args.toList.toArray = args := by simp
  have hsz' : (DataW.weightsEach Try.prog fn.params.toList ds).all (· ≤ reachBytes) = true := by
    have h := hsz;have hvt : s.plain.varTypes Try.checked.prog = [] := by simp [DataSpec.varTypes,ChangeSpec.plain,hvars]
    rw [hvt] at h;simp only [List.append_nil] at h;exact h
  have hw := walk W base args.toList ds p (fun j t v ht hv => hval j t v ht (by simpa using hv)) hA hsz' hlt;rw [hargs] at hw;refine hw.mono fun e W' ⟨he,hb⟩ => ⟨.bool true,he,?_⟩
  have hsf : s.fn H (ds ++ []) = { results := [.lit (.bool true)],args := ds } := by rw [List.append_nil];exact hspec ds hlen
  refine ⟨ds,[],p ++ [],[],p,[],hW',?_,?_,?_,hb.frame _,fun h => by cases h⟩
  · rw [hsf,hres];exact trodAll_mk1 (shut_bool boolT true)
  · rw [hsf];exact trodAll_stays laidOut hb (readsAll_all hread) hA hlt
  · rw [hsf,hvars];rfl
end Go.Proofs.Ytjhdjjoacedlpaa
/- Arguments opened: what slices and structs of numbers read as. -/
set_option maxRecDepth 100000
namespace Go.Proofs.Ytjhdjjoacedlpaa
open Go.ChangeShapes Go.WideShapes Go.ChangeAt Go.RowKit Go.Deep

theorem choose_list {α : Type} {n : Nat} {Q : Nat → α → Prop} (h : ∀ i,i < n → ∃ p,Q i p) : ∃ l : List α,l.length = n ∧ ∀ i p,l[i]? = some p → Q i p := by
  induction n with
  | zero => exact ⟨[],rfl,by intro i p hi;simp at hi⟩
  | succ n ih =>
    obtain ⟨l,hl,hq⟩ := ih (fun i hi => h i (by omega));obtain ⟨p,hp⟩ := h n (by omega);refine ⟨l ++ [p],by simp [hl],fun i q hi => ?_⟩;rcases Nat.lt_trichotomy i n with hlt | rfl | hgt
    · rw [List.getElem?_append_left (by omega)] at hi;exact hq i q hi
    · rw [List.getElem?_append_right (by omega),hl] at hi;simp at hi;subst hi;exact hp
    · rw [List.getElem?_eq_none (by simp;omega)] at hi;cases hi

section
variable {H : Type} {enc : TypeId × Value → H} {P : Program} {w : World} {base : Nat} {spare : Nat → Bool} {held : Bool}
theorem rd_slice {t e : TypeId} {fuel : Nat} {v : Value} {x : DataW H × List MemPlace} (ht : P.underlying t = some (.slice e)) (hc : 0 < P.cellsOf e) (h : DataW.trod enc P w base spare held fuel t [v] = some x) :
    ∃ A n c,v = .slice A n c ∧ n ≤ c ∧ c ≤ maxLen ∧ ∀ i,i < n → ∃ b o cs n' x',A = some ⟨b,o,none⟩ ∧ cs.length = P.cellsOf e ∧ (∀ j u,cs[j]? = some u → w.cell? ⟨b,o + i * P.cellsOf e + j,none⟩ = some u) ∧
      DataW.trod enc P w base spare held n' e cs = some x' := by
  rcases open_slice ht h with ⟨h0,_⟩ | ⟨a,len,cap,m,n',D,Pl,hcs,_,hl,hm,hmm,_,hi⟩
  · simp at h0;subst h0;exact ⟨none,0,0,rfl,by omega,by unfold maxLen;omega,by intro i hi;omega⟩
  · simp at hcs;subst hcs;refine ⟨some a,len,cap,rfl,hl,hm,fun i hil => ?_⟩
    have hlm : len ≤ m := by rw [hmm];split <;> omega
    obtain ⟨cs,h1,h2⟩ := hi i (by omega);obtain ⟨hb,hlen,hat⟩ := World.cells?_some h1;obtain ⟨b,o,spot⟩ := a;have h00 := hat 0 (by omega)
    have hsp : spot = none := by
      obtain ⟨cs0,g1,_⟩ := hi 0 (by omega);obtain ⟨_,gl,gat⟩ := World.cells?_some g1;have hx := gat 0 (by omega);rw [List.getElem?_eq_getElem (by omega)] at hx;simpa [Addr.add] using World.cell?_spot hx
    subst hsp;refine ⟨b,o,cs,n',_,rfl,hlen,?_,h2⟩;intro j u hu;have hjl : j < P.cellsOf e := by rw [← hlen];exact (List.getElem?_eq_some_iff.1 hu).1
    have := hat j hjl;rw [hu,Addr.add_lit,Addr.add_lit] at this;exact this
end

end Go.Proofs.Ytjhdjjoacedlpaa
/- Arguments opened,as abstract values. -/
set_option maxRecDepth 100000
namespace Go.Proofs.Ytjhdjjoacedlpaa
open Go Go.ChangeShapes Go.WideShapes Go.ChangeAt Go.RowKit Go.Deep

section
variable {H : Type} {enc : TypeId × Value → H} {P : Program} {w : World} {base : Nat} {spare : Nat → Bool} {held : Bool}
abbrev RelC (w : World) : AV → Value → Prop := RelD w (fun _ => False) w.heap.size
def Reads {α : Type} (w : World) (sz : Nat) (ec : α → List AV) (Q : α → Prop) (cs : List Value) : Prop :=
  ∃ p,Q p ∧ (ec p).length = sz ∧ ∀ (j : Nat) (a : AV) (u : Value),(ec p)[j]? = some a → cs[j]? = some u → RelC w a u
theorem ro_slice {α : Type} (ec : α → List AV) (Q : α → Prop) {t e : TypeId} {sz fuel : Nat} {v : Value} {x : DataW H × List MemPlace} (ht : P.underlying t = some (.slice e)) (hz : P.cellsOf e = sz) (hc : 0 < sz)
    (hel : ∀ (fuel : Nat) (cs : List Value) (x : DataW H × List MemPlace),cs.length = sz → DataW.trod enc P w base spare held fuel e cs = some x → Reads w sz ec Q cs) (h : DataW.trod enc P w base spare held fuel t [v] = some x) :
    ∃ xs : List α,(∀ p ∈ xs,Q p) ∧ RelC w (.ro false sz (xs.map ec)) v := by
  subst hz;obtain ⟨A,n,c,rfl,hn,hm,hi⟩ := rd_slice ht hc h
  obtain ⟨xs,hl,hq⟩ := choose_list (Q := fun i (p : α) => Q p ∧ ∃ (b o : Nat) (cs : List Value),A = some ⟨b,o,none⟩ ∧ cs.length = P.cellsOf e ∧ (∀ (j : Nat) (u : Value),cs[j]? = some u → w.cell? ⟨b,o + i * P.cellsOf e + j,none⟩ = some u) ∧ (ec p).length = P.cellsOf e ∧ ∀ (j : Nat) (a : AV) (u : Value),(ec p)[j]? = some a → cs[j]? = some u → RelC w a u) (n := n) (by
    intro i hil;obtain ⟨b,o,cs,n',x',hA,hlen,hat,htr⟩ := hi i hil;obtain ⟨p,h1,h2,h3⟩ := hel n' cs x' hlen htr
    exact ⟨p,h1,b,o,cs,hA,hlen,hat,h2,h3⟩)
  subst hl;refine ⟨xs,fun p hp => ?_,?_⟩
  · obtain ⟨i,hi⟩ := List.mem_iff_getElem?.1 hp;exact (hq i p hi).1
  have key : ∀ (i : Nat) (row : List AV) (j : Nat) (a : AV),(xs.map ec)[i]? = some row → row[j]? = some a → ∃ b o u,A = some ⟨b,o,none⟩ ∧ w.cell? ⟨b,o + i * P.cellsOf e + j,none⟩ = some u ∧ RelC w a u := by
    intro i row j a hr ha;rw [List.getElem?_map] at hr;obtain ⟨p,hp,rfl⟩ := Option.map_eq_some_iff.1 hr;obtain ⟨_,b,o,cs,hA,hlen,hat,hel,hrel⟩ := hq i p hp;have hj : j < cs.length := by rw [hlen,← hel];exact (List.getElem?_eq_some_iff.1 ha).1
    have hu : cs[j]? = some cs[j] := List.getElem?_eq_getElem hj;exact ⟨b,o,cs[j],hA,hat j _ hu,hrel j a _ ha hu⟩
  have hcon := RelD.ro (w := w) (own := fun _ => False) (bs := w.heap.size) false (P.cellsOf e) (xs.map ec) A c (fun i j => match A with
    | some ⟨b,o,_⟩ => (w.cell? ⟨b,o + i * P.cellsOf e + j,none⟩).getD undef
    | none => undef) (by simpa using hn) hm (fun i hi hA => by
      have hi : i < xs.length := by simpa using hi
      obtain ⟨_,b,o,_,h1,_⟩ := hq i xs[i] (List.getElem?_eq_getElem hi)
      rw [hA] at h1;cases h1) (fun i row j a hr ha => by
      obtain ⟨b,o,u,hA,hu,_⟩ := key i row j a hr ha;subst hA
      exact ⟨b,o,rfl,fun h => h.elim,(fun h => by cases h),by simp [hu]⟩) (fun i row j a hr ha => by
      obtain ⟨b,o,u,hA,hu,hr⟩ := key i row j a hr ha;subst hA
      simpa [hu] using hr)
  rw [List.length_map] at hcon;exact hcon
end
theorem AF.yes {P : Program} {F : FuncId} {xs : List AV} {vs : Array Value} {w : World} (h : AF P F xs (.bool true)) (ha : ArgsV w (Gh.none w.heap.size) xs vs) : Calls P F vs w fun e w' => e = .returned (.bool true) ∧ Below w.heap.size w w' :=
  (h.out w vs ha).mono fun e w' ⟨v,he,hb,hv⟩ => ⟨by rw [he,hv.bool'],hb⟩
end Go.Proofs.Ytjhdjjoacedlpaa
/- Arguments of any type,opened by one theorem;the last step of a law that a residual program answers. -/
set_option maxRecDepth 100000
namespace Go.Proofs.Ytjhdjjoacedlpaa
open Go Go.ChangeShapes Go.WideShapes Go.ChangeAt Go.RowKit Go.Deep

def Ty.wf : (t : Ty) → t.den → Prop
  | .int k,n => (Lit.int k n).wf = true
  | .bool,_ => True
  | .str,s => List.length s ≤ maxLen
  | .list t,xs => List.length xs ≤ maxLen ∧ ∀ x ∈ (xs : List t.den),t.wf x
  | .unit,_ => True
  | .pair a b,x => a.wf x.1 ∧ b.wf x.2
  | .agg t,x => t.wf x
  | .ptr _,_ => False
def prB (t : Ty) (f : Ty → Ty → Bool) : Bool := match t with
  | .pair x y => f x y
  | _ => false
def unB (t : Ty) : Bool := match t with
  | .unit => true
  | _ => false
theorem prB_ok {t : Ty} {f : Ty → Ty → Bool} (h : prB t f = true) : ∃ x y,t = .pair x y ∧ f x y = true := by
  unfold prB at h;split at h
  · exact ⟨_,_,rfl,h⟩
  · cases h
theorem unB_ok {t : Ty} (h : unB t = true) : t = .unit := by
  unfold unB at h;split at h
  · rfl
  · cases h
def fsB (g : TypeId → Ty → Bool) : List Field → Nat → Ty → Bool
  | [],_,t => unB t
  | [a],o,t => Nat.beq a.offset o && g a.type t
  | a :: b :: l,o,t => prB t fun x y => Nat.beq a.offset o && g a.type x && fsB g (b :: l) (o + x.size) y
def arB (g : Ty → Bool) : Nat → Ty → Bool
  | 0,t => unB t
  | 1,t => g t
  | n + 2,t => prB t fun x y => g x && arB g (n + 1) y
def intB (k : IntKind) (t : Ty) : Bool := match t with
  | .int k' => decide (k' = k)
  | _ => false
def boolB (t : Ty) : Bool := match t with
  | .bool => true
  | _ => false
def strB (t : Ty) : Bool := match t with
  | .str => true
  | _ => false
def sliceB (g : Ty → Bool) (t : Ty) : Bool := match t with
  | .list t' => g t' && Nat.blt 0 t'.size
  | _ => false
def tyB (P : Program) : Nat → TypeId → Ty → Bool
  | 0,_,_ => false
  | f + 1,tid,t => Nat.beq (P.cellsOf tid) t.size && (match P.underlying tid with
    | some (.int k) => intB k t
    | some .bool => boolB t
    | some .string => strB t
    | some (.slice e) => sliceB (tyB P f e) t
    | some (.struct ⟨fs⟩) => fsB (tyB P f) fs 0 t
    | some (.array n e) => arB (tyB P f e) n t
    | _ => false)
section
variable {H : Type} {enc : TypeId × Value → H} {P : Program} {w : World} {base : Nat} {spare : Nat → Bool} {held : Bool}
abbrev ReadsT (w : World) (t : Ty) (cs : List Value) : Prop := Reads w t.size (t.cells false) t.wf cs
theorem tyB_size {f : Nat} {tid : TypeId} {t : Ty} (h : tyB P f tid t = true) : P.cellsOf tid = t.size := by
  cases f with
  | zero => cases h
  | succ f => rw [tyB,Bool.and_eq_true] at h;exact Nat.eq_of_beq_eq_true h.1
theorem ReadsT.pair {a b : Ty} {c d : List Value} (h : ReadsT w a c) (k : ReadsT w b d) (hl : c.length = a.size) : ReadsT w (.pair a b) (c ++ d) := by
  obtain ⟨x,x1,x2,x3⟩ := h;obtain ⟨y,y1,y2,y3⟩ := k;refine ⟨(x,y),⟨x1,y1⟩,Ty.cells_length _ _ _,fun j v u hv hu => ?_⟩;rw [Ty.cells] at hv;by_cases hj : j < a.size
  · rw [List.getElem?_append_left (by rw [x2];exact hj)] at hv;rw [List.getElem?_append_left (by omega)] at hu;exact x3 j v u hv hu
  · rw [List.getElem?_append_right (by rw [x2];omega),x2] at hv;rw [List.getElem?_append_right (by omega),hl] at hu;exact y3 _ v u hv hu
theorem ReadsT.unit : ReadsT w .unit [] := ⟨(),trivial,rfl,fun j a u h _ => by simp [Ty.cells] at h⟩
theorem fs_reads {g : TypeId → Ty → Bool} (hg : ∀ (tid : TypeId) (t : Ty) (n : Nat) (cs : List Value) (x : DataW H × List MemPlace),g tid t = true → cs.length = t.size → DataW.trod enc P w base spare held n tid cs = some x → ReadsT w t cs) (hsz : ∀ tid t,g tid t = true → P.cellsOf tid = t.size) {cs : List Value} :
    ∀ (l : List Field) (o : Nat) (t : Ty),fsB g l o t = true → (∀ a ∈ l,∃ n y,DataW.trod enc P w base spare held n a.type ((cs.drop a.offset).take (P.cellsOf a.type)) = some y) → o + t.size ≤ cs.length → ReadsT w t ((cs.drop o).take t.size)
  | [],o,t,h,_,_ => by
    rw [unB_ok h,show Ty.unit.size = 0 from rfl,List.take_zero];exact .unit
  | [a],o,t,h,hr,hl => by
    rw [fsB,Bool.and_eq_true] at h;obtain ⟨n,y,hy⟩ := hr a (by simp);rw [Nat.eq_of_beq_eq_true h.1,hsz _ _ h.2] at hy;exact hg _ _ n _ y h.2 (by rw [List.length_take,List.length_drop];omega) hy
  | a :: b :: l,o,t,h,hr,hl => by
    obtain ⟨x,y,rfl,h'⟩ := prB_ok h;clear h;have h := h';clear h';rw [Bool.and_eq_true,Bool.and_eq_true] at h;obtain ⟨n,z,hz⟩ := hr a (by simp);rw [Nat.eq_of_beq_eq_true h.1.1,hsz _ _ h.1.2] at hz;have hs : (Ty.pair x y).size = x.size + y.size := rfl;rw [hs] at hl;have h1 := hg _ _ n _ z h.1.2 (by rw [List.length_take,List.length_drop];omega) hz;have h2 := fs_reads hg hsz (b :: l) (o + x.size) y h.2 (fun a ha => hr a (List.mem_cons_of_mem _ ha)) (by omega);rw [hs,List.take_add,List.drop_drop];exact h1.pair h2 (by rw [List.length_take,List.length_drop];omega)
theorem ar_reads {g : Ty → Bool} {e : TypeId} (hg : ∀ (t : Ty) (n : Nat) (cs : List Value) (x : DataW H × List MemPlace),g t = true → cs.length = t.size → DataW.trod enc P w base spare held n e cs = some x → ReadsT w t cs) (hsz : ∀ t,g t = true → P.cellsOf e = t.size) {cs : List Value} :
    ∀ (k o : Nat) (t : Ty),arB g k t = true → (∀ i,i < k → ∃ n y,DataW.trod enc P w base spare held n e ((cs.drop (o + i * P.cellsOf e)).take (P.cellsOf e)) = some y) → o + t.size ≤ cs.length → ReadsT w t ((cs.drop o).take t.size)
  | 0,o,t,h,_,_ => by
    rw [unB_ok h,show Ty.unit.size = 0 from rfl,List.take_zero];exact .unit
  | 1,o,t,h,hr,hl => by
    rw [arB] at h;obtain ⟨n,y,hy⟩ := hr 0 (by omega);rw [hsz _ h,Nat.zero_mul,Nat.add_zero] at hy;exact hg _ n _ y h (by rw [List.length_take,List.length_drop];omega) hy
  | k + 2,o,t,h,hr,hl => by
    obtain ⟨x,y,rfl,h'⟩ := prB_ok h;clear h;have h := h';clear h';rw [Bool.and_eq_true] at h;obtain ⟨n,z,hz⟩ := hr 0 (by omega);rw [hsz _ h.1,Nat.zero_mul,Nat.add_zero] at hz;have hs : (Ty.pair x y).size = x.size + y.size := rfl;rw [hs] at hl;have h1 := hg _ n _ z h.1 (by rw [List.length_take,List.length_drop];omega) hz
    have h2 := ar_reads hg hsz (k + 1) (o + x.size) y h.2 (fun i hi => by
      obtain ⟨n,z,hz⟩ := hr (i + 1) (by omega);refine ⟨n,z,?_⟩
      rw [← hz,← hsz _ h.1,Nat.add_mul,Nat.one_mul,Nat.add_assoc,Nat.add_comm (P.cellsOf e)]) (by omega)
    rw [hs,List.take_add,List.drop_drop];exact h1.pair h2 (by rw [List.length_take,List.length_drop];omega)
theorem ro_len {own : Nat → Prop} {bs sz : Nat} {fr : Bool} {rows : List (List AV)} {v : Value} (h : RelD w own bs (.ro fr sz rows) v) : rows.length ≤ maxLen := by
  cases h with
  | ro fr sz rows A c f hc hm h0 h1 h2 => omega
theorem one_cell {cs : List Value} (h : cs.length = 1) : ∃ u,cs = [u] := by match cs,h with | [u],_ => exact ⟨u,rfl⟩
theorem reads_ty : ∀ (f : Nat) (tid : TypeId) (t : Ty) (n : Nat) (cs : List Value) (x : DataW H × List MemPlace),tyB P f tid t = true → cs.length = t.size → DataW.trod enc P w base spare held n tid cs = some x → ReadsT w t cs
  | 0,_,_,_,_,_,h,_,_ => by cases h
  | f + 1,tid,t,n,cs,x,h,hl,hx => by
    have hsize := tyB_size h;rw [tyB,Bool.and_eq_true] at h;obtain ⟨_,h⟩ := h;split at h
    · rename_i k hu;unfold intB at h;split at h
      · have hk := of_decide_eq_true h;subst hk;obtain ⟨m,rfl,_,hwf⟩ := DataW.trod_int hu hx;refine ⟨m,hwf,rfl,fun j a u ha hu => ?_⟩
        match j with
        | 0 => simp [Ty.cells] at ha hu;subst ha;subst hu;exact .int _ _
        | j + 1 => simp [Ty.cells] at ha
      · cases h
    · rename_i hu;unfold boolB at h;split at h
      · obtain ⟨m,rfl,_⟩ := DataW.trod_bool hu hx;refine ⟨m,trivial,rfl,fun j a u ha hu => ?_⟩
        match j with
        | 0 => simp [Ty.cells] at ha hu;subst ha;subst hu;exact .bool _
        | j + 1 => simp [Ty.cells] at ha
      · cases h
    · rename_i hu;unfold strB at h;split at h
      · obtain ⟨s,rfl,_,hs⟩ := DataW.trod_string hu hx;refine ⟨s.data.toList,by rw [Ty.wf,Array.length_toList];exact hs,rfl,fun j a u ha hu => ?_⟩
        match j with
        | 0 => simp [Ty.cells] at ha hu;subst ha;subst hu;exact .str _
        | j + 1 => simp [Ty.cells] at ha
      · cases h
    · rename_i e hu;unfold sliceB at h;split at h
      · rename_i _ t' _;rw [Bool.and_eq_true] at h;have hpos : 0 < t'.size := Nat.le_of_ble_eq_true h.2;obtain ⟨v,rfl⟩ := one_cell hl;obtain ⟨xs,hw,hr⟩ := ro_slice (t'.cells false) t'.wf hu (tyB_size h.1) hpos (fun m cs x hl hx => reads_ty f e t' m cs x h.1 hl hx) hx;refine ⟨xs,⟨?_,hw⟩,rfl,fun j a u ha hu => ?_⟩
        · have := ro_len hr;rw [List.length_map] at this;exact this
        match j with
        | 0 => simp [Ty.cells] at ha hu;subst ha;subst hu;exact hr
        | j + 1 => simp [Ty.cells] at ha
      · cases h
    · rename_i fs hu;obtain ⟨xs,m,_,_,_,hxl,hat⟩ := DataW.trod_struct hu hx
      have := fs_reads (cs := cs) (fun tid t n cs x h1 h2 h3 => reads_ty f tid t n cs x h1 h2 h3) (fun tid t h => tyB_size h) fs 0 t h (fun a ha => by
        obtain ⟨i,hi⟩ := List.mem_iff_getElem?.1 ha;have hi' : i < xs.length := by rw [hxl];exact (List.getElem?_eq_some_iff.1 hi).1
        exact ⟨m,_,by rw [hat i a (by simpa using hi),List.getElem?_eq_getElem hi']⟩) (by omega)
      rw [List.drop_zero,List.take_of_length_le (by omega)] at this;exact this
    · rename_i k e hu;obtain ⟨xs,m,_,_,_,hxl,hat⟩ := DataW.trod_array hu hx
      have := ar_reads (cs := cs) (e := e) (fun t n cs x h1 h2 h3 => reads_ty f e t n cs x h1 h2 h3) (fun t h => tyB_size h) k 0 t h (fun i hi => by
        have hi' : i < xs.length := by rw [hxl];exact hi
        exact ⟨m,_,by rw [Nat.zero_add,hat i hi,List.getElem?_eq_getElem hi']⟩) (by omega)
      rw [List.drop_zero,List.take_of_length_le (by omega)] at this;exact this
    · cases h
def aggP (P : Program) (tid : TypeId) : Bool := match P.underlying tid with
  | some (.struct _) => true
  | some (.array _ _) => true
  | _ => false
def cellP (P : Program) (tid : TypeId) : Bool := match P.underlying tid with
  | some (.int _) => true
  | some .bool => true
  | some .string => true
  | some (.slice _) => true
  | _ => false
def argB (P : Program) (tid : TypeId) (a : Ty) : Bool := match a with
  | .agg t => tyB P 9 tid t && aggP P tid
  | .int k => tyB P 9 tid (.int k) && cellP P tid
  | .bool => tyB P 9 tid .bool && cellP P tid
  | .str => tyB P 9 tid .str && cellP P tid
  | .list t => tyB P 9 tid (.list t) && cellP P tid
  | _ => false
def argsB (P : Program) : List TypeId → Ty → Bool
  | [],t => unB t
  | tid :: l,t => prB t fun a b => argB P tid a && argsB P l b
theorem okWide_arr {n b : Nat} {r : Go.Reach} {t e : TypeId} {v : Value} (ht : P.underlying t = some (.array n e)) (h : Value.okWide P w r b t v) : ∃ cs,v = .agg cs ∧ cs.size = P.cellsOf t := by
  simp only [Value.okWide,ht] at h;obtain ⟨cs,h1,h2,_⟩ := h;exact ⟨cs,h1,h2⟩
theorem arg_agg {tid : TypeId} {t : Ty} {v : Value} {d : DataW H} {p : List MemPlace} {b : Nat} (h : tyB P 9 tid t = true) (ha : aggP P tid = true) (hv : Value.okWide P w .any b tid v) (hd : DataW.Trod enc P w base spare held tid v d p) : ∃ x : t.den,t.wf x ∧ RelV w (Gh.none w.heap.size) (.agg (t.cells false x)) v := by
  obtain ⟨cs,rfl,hs⟩ : ∃ cs,v = .agg cs ∧ cs.size = P.cellsOf tid := by
    unfold aggP at ha;split at ha
    · rename_i h1;exact okWide_struct h1 hv
    · rename_i h1;exact okWide_arr h1 hv
    · cases ha
  obtain ⟨n,hd⟩ := hd;have hl : cs.toList.length = t.size := by rw [← tyB_size h,← hs];simp
  obtain ⟨x,x1,x2,x3⟩ := reads_ty 9 tid t n cs.toList _ h hl hd;exact ⟨x,x1,.agg _ _ (by rw [x2,← hl];simp) fun i a u ha hu => .dat (x3 i a u ha (by simpa using hu))⟩
theorem arg_cell {tid : TypeId} {t : Ty} {v : Value} {d : DataW H} {p : List MemPlace} {b : Nat} (h : tyB P 9 tid t = true) (hc : cellP P tid = true) (h1 : t.size = 1) (hv : Value.okWide P w .any b tid v) (hd : DataW.Trod enc P w base spare held tid v d p) : ∃ x : t.den,t.wf x ∧ ∀ a,(t.cells false x)[0]? = some a → RelV w (Gh.none w.heap.size) a v := by
  have hd : ∃ n,DataW.trod enc P w base spare held n tid [v] = some (d,p) := by
    unfold cellP at hc;split at hc
    · rename_i hu;obtain ⟨m,rfl⟩ := okWide_int hu hv;exact hd
    · rename_i hu;obtain ⟨m,rfl⟩ := okWide_bool hu hv;exact hd
    · rename_i hu;obtain ⟨m,rfl⟩ := okWide_string hu hv;exact hd
    · rename_i hu;obtain ⟨a,n,c,rfl⟩ := okWide_slice hu hv;exact hd
    · cases hc
  obtain ⟨n,hd⟩ := hd;obtain ⟨x,x1,x2,x3⟩ := reads_ty 9 tid t n [v] _ h (by rw [h1];rfl) hd;exact ⟨x,x1,fun a ha => .dat (x3 0 a v ha rfl)⟩
theorem arg_ty {tid : TypeId} {v : Value} {d : DataW H} {p : List MemPlace} {b : Nat} : ∀ {a : Ty},argB P tid a = true → Value.okWide P w .any b tid v → DataW.Trod enc P w base spare held tid v d p → ∃ x : a.den,a.wf x ∧ RelV w (Gh.none w.heap.size) (a.av false x) v
  | .agg t,h,hv,hd => by
    rw [argB,Bool.and_eq_true] at h;obtain ⟨x,h1,h2⟩ := arg_agg h.1 h.2 hv hd;exact ⟨x,h1,by rw [Ty.av];exact h2⟩
  | .int k,h,hv,hd => by
    rw [argB,Bool.and_eq_true] at h;obtain ⟨x,h1,h2⟩ := arg_cell h.1 h.2 rfl hv hd;exact ⟨x,h1,h2 _ rfl⟩
  | .bool,h,hv,hd => by
    rw [argB,Bool.and_eq_true] at h;obtain ⟨x,h1,h2⟩ := arg_cell h.1 h.2 rfl hv hd;exact ⟨x,h1,h2 _ rfl⟩
  | .str,h,hv,hd => by
    rw [argB,Bool.and_eq_true] at h;obtain ⟨x,h1,h2⟩ := arg_cell h.1 h.2 rfl hv hd;exact ⟨x,h1,h2 _ rfl⟩
  | .list t,h,hv,hd => by
    rw [argB,Bool.and_eq_true] at h;obtain ⟨x,h1,h2⟩ := arg_cell h.1 h.2 rfl hv hd;exact ⟨x,h1,h2 _ rfl⟩
  | .unit,h,_,_ => by cases h
  | .pair _ _,h,_,_ => by cases h
  | .ptr _,h,_,_ => by cases h
inductive RelsV (w : World) (G : Gh) : List AV → List Value → Prop
  | nil : RelsV w G [] []
  | cons {a : AV} {v : Value} {l : List AV} {m : List Value} (h : RelV w G a v) (k : RelsV w G l m) : RelsV w G (a :: l) (v :: m)
theorem RelsV.args {G : Gh} {l : List AV} {m : List Value} (h : RelsV w G l m) : ArgsV w G l m.toArray := by
  induction h with
  | nil => exact ⟨rfl,fun i a v ha hv => by simp at ha⟩
  | cons h k ih =>
    refine ⟨by have := ih.size;simp at this ⊢;exact this,fun i a v ha hv => ?_⟩
    cases i with
    | zero => simp at ha hv;subst ha;subst hv;exact h
    | succ i => exact ih.rel i a v (by simpa using ha) (by simpa using hv)
theorem args_ty {b : Nat} : ∀ {ts : List TypeId} {σ : Ty} {vs : List Value} {ds : List (DataW H)} {ps : List MemPlace},argsB P ts σ = true → (∀ (j : Nat) t v,ts[j]? = some t → vs[j]? = some v → Value.okWide P w .any b t v) → DataW.TrodAll enc P w base spare held ts vs ds ps → ∃ x : σ.den,σ.wf x ∧ RelsV w (Gh.none w.heap.size) (σ.avs false x) vs
  | [],σ,vs,ds,ps,h,_,hA => by
    obtain ⟨rfl,rfl,rfl⟩ := trodAll_nil hA;have e := unB_ok h;subst e;exact ⟨(),trivial,.nil⟩
  | tid :: l,σ,vs,ds,ps,h,hv,hA => by
    obtain ⟨v,vs,d,ds,p,q,rfl,rfl,rfl,h0,r0⟩ := trodAll_cons hA;obtain ⟨a,c,rfl,h'⟩ := prB_ok h;clear h;have h := h';clear h';rw [Bool.and_eq_true] at h;obtain ⟨x,x1,x2⟩ := arg_ty h.1 (hv 0 tid v rfl rfl) h0;obtain ⟨y,y1,y2⟩ := args_ty h.2 (fun j t u ht hu => hv (j + 1) t u (by simpa using ht) (by simpa using hu)) r0;exact ⟨(x,y),⟨x1,y1⟩,by rw [Ty.avs];exact .cons x2 y2⟩
end
theorem law_any {H : Type} {enc : TypeId × Value → H} {F : Nat} {ts : List TypeId} {σ : Ty} {f : Nat → σ.den → Option (Bool × Unit)} {nm : Nat} (hc : CtrOk Try.prog F ⟨σ,.pair .bool .unit,f,nm⟩) (hB : argsB Try.prog ts σ = true) (hp : ∀ x : σ.den,σ.wf x → f FU x = some (true,())) {W : World} {b : Nat} {args : List Value} {ds : List (DataW H)} {ps : List MemPlace}
    (hv : ∀ (j : Nat) t v,ts[j]? = some t → args[j]? = some v → Value.okWide Try.prog W .any b t v) (hA : DataW.TrodAll enc Try.prog W 0 (fun _ => true) true ts args ds ps) :
    Calls Try.prog F args.toArray W fun e W' => e = .returned (.bool true) ∧ Below W.heap.size W W' := by
  obtain ⟨x,hx,hr⟩ := args_ty hB hv hA;exact AF.yes (hc FU x (true,()) (hp x hx)) hr.args
end Go.Proofs.Ytjhdjjoacedlpaa
/- ProfileColors: for every input this law returns true and leaves its arguments as they were. -/
namespace Go.Proofs.Ytjhdjjoacedlpaa
open Go.ChangeShapes Go.WideShapes Go.ChangeAt Go.RowKit

set_option maxRecDepth 100000 in
theorem profileColors_lifted (os : Os) (started : os.Started) (H : Type) (enc : TypeId × Value → H) :
    ReturnsInHanded {} Try.checked os 8 .any (Rows.profileColorsSpec.pre6 enc Try.prog Try.f8 Rows.profileColorsRow.domain false) (Rows.profileColorsSpec.post enc Try.prog Try.f8 false true false false) := by
  refine law_lifted started (by kernel_rfl) Try.func8
    (ChangeSpec.witness6 (enc := enc) (C := Try.checked) false ⟨#[],#[.agg #[.string ByteArray.empty,.slice none 0 0,.slice none 0 0,.int .i64 0,.int .i64 0,.int .i64 0,.slice none 0 0],.slice none 0 0],[]⟩ 8 (by kernel_rfl) (by kernel_rfl) (by kernel_rfl) (by kernel_rfl)) rfl rfl (by kernel_rfl)
    (fun ds h => by rw [Try.params8] at h;match ds,h with | [_,_],_ => rfl) ?_
  intro W base args ds ps hval hA hsz hlt;rw [Try.params8] at hA hval;exact law_any law_ProfileColors_ok (by kernel_rfl) ((fun x hx => Pc.profileColors_r (Nat.le_of_eq FU_val.symm) ⟨Pc.wfLen hx.1.2.1.1,Pc.wfLen hx.1.2.2.1.1,Pc.wfLen hx.1.2.2.2.2.2.2.1⟩ (Pc.wfLen hx.2.1.1) rfl)) (fun j t v ht hv => hval j t v (by simpa using ht) hv) hA

theorem profileColors_holds : Rows.ProfileColorsSaid :=
  OpenClaim.holds_of_wide 8 Try.f8 rfl rfl rfl rfl rfl rfl rfl ⟨rfl,rfl,rfl,rfl,rfl⟩ rfl rfl rfl rfl rfl (by kernel_rfl) Try.func8 (by kernel_rfl)
    (of_decide_eq_true (by kernel_rfl)) (by unfold Func.isWrapper;first | (rw [if_pos (by decide +kernel)];kernel_rfl) | (rw [if_neg (by decide +kernel)];exact ⟨rfl,rfl⟩))
    (fun os started H enc _ => profileColors_lifted os started H enc)
end Go.Proofs.Ytjhdjjoacedlpaa
