/- Draws are only ever added: no step of the machine takes one back. -/
import Derived.Calls
import Derived.OrdersHeld
import Derived.WalkKit
import Derived.Lib.Hide
import Derived.Below
import Derived.WalkSmall
import Derived.Maps.AppendAt
import Derived.WalkSpells
import Derived.WalkLawsBesides
import Derived.Laws.StructEq
/- Draws are only ever added: no step of the machine takes one back. -/
namespace Go.Proofs.Ytljebnobajmjnaa
open Go
set_option linter.unusedSimpArgs false
set_option linter.unusedSectionVars false
set_option linter.unusedVariables false
namespace Drw
def GW:GStep→World
 | .go _ w _=>w | .comm _ _ _ _ w _=>w | .spawn _ _ w _=>w | .count _ w _=>w | .timer _ _ w _=>w | .alone _ _ w _=>w
 | .newcoro _ _ _ w _=>w | .coroswitch _ _ _ w _=>w | .collect _ w _=>w | .watch _ w _=>w | .ended _ w _=>w
theorem GW_after (es:Array Event) (s:GStep):GW (s.after es)=GW s:=by cases s <;> rfl
def RW {α:Type}:Result α→World
 | .ok _ w=>w
 | .halt _ w=>w
def SW:Stepped→World
 | .next m=>m.world
 | .ended _ w=>w
section
variable {α:Type}
theorem ask_mono:∀ (a:Ask α) (w:World),w.drawn≤(w.ask a).2.drawn
 | .done a,w=>Nat.le_refl _
 | .ask what range k,w=>by
  unfold World.ask;simp only;split
  ·exact ask_mono _ w
  ·exact Nat.le_trans (Nat.le_succ _) (ask_mono (k _) {w with drawn:=w.drawn+1 })
theorem sys_mono (w:World) (c:Sys):w.drawn≤(w.sys c).2.drawn:=by
 have h:=ask_mono (Kernel.perform c w.os) w;unfold World.sys;split
 ·exact Nat.le_refl _
 ·rename_i e;rw [e] at h;exact h
theorem view_mono {p:Program} {w w':World} {a:Addr} {u:TypeId} {k:Addr} {v:Value} {at_:Bool} {l:List Addr} (h:w.viewStore p a u k v at_=.ok (w',l)):w'.drawn=w.drawn:=by
 unfold World.viewStore at h;simp only [bind,Except.bind,pure,Except.pure,throw,throwThe,MonadExceptOf.throw] at h
 repeat' (split at h)
 all_goals first
  |(cases h;done)
  |(cases h;rfl)
  | skip
theorem far_mono {p:Program} {w w':World} {a:Addr} {v:Value} {at_:Bool} {l:List Addr} (h:w.farStore p a v at_=.ok (w',l)):w'.drawn=w.drawn:=by
 unfold World.farStore at h;split at h
 ·split at h
  ·cases h;exact view_mono (by assumption)
  ·cases h
 ·cases h
theorem run_mono (p:Program) (s:Sem α):∀ w:World,w.drawn≤(RW (s.run p w)).drawn:=by
 induction s with
 | pure a=>intro w;exact Nat.le_refl _
 | load m a k ih =>
  intro w;unfold Sem.run;split
  ·exact ih _ w
  ·split
   ·exact ih _ w
   ·exact Nat.le_refl _
 | store m a v k ih =>
  have gen:∀ w:World,w.drawn≤(RW (match w.cell? a with
    | some _ => if w.frozen? a then Result.halt (.unsupported (.unsafePointer "a write to bytes that a string shares")) w else k.run p (w.setCell a v)
    | none=>match w.farStore p a v (m==.atomic) with
     | .ok (w,_)=>k.run p w
     | .error h=>.halt h w)).drawn:=fun w=>by
   split
   ·split
    ·exact Nat.le_refl _
    ·exact ih (w.setCell a v)
   ·split
    ·rename_i e;have:=far_mono e;rw [←this];exact ih _
    ·exact Nat.le_refl _
  intro w
  cases v <;> first | exact Nat.le_refl _ | exact gen w
 | new o k ih=>intro w;exact ih _ {w with heap:=w.heap.push o }
 | shape r k ih=>intro w;exact ih _ w
 | freeze a n k ih =>
  intro w
  have:(w.freeze a n).drawn=w.drawn:=by unfold World.freeze;split <;> rfl
  rw [←this];exact ih (w.freeze a n)
 | frozen a k ih=>intro w;exact ih _ w
 | getObj r k ih =>
  intro w;unfold Sem.run;split
  ·exact Nat.le_refl _
  ·exact ih _ w
  ·exact Nat.le_refl _
 | setObj r o k ih =>
  intro w;unfold Sem.run;split
  ·exact Nat.le_refl _
  ·exact ih {w with heap:=w.heap.setIfInBounds r o }
  ·exact Nat.le_refl _
 | choose q k ih =>
  intro w;unfold Sem.run;split
  ·exact ih _ w
  ·exact Nat.le_trans (Nat.le_succ _) (ih _ {w with drawn:=w.drawn+1 })
 | sys c k ih=>intro w;exact Nat.le_trans (sys_mono w c) (ih _ _)
 | program k ih=>intro w;exact ih _ w
 | mark m k ih=>intro w;exact ih w
 | halt h=>intro w;exact Nat.le_refl _
theorem runT_mono (p:Program) (s:Sem α):∀ (w:World) (es:Array Event),w.drawn≤(RW (s.runT p w es).1).drawn:=by
 induction s with
 | pure a=>intro w es;exact Nat.le_refl _
 | load m a k ih =>
  intro w es;unfold Sem.runT;split
  ·exact ih _ w _
  ·split
   ·exact ih _ w _
   ·exact Nat.le_refl _
 | store m a v k ih =>
  have gen:∀ (w:World) (es:Array Event),w.drawn≤(RW (match w.cell? a with
    | some _ => if w.frozen? a then (Result.halt (.unsupported (.unsafePointer "a write to bytes that a string shares")) w, es) else k.runT p (w.setCell a v) (es.push (Event.mk (.cell a) true (m == Mode.atomic)))
    | none=>match w.farStore p a v (m==Mode.atomic) with
     | .ok (w,touched)=>k.runT p w (es++touched.toArray.map fun c=>Event.mk (.cell c) true (m==Mode.atomic))
     | .error h=>(.halt h w,es)).1).drawn:=fun w es=>by
   split
   ·split
    ·exact Nat.le_refl _
    ·exact ih (w.setCell a v) _
   ·split
    ·rename_i e;have:=far_mono e;rw [←this];exact ih _ _
    ·exact Nat.le_refl _
  intro w es
  cases v <;> first | exact Nat.le_refl _ | exact gen w es
 | new o k ih=>intro w es;exact ih _ {w with heap:=w.heap.push o } es
 | shape r k ih=>intro w es;exact ih _ w es
 | freeze a n k ih =>
  intro w es
  have:(w.freeze a n).drawn=w.drawn:=by unfold World.freeze;split <;> rfl
  rw [←this];exact ih (w.freeze a n) es
 | frozen a k ih=>intro w es;exact ih _ w es
 | getObj r k ih =>
  intro w es;unfold Sem.runT;split
  ·exact Nat.le_refl _
  ·exact ih _ w _
  ·exact Nat.le_refl _
 | setObj r o k ih =>
  intro w es;unfold Sem.runT;split
  ·exact Nat.le_refl _
  ·exact ih {w with heap:=w.heap.setIfInBounds r o } _
  ·exact Nat.le_refl _
 | choose q k ih =>
  intro w es;unfold Sem.runT;split
  ·exact ih _ w es
  ·exact Nat.le_trans (Nat.le_succ _) (ih _ {w with drawn:=w.drawn+1 } es)
 | sys c k ih=>intro w es;exact Nat.le_trans (sys_mono w c) (ih _ _ _)
 | program k ih=>intro w es;exact ih _ w es
 | mark m k ih=>intro w es;exact ih w _
 | halt h=>intro w es;exact Nat.le_refl _
variable {p:Program} {s:Sem α} {w w':World} {es es':Array Event} {v:α} {x:Halt} {d:Nat}
theorem tok (h:s.runT p w es=(.ok v w',es')) (hd:d≤w.drawn):d≤w'.drawn:=by
 have:=runT_mono p s w es;rw [h] at this;exact Nat.le_trans hd this
theorem thalt (h:s.runT p w es=(.halt x w',es')) (hd:d≤w.drawn):d≤w'.drawn:=by
 have:=runT_mono p s w es;rw [h] at this;exact Nat.le_trans hd this
theorem rok (h:s.run p w=.ok v w') (hd:d≤w.drawn):d≤w'.drawn:=by
 have:=run_mono p s w;rw [h] at this;exact Nat.le_trans hd this
theorem rhalt (h:s.run p w=.halt x w') (hd:d≤w.drawn):d≤w'.drawn:=by
 have:=run_mono p s w;rw [h] at this;exact Nat.le_trans hd this
theorem t1 {r:Result α} (h:(s.runT p w es).1=r) (hd:d≤w.drawn):d≤(RW r).drawn:=by
 rw [←h];exact Nat.le_trans hd (runT_mono p s w es)
end
section
variable {d:Nat} {p:Program} {w:World} (hd:d≤w.drawn)
include hd
theorem endThrow_m (fr:Frame) (m:String):d≤(GW (endThrow fr m w)).drawn:=hd
theorem endWith_m (fd:Nat) (text:ByteArray) (o:Outcome):d≤(GW (endWith w fd text o)).drawn:=by
 have h:=Nat.le_trans hd (sys_mono w (.write fd text));unfold endWith;simp only
 split <;> (rename_i e;rw [e] at h)
 ·split <;> exact h
 ·exact h
 ·exact h
theorem endPrinting_m (fr:Frame) (v:Value):d≤(GW (endPrinting p fr v w)).drawn:=by
 unfold endPrinting;simp only;split
 ·exact hd
 ·exact hd
theorem endFatal_m (fr:Frame) (cs:List Frame) (dy:Option Dying) (m:String):d≤(GW (endFatal p fr cs dy m w)).drawn:=by
 unfold endFatal;simp only;split
 ·rename_i e;exact rok e hd
 ·rename_i e;exact rhalt e hd
 ·rename_i e;exact rhalt e hd
theorem writeOn_m (fr:Frame) (dy:Dying) (f:Fatal):d≤(GW (writeOn p fr dy f w)).drawn:=by
 unfold writeOn;simp only;split
 ·exact hd
 ·split <;> rename_i e <;> first | exact tok e hd | exact thalt e hd
theorem die_m (fr:Frame) (dy:Dying):d≤(GW (die p fr dy w)).drawn:=by
 unfold die;split
 ·exact writeOn_m hd fr dy _
 ·split
  ·split
   ·exact hd
   ·exact endWith_m hd _ _ _
  ·simp only;split
   ·exact hd
   ·split
    ·rename_i e;exact rok e hd
    ·rename_i e;exact rhalt e hd
   ·rw [GW_after]
    split <;> first | exact hd | (rename_i e;have hm:=t1 e hd;first | exact hm | exact endPrinting_m hm _ _)
   ·exact hd
theorem doReturn_m (main:Bool) (fr:Frame) (cs:List Frame) (dy:Option Dying) (v:Value):d≤(GW (doReturn p main fr cs dy v w)).drawn:=by
 unfold doReturn;split
 ·split <;> exact hd
 ·split
  ·exact hd
  ·exact hd
  ·split
   ·exact hd
   ·split <;> exact hd
theorem early_m (fr:Frame) (cs:List Frame) (dy:Option Dying) (g:Nat):d≤(GW (early p fr cs dy g w)).drawn:=by
 have nY:∀ w':World,d≤w'.drawn→d≤(GW (match w'.heap[g]? with
  | some (.pending c elem) =>
   .go {frame:=fr,callers:=cs,status:=.running,dying:=dy } {w' with heap:=w'.heap.setIfInBounds g (.cells c elem) }
  | _ => .ended (.stuck "early: the variable does not wait" (fr.pos p)) w')).drawn := fun w' h => by
  split <;> exact h
 unfold early;simp only;split
 ·exact nY w hd
 ·split
  ·exact hd
  ·split
   ·exact nY w hd
   ·split
    ·exact nY w hd
    ·split
     ·exact hd
     ·exact hd
     ·exact hd
     ·exact nY w hd
     ·split
      ·exact hd
      ·split
       ·exact nY w hd
       ·split
        ·rename_i e;exact nY _ (rok e hd)
        ·rename_i e;exact rok e hd
        ·rename_i e;exact rhalt e hd
omit hd in
theorem gw_ite {c:Prop} [Decidable c] {a b:GStep} (ha:d≤(GW a).drawn) (hb:d≤(GW b).drawn):d≤(GW (if c then a else b)).drawn:=by split <;> assumption
theorem callDeferred_m (fr:Frame) (cs:List Frame) (dy:Option Dying) (c:Deferred):d≤(GW (callDeferred p fr cs dy c w)).drawn:=by
 unfold callDeferred;refine gw_ite hd ?_;simp only;rw [GW_after];split
 all_goals first
  |(rename_i e;have hm:=t1 e hd;first | exact hm | exact endFatal_m hm _ _ _ _ | exact endThrow_m hm _ _ | (split <;> exact hm))
  | exact hd
theorem unwind_m (main:Bool) (fr:Frame) (cs:List Frame) (dy:Option Dying):d≤(GW (unwind p main fr cs dy w)).drawn:=by
 unfold unwind;split
 ·simp only;rw [GW_after]
  split <;> (rename_i e;exact t1 e hd)
 ·exact callDeferred_m hd _ _ _ _
 ·split
  ·exact hd
  ·split
   ·exact hd
   ·split
    ·exact hd
    ·split
     ·split
      ·exact hd
      ·split <;> (rename_i e;first | exact rok e hd | exact rhalt e hd)
     ·split
      ·exact endPrinting_m hd _ _
      ·exact hd
  ·split
   ·exact doReturn_m hd _ _ _ _ _
   ·simp only;rw [GW_after];split
    ·rename_i e;exact doReturn_m (t1 e hd) _ _ _ _ _
    ·rename_i e;exact t1 e hd
    ·rename_i e;exact t1 e hd
theorem apply_m (listen:Bool) (fr:Frame) (cs:List Frame) (dy:Option Dying) (s:Sem Next):d≤(GW (stepG.apply p listen fr cs dy s w)).drawn:=by
 unfold stepG.apply
 have h0:∀ r:Result Next×Array Event,(if listen=true then s.runT p w #[] else (s.run p w,#[]))=r→d≤(RW r.1).drawn:=fun r e=>by
  cases listen
  ·rw [←e];exact Nat.le_trans hd (run_mono p s w)
  ·rw [←e];exact Nat.le_trans hd (runT_mono p s w #[])
 simp only;rw [GW_after];have h1:=h0 _ rfl;generalize (if listen=true then s.runT p w #[] else (s.run p w,#[]))=r at h1 ⊢;obtain ⟨r,es⟩:=r;simp only at h1 ⊢;split
 all_goals first
  | exact h1
  | exact endFatal_m h1 _ _ _ _
  | exact endThrow_m h1 _ _
  | exact early_m h1 _ _ _ _
  | exact gw_ite (endThrow_m h1 _ _) h1
  |(split <;> exact h1)
theorem oper_m (listen:Bool) (fr:Frame) (cs:List Frame) (dy:Option Dying):d≤(GW (stepG.oper p listen fr cs dy w)).drawn:=by
 unfold stepG.oper;split
 ·exact hd
 ·split <;> exact apply_m hd _ _ _ _ _
theorem exec_m (main listen:Bool) (fr:Frame) (cs:List Frame) (dy:Option Dying):d≤(GW (stepG.exec p main listen fr cs dy w)).drawn:=by
 unfold stepG.exec;simp only;split
 all_goals first
  | exact hd
  | exact apply_m hd _ _ _ _ _
  | exact gw_ite hd hd
  |(split <;> exact hd)
  |(split <;> first | exact hd | exact gw_ite hd hd | (rw [GW_after];split <;> (rename_i e;first | exact doReturn_m (t1 e hd) _ _ _ _ _ | exact t1 e hd)))
  |(rw [GW_after];split <;> (rename_i e;first | exact apply_m (t1 e hd) _ _ _ _ _ | exact t1 e hd))
  |(generalize exitTo _ _=o;cases o;(simp only [Option.elim];split <;> first | exact hd | exact gw_ite hd hd | (rw [GW_after];split <;> (rename_i e;first | exact doReturn_m (t1 e hd) _ _ _ _ _ | exact t1 e hd)));exact hd)
  |(generalize gotoIn _ _=o;cases o;(simp only [Option.elim];split <;> first | exact hd | exact gw_ite hd hd | (rw [GW_after];split <;> (rename_i e;first | exact doReturn_m (t1 e hd) _ _ _ _ _ | exact t1 e hd)));exact hd)
  |(generalize Extern.next _=o;cases o;exact hd;exact apply_m hd _ _ _ _ _)
  |(refine gw_ite hd ?_;split <;> (rename_i e;first | exact rok e hd | exact rhalt e hd))
  | exact gw_ite (oper_m hd _ _ _ _) hd
  | skip
theorem stepG_m (main:Bool) (g:Goroutine) (listen:Bool):d≤(GW (stepG p main g w listen)).drawn:=by
 unfold stepG;simp only;split
 ·exact die_m hd _ _
 ·exact exec_m hd _ _ _ _ _
 ·exact unwind_m hd _ _ _ _
theorem look_m (gs:Array Goroutine) (rest:Rest):d≤(SW (look p gs rest w)).drawn:=by
 unfold look;split
 ·simp only;split
  ·exact hd
  ·split
   ·exact hd
   ·split
    ·rename_i e;have h:=rok e hd;exact h
    ·rename_i e;exact rhalt e hd
    ·rename_i e;exact rhalt e hd
 ·exact hd
theorem waitingAt_m {rest:Rest} {cases:Array CommCase} {w':World} (h:waitingAt rest cases w=some w'):d≤w'.drawn:=by
 unfold waitingAt at h;split at h
 ·split at h
  ·cases h;exact hd
  ·cases h
 ·cases h;exact hd
theorem communicate_m (rest:Rest) (gs:Array Goroutine) (i:Nat) (g:Goroutine) (cases:Array CommCase) (blocking:Bool) (shape:CommShape):d≤(SW (communicate p rest gs i g cases blocking shape w).1).drawn:=by
 unfold communicate;simp only;split
 ·exact hd
 ·split
  ·split
   ·split
    ·rename_i e;exact waitingAt_m hd e
    ·exact hd
   ·exact hd
  ·split
   ·rename_i e;exact rhalt e hd
   ·rename_i e;have h1:=rok e hd;split
    ·split
     ·rename_i e2;exact rhalt e2 h1
     ·exact h1
    ·exact h1
    ·exact h1
    ·split
     ·exact h1
     ·split
      ·rename_i e2;have h2:=rok e2 h1;exact h2
      ·rename_i e2;exact rhalt e2 h1
    ·exact h1
    ·exact h1
    ·exact h1
theorem drain_m (c:Nat):d≤(drain w c).2.drawn:=by
 unfold drain
 split <;> exact hd
end
section
variable {d:Nat} {p:Program} {m:Machine} (hd:d≤m.world.drawn)
include hd
theorem retime_m (k:Nat) (t:Timer) (a b:Nat):d≤(retime m k t a b).2.world.drawn:=by
 unfold retime;simp only;split
 ·exact drain_m hd _
 ·exact hd
theorem opened_m {var:Addr} {m':Machine} (h:timerOp.opened m var=some m'):d≤m'.world.drawn:=by
 unfold timerOp.opened at h;split at h
 ·split at h
  ·cases h;exact hd
  ·cases h
 ·cases h;exact hd
theorem timerOp_m {op:TimerOp} {v:Value} {m':Machine} (h:timerOp m op=.ok (v,m')):d≤m'.world.drawn:=by
 unfold timerOp at h;split at h
 ·split at h
  ·cases h;exact hd
  ·split at h
   ·split at h
    ·cases h
    ·cases h;exact hd
   ·cases h
 ·unfold timerOp.named at h;split at h
  ·have:=retime_m hd;injection h with h
   have h2:=congrArg Prod.snd h;simp only at h2;rw [←h2];exact this _ _ _ _
  ·cases h
 ·split at h
  ·rename_i e;have ho:=opened_m hd e;unfold timerOp.named at h;split at h
   ·injection h with h
    have h2:=congrArg Prod.snd h;simp only at h2;rw [←h2];exact retime_m ho _ _ _ _
   ·cases h
  ·cases h
 ·cases h;exact hd
theorem serve_m (k:Nat):d≤(SW (serve p m k)).drawn:=by
 unfold serve;split
 ·exact hd
 ·exact hd
 ·simp only;split
  ·exact hd
  ·exact hd
theorem mrunT_m (i:Nat) (listen:Bool):d≤(SW (Go.runT p m i listen).1).drawn:=by
 unfold Go.runT;have h1:=stepG_m hd (p:=p);simp only;generalize hs:stepG p _ _ _ _=s;have h2:=h1 (i==0) (m.gs.swapAt! i {(default:Goroutine) with status:=.finished }).1 listen;rw [hs] at h2;split
 all_goals first
  | exact h2
  | exact communicate_m h2 _ _ _ _ _ _ _
  | exact look_m h2 _ _
  |(split <;> first | exact h2 | (split <;> exact h2) | (rename_i e;have h:=timerOp_m (m:=Machine.mk _ _ _) h2 e;exact h))
omit hd in
theorem endWith_e {w:World} (hw:d≤w.drawn) (fd:Nat) (text:ByteArray) (o:Outcome):∃ o' w',endWith w fd text o=.ended o' w'∧d≤w'.drawn:=by
 have h:=Nat.le_trans hw (sys_mono w (.write fd text));unfold endWith;simp only
 split <;> (rename_i e;rw [e] at h)
 ·split
  ·exact ⟨_,_,rfl,h⟩
  ·exact ⟨_,_,rfl,h⟩
 ·exact ⟨_,_,rfl,h⟩
 ·exact ⟨_,_,rfl,h⟩
def MW:Move→World
 | .goroutine m _=>m.world
 | .machine s _=>SW s
theorem askOn_m:d≤(MW (askOn p m)).drawn:=by
 have pk:∀ (rs:List Nat) (m:Machine),d≤m.world.drawn→d≤(MW (match (choose (.sched rs.length)).run p m.world with
   | .halt _ w => Move.machine (.ended (.stuck "sched" "") w)
   | .ok k world =>
    if rs.length≤1 then .goroutine {m with world } (rs.getD k 0) else
    match (choose (.extern "sched.slice" 65536)).run p world with
    | .halt _ w => .machine (.ended (.stuck "sched.slice" "") w)
    | .ok n world=>.goroutine {m with world,rest:={ m.rest with slice:=if n=0 then none else some (rs.getD k 0,n) } } (rs.getD k 0))).drawn:=fun rs m hd=>by
  split
  ·rename_i e;have h1:=rhalt e hd;exact h1
  ·rename_i e;have h1:=rok e hd;split
   ·exact h1
   ·split
    ·rename_i e2;have h2:=rhalt e2 h1;exact h2
    ·rename_i e2;have h2:=rok e2 h1;exact h2
 unfold askOn;simp only;split
 ·rename_i e;have h1:=rhalt e hd;exact h1
 ·rename_i e;have h1:=rok e hd;split
  ·exact serve_m (m:=Machine.mk _ _ _) h1 _
  ·split
   ·split
    ·exact h1
    ·split
     ·exact h1
     ·obtain ⟨o', w', e2, h2⟩ := endWith_e h1 2 (bytes ("fatal error: " ++ (if (m.gs.any fun g => g.status == .blocked || g.status == .parked) = true then "all goroutines are asleep - deadlock!" else "no goroutines (main called runtime.Goexit) - deadlock!") ++ "\n")) (.fatal (if (m.gs.any fun g => g.status == .blocked || g.status == .parked) = true then "all goroutines are asleep - deadlock!" else "no goroutines (main called runtime.Goexit) - deadlock!"))
      rw [e2];exact h2
   ·split
    ·exact pk _ (Machine.mk _ _ _) h1
    ·split
     ·rename_i e2;have h2:=rhalt e2 h1;exact h2
     ·rename_i e2;have h2:=rok e2 h1;exact pk _ (Machine.mk _ _ _) h2
     ·rename_i e2;have h2:=rok e2 h1;exact h2
     ·rename_i e2;have h2:=rok e2 h1;exact pk _ (Machine.advanceTo (Machine.mk _ _ _) _) h2
theorem ask_m:d≤(MW (ask p m)).drawn:=by
 unfold ask;split
 ·split
  ·rename_i e;have h1:=rhalt e hd;exact h1
  ·rename_i e;have h1:=rok e hd;have h2:=look_m (p:=p) h1 m.gs m.rest;split
   ·rename_i e2;rw [e2] at h2;exact askOn_m h2
   ·exact h2
  ·rename_i e;have h1:=rok e hd;exact askOn_m (m:=Machine.mk _ _ _) h1
 ·exact askOn_m hd
theorem move_m:d≤(MW (move p m)).drawn:=by
 unfold move;split
 ·split <;> exact hd
 ·split
  ·split
   ·exact hd
   ·exact ask_m (m:=Machine.mk _ _ _) hd
  ·exact ask_m hd
theorem step_m:d≤(SW (step p m)).drawn:=by
 have h:=move_m (p:=p) hd;unfold step stepT;split
 ·rename_i e;rw [e] at h;exact mrunT_m h _ _
 ·rename_i e;rw [e] at h;exact h
end
theorem runN_m {d:Nat} {p:Program}:∀ (n:Nat) {m m':Machine},d≤m.world.drawn→runN p n m=.next m'→d≤m'.world.drawn
 | 0,m,m',hd,h=>by cases h;exact hd
 | n+1,m,m',hd,h=>by
  have h1:=step_m (p:=p) hd;unfold runN at h;split at h
  ·rename_i e;rw [e] at h1;exact runN_m n h1 h
  ·rename_i e;exact absurd h (e _)
theorem calls_m {P:Program} {f:FuncId} {args:Array Value} {w:World} {R:Ending→World→Prop} (h:Calls P f args w R):Calls P f args w fun e w'=>R e w'∧(e=.outgrown∨w.drawn≤w'.drawn):=by
 intro cs;obtain ⟨e,w',fr,hR,hC,h1,h2⟩:=h cs;refine ⟨e,w',fr,⟨hR,?_⟩,hC,h1,h2⟩
 cases e with
 | outgrown=>exact .inl rfl
 | returned v=>obtain ⟨n,hn⟩:=(hC:Steps P _ _);exact .inr (runN_m n (m':=lone fr cs w') (Nat.le_refl _) hn)
 | panicked c=>obtain ⟨n,hn⟩:=(hC:Steps P _ _);exact .inr (runN_m n (m':=lone fr cs w') (Nat.le_refl _) hn)
end Drw
end Go.Proofs.Ytljebnobajmjnaa
/- A region that draws its order of evaluation,walked once in the order of the text: each operation leaves one value,whatever world that meets S it finds,and keeps S;one operation (number k) may bring about T besides. -/
namespace Go.Proofs.Ytljebnobajmjnaa
open Go

section
variable {P:Program} {ops:Array Oper} {S:(Nat→Bool)→World→Prop}
def upd (d:Nat→Bool) (i:Nat):Nat→Bool:=fun j=>d j||j==i
theorem upd_self (d:Nat→Bool) (i:Nat):upd d i i=true:=by simp [upd]
theorem upd_ne {d:Nat→Bool} {i j:Nat} (h:j≠i):upd d i j=d j:=by simp [upd,h]
end

section
variable {P:Program} {ops:Array Oper} {S T:World→Prop} {k:Nat}
end

section
variable {P:Program} {ops:Array Oper} {S:World→Prop} {w0:World} {o1 o2:Obj} {ka ks:Nat}
end

def SW (S:World→Prop) (w0 w1:World) (ks:Nat) (d:Nat→Bool) (w:World):Prop:=S w∧w=if d ks=true then w1 else w0
section
variable {P:Program} {ops:Array Oper} {S:World→Prop} {w0 w1:World} {ks:Nat}
end
end Go.Proofs.Ytljebnobajmjnaa
/- Symbolic walks: abstract values,an abstract memory of what the call owns,and what both say of the real ones. No program in sight. -/
namespace Go.Proofs.Ytljebnobajmjnaa
open Go Go.RowKit

inductive AV where
 | any
 | und
 | int (k:IntKind) (n:Int)
 | bool (b:Bool)
 | str (s:ByteArray)
 | nilp
 | nils
 | nilf
 | box (id off:Nat)
 | elt (id n i j:Nat)
 | peek (row:List AV) (j:Nat)
 | osl (id n:Nat)
 | vsl (id n lo len:Nat)
 | ro (fr:Bool) (sz:Nat) (rows:List (List AV))
 | agg (cs:List AV)
 | tup (vs:List AV)
 | fn (f:FuncId) (caps:List AV)

inductive AB where
 | dead
 | box (cs:List AV) (e:TypeId)
 | row (sz:Nat) (rows:List (List AV)) (e:TypeId)

def look {α:Type} (d:α):List (Nat×α)→Nat→α
 | [],_=>d
 |(j,v)::l,i=>bif Nat.beq j i then v else look d l i
theorem look_cons {α:Type} (d:α) (j:Nat) (v:α) (l:List (Nat×α)) (i:Nat):look d ((j,v)::l) i=if j=i then v else look d l i:=by
 show (bif Nat.beq j i then v else look d l i)=_;by_cases h:j=i
 ·subst h;simp
 ·rw [if_neg h,show Nat.beq j i=false by rw [←Bool.not_eq_true];intro e;exact h (Nat.eq_of_beq_eq_true e)];rfl
theorem look_self {α:Type} (d:α) (j:Nat) (v:α) (l:List (Nat×α)):look d ((j,v)::l) j=v:=by rw [look_cons,if_pos rfl]
theorem look_ne {α:Type} (d:α) {j i:Nat} (h:j≠i) (v:α) (l:List (Nat×α)):look d ((j,v)::l) i=look d l i:=by rw [look_cons,if_neg h]

structure ASt where
 regs:List (Nat×AV)
 heap:List (Nat×AB)
 nx:Nat
def ASt.set (st:ASt) (d:Nat) (v:AV):ASt:=⟨(d,v)::st.regs,st.heap,st.nx⟩
def ASt.put (st:ASt) (d:Option Nat) (v:AV):ASt:=match d with | some d=>st.set d v | none=>st
def ASt.hset (st:ASt) (id:Nat) (b:AB):ASt:=⟨st.regs,(id,b)::st.heap,st.nx⟩
def ASt.hnew (st:ASt) (b:AB):ASt:=⟨st.regs,(st.nx,b)::st.heap,st.nx+1⟩

def avOf:Value→AV
 | .int k n=>.int k n
 | .bool b=>.bool b
 | .string s=>.str s
 | .pointer none=>.nilp
 | .slice none 0 0=>.nils
 | .nilFunc=>.nilf
 | _=>.any
def ASt.ev (st:ASt):Operand→AV
 | .tmp t=>look .any st.regs t
 | .const v=>avOf v
 | .global _=>.any
 | .func f=>.fn f []

inductive RelD (w:World) (own:Nat→Prop) (bs:Nat):AV→Value→Prop
 | any (v:Value):RelD w own bs .any v
 | und:RelD w own bs .und undef
 | int (k:IntKind) (n:Int):RelD w own bs (.int k n) (.int k n)
 | bool (b:Bool):RelD w own bs (.bool b) (.bool b)
 | str (s:ByteArray):RelD w own bs (.str s) (.string s)
 | nilp:RelD w own bs .nilp (.pointer none)
 | nils:RelD w own bs .nils (.slice none 0 0)
 | nilf:RelD w own bs .nilf .nilFunc
 | ro (fr:Bool) (sz:Nat) (rows:List (List AV)) (A:Option Addr) (c:Nat) (f:Nat→Nat→Value) (hc:rows.length≤c) (hm:c≤maxLen)
   (h0:∀ i,i<rows.length→A≠none)
   (h1:∀ (i:Nat) (row:List AV) (j:Nat) (a:AV),rows[i]?=some row→row[j]?=some a→∃ b o,A=some ⟨b,o,none⟩∧¬ own b∧(fr=true→bs≤b)∧w.cell? ⟨b,o+i*sz+j,none⟩=some (f i j))
   (h2:∀ (i:Nat) (row:List AV) (j:Nat) (a:AV),rows[i]?=some row→row[j]?=some a→RelD w own bs a (f i j)):RelD w own bs (.ro fr sz rows) (.slice A rows.length c)

def ownBlk:Value→Option Nat
 | .slice (some a) _ _=>some a.block
 | .pointer (some a)=>some a.block
 | _=>none

structure Gh where
 ρ:Nat→Value
 own:Nat→Prop
 ln:Nat→Nat
 sz:Nat→Nat
 nx:Nat
 bs:Nat
 far:Nat→Prop

inductive RelV (w:World) (G:Gh):AV→Value→Prop
 | dat {a:AV} {v:Value} (h:RelD w G.own G.bs a v):RelV w G a v
 | box (id off g:Nat) (hid:id<G.nx) (hs:G.sz id=0) (h:G.ρ id=.pointer (some ⟨g,0,none⟩)):RelV w G (.box id off) (.pointer (some ⟨g,off,none⟩))
 | elt (id n i j:Nat) (v:Value) (hid:id<G.nx) (hin:i<n) (hs:0<G.sz id) (hn:n≤G.ln id) (hv:∃ p,v=.pointer (some p))
   (h:n=G.ln id→∃ g c,G.ρ id=.slice (some ⟨g,0,none⟩) n c∧v=.pointer (some ⟨g,i*G.sz id+j,none⟩)):RelV w G (.elt id n i j) v
 | osl (id n:Nat) (v:Value) (hid:id<G.nx) (hs:0<G.sz id) (hn:n≤G.ln id) (hv:∃ A c,v=.slice A n c) (h:n=G.ln id→v=G.ρ id):RelV w G (.osl id n) v
 | vsl (id n lo len:Nat) (v:Value) (hid:id<G.nx) (hs:0<G.sz id) (hn:n≤G.ln id) (hle:lo+len≤n) (hv:∃ A c,v=.slice A len c)
   (h:n=G.ln id→∃ A c,v=.slice A len c∧len≤c∧c≤maxLen∧(0<len→∃ g c',G.ρ id=.slice (some ⟨g,0,none⟩) n c'∧A=some ⟨g,lo*G.sz id,none⟩)):RelV w G (.vsl id n lo len) v
 | peek (row:List AV) (j b o:Nat) (f:Nat→Value) (hr:row≠[]) (hb:¬ G.own b) (h1:∀ (t:Nat) (a:AV),row[t]?=some a→w.cell? ⟨b,o+t,none⟩=some (f t)) (h2:∀ (t:Nat) (a:AV),row[t]?=some a→RelD w G.own G.bs a (f t)) :
   RelV w G (.peek row j) (.pointer (some ⟨b,o+j,none⟩))
 | agg (cs:List AV) (vs:Array Value) (hl:vs.size=cs.length) (h:∀ (i:Nat) (a:AV) (v:Value),cs[i]?=some a→vs[i]?=some v→RelV w G a v):RelV w G (.agg cs) (.agg vs)
 | tup (cs:List AV) (vs:Array Value) (hl:vs.size=cs.length) (h:∀ (i:Nat) (a:AV) (v:Value),cs[i]?=some a→vs[i]?=some v→RelV w G a v):RelV w G (.tup cs) (.tuple vs)
 | fn (f:FuncId) (cs:List AV) (fs vs:Array Value) (hf:fs=#[]) (hl:vs.size=cs.length) (h:∀ (i:Nat) (a:AV) (v:Value),cs[i]?=some a→vs[i]?=some v→RelV w G a v):RelV w G (.fn f cs) (.func (.func f) fs vs)

structure Ext (w:World) (G:Gh) (w':World) (G':Gh):Prop where
 size:w.heap.size≤w'.heap.size
 keep':∀ b,(¬ G.own b∨G.far b)→b<w.heap.size→w'.heap[b]?=w.heap[b]?
 own2:∀ b,G'.own b→G.own b∨w.heap.size≤b
 nx:G.nx≤G'.nx
 bs':G'.bs=G.bs∧G'.far=G.far
 gh:∀ id,id<G.nx→G.ln id≤G'.ln id∧G.sz id=G'.sz id∧(G'.ln id=G.ln id→G'.ρ id=G.ρ id)∧(G.sz id=0→G'.ln id=G.ln id)
theorem Ext.keep {w w':World} {G G':Gh} (h:Ext w G w' G'):∀ b,¬ G.own b→b<w.heap.size→w'.heap[b]?=w.heap[b]?:=fun b hb hl=>h.keep' b (.inl hb) hl
theorem Ext.bs {w w':World} {G G':Gh} (h:Ext w G w' G'):G'.bs=G.bs:=h.bs'.1
theorem Ext.far {w w':World} {G G':Gh} (h:Ext w G w' G'):G'.far=G.far:=h.bs'.2
theorem Ext.refl (w:World) (G:Gh):Ext w G w G:=⟨Nat.le_refl _,fun _ _ _=>rfl,fun _ h=>.inl h,Nat.le_refl _,⟨rfl,rfl⟩,fun _ _=>⟨Nat.le_refl _,rfl,fun _=>rfl,fun _=>rfl⟩⟩
theorem Ext.trans {w w' w'':World} {G G' G'':Gh} (h:Ext w G w' G') (k:Ext w' G' w'' G''):Ext w G w'' G'':=by
 refine ⟨Nat.le_trans h.size k.size,fun b hb hl=>?_,fun b hb=>?_,Nat.le_trans h.nx k.nx,⟨k.bs.trans h.bs,k.far.trans h.far⟩,fun id hid=>?_⟩
 ·rw [k.keep' b (hb.imp (fun hb e=>(h.own2 b e).elim hb (by omega)) (fun hb=>by rw [h.far];exact hb)) (by have:=h.size;omega),h.keep' b hb hl]
 ·rcases k.own2 b hb with h1 | h1
  ·exact h.own2 b h1
  ·have:=h.size;right;omega
 ·obtain ⟨a1,a2,a3,a4⟩:=h.gh id hid;obtain ⟨b1,b2,b3,b4⟩:=k.gh id (by have:=h.nx;omega);refine ⟨by omega,by omega,fun e=>?_,fun e=>?_⟩
  ·rw [b3 (by omega),a3 (by omega)]
  ·rw [b4 (by omega),a4 e]

theorem cell_lt {w:World} {a:Addr} {v:Value} (h:w.cell? a=some v):a.block<w.heap.size:=by
 rcases Nat.lt_or_ge a.block w.heap.size with h' | h'
 ·exact h'
 ·have:w.heap[a.block]?=none:=Array.getElem?_eq_none h';simp [World.cell?,this] at h
theorem Ext.cell {w w':World} {G G':Gh} (h:Ext w G w' G') {a:Addr} {v:Value} (ho:¬ G.own a.block) (hc:w.cell? a=some v):w'.cell? a=some v :=
 (World.cell?_of_block (h.keep _ ho (cell_lt hc))).trans hc
theorem RelD.ext {w w':World} {G G':Gh} (h:Ext w G w' G') {a:AV} {v:Value} (r:RelD w G.own G.bs a v):RelD w' G'.own G'.bs a v:=by
 induction r with
 | any v=>exact .any v
 | und=>exact .und
 | int k n=>exact .int k n
 | bool b=>exact .bool b
 | str s=>exact .str s
 | nilp=>exact .nilp
 | nils=>exact .nils
 | nilf=>exact .nilf
 | ro fr sz rows A c f hc hm h0 h1 h2 ih =>
  refine .ro fr sz rows A c f hc hm h0 (fun i row j a g1 g2=>?_) ih;obtain ⟨b,o,e,ho,hfr,hcell⟩:=h1 i row j a g1 g2;exact ⟨b,o,e,fun ho'=>(h.own2 b ho').elim ho (fun hge=>by have:=cell_lt hcell;simp at this;omega),fun e=>(by rw [h.bs];exact hfr e),h.cell (a:=⟨b,_,none⟩) ho hcell⟩
theorem RelV.ext {w w':World} {G G':Gh} (h:Ext w G w' G') {a:AV} {v:Value} (r:RelV w G a v):RelV w' G' a v:=by
 induction r with
 | dat r=>exact .dat (r.ext h)
 | box id off g hid hs hr =>
  obtain ⟨_,a2,a3,a4⟩:=h.gh id hid;exact .box id off g (Nat.lt_of_lt_of_le hid h.nx) (a2 ▸ hs) (by rw [a3 (a4 hs)];exact hr)
 | elt id n i j v hid hin hs hn hv hr =>
  obtain ⟨a1,a2,a3,_⟩:=h.gh id hid;refine .elt id n i j v (Nat.lt_of_lt_of_le hid h.nx) hin (a2 ▸ hs) (by omega) hv (fun e=>?_);obtain ⟨g,c,e1,e2⟩:=hr (by omega);exact ⟨g,c,by rw [a3 (by omega)];exact e1,by rw [←a2];exact e2⟩
 | osl id n v hid hs hn hv hr =>
  obtain ⟨a1,a2,a3,_⟩:=h.gh id hid;refine .osl id n v (Nat.lt_of_lt_of_le hid h.nx) (a2 ▸ hs) (by omega) hv (fun e=>?_);rw [a3 (by omega)];exact hr (by omega)
 | vsl id n lo len v hid hs hn hle hv hr =>
  obtain ⟨a1,a2,a3,_⟩:=h.gh id hid;refine .vsl id n lo len v (Nat.lt_of_lt_of_le hid h.nx) (a2 ▸ hs) (by omega) hle hv (fun e=>?_);obtain ⟨A,c,e1,e2,e3,e4⟩:=hr (by omega);refine ⟨A,c,e1,e2,e3,fun hl=>?_⟩;obtain ⟨g,c',e5,e6⟩:=e4 hl;exact ⟨g,c',by rw [a3 (by omega)];exact e5,by rw [←a2];exact e6⟩
 | peek row j b o f hr hb h1 h2 =>
  obtain ⟨x,l,rfl⟩:=List.exists_cons_of_ne_nil hr;have hc:=h1 0 x rfl;exact .peek _ j b o f hr (fun ho'=>(h.own2 b ho').elim hb (fun hge=>by have:=cell_lt hc;simp at this;omega)) (fun t a g=>h.cell (a:=⟨b,_,none⟩) hb (h1 t a g)) (fun t a g=>(h2 t a g).ext h)
 | agg cs vs hl _ ih=>exact .agg cs vs hl ih
 | tup cs vs hl _ ih=>exact .tup cs vs hl ih
 | fn f cs fs vs hf hl _ ih=>exact .fn f cs fs vs hf hl ih
end Go.Proofs.Ytljebnobajmjnaa
/- Rows of the call's own,whose block may bear a mark behind its cells. No program in sight. -/
namespace Go.Proofs.Ytljebnobajmjnaa
open Go Go.RowKit
set_option linter.unusedSimpArgs false
set_option linter.unusedSectionVars false
set_option linter.unusedVariables false
def HasC (w:World) (g:Nat) (cur:Array Value) (e:TypeId):Prop:=∃ fz:Nat×Nat,(fz=(0,0)∨cur.size≤fz.1)∧w.heap[g]?=some (.cells cur e fz)
section
variable {w w':World} {g:Nat} {cur cur':Array Value} {e:TypeId}
theorem HasC.of (h:w.heap[g]?=some (.cells cur e (0,0))):HasC w g cur e:=⟨(0,0),.inl rfl,h⟩
theorem HasC.lt (h:HasC w g cur e):g<w.heap.size:=by
 obtain ⟨fz,_,h⟩:=h;exact (Array.getElem?_eq_some_iff.1 h).1
theorem HasC.congr (h:HasC w g cur e) (hh:w'.heap[g]?=w.heap[g]?):HasC w' g cur e:=by
 obtain ⟨fz,h1,h2⟩:=h;exact ⟨fz,h1,hh.trans h2⟩
theorem HasC.cell (h:HasC w g cur e) (i:Nat):w.cell? ⟨g,i,none⟩=cur[i]?:=by
 obtain ⟨fz,_,h⟩:=h;exact cell_of_row w g i cur e fz h
theorem HasC.unf (h:HasC w g cur e) {i:Nat} (hi:i<cur.size):w.frozen? ⟨g,i,none⟩=false:=by
 obtain ⟨⟨lo,hi'⟩,h1,h2⟩:=h;simp only [World.frozen?,h2,Bool.and_eq_false_iff,decide_eq_false_iff_not];rcases h1 with h1 | h1
 ·injection h1 with h1 h3
  subst h1;subst h3
  exact .inr (by omega)
 ·simp only at h1;exact .inl (by omega)
theorem HasC.setRow (h:HasC w g cur e) (hs:cur'.size=cur.size):HasC (w.setRow g cur') g cur' e:=by
 obtain ⟨fz,h1,h2⟩:=h;exact ⟨fz,by rw [hs];exact h1,setRow_heap w g cur _ e _ h2⟩
theorem HasC.setCell_eq (h:HasC w g cur e) (i:Nat) (v:Value):w.setCell ⟨g,i,none⟩ v=w.setRow g (cur.setIfInBounds i v):=by
 obtain ⟨fz,h1,h2⟩:=h;exact setCell_eq_setRow w g i cur e fz v h2
theorem HasC.setCell (h:HasC w g cur e) (i:Nat) (v:Value):HasC (w.setCell ⟨g,i,none⟩ v) g (cur.setIfInBounds i v) e:=by
 rw [h.setCell_eq];exact h.setRow (Array.size_setIfInBounds ..)
theorem HasC.self (h:HasC w g cur e):w.setRow g cur=w:=by
 obtain ⟨fz,h1,h2⟩:=h;exact setRow_self w g cur e fz h2
end
def ownsM (w:World) (base:Nat) (e:TypeId) (size:Nat) (v:Value) (n:Nat) (xs:List Value):Prop :=
 xs.length=n*size ∧
 ((v=.slice none 0 0∧n=0) ∨
  ∃ g cap cur,v=.slice (some ⟨g,0,none⟩) n cap∧base≤g∧HasC w g cur e∧n≤cap∧cap≤maxLen∧cur.size=cap*size∧cur.toList.take (n*size)=xs)
section
variable {w:World} {base:Nat} {e:TypeId} {size:Nat} {v:Value} {n:Nat} {xs:List Value}
theorem ownsM.of (h:w.ownsRow base e size v n xs):ownsM w base e size v n xs:=by
 refine ⟨h.1,?_⟩;rcases h.2 with hn | ⟨g,cap,cur,hv,hb,hg,r⟩
 ·exact .inl hn
 ·exact .inr ⟨g,cap,cur,hv,hb,.of hg,r⟩
theorem ownsM.nil (w:World) (base:Nat) (e:TypeId) (size:Nat):ownsM w base e size (.slice none 0 0) 0 []:=⟨by simp,.inl ⟨rfl,rfl⟩⟩
theorem ownsM.cellAt {g cap:Nat} (h:ownsM w base e size (.slice (some ⟨g,0,none⟩) n cap) n xs) (j:Nat) (hj:j<n*size):w.cell? ⟨g,j,none⟩=xs[j]?:=by
 rcases h.2 with ⟨h',_⟩ | ⟨g',cap',cur,h',_,hg,_,_,_,htake⟩
 ·simp at h'
 ·injection h' with h1 _ _
  injection h1 with h1
  injection h1 with h1 _ _
  subst h1;rw [hg.cell,←htake,List.getElem?_take_of_lt hj];simp
theorem ownsM.frozenAt {g cap:Nat} (h:ownsM w base e size (.slice (some ⟨g,0,none⟩) n cap) n xs) (j:Nat) (hj:j<n*size):w.frozen? ⟨g,j,none⟩=false:=by
 rcases h.2 with ⟨h',_⟩ | ⟨g',cap',cur,h',_,hg,hnc,_,hcs,_⟩
 ·simp at h'
 ·injection h' with h1 _ _
  injection h1 with h1
  injection h1 with h1 _ _
  subst h1;exact hg.unf (by rw [hcs];exact Nat.lt_of_lt_of_le hj (Nat.mul_le_mul_right _ hnc))
theorem ownsM.stored {g cap:Nat} (h:ownsM w base e size (.slice (some ⟨g,0,none⟩) n cap) n xs) (j:Nat) (u:Value) :
  ownsM (w.setCell ⟨g,j,none⟩ u) base e size (.slice (some ⟨g,0,none⟩) n cap) n (xs.set j u)∧w.grownBy (w.setCell ⟨g,j,none⟩ u) (some g):=by
 rcases h.2 with ⟨h',_⟩ | ⟨g',cap',cur,h',hb,hg,hnc,hcm,hcs,htake⟩
 ·simp at h'
 ·have h0:=h';injection h' with h1 _ h3
  injection h1 with h1
  injection h1 with h1 _ _
  subst h1;subst h3
  refine ⟨⟨by simpa using h.1,.inr ⟨g,cap,cur.setIfInBounds j u,rfl,hb,hg.setCell j u,hnc,hcm,by simpa using hcs,?_⟩⟩,
   ⟨rfl,rfl,rfl,by rw [hg.setCell_eq];simp [World.setRow],fun k _ hk=>?_⟩⟩
  ·rw [Array.toList_setIfInBounds,←htake,List.take_set]
  ·rw [hg.setCell_eq];exact setRow_other w g k _ (fun e=>hk (by rw [e]))
theorem ownsM.cells (h:ownsM w base e size v n xs) {g:Nat} (hg:v.ownBlock=some g):∀ j u,xs[j]?=some u→w.cell? ((⟨g,0,none⟩:Addr).add j)=some u:=by
 intro j u hu;rcases h.2 with ⟨rfl,_⟩ | ⟨g',cap,cur,rfl,_,hgg,_,_,_,htake⟩
 ·simp [Value.ownBlock] at hg
 ·simp [Value.ownBlock] at hg;subst hg
  have hadd:(⟨g',0,none⟩:Addr).add j=⟨g',j,none⟩:=by unfold Addr.add;split <;> simp_all
  rw [hadd,hgg.cell];rw [←htake,List.getElem?_take] at hu;split at hu
  ·simpa using hu
  ·cases hu
end
section
variable {P:Program}
theorem set_take_succ {α:Type} {l:List α} {k:Nat} (h:k<l.length) (v:α):(l.set k v).take (k+1)=l.take k++[v]:=by
 have h2:k<(l.set k v).length:=by rw [List.length_set];exact h
 rw [List.take_add_one,List.getElem?_set_self h,List.take_set_of_le (Nat.le_refl _)];rfl
theorem run_storeCells_M (g o:Nat) (t:TypeId):∀ (vs:List Value) (i:Nat) (cur:Array Value) (w:World),HasC w g cur t→o+i+vs.length≤cur.size→(∀ v ∈ vs,v.oneCell'=true) →
  (storeCells ⟨g,o,none⟩ vs i).run P w=.ok () (w.setRow g (cur.toList.take (o+i)++vs++cur.toList.drop (o+i+vs.length)).toArray)
 | [],i,cur,w,hg,_,_=>by
  simp only [storeCells,List.append_nil,List.length_nil,Nat.add_zero,List.take_append_drop,Array.toArray_toList];rw [hg.self];rfl
 | v::rest,i,cur,w,hg,hl,h1=>by
  have hi:o+i<cur.size:=by simp at hl;omega
  have hadd:(⟨g,o,none⟩:Addr).add i=⟨g,o+i,none⟩:=by unfold Addr.add;split <;> simp_all
  have hst:(store ((⟨g,o,none⟩:Addr).add i) v).run P w=.ok () (w.setRow g (cur.setIfInBounds (o+i) v)):=by
   rw [hadd,run_store P w _ v _ (h1 v (by simp)),hg.cell,Array.getElem?_eq_getElem hi];simp [hg.unf hi,hg.setCell_eq]
  have ih:=run_storeCells_M g o t rest (i+1) (cur.setIfInBounds (o+i) v) (w.setRow g (cur.setIfInBounds (o+i) v)) (hg.setRow (Array.size_setIfInBounds ..)) (by simp at hl ⊢;omega) (fun x hx=>h1 x (by simp [hx]));simp only [storeCells,Sem.run_bind,hst,Result.andThen_ok,ih,setRow_setRow];congr 3;rw [Array.toList_setIfInBounds,show o+(i+1)=o+i+1 by omega,show o+i+(v::rest).length=o+i+1+rest.length by simp only [List.length_cons];omega,set_take_succ (by simpa using hi),List.drop_set_of_lt (by omega)];simp
theorem run_append_roomM (w:World) (t ty e:TypeId) (i:TypeInfo) (ht:P.underlying t=some (.slice e)) (hi:P.info? e=some i)
  (g sLen sCap:Nat) (cur:Array Value) (hg:HasC w g cur e)
  (a:Addr) (m c:Nat) (news:List Value) (hl:news.length=m*i.size) (hnews:∀ j u,news[j]?=some u→w.cell? (a.add j)=some u) (h1:∀ u ∈ news,u.oneCell'=true)
  (hroom:sLen+m≤sCap) (hfit:sLen*i.size+news.length≤cur.size) :
  (Builtin.append_ #[t,t] ty #[.slice (some ⟨g,0,none⟩) sLen sCap,.slice (some a) m c]).run P w =
   .ok (.slice (some ⟨g,0,none⟩) (sLen+m) sCap) (w.setRow g (cur.toList.take (sLen*i.size)++news++cur.toList.drop (sLen*i.size+news.length)).toArray):=by
 have hf:=run_firstCells_some (P:=P) w i.size m a m c news hl hnews;have hst:=run_storeCells_M (P:=P) g (sLen*i.size) e news 0 cur w hg (by simpa using hfit) h1;simp only [Nat.add_zero] at hst;simp [Builtin.append_,run_underlying ht,sizeOf,typeInfo,hi,Builtin.lenOf,hroom,hf,Addr.add_lit,hst]
end
end Go.Proofs.Ytljebnobajmjnaa
/- Symbolic walks: the relation of an abstract state and a real one;control. No program in sight. -/
namespace Go.Proofs.Ytljebnobajmjnaa
open Go Go.RowKit

def ABok (w0 w:World) (G:Gh) (id:Nat):AB→Prop
 | .dead=>True
 | .box cs e=>id<G.nx∧G.sz id=0∧∃ (g:Nat) (vs:Array Value),G.ρ id=.pointer (some ⟨g,0,none⟩)∧w.heap[g]?=some (.cells vs e (0,0))∧vs.size=cs.length ∧
   ∀ (i:Nat) (a:AV),cs[i]?=some a→∃ v,vs[i]?=some v∧v.oneCell'=true∧RelV w G a v
 | .row sz rows e=>id<G.nx∧0<sz∧G.sz id=sz∧G.ln id=rows.length∧∃ flat:List Value,ownsM w w0.heap.size e sz (G.ρ id) rows.length flat∧(∀ v ∈ flat,v.oneCell'=true) ∧
   ∀ (i:Nat) (row:List AV),rows[i]?=some row→row.length=sz∧∀ (j:Nat) (a:AV),row[j]?=some a→∃ v,flat[i*sz+j]?=some v∧RelV w G a v

structure HR (w0 w:World) (G:Gh) (hp:List (Nat×AB)):Prop where
 bs:G.bs=w0.heap.size
 below:Below w0.heap.size w0 w
 ownlt':∀ b,(G.own b→w0.heap.size≤b∧b<w.heap.size)∧(G.far b→G.own b)
 blk:∀ id,ABok w0 w G id (look .dead hp id)
 dist:∀ id id' g,id<G.nx→id'<G.nx→id≠id'→ownBlk (G.ρ id)=some g→ownBlk (G.ρ id')≠some g
 ownhas':∀ id g,id<G.nx→ownBlk (G.ρ id)=some g→G.own g∧¬ G.far g
theorem HR.ownlt {w0 w:World} {G:Gh} {hp:List (Nat×AB)} (h:HR w0 w G hp):∀ b,G.own b→w0.heap.size≤b∧b<w.heap.size:=fun b=>(h.ownlt' b).1
theorem HR.ownhas {w0 w:World} {G:Gh} {hp:List (Nat×AB)} (h:HR w0 w G hp):∀ id g,id<G.nx→ownBlk (G.ρ id)=some g→G.own g:=fun id g h1 h2=>(h.ownhas' id g h1 h2).1
theorem HR.nofar {w0 w:World} {G:Gh} {hp:List (Nat×AB)} (h:HR w0 w G hp):∀ id g,id<G.nx→ownBlk (G.ρ id)=some g→¬ G.far g:=fun id g h1 h2=>(h.ownhas' id g h1 h2).2
theorem HR.farown {w0 w:World} {G:Gh} {hp:List (Nat×AB)} (h:HR w0 w G hp):∀ b,G.far b→G.own b:=fun b=>(h.ownlt' b).2
theorem HR.farlt {w0 w:World} {G:Gh} {hp:List (Nat×AB)} (h:HR w0 w G hp):∀ b,G.far b→b<w.heap.size:=fun b hb=>(h.ownlt b (h.farown b hb)).2
theorem HR.newFar {w0 w:World} {G:Gh} {hp:List (Nat×AB)} (h:HR w0 w G hp) {b:Nat} (hb:w.heap.size≤b):¬ G.far b:=fun hf=>by have:=h.farlt b hf;omega

structure Kn where
 w0:World
 w1:World
 G1:Gh

structure RelG (K:Kn) (n:Nat) (st:ASt) (a:Act) (w:World) (G:Gh):Prop where
 nx:G.nx=st.nx
 hr:HR K.w0 w G st.heap
 ext:Ext K.w1 K.G1 w G
 size:a.tmps.size=n
 defers:a.defers=[]
 regs:∀ d,RelV w G (look .any st.regs d) (a.tmps.getD d undef)
def Rel (K:Kn) (n:Nat) (st:ASt) (a:Act) (w:World):Prop:=∃ G,RelG K n st a w G

def Qs (K:Kn) (n:Nat) (Q:Exit→ASt→Prop):Exit→Act→World→Prop:=fun e a w=>∃ st,Q e st∧Rel K n st a w
structure AW (P:Program) (n:Nat) (c:Code) (Q:Exit→ASt→Prop) (st:ASt):Prop where
 out:∀ K a w,Rel K n st a w→c.wp P (Qs K n Q) a w
instance {P:Program} {n:Nat} {c:Code} {Q:Exit→ASt→Prop} {st:ASt}:CoeFun (AW P n c Q st) fun _=>∀ K a w,Rel K n st a w→c.wp P (Qs K n Q) a w:=⟨AW.out⟩
structure AL (P:Program) (n:Nat) (ops:Array Oper) (Q:Exit→ASt→Prop) (l:List Oper) (st:ASt):Prop where
 out:∀ K a w,Rel K n st a w→wpList P ops (Qs K n Q) l a w
instance {P:Program} {n:Nat} {ops:Array Oper} {Q:Exit→ASt→Prop} {l:List Oper} {st:ASt}:CoeFun (AL P n ops Q l st) fun _=>∀ K a w,Rel K n st a w→wpList P ops (Qs K n Q) l a w:=⟨AL.out⟩

theorem getD_set {vs:Array Value} {i j:Nat} {v:Value} (h:j<vs.size):(vs.setIfInBounds j v).getD i undef=if j=i then v else vs.getD i undef:=by
 simp only [Array.getD_eq_getD_getElem?,Array.getElem?_setIfInBounds];split
 ·rename_i e;subst e;simp
 ·rfl
theorem RelG.put {K:Kn} {n:Nat} {st:ASt} {a:Act} {w:World} {G:Gh} (h:RelG K n st a w G) {d:Option Nat} (hd:∀ k,d=some k→k<n) {x:AV} {v:Value} (hv:RelV w G x v):RelG K n (st.put d x) (a.put d v) w G:=by
 cases d with
 | none=>exact h
 | some d =>
  refine ⟨h.nx,h.hr,h.ext,by simp [Act.put,h.size],h.defers,fun k=>?_⟩;have hd:=hd d rfl;show RelV w G (look .any ((d,x)::st.regs) k) ((a.tmps.setIfInBounds d v).getD k undef);rw [look_cons,getD_set (by rw [h.size];exact hd)];split
  ·exact hv
  ·exact h.regs k
theorem avOf_rel (w:World) (G:Gh) (v:Value):RelV w G (avOf v) v:=by
 refine .dat ?_;unfold avOf;split
 ·exact .int _ _
 ·exact .bool _
 ·exact .str _
 ·exact .nilp
 ·exact .nils
 ·exact .nilf
 ·exact .any _
theorem RelG.ev {K:Kn} {n:Nat} {st:ASt} {a:Act} {w:World} {G:Gh} (h:RelG K n st a w G) (x:Operand):RelV w G (st.ev x) (a.eval x):=by
 cases x with
 | tmp t=>exact h.regs t
 | const v=>exact avOf_rel w G v
 | global g=>exact .dat (.any _)
 | func f=>exact .fn f [] #[] #[] rfl rfl (fun i a v g=>by simp at g)

section
variable {w:World} {G:Gh} {v:Value}
theorem RelV.int' {k:IntKind} {n:Int} (h:RelV w G (.int k n) v):v=.int k n:=by cases h with | dat h=>cases h;rfl
theorem RelV.bool' {b:Bool} (h:RelV w G (.bool b) v):v=.bool b:=by cases h with | dat h=>cases h;rfl
theorem RelV.str' {s:ByteArray} (h:RelV w G (.str s) v):v=.string s:=by cases h with | dat h=>cases h;rfl
theorem RelV.nils' (h:RelV w G .nils v):v=.slice none 0 0:=by cases h with | dat h=>cases h;rfl
theorem RelV.und' (h:RelV w G .und v):v=undef:=by cases h with | dat h=>cases h;rfl
end
theorem rI (w:World) (G:Gh) (k:IntKind) (n:Int):RelV w G (.int k n) (.int k n):=.dat (.int k n)
theorem rB (w:World) (G:Gh) (b:Bool):RelV w G (.bool b) (.bool b):=.dat (.bool b)

section
variable {P:Program} {n:Nat} {Q:Exit→ASt→Prop} {st:ASt}
def thenA (K:ASt→Prop) (Q:Exit→ASt→Prop):Exit→ASt→Prop
 | .normal,st=>K st
 | e,st=>Q e st
theorem AW.seq {x y:Code} (h:AW P n x (thenA (AW P n y Q) Q) st):AW P n (.seq x y) Q st:=.mk fun K a w r =>
 wp_seq (wp_mono (h K a w r) fun e a' w' ⟨st',hq,hr⟩=>by
  cases e with
  | normal=>exact AW.out hq K a' w' hr
  | exit id=>exact ⟨st',hq,hr⟩
  | goto l=>exact ⟨st',hq,hr⟩
  | ret=>exact ⟨st',hq,hr⟩
  | panic c=>exact ⟨st',hq,hr⟩
  | outgrown=>exact ⟨st',hq,hr⟩)
def inBlockA (id:Nat) (Q:Exit→ASt→Prop):Exit→ASt→Prop
 | .exit id',st=>if id'=id then Q .normal st else Q (.exit id') st
 | e,st=>Q e st
theorem AW.block {id:Nat} {c:Code} (h:AW P n c (inBlockA id Q) st):AW P n (.block id c) Q st:=.mk fun K a w r =>
 wp_block (wp_mono (h K a w r) fun e a' w' ⟨st',hq,hr⟩=>by
  cases e with
  | exit id' =>
   simp only [inBlockA] at hq;simp only [Exit.inBlock];split
   ·rename_i hid;rw [if_pos hid] at hq;exact ⟨st',hq,hr⟩
   ·rename_i hid;rw [if_neg hid] at hq;exact ⟨st',hq,hr⟩
  | normal=>exact ⟨st',hq,hr⟩
  | goto l=>exact ⟨st',hq,hr⟩
  | ret=>exact ⟨st',hq,hr⟩
  | panic c=>exact ⟨st',hq,hr⟩
  | outgrown=>exact ⟨st',hq,hr⟩)
theorem AW.skip (h:Q .normal st):AW P n .skip Q st:=.mk fun _ _ _ r=>wp_skip ⟨st,h,r⟩
theorem AW.label {l:Nat} (h:Q .normal st):AW P n (.label l) Q st:=.mk fun _ _ _ r=>wp_label ⟨st,h,r⟩
theorem AW.exit {id:Nat} (h:Q (.exit id) st):AW P n (.exit id) Q st:=.mk fun _ _ _ r=>wp_exit ⟨st,h,r⟩
theorem AW.ret (h:Q .ret st):AW P n .ret Q st:=.mk fun _ _ _ r=>wp_ret ⟨st,h,r⟩
theorem AW.cond {c:Operand} {x y:Code} {b:Bool} (hc:st.ev c=.bool b) (h1:b=true→AW P n x Q st) (h2:b=false→AW P n y Q st):AW P n (.cond c x y) Q st:=.mk fun K a w ⟨G,r⟩=>by
 have e:=r.ev c;rw [hc] at e;exact wp_cond_split e.bool' (fun h=>h1 h K a w ⟨G,r⟩) (fun h=>h2 h K a w ⟨G,r⟩)
theorem AW.region {id:Nat} {l:List Oper} (h:AL P n l.toArray Q l st):AW P n (.region id l.toArray false) Q st:=.mk fun K a w r=>wp_region_lit (h K a w r)
theorem AL.nil {ops:Array Oper} (h:Q .normal st):AL P n ops Q [] st:=.mk fun _ _ _ r=>⟨st,h,r⟩

structure OpV (P:Program) (n:Nat) (o:Oper) (st st':ASt):Prop where
 out:∀ K a w,Rel K n st a w→∃ v w',((execOp a.eval o).run P w=.ok (.value v) w'∨((execOp a.eval o).run P w=.ok .skip w'∧v=undef))∧Rel K n st' (a.put o.dst v) w'
instance {P:Program} {n:Nat} {o:Oper} {st st':ASt}:CoeFun (OpV P n o st st') fun _=>∀ K a w,Rel K n st a w→∃ v w',((execOp a.eval o).run P w=.ok (.value v) w'∨((execOp a.eval o).run P w=.ok .skip w'∧v=undef))∧Rel K n st' (a.put o.dst v) w':=⟨OpV.out⟩
theorem oper_of_run {P:Program} {o:Oper} {a:Act} {w w':World} {v:Value} {next:Act→World→Prop} {Q:Exit→Act→World→Prop}
  (h:(execOp a.eval o).run P w=.ok (.value v) w'∨((execOp a.eval o).run P w=.ok .skip w'∧v=undef)) (hn:next (a.put o.dst v) w'):o.wp P a w next Q:=by
 unfold Oper.wp;rcases h with h | ⟨h,hv⟩
 ·rw [h];exact hn
 ·subst hv;rw [h];exact hn
def dok (d:Option Nat) (n:Nat):Bool:=match d with | some d=>Nat.blt d n | none=>true
theorem dok_lt {d:Option Nat} {n:Nat} (h:dok d n=true):∀ k,d=some k→k<n:=by
 intro k e;subst e;simpa [dok] using h
def gdst (ops:Array Oper) (o:Oper):Option (Nat×Bool):=match o.guard with | some (j,want)=>((ops[j]?).bind (·.dst)).map fun d=>(d,want) | none=>none
theorem yielded_of {ops:Array Oper} {K:Kn} {a:Act} {w:World} {G:Gh} (r:RelG K n st a w G) {j d:Nat} {b:Bool} (hj:(ops[j]?).bind (·.dst)=some d) (hb:look .any st.regs d=.bool b):yielded ops a.tmps j=some b:=by
 have e:=r.regs d;rw [hb] at e;have e:=e.bool';unfold yielded;rw [hj];show (match a.tmps[d]? with | some (.bool b)=>some b | _=>none)=some b;rw [Array.getD_eq_getD_getElem?] at e
 cases h:a.tmps[d]? with
 | none=>rw [h] at e;simp [undef] at e
 | some v=>rw [h] at e;simp at e;subst e;rfl
theorem AL.skipg {ops:Array Oper} {l:List Oper} {o:Oper} {d:Nat} {want:Bool} (hg:gdst ops o=some (d,want)) (hd:dok o.dst n=true) (hb:look .any st.regs d=.bool (!want)∨look .any st.regs d=.und) (k:AL P n ops Q l (st.put o.dst .und)):AL P n ops Q (o::l) st:=.mk fun K a w r =>
 wpList_step fun K' hK'=>by
  obtain ⟨G,rg⟩:=r
  have hw:Region.wanted o (yielded ops a.tmps)=false:=by
   unfold gdst at hg;unfold Region.wanted
   cases hgd:o.guard with
   | none=>rw [hgd] at hg;cases hg
   | some p =>
    obtain ⟨j,wt⟩:=p;rw [hgd] at hg;obtain ⟨d',hd',e⟩:=Option.map_eq_some_iff.1 hg;injection e with e1 e2
    subst e1;subst e2
    rcases hb with hb | hb
    ·simp [yielded_of rg hd' hb]
    ·have e:=rg.regs d';rw [hb] at e;have e:=e.und'
     have:yielded ops a.tmps j=none:=by
      unfold yielded;rw [hd'];show (match a.tmps[d']? with | some (.bool b)=>some b | _=>none)=none;rw [Array.getD_eq_getD_getElem?] at e
      cases h:a.tmps[d']? with
      | none=>rfl
      | some v=>rw [h] at e;simp at e;subst e;rfl
     simp [this]
  rw [if_neg (by rw [hw];decide)];exact hK' _ _ (k K _ _ ⟨G,rg.put (dok_lt hd) (.dat .und)⟩)

theorem look_mem {α:Type} {d:α} {l:List (Nat×α)} {i:Nat} {x:α} (h:look d l i=x) (hne:x≠d):(i,x) ∈ l:=by
 induction l with
 | nil=>exact absurd h.symm hne
 | cons p l ih =>
  obtain ⟨j,v⟩:=p;rw [look_cons] at h;split at h
  ·rename_i e;subst e;subst h;simp
  ·exact List.mem_cons_of_mem _ (ih h)
end
end Go.Proofs.Ytljebnobajmjnaa
/- Symbolic walks: how a step turns memory. No program in sight. -/
namespace Go.Proofs.Ytljebnobajmjnaa
open Go Go.RowKit

theorem ownsRow_heap {w w':World} {base:Nat} {e:TypeId} {s:Nat} {v:Value} {n:Nat} {xs:List Value} (h:ownsM w base e s v n xs) (hg:∀ g,ownBlk v=some g→w'.heap[g]?=w.heap[g]?):ownsM w' base e s v n xs:=by
 refine ⟨h.1,?_⟩;rcases h.2 with h2 | ⟨g,cap,cur,rfl,hb,hh,r⟩
 ·exact .inl h2
 ·exact .inr ⟨g,cap,cur,rfl,hb,hh.congr (hg g rfl),r⟩
theorem ABok.step {w0 w w':World} {G G':Gh} {id:Nat} {b:AB} (h:ABok w0 w G id b) (hx:Ext w G w' G') (hp:id<G.nx→G'.ρ id=G.ρ id∧G'.ln id=G.ln id∧∀ g,ownBlk (G.ρ id)=some g→w'.heap[g]?=w.heap[g]?):ABok w0 w' G' id b:=by
 cases b with
 | dead=>trivial
 | box cs e =>
  obtain ⟨h1,h2,g,vs,h3,h4,h5,h6⟩:=h;obtain ⟨p1,p2,p3⟩:=hp h1;refine ⟨Nat.lt_of_lt_of_le h1 hx.nx,by rw [←(hx.gh id h1).2.1];exact h2,g,vs,by rw [p1];exact h3,(p3 g (by rw [h3];rfl)).trans h4,h5,fun i a hi=>?_⟩;obtain ⟨v,g1,g2,g3⟩:=h6 i a hi;exact ⟨v,g1,g2,g3.ext hx⟩
 | row sz rows e =>
  obtain ⟨h1,h2,h3,h4,flat,h5,h6,h7⟩:=h;obtain ⟨p1,p2,p3⟩:=hp h1;refine ⟨Nat.lt_of_lt_of_le h1 hx.nx,h2,by rw [←(hx.gh id h1).2.1];exact h3,by rw [p2];exact h4,flat,by rw [p1];exact ownsRow_heap h5 p3,h6,fun i row hi=>?_⟩;obtain ⟨g1,g2⟩:=h7 i row hi;refine ⟨g1,fun j a hj=>?_⟩;obtain ⟨v,g3,g4⟩:=g2 j a hj;exact ⟨v,g3,g4.ext hx⟩
theorem HR.update {w0 w w':World} {G G':Gh} {hp:List (Nat×AB)} (h:HR w0 w G hp) (hx:Ext w G w' G') (ho1:∀ b,G.own b→G'.own b) (hb:Below w0.heap.size w w') (id0:Nat) (b':AB)
  (ho:∀ id,id≠id0→id<G.nx→G'.ρ id=G.ρ id∧G'.ln id=G.ln id∧∀ g,ownBlk (G.ρ id)=some g→w'.heap[g]?=w.heap[g]?)
  (hnx:∀ id,id<G'.nx→id≠id0→id<G.nx) (hown:∀ b,G'.own b→w0.heap.size≤b∧b<w'.heap.size) (h0:ABok w0 w' G' id0 b')
  (hd:∀ id g,id<G.nx→id≠id0→ownBlk (G'.ρ id0)=some g→ownBlk (G.ρ id)≠some g) (hoh:∀ g,id0<G'.nx→ownBlk (G'.ρ id0)=some g→G'.own g∧¬ G.far g):HR w0 w' G' ((id0,b')::hp):=by
 refine ⟨hx.bs.trans h.bs,h.below.trans hb,fun b=>⟨hown b,fun hf=>ho1 b (h.farown b (by rw [←hx.far];exact hf))⟩,fun id=>?_,fun id id' g h1 h2 hne hg=>?_,fun id g h1 hg=>?_⟩
 ·rw [look_cons];split
  ·rename_i e;subst e;exact h0
  ·rename_i hne;exact (h.blk id).step hx (ho id (fun e=>hne e.symm))
 ·by_cases e1:id=id0
  ·subst e1;have h2':=hnx id' h2 (fun e=>hne e.symm);rw [(ho id' (fun e=>hne e.symm) h2').1];exact hd id' g h2' (fun e=>hne e.symm) hg
  ·have h1':=hnx id h1 e1;rw [(ho id e1 h1').1] at hg;by_cases e2:id'=id0
   ·subst e2;intro hg';exact hd id g h1' e1 hg' hg
   ·have h2':=hnx id' h2 e2;rw [(ho id' e2 h2').1];exact h.dist id id' g h1' h2' hne hg
 ·rw [hx.far];by_cases e1:id=id0
  ·subst e1;exact hoh g h1 hg
  ·have h1':=hnx id h1 e1;rw [(ho id e1 h1').1] at hg;exact ⟨ho1 g (h.ownhas id g h1' hg),h.nofar id g h1' hg⟩
theorem HR.same {w0 w w':World} {G:Gh} {hp:List (Nat×AB)} (h:HR w0 w G hp) (hb:Below w.heap.size w w'):HR w0 w' G hp∧Ext w G w' G:=by
 have hx:Ext w G w' G:=⟨hb.size,fun b _ hl=>hb.block b hl,fun _ h=>.inl h,Nat.le_refl _,⟨rfl,rfl⟩,fun _ _=>⟨Nat.le_refl _,rfl,fun _=>rfl,fun _=>rfl⟩⟩;refine ⟨⟨h.bs,h.below.trans (hb.mono h.below.size),fun b=>⟨fun ho=>?_,h.farown b⟩,fun id=>(h.blk id).step hx fun hid=>⟨rfl,rfl,fun g hg=>hb.block g (h.ownlt g (h.ownhas id g hid hg)).2⟩,h.dist,h.ownhas'⟩,hx⟩;have:=h.ownlt b ho;have:=hb.size;omega

section
variable {K:Kn} {n:Nat} {st:ASt} {a:Act} {w:World} {G:Gh}
theorem RelG.same (r:RelG K n st a w G) {w':World} (hb:Below w.heap.size w w'):RelG K n st a w' G :=
 ⟨r.nx,(r.hr.same hb).1,r.ext.trans (r.hr.same hb).2,r.size,r.defers,fun d=>(r.regs d).ext (r.hr.same hb).2⟩
theorem RelG.turn (r:RelG K n st a w G) {w':World} {G':Gh} {hp:List (Nat×AB)} (hnx:Nat) (hn:G'.nx=hnx) (hr:HR K.w0 w' G' hp) (hx:Ext w G w' G'):RelG K n ⟨st.regs,hp,hnx⟩ a w' G' :=
 ⟨hn,hr,r.ext.trans hx,r.size,r.defers,fun d=>(r.regs d).ext hx⟩
def Gh.add (G:Gh) (v:Value) (ln sz:Nat):Gh:=⟨fun id=>if id=G.nx then v else G.ρ id,fun b=>G.own b∨ownBlk v=some b,fun id=>if id=G.nx then ln else G.ln id,fun id=>if id=G.nx then sz else G.sz id,G.nx+1,G.bs,G.far⟩
theorem Ext.add {w':World} (hb:Below w.heap.size w w') {v:Value} (hv:∀ g,ownBlk v=some g→w.heap.size≤g) (ln sz:Nat):Ext w G w' (G.add v ln sz):=by
 refine ⟨hb.size,fun b _ hl=>hb.block b hl,fun b h=>h.imp id (hv b),Nat.le_succ _,⟨rfl,rfl⟩,fun id hid=>?_⟩;have hne:id≠G.nx:=by omega
 simp [Gh.add,hne]
theorem RelG.new (r:RelG K n st a w G) {w':World} (hb:Below w.heap.size w w') {v:Value} {ln sz:Nat} {b:AB} (hv:∀ g,ownBlk v=some g→w.heap.size≤g∧g<w'.heap.size) (hok:ABok K.w0 w' (G.add v ln sz) st.nx b) :
  RelG K n (st.hnew b) a w' (G.add v ln sz):=by
 have hx:Ext w G w' (G.add v ln sz):=Ext.add hb (fun g hg=>(hv g hg).1) ln sz;have hnx:=r.nx;refine r.turn (st.nx+1) (by show G.nx+1=_;rw [hnx]) ?_ hx;rw [←hnx] at hok ⊢;refine r.hr.update hx (fun _ h=>.inl h) (hb.mono r.hr.below.size) G.nx b (fun id hne hid=>?_) (fun id h1 h2=>?_) (fun g hg=>?_) hok (fun id g h1 h2 hg he=>?_) (fun g _ hg=>?_)
 ·refine ⟨by simp [Gh.add,hne],by simp [Gh.add,hne],fun g hg=>hb.block g (r.hr.ownlt g (r.hr.ownhas id g hid hg)).2⟩
 ·have:id<G.nx+1:=h1;omega
 ·rcases hg with hg | hg
  ·have:=r.hr.ownlt g hg;have:=hb.size;omega
  ·have:=hv g hg;have:=r.hr.below.size;omega
 ·simp only [Gh.add,if_true] at hg;have h3:=r.hr.ownlt g (r.hr.ownhas id g h1 he);have h4:=hv g hg;omega
 ·simp only [Gh.add,if_true] at hg;exact ⟨.inr hg,r.hr.newFar (hv g hg).1⟩
theorem below_alloc' (w:World) (o:Obj):Below w.heap.size w (w.alloc o):=(Below.refl _ _).alloc (Nat.le_refl _) o
theorem below_drew' (w:World):Below w.heap.size w w.drew:=(Below.refl _ _).drew
structure CellsV (w:World) (G:Gh) (cs:List AV) (vs:Array Value):Prop where
 size:vs.size=cs.length
 one:∀ (i:Nat) (v:Value),vs[i]?=some v→v.oneCell'=true
 rel:∀ (i:Nat) (a:AV) (v:Value),cs[i]?=some a→vs[i]?=some v→RelV w G a v
theorem RelG.newBox (r:RelG K n st a w G) {cs:List AV} {vs:Array Value} (hc:CellsV w G cs vs) (e:TypeId) :
  RelG K n (st.hnew (.box cs e)) a (w.alloc (.cells vs e)) (G.add (.pointer (some ⟨w.heap.size,0,none⟩)) 0 0)∧RelV (w.alloc (.cells vs e)) (G.add (.pointer (some ⟨w.heap.size,0,none⟩)) 0 0) (.box st.nx 0) (.pointer (some ⟨w.heap.size,0,none⟩)):=by
 have hx:Ext w G (w.alloc (.cells vs e)) (G.add (.pointer (some ⟨w.heap.size,0,none⟩)) 0 0):=Ext.add (below_alloc' _ _) (fun g hg=>by simp [ownBlk] at hg;omega) 0 0;have hnx:=r.nx;have hv:(if st.nx=G.nx then (Value.pointer (some ⟨w.heap.size,0,none⟩)) else G.ρ st.nx)=.pointer (some ⟨w.heap.size,0,none⟩):=if_pos hnx.symm;refine ⟨r.new (below_alloc' _ _) (fun g hg=>by simp [ownBlk] at hg;simp;omega) ⟨?_,?_,w.heap.size,vs,hv,heap_alloc_new w _,hc.size,fun i x hi=>?_⟩,.box _ _ _ ?_ ?_ hv⟩
 ·show st.nx<G.nx+1;omega
 ·show (if st.nx=G.nx then 0 else G.sz st.nx)=0;rw [if_pos hnx.symm]
 ·have hl:i<vs.size:=by rw [hc.size];exact (List.getElem?_eq_some_iff.1 hi).1
  have hvi:vs[i]?=some vs[i]:=Array.getElem?_eq_getElem hl;exact ⟨vs[i],hvi,hc.one i _ hvi,(hc.rel i x _ hi hvi).ext hx⟩
 ·show st.nx<G.nx+1;omega
 ·show (if st.nx=G.nx then 0 else G.sz st.nx)=0;rw [if_pos hnx.symm]

theorem RelG.boxAt (r:RelG K n st a w G) {id:Nat} {cs:List AV} {e:TypeId} (hb:look .dead st.heap id=.box cs e) {off:Nat} {v:Value} (hv:RelV w G (.box id off) v) :
  ∃ g vs,v=.pointer (some ⟨g,off,none⟩)∧G.ρ id=.pointer (some ⟨g,0,none⟩)∧w.heap[g]?=some (.cells vs e (0,0))∧vs.size=cs.length∧(∀ (i:Nat) (a:AV),cs[i]?=some a→∃ u,vs[i]?=some u∧u.oneCell'=true∧RelV w G a u):=by
 have hk:=r.hr.blk id;rw [hb] at hk;obtain ⟨_,_,g,vs,h3,h4,h5,h6⟩:=hk
 cases hv with
 | dat h=>cases h
 | box _ _ g' hid hs h =>
  rw [h3] at h;injection h with h
  injection h with h
  injection h with h _ _
  subst h;exact ⟨g,vs,rfl,h3,h4,h5,h6⟩
theorem cell_of_cells {w:World} {g i:Nat} {vs:Array Value} {e:TypeId} {f:Nat×Nat} {u:Value} (h:w.heap[g]?=some (.cells vs e f)) (hu:vs[i]?=some u):w.cell? ⟨g,i,none⟩=some u:=by
 simp [World.cell?,h,hu]
theorem unfrozen_of_cells {w:World} {g i:Nat} {vs:Array Value} {e:TypeId} (h:w.heap[g]?=some (.cells vs e (0,0))):w.frozen? ⟨g,i,none⟩=false:=by
 simp [World.frozen?,h]
theorem heap_setCell_self {w:World} {g i:Nat} {vs:Array Value} {e:TypeId} (h:w.heap[g]?=some (.cells vs e (0,0))) (u:Value):(w.setCell ⟨g,i,none⟩ u).heap[g]?=some (.cells (vs.setIfInBounds i u) e (0,0)):=by
 simp [World.setCell,Array.getElem?_modify,h]
theorem RelG.setBox (r:RelG K n st a w G) {id:Nat} {cs:List AV} {e:TypeId} (hb:look .dead st.heap id=.box cs e) {off g:Nat} (hρ:G.ρ id=.pointer (some ⟨g,0,none⟩)) {x:AV} {u:Value} (hu:RelV w G x u) (h1:u.oneCell'=true) :
  RelG K n (st.hset id (.box (cs.set off x) e)) a (w.setCell ⟨g,off,none⟩ u) G:=by
 have hk:=r.hr.blk id;rw [hb] at hk;obtain ⟨hid,hs,g',vs,h3,h4,h5,h6⟩:=hk;rw [h3] at hρ;injection hρ with hρ
 injection hρ with hρ
 injection hρ with hρ _ _
 subst hρ;have hog:G.own g':=r.hr.ownhas id g' hid (by rw [h3];rfl);have hnf:¬ G.far g':=r.hr.nofar id g' hid (by rw [h3];rfl);have hlt:=r.hr.ownlt g' hog;have hb0:Below K.w0.heap.size w (w.setCell ⟨g',off,none⟩ u):=(Below.refl _ _).setCell hlt.1 u;have hx:Ext w G (w.setCell ⟨g',off,none⟩ u) G:=⟨hb0.size,fun b ho hl=>Below.heap_setCell _ _ _ _ (fun e=>ho.elim (fun ho=>ho (e ▸ hog)) (fun hf=>hnf (by have e':b=g':=e;rw [←e'];exact hf))),fun _ h=>.inl h,Nat.le_refl _,⟨rfl,rfl⟩,fun _ _=>⟨Nat.le_refl _,rfl,fun _=>rfl,fun _=>rfl⟩⟩;refine r.turn st.nx r.nx (r.hr.update hx (fun _ h=>h) hb0 id _ (fun id' hne hid'=>⟨rfl,rfl,fun gg hgg=>Below.heap_setCell _ _ _ _ ?_⟩) (fun id' h _=>h) (fun b ho=>?_) ⟨hid,hs,g',vs.setIfInBounds off u,h3,heap_setCell_self h4 u,by simpa using h5,fun i y hi=>?_⟩ (fun id' gg hid' hne hg=>?_) (fun gg _ hg=>?_)) hx
 ·intro e1;have e1:gg=g':=e1;subst e1;exact r.hr.dist id' id gg hid' hid hne hgg (by rw [h3];rfl)
 ·have:=r.hr.ownlt b ho;have:=hb0.size;omega
 ·rw [List.getElem?_set] at hi;by_cases e1:off=i
  ·subst e1;by_cases hl:off<cs.length
   ·rw [if_pos rfl,if_pos hl] at hi;injection hi with hi
    subst hi;exact ⟨u,by simp [h5,hl],h1,hu.ext hx⟩
   ·rw [if_pos rfl,if_neg hl] at hi;cases hi
  ·rw [if_neg e1] at hi;obtain ⟨v,g1,g2,g3⟩:=h6 i y hi;exact ⟨v,by rw [Array.getElem?_setIfInBounds,if_neg e1];exact g1,g2,g3.ext hx⟩
 ·exact r.hr.dist id id' gg hid hid' (fun e=>hne e.symm) hg
 ·exact r.hr.ownhas' id gg hid hg
end
end Go.Proofs.Ytljebnobajmjnaa
/- Symbolic walks: the operations that leave memory alone. No program in sight. -/
namespace Go.Proofs.Ytljebnobajmjnaa
open Go Go.RowKit

theorem RelV.tup' {w:World} {G:Gh} {vs:List AV} {v:Value} (h:RelV w G (.tup vs) v):∃ us,v=.tuple us∧us.size=vs.length∧∀ (i:Nat) (a:AV) (u:Value),vs[i]?=some a→us[i]?=some u→RelV w G a u:=by
 cases h with
 | dat h=>cases h
 | tup _ us hl h=>exact ⟨us,rfl,hl,h⟩
theorem RelV.agg' {w:World} {G:Gh} {vs:List AV} {v:Value} (h:RelV w G (.agg vs) v):∃ us,v=.agg us∧us.size=vs.length∧∀ (i:Nat) (a:AV) (u:Value),vs[i]?=some a→us[i]?=some u→RelV w G a u:=by
 cases h with
 | dat h=>cases h
 | agg _ us hl h=>exact ⟨us,rfl,hl,h⟩
section
variable {P:Program} {n:Nat} {st:ASt}
structure OpR (P:Program) (n:Nat) (o:Oper) (st:ASt) (x:AV):Prop where
 dst:dok o.dst n=true
 out:∀ K a w G,RelG K n st a w G→∃ v,(∀ w',Below w.heap.size w w'→(execOp a.eval o).run P w'=.ok (.value v) w')∧RelV w G x v
theorem OpR.opv {o:Oper} {x:AV} (h:OpR P n o st x):OpV P n o st (st.put o.dst x):=.mk fun K a w ⟨G,r⟩=>by
 obtain ⟨v,h1,h2⟩:=h.out K a w G r;exact ⟨v,w,.inl (h1 w (Below.refl _ _)),G,r.put (dok_lt h.dst) h2⟩
variable {d:Option Nat} {ty:TypeId} {ps:String} {af:Array Edge} {g:Option (Nat×Bool)} {x y:Operand} {k:IntKind} {m q r:Int} {t t':TypeId}
theorem op_move {v:AV} (hx:st.ev x=v) (hd:dok d n=true):OpR P n ⟨d,.move x,ty,ps,af,g⟩ st v :=
 .mk hd fun _ a _ _ r=>⟨a.eval x,fun _ _=>rfl,hx ▸ r.ev x⟩
theorem op_assign {v:AV} (hx:st.ev x=v) (hd:dok d n=true):OpR P n ⟨d,.assign x,ty,ps,af,g⟩ st v :=
 .mk hd fun _ a _ _ r=>⟨a.eval x,fun _ _=>rfl,hx ▸ r.ev x⟩
theorem op_pick {c:Operand} {b:Bool} {v:AV} (hc:st.ev c=.bool b) (hv:(bif b then st.ev x else st.ev y)=v) (hd:dok d n=true):OpR P n ⟨d,.pick c x y,ty,ps,af,g⟩ st v :=
 .mk hd fun K a w G r=>by
  subst hv;have e:=r.ev c;rw [hc] at e;have e:=e.bool';refine ⟨bif b then a.eval x else a.eval y,?_,?_⟩
  ·intro w' _;simp only [execOp,e,asBool,Sem.run_bind,Sem.run_pure,Result.andThen_ok]
   cases b <;> rfl
  ·cases b
   ·exact r.ev y
   ·exact r.ev x
theorem ints2 {K:Kn} {a:Act} {w:World} {G:Gh} (r:RelG K n st a w G) {k':IntKind} {x y:Operand} {m q:Int} (hx:st.ev x=.int k m) (hy:st.ev y=.int k' q):a.eval x=.int k m∧a.eval y=.int k' q:=by
 have e1:=r.ev x;have e2:=r.ev y;rw [hx] at e1;rw [hy] at e2;exact ⟨e1.int',e2.int'⟩
theorem op_add (hx:st.ev x=.int k m) (hy:st.ev y=.int k q) (hr:k.wrap (m+q)=r) (hd:dok d n=true):OpR P n ⟨d,.binOp .add t x y t',ty,ps,af,g⟩ st (.int k r) :=
 .mk hd fun K a w G rr=>by
  obtain ⟨e1,e2⟩:=ints2 rr hx hy;exact ⟨_,fun w' _=>by simp [execOp,e1,e2,eqGuard_add,binOp,Op.intArith,hr],rI _ _ _ _⟩
theorem op_sub (hx:st.ev x=.int k m) (hy:st.ev y=.int k q) (hr:k.wrap (m-q)=r) (hd:dok d n=true):OpR P n ⟨d,.binOp .sub t x y t',ty,ps,af,g⟩ st (.int k r) :=
 .mk hd fun K a w G rr=>by
  obtain ⟨e1,e2⟩:=ints2 rr hx hy;exact ⟨_,fun w' _=>by simp [execOp,e1,e2,eqGuard_sub,binOp,Op.intArith,hr],rI _ _ _ _⟩
theorem op_mul (hx:st.ev x=.int k m) (hy:st.ev y=.int k q) (hr:k.wrap (m*q)=r) (hd:dok d n=true):OpR P n ⟨d,.binOp .mul t x y t',ty,ps,af,g⟩ st (.int k r) :=
 .mk hd fun K a w G rr=>by
  obtain ⟨e1,e2⟩:=ints2 rr hx hy;exact ⟨_,fun w' _=>by simp [execOp,e1,e2,eqGuard_mul,binOp,Op.intArith,hr],rI _ _ _ _⟩
theorem op_quo (hx:st.ev x=.int k m) (hy:st.ev y=.int k q) (h0:q≠0) (hr:k.wrap (m.tdiv q)=r) (hd:dok d n=true):OpR P n ⟨d,.binOp .quo t x y t',ty,ps,af,g⟩ st (.int k r) :=
 .mk hd fun K a w G rr=>by
  obtain ⟨e1,e2⟩:=ints2 rr hx hy;exact ⟨_,fun w' _=>by simp [execOp,e1,e2,eqGuard_quo,binOp,Op.intDiv,h0,hr],rI _ _ _ _⟩
theorem op_rem (hx:st.ev x=.int k m) (hy:st.ev y=.int k q) (h0:q≠0) (hd:dok d n=true):OpR P n ⟨d,.binOp .rem t x y t',ty,ps,af,g⟩ st (.int k (m.tmod q)) :=
 .mk hd fun K a w G rr=>by
  obtain ⟨e1,e2⟩:=ints2 rr hx hy;exact ⟨_,fun w' _=>by simp [execOp,e1,e2,eqGuard_rem,binOp,Op.intDiv,h0],rI _ _ _ _⟩
theorem op_bits {op:BinOp} (ho:op=.and∨op=.or∨op=.xor∨op=.andNot) (hx:st.ev x=.int k m) (hy:st.ev y=.int k q) (hr:bits op k m q=r) (hd:dok d n=true):OpR P n ⟨d,.binOp op t x y t',ty,ps,af,g⟩ st (.int k r) :=
 .mk hd fun K a w G rr=>by
  obtain ⟨e1,e2⟩:=ints2 rr hx hy;refine ⟨_,?_,rI _ _ _ _⟩;intro w' _;rcases ho with rfl | rfl | rfl | rfl
  ·simp [execOp,e1,e2,eqGuard_and,binOp,intBits_and,hr]
  ·simp [execOp,e1,e2,eqGuard_or,binOp,intBits_or,hr]
  ·simp [execOp,e1,e2,eqGuard_xor,binOp,intBits_xor,hr]
  ·simp [execOp,e1,e2,show eqGuard .andNot t x y (.int k m) (.int k q)=pure () from rfl,binOp,intBits_andNot,hr]
theorem op_shl {k':IntKind} (hx:st.ev x=.int k m) (hy:st.ev y=.int k' q) (h0:0≤q) (h1:q≤k.bits) (hr:k.wrap (m*2 ^ q.toNat)=r) (hd:dok d n=true):OpR P n ⟨d,.binOp .shl t x y t',ty,ps,af,g⟩ st (.int k r) :=
 .mk hd fun K a w G rr=>by
  obtain ⟨e1,e2⟩:=ints2 rr hx hy;exact ⟨_,fun w' _=>by simp [execOp,e1,e2,eqGuard_shl,binOp,shift_shl k k' m q h0 h1,hr],rI _ _ _ _⟩
theorem op_shr {k':IntKind} (hx:st.ev x=.int k m) (hy:st.ev y=.int k' q) (h0:0≤q) (h1:q≤k.bits) (hd:dok d n=true):OpR P n ⟨d,.binOp .shr t x y t',ty,ps,af,g⟩ st (.int k (m / 2 ^ q.toNat)) :=
 .mk hd fun K a w G rr=>by
  obtain ⟨e1,e2⟩:=ints2 rr hx hy;exact ⟨_,fun w' _=>by simp [execOp,e1,e2,eqGuard_shr,binOp,shift_shr k k' m q h0 h1],rI _ _ _ _⟩
theorem eqGuard_ints (op:BinOp) (a b:Int) (w:World):(eqGuard op t x y (.int k a) (.int k b)).run P w=.ok () w:=by
 cases op <;> simp [eqGuard]
theorem op_cmp {op:BinOp} {b:Bool} (hx:st.ev x=.int k m) (hy:st.ev y=.int k q) (hb:(Op.intCmp op m q)=pure (.bool b)) (ho:(match op with | .eql | .neq | .lss | .leq | .gtr | .geq=>true | _=>false)=true) (hd:dok d n=true):OpR P n ⟨d,.binOp op t x y t',ty,ps,af,g⟩ st (.bool b) :=
 .mk hd fun K a w G rr=>by
  obtain ⟨e1,e2⟩:=ints2 rr hx hy;refine ⟨_,?_,rB _ _ _⟩;intro w' _
  cases op <;> first | (simp at ho;done) | simp [execOp,e1,e2,eqGuard_ints,binOp,hb]
theorem op_lss (hx:st.ev x=.int k m) (hy:st.ev y=.int k q) (hd:dok d n=true):OpR P n ⟨d,.binOp .lss t x y t',ty,ps,af,g⟩ st (.bool (decide (m<q))):=op_cmp hx hy rfl rfl hd
theorem op_leq (hx:st.ev x=.int k m) (hy:st.ev y=.int k q) (hd:dok d n=true):OpR P n ⟨d,.binOp .leq t x y t',ty,ps,af,g⟩ st (.bool (decide (m≤q))):=op_cmp hx hy rfl rfl hd
theorem op_gtr (hx:st.ev x=.int k m) (hy:st.ev y=.int k q) (hd:dok d n=true):OpR P n ⟨d,.binOp .gtr t x y t',ty,ps,af,g⟩ st (.bool (decide (q<m))):=op_cmp hx hy rfl rfl hd
theorem op_geq (hx:st.ev x=.int k m) (hy:st.ev y=.int k q) (hd:dok d n=true):OpR P n ⟨d,.binOp .geq t x y t',ty,ps,af,g⟩ st (.bool (decide (q≤m))):=op_cmp hx hy rfl rfl hd
theorem op_eql (hx:st.ev x=.int k m) (hy:st.ev y=.int k q) (hd:dok d n=true):OpR P n ⟨d,.binOp .eql t x y t',ty,ps,af,g⟩ st (.bool (decide (m=q))) :=
 op_cmp hx hy (by rw [show decide (m=q)=(m==q) by by_cases h:m=q <;> simp [h]];rfl) rfl hd
theorem op_neq (hx:st.ev x=.int k m) (hy:st.ev y=.int k q) (hd:dok d n=true):OpR P n ⟨d,.binOp .neq t x y t',ty,ps,af,g⟩ st (.bool (decide (m≠q))) :=
 op_cmp hx hy (by rw [show decide (m≠q)=(m != q) by by_cases h:m=q <;> simp [h]];rfl) rfl hd
theorem bools2 {K:Kn} {a:Act} {w:World} {G:Gh} (r:RelG K n st a w G) {x y:Operand} {b c:Bool} (hx:st.ev x=.bool b) (hy:st.ev y=.bool c):a.eval x=.bool b∧a.eval y=.bool c:=by
 have e1:=r.ev x;have e2:=r.ev y;rw [hx] at e1;rw [hy] at e2;exact ⟨e1.bool',e2.bool'⟩
theorem op_beql {b c:Bool} (hx:st.ev x=.bool b) (hy:st.ev y=.bool c) (hT:P.underlying t=some .bool) (hd:dok d n=true):OpR P n ⟨d,.binOp .eql t x y t',ty,ps,af,g⟩ st (.bool (b==c)) :=
 .mk hd fun K a w G rr=>by
  obtain ⟨e1,e2⟩:=bools2 rr hx hy;exact ⟨_,fun w' _=>by simp [execOp,e1,e2,eqGuard,run_eql_bool w' t b c hT],rB _ _ _⟩
theorem op_bneq {b c:Bool} (hx:st.ev x=.bool b) (hy:st.ev y=.bool c) (hT:P.underlying t=some .bool) (hd:dok d n=true):OpR P n ⟨d,.binOp .neq t x y t',ty,ps,af,g⟩ st (.bool (b != c)) :=
 .mk hd fun K a w G rr=>by
  obtain ⟨e1,e2⟩:=bools2 rr hx hy;refine ⟨_,?_,rB _ _ _⟩;intro w' _
  have h1:(binOp .neq t (.bool b) (.bool c)).run P w'=.ok (.bool (b != c)) w':=by
   rw [show binOp .neq t (.bool b) (.bool c)=(do pure (.bool (!(←Op.equalIn (9999+1) t (.bool b) (.bool c))))) from rfl];rw [Sem.run_bind,run_equalIn_bool' w' 9999 t b c hT]
   cases b <;> cases c <;> rfl
  simp [execOp,e1,e2,eqGuard,h1]
theorem op_not {b:Bool} (hx:st.ev x=.bool b) (hd:dok d n=true):OpR P n ⟨d,.unOp .not t x,ty,ps,af,g⟩ st (.bool (!b)) :=
 .mk hd fun K a w G rr=>by
  have e1:=rr.ev x;rw [hx] at e1;have e1:=e1.bool';exact ⟨_,fun w' _=>by simp [execOp,e1,Op.unary],rB _ _ _⟩
theorem op_neg (hx:st.ev x=.int k m) (hr:k.wrap (-m)=r) (hd:dok d n=true):OpR P n ⟨d,.unOp .neg t x,ty,ps,af,g⟩ st (.int k r) :=
 .mk hd fun K a w G rr=>by
  have e1:=rr.ev x;rw [hx] at e1;have e1:=e1.int';exact ⟨_,fun w' _=>by simp [execOp,e1,Op.unary,Op.intArith,hr],rI _ _ _ _⟩
theorem op_conv {k':IntKind} {s:TypeDesc} (hx:st.ev x=.int k m) (hs:P.underlying t=some s) (hT:P.underlying t'=some (.int k')) (hr:k'.wrap m=r) (hd:dok d n=true):OpR P n ⟨d,.convert t t' x,ty,ps,af,g⟩ st (.int k' r) :=
 .mk hd fun K a w G rr=>by
  have e1:=rr.ev x;rw [hx] at e1;have e1:=e1.int';exact ⟨_,fun w' _=>by simp [execOp,e1,convert,run_underlying hs,run_underlying hT,Conv.intToInt,hr],rI _ _ _ _⟩
theorem op_extract {i:Nat} {vs:List AV} {v:AV} (hx:st.ev x=.tup vs) (hi:vs[i]?=some v) (hd:dok d n=true):OpR P n ⟨d,.extract x i,ty,ps,af,g⟩ st v :=
 .mk hd fun K a w G rr=>by
  have e1:=rr.ev x;rw [hx] at e1;obtain ⟨us,e2,hl,h⟩:=e1.tup';have hlt:i<us.size:=by rw [hl];exact (List.getElem?_eq_some_iff.1 hi).1
  have hui:us[i]?=some us[i]:=Array.getElem?_eq_getElem hlt;exact ⟨us[i],fun w' _=>by simp [execOp,e2,Instr.extract,hlt],h i v us[i] hi hui⟩
end
end Go.Proofs.Ytljebnobajmjnaa
/- Symbolic walks: boxes: alloc,box,build,field,load,store. No program in sight. -/
namespace Go.Proofs.Ytljebnobajmjnaa
open Go Go.RowKit

def AV.one:AV→Bool
 | .any | .und | .agg _ | .tup _=>false
 | _=>true
theorem RelV.one {w:World} {G:Gh} {a:AV} {v:Value} (h:RelV w G a v) (h1:a.one=true):v.oneCell'=true:=by
 cases h with
 | dat h=>cases h <;> first | rfl | (simp [AV.one] at h1)
 | box=>rfl
 | elt _ _ _ _ _ _ _ _ _ hv=>obtain ⟨p,rfl⟩:=hv;rfl
 | osl _ _ _ _ _ _ hv=>obtain ⟨A,c,rfl⟩:=hv;rfl
 | vsl _ _ _ _ _ _ _ _ _ hv=>obtain ⟨A,c,rfl⟩:=hv;rfl
 | peek=>rfl
 | agg=>simp [AV.one] at h1
 | tup=>simp [AV.one] at h1
 | fn=>rfl
def AV.cells:AV→List AV
 | .agg cs=>cs
 | a=>[a]
def allOne:List AV→Bool
 | []=>true
 | a::l=>a.one&&allOne l
theorem allOne_at {cs:List AV} (h:allOne cs=true) {i:Nat} {a:AV} (hi:cs[i]?=some a):a.one=true:=by
 induction cs generalizing i with
 | nil=>simp at hi
 | cons b l ih =>
  rw [allOne,Bool.and_eq_true] at h
  cases i with
  | zero=>simp at hi;subst hi;exact h.1
  | succ i=>exact ih h.2 (by simpa using hi)
theorem one_cells {v:Value} (h:v.oneCell'=true):v.cells=#[v]:=by
 cases v <;> first | rfl | (simp [Value.oneCell'] at h)
theorem RelV.cellsV {w:World} {G:Gh} {x:AV} {v:Value} (h:RelV w G x v) (h1:allOne x.cells=true):CellsV w G x.cells v.cells:=by
 have key:∀ {x:AV},x.cells=[x]→RelV w G x v→allOne x.cells=true→CellsV w G x.cells v.cells:=by
  intro x hx h h1;rw [hx] at h1 ⊢;have h2:x.one=true:=by simpa [allOne] using h1
  rw [one_cells (h.one h2)];refine ⟨rfl,fun i u hu=>?_,fun i a u ha hu=>?_⟩
  ·cases i with
   | zero=>simp at hu;subst hu;exact h.one h2
   | succ i=>simp at hu
  ·cases i with
   | zero=>simp at hu ha;subst hu;subst ha;exact h
   | succ i=>simp at hu
 cases x with
 | agg cs =>
  obtain ⟨us,rfl,hl,hr⟩:=h.agg';refine ⟨hl,fun i u hu=>?_,hr⟩;have hlt:i<cs.length:=by rw [←hl];exact (Array.getElem?_eq_some_iff.1 hu).1
  have ha:cs[i]?=some cs[i]:=List.getElem?_eq_getElem hlt;exact (hr i _ u ha hu).one (allOne_at h1 ha)
 | _=>exact key rfl h h1

def tyI (P:Program) (t:TypeId):Option (Option Value×Nat×Nat):=(P.info? t).map fun i=>(i.zero,i.size,i.bytes)
def aggB:TypeDesc→Bool
 | .struct _ | .array ..=>true
 | _=>false
def fieldF (P:Program) (f:Field):Option (Nat×Nat×Bool):=match P.info? f.type,P.underlying f.type with
 | some i,some D=>some (f.offset,i.size,aggB D)
 | _,_=>none
def fieldsP (P:Program) (t:TypeId):Option (List (Nat×Nat×Bool)) :=
 match P.underlying t with
 | some (.struct fs)=>fs.toList.mapM (fieldF P)
 | _=>none
section
variable {P:Program}
theorem tyI_info {t:TypeId} {z:Option Value} {s b:Nat} (h:tyI P t=some (z,s,b)):∃ i,P.info? t=some i∧i.zero=z∧i.size=s∧i.bytes=b:=by
 obtain ⟨i,hi,e⟩:=Option.map_eq_some_iff.1 h;simp only [Prod.mk.injEq] at e;exact ⟨i,hi,e.1,e.2.1,e.2.2⟩
theorem run_sizeOf' {t:TypeId} {z:Option Value} {s b:Nat} (h:tyI P t=some (z,s,b)) (w:World):(sizeOf t).run P w=.ok s w:=by
 obtain ⟨i,hi,_,h2,_⟩:=tyI_info h;simp [sizeOf,typeInfo,hi,h2]
theorem run_zeroValue' {t:TypeId} {z:Value} {s b:Nat} (h:tyI P t=some (some z,s,b)) (w:World):(zeroValue t).run P w=.ok z w:=by
 obtain ⟨i,hi,h1,_,_⟩:=tyI_info h;simp [zeroValue,typeInfo,hi,h1]
theorem run_isAgg' {t:TypeId} {D:TypeDesc} (h:P.underlying t=some D) (w:World):(isAgg t).run P w=.ok (aggB D) w:=by
 simp only [isAgg,Sem.run_bind,run_underlying h,Result.andThen_ok]
 cases D <;> rfl
theorem fieldsP_at {t:TypeId} {fl:List (Nat×Nat×Bool)} (h:fieldsP P t=some fl) {f off s:Nat} {b:Bool} (hf:fl[f]?=some (off,s,b)) :
  ∃ fs fd i D,P.underlying t=some (.struct fs)∧fs[f]?=some fd∧P.info? fd.type=some i∧P.underlying fd.type=some D∧fd.offset=off∧i.size=s∧aggB D=b:=by
 unfold fieldsP at h;split at h
 ·rename_i fs hfs;refine ⟨fs,?_⟩
  have key:∀ (l:List Field) (fl:List (Nat×Nat×Bool)) (f:Nat),(l.mapM (fieldF P))=some fl→fl[f]?=some (off,s,b)→∃ fd i D,l[f]?=some fd∧P.info? fd.type=some i∧P.underlying fd.type=some D∧fd.offset=off∧i.size=s∧aggB D=b:=by
   intro l
   induction l with
   | nil=>intro fl f h hf;simp at h;subst h;simp at hf
   | cons x l ih =>
    intro fl f h hf;rw [List.mapM_cons] at h
    cases hi:P.info? x.type with
    | none=>simp [fieldF,hi] at h
    | some i =>
     cases hD:P.underlying x.type with
     | none=>simp [fieldF,hi,hD] at h
     | some D =>
      simp only [fieldF,hi,hD] at h
      cases hr:(l.mapM (fieldF P)) with
      | none=>rw [hr] at h;simp at h
      | some r =>
       rw [hr] at h;simp at h;subst h
       cases f with
       | zero =>
        simp at hf;exact ⟨x,i,D,rfl,hi,hD,hf.1,hf.2.1,hf.2.2⟩
       | succ f =>
        obtain ⟨fd,i',D',h1,h2⟩:=ih r f hr (by simpa using hf);exact ⟨fd,i',D',by simpa using h1,h2⟩
  obtain ⟨fd,i,D,h1,h2⟩:=key fs.toList fl f h hf;exact ⟨fd,i,D,hfs,by simpa using h1,h2⟩
 ·cases h
end

section
variable {P:Program} {n:Nat} {st:ASt} {d:Option Nat} {ty:TypeId} {ps:String} {af:Array Edge} {g:Option (Nat×Bool)} {x y:Operand} {t t':TypeId}
theorem cellsV_const (w:World) (G:Gh) {vs:Array Value} (h:allOne (vs.toList.map avOf)=true):CellsV w G (vs.toList.map avOf) vs:=by
 have hr:∀ (i:Nat) (a:AV) (v:Value),(vs.toList.map avOf)[i]?=some a→vs[i]?=some v→a=avOf v:=by
  intro i a v ha hv;rw [List.getElem?_map,Array.getElem?_toList,hv] at ha;simpa using ha.symm
 refine ⟨by simp,fun i v hv=>?_,fun i a v ha hv=>by rw [hr i a v ha hv];exact avOf_rel w G v⟩;have ha:(vs.toList.map avOf)[i]?=some (avOf v):=by rw [List.getElem?_map,Array.getElem?_toList,hv];rfl
 exact (avOf_rel w G v).one (allOne_at h ha)
theorem op_alloc {e:TypeId} {z:Value} {s b:Nat} {cs:List AV} (hz:tyI P e=some (some z,s,b)) (hcs:z.cells.toList.map avOf=cs) (h1:allOne cs=true) (hd:dok d n=true) :
  OpV P n ⟨d,.alloc e,ty,ps,af,g⟩ st ((st.hnew (.box cs e)).put d (.box st.nx 0)):=.mk fun K a w ⟨G,r⟩=>by
 subst hcs;obtain ⟨r2,hv⟩:=r.newBox (cellsV_const w G h1) e;refine ⟨_,_,.inl ?_,_,r2.put (dok_lt hd) hv⟩;simp [execOp,Instr.alloc,run_zeroValue' hz,newVar,newRow]
theorem op_box {e:TypeId} {c:List AV} (hc:(st.ev x).cells=c) (h1:allOne c=true) (hd:dok d n=true) :
  OpV P n ⟨d,.box e x,ty,ps,af,g⟩ st ((st.hnew (.box c e)).put d (.box st.nx 0)):=.mk fun K a w ⟨G,r⟩=>by
 subst hc;obtain ⟨r2,hv⟩:=r.newBox ((r.ev x).cellsV h1) e;refine ⟨_,_,.inl ?_,_,r2.put (dok_lt hd) hv⟩;simp [execOp,Instr.box,newVar,newRow]

theorem run_fieldAt {fl:List (Nat×Nat×Bool)} {f off s:Nat} {b:Bool} (hF:fieldsP P t=some fl) (hf:fl[f]?=some (off,s,b)) (hs:s≠0) (p:Addr) (w:World):(Instr.fieldAt t (.pointer (some p)) f).run P w=.ok (.pointer (some (p.add off))) w:=by
 obtain ⟨fs,fd,i,D,h1,h2,h3,_,h4,h5,_⟩:=fieldsP_at hF hf;have hs':(sizeOf fd.type).run P w=.ok s w:=by simp [sizeOf,typeInfo,h3,h5]
 simp [Instr.fieldAt,run_underlying h1,h2,Instr.sureAddr,fieldPlace,hs',hs,h4]
theorem addr_add (b o k:Nat):(⟨b,o,none⟩:Addr).add k=⟨b,o+k,none⟩:=by unfold Addr.add;split <;> simp_all
theorem op_fieldAddr_box {fl:List (Nat×Nat×Bool)} {f off s:Nat} {b:Bool} {id o:Nat} (hx:st.ev x=.box id o) (hF:fieldsP P t=some fl) (hf:fl[f]?=some (off,s,b)) (hs:s≠0) (hd:dok d n=true) :
  OpR P n ⟨d,.fieldAddr t x f,ty,ps,af,g⟩ st (.box id (o+off)) :=
 .mk hd fun K a w G rr=>by
  have e1:=rr.ev x;rw [hx] at e1;generalize he:a.eval x=v at e1
  cases e1 with
  | dat h=>cases h
  | box _ _ gg hid hs' h =>
   refine ⟨.pointer (some ⟨gg,o+off,none⟩),?_,.box _ _ _ hid hs' h⟩;intro w' _;simp [execOp,he,run_fieldAt hF hf hs,addr_add]
theorem op_nilCheck_box {id o:Nat} (hx:st.ev x=.box id o) (hd:dok d n=true):OpR P n ⟨d,.nilCheck x,ty,ps,af,g⟩ st (.box id o) :=
 .mk hd fun K a w G rr=>by
  have e1:=rr.ev x;rw [hx] at e1;generalize he:a.eval x=v at e1
  cases e1 with
  | dat h=>cases h
  | box _ _ gg hid hs' h =>
   refine ⟨.pointer (some ⟨gg,o,none⟩),?_,.box _ _ _ hid hs' h⟩;intro w' _;simp [execOp,he]
theorem op_nilCheck_peek {row:List AV} {o:Nat} (hx:st.ev x=.peek row o) (hd:dok d n=true):OpR P n ⟨d,.nilCheck x,ty,ps,af,g⟩ st (.peek row o) :=
 .mk hd fun K a w G rr=>by
  have e1:=rr.ev x;rw [hx] at e1;generalize he:a.eval x=v at e1
  cases e1 with
  | dat h=>cases h
  | peek _ _ b o' f hr hb h1 h2 =>
   refine ⟨.pointer (some ⟨b,o'+o,none⟩),?_,.peek _ _ _ _ f hr hb h1 h2⟩;intro w' _;simp [execOp,he]
theorem op_nilCheck_elt {id m i o:Nat} (hx:st.ev x=.elt id m i o) (hd:dok d n=true):OpR P n ⟨d,.nilCheck x,ty,ps,af,g⟩ st (.elt id m i o) :=
 .mk hd fun K a w G rr=>by
  have e1:=rr.ev x;rw [hx] at e1;generalize he:a.eval x=v at e1
  cases e1 with
  | dat h=>cases h
  | elt _ _ _ _ _ h1 hin h2 h3 h4 h5 =>
   obtain ⟨p,rfl⟩:=h4;refine ⟨.pointer (some p),?_,.elt _ _ _ _ _ h1 hin h2 h3 ⟨p,rfl⟩ h5⟩;intro w' _;simp [execOp,he]
theorem op_fieldAddr_peek {fl:List (Nat×Nat×Bool)} {f off s:Nat} {b:Bool} {row:List AV} {o:Nat} (hx:st.ev x=.peek row o) (hF:fieldsP P t=some fl) (hf:fl[f]?=some (off,s,b)) (hs:s≠0) (hd:dok d n=true) :
  OpR P n ⟨d,.fieldAddr t x f,ty,ps,af,g⟩ st (.peek row (o+off)) :=
 .mk hd fun K a w G rr=>by
  have e1:=rr.ev x;rw [hx] at e1;generalize he:a.eval x=v at e1
  cases e1 with
  | dat h=>cases h
  | peek _ _ bb oo ff hr hb h1 h2 =>
   refine ⟨.pointer (some ⟨bb,oo+(o+off),none⟩),?_,.peek row (o+off) bb oo ff hr hb h1 h2⟩;intro w' _;simp [execOp,he,run_fieldAt hF hf hs,addr_add,Nat.add_assoc]
theorem op_fieldAddr_elt {fl:List (Nat×Nat×Bool)} {f off s:Nat} {b:Bool} {id m i o:Nat} (hx:st.ev x=.elt id m i o) (hF:fieldsP P t=some fl) (hf:fl[f]?=some (off,s,b)) (hs:s≠0) (hm:(∃ sz rows e,look .dead st.heap id=.row sz rows e∧m=rows.length)) (hd:dok d n=true) :
  OpR P n ⟨d,.fieldAddr t x f,ty,ps,af,g⟩ st (.elt id m i (o+off)) :=
 .mk hd fun K a w G rr=>by
  have e1:=rr.ev x;rw [hx] at e1;generalize he:a.eval x=v at e1;obtain ⟨sz,rows,e,hb,hm⟩:=hm;have hk:=rr.hr.blk id;rw [hb] at hk
  cases e1 with
  | dat h=>cases h
  | elt _ _ _ _ _ hid hin hs' hn hv h =>
   obtain ⟨gg,c,e2,rfl⟩:=h (by rw [hk.2.2.2.1,hm]);refine ⟨.pointer (some ⟨gg,i*G.sz id+(o+off),none⟩),?_,.elt _ _ _ _ _ hid hin hs' hn ⟨_,rfl⟩ fun _=>⟨gg,c,e2,rfl⟩⟩;intro w' _;simp [execOp,he,run_fieldAt hF hf hs,addr_add,Nat.add_assoc]

def partA (cs:List AV) (off s:Nat) (agg:Bool):Option AV:=if agg then (if off+s≤cs.length then some (.agg ((cs.drop off).take s)) else none) else cs[off]?
theorem op_field {fl:List (Nat×Nat×Bool)} {f off s:Nat} {b:Bool} {cs:List AV} {v:AV} (hx:st.ev x=.agg cs) (hF:fieldsP P t=some fl) (hf:fl[f]?=some (off,s,b)) (hv:partA cs off s b=some v) (hd:dok d n=true) :
  OpR P n ⟨d,.field t x f,ty,ps,af,g⟩ st v :=
 .mk hd fun K a w G rr=>by
  have e1:=rr.ev x;rw [hx] at e1;obtain ⟨us,e2,hl,hr⟩:=e1.agg';obtain ⟨fs,fd,i,D,h1,h2,h3,h4,h5,h6,h7⟩:=fieldsP_at hF hf;have hsz:∀ w':World,(sizeOf fd.type).run P w'=.ok s w':=fun w'=>by simp [sizeOf,typeInfo,h3,h6]
  cases b with
  | true =>
   simp only [partA,if_true] at hv;split at hv
   ·rename_i hle;injection hv with hv
    subst hv;refine ⟨.agg (us.extract off (off+s)),?_,.agg _ _ (by simp;omega) fun i a u ha hu=>?_⟩
    ·simp [execOp,e2,Instr.field,run_underlying h1,h2,asAgg,part,run_isAgg' h4,h7,hsz,h5]
    ·rw [List.getElem?_take] at ha;split at ha
     ·rename_i hi;rw [List.getElem?_drop] at ha;rw [Array.getElem?_extract] at hu;split at hu
      ·exact hr _ a u ha hu
      ·cases hu
     ·cases ha
   ·cases hv
  | false =>
   simp only [partA,Bool.false_eq_true,if_false] at hv;have hlt:off<us.size:=by rw [hl];exact (List.getElem?_eq_some_iff.1 hv).1
   have hu:us[off]?=some us[off]:=Array.getElem?_eq_getElem hlt;refine ⟨us[off],?_,hr off v _ hv hu⟩;intro w' _;simp [execOp,e2,Instr.field,run_underlying h1,h2,asAgg,part,run_isAgg' h4,h7,h5,hlt]

theorem run_loadVar1 {D:TypeDesc} (hT:P.underlying t=some D) (hA:aggB D=false) {p:Addr} {v:Value} {w:World} (h:w.cell? p=some v):(loadVar t p).run P w=.ok v w:=by
 simp [loadVar,run_isAgg' hT,hA,h]
theorem run_loadVarN {D:TypeDesc} {z:Option Value} {s b:Nat} (hT:P.underlying t=some D) (hA:aggB D=true) (hI:tyI P t=some (z,s,b)) {bb o:Nat} {w:World} {f:Nat→Value} (h:∀ j,j<s→w.cell? ⟨bb,o+j,none⟩=some (f j)) :
  (loadVar t ⟨bb,o,none⟩).run P w=.ok (.agg ((List.range s).map f).toArray) w:=by
 simp [loadVar,run_isAgg' hT,hA,run_sizeOf' hI,run_loadCells w ⟨bb,o,none⟩ s f (by intro j hj;rw [addr_add];exact h j hj)]
theorem load_core {K:Kn} {a:Act} {w:World} {G:Gh} {D:TypeDesc} {z:Option Value} {s b:Nat} {cs:List AV} {off:Nat} {v:AV} {bb o:Nat} {f:Nat→Value} (hT:P.underlying t=some D) (hI:tyI P t=some (z,s,b)) (hv:partA cs off s (aggB D)=some v)
  (he:a.eval x=.pointer (some ⟨bb,o+off,none⟩)) (hc:∀ (j:Nat) (c:AV),cs[j]?=some c→w.cell? ⟨bb,o+j,none⟩=some (f j)) (hr:∀ (j:Nat) (c:AV),cs[j]?=some c→RelV w G c (f j)) (_:RelG K n st a w G) :
  ∃ u,(∀ w',Below w.heap.size w w'→(execOp a.eval ⟨d,.load t x,ty,ps,af,g⟩).run P w'=.ok (.value u) w')∧RelV w G v u:=by
 have hk:∀ {p:Addr} {u:Value} {w':World},Below w.heap.size w w'→w.cell? p=some u→w'.cell? p=some u:=fun hb h=>(hb.cell (cell_lt h)).trans h
 cases hA:aggB D with
 | true =>
  rw [hA] at hv;simp only [partA,if_true] at hv;split at hv
  ·rename_i hle;injection hv with hv
   subst hv
   have hcc:∀ j,j<s→w.cell? ⟨bb,o+off+j,none⟩=some (f (off+j)):=by
    intro j hj;rw [Nat.add_assoc];exact hc (off+j) _ (List.getElem?_eq_getElem (show off+j<cs.length by omega))
   refine ⟨_,fun w' hb=>by simp [execOp,he,Instr.loadAt,Instr.sureAddr,run_loadVarN hT hA hI (o:=o+off) (f:=fun j=>f (off+j)) (fun j hj=>hk hb (hcc j hj))];rfl,.agg _ _ (by simp;omega) fun i a u ha hu=>?_⟩;rw [List.getElem?_take] at ha;split at ha
   ·rename_i hi;rw [List.getElem?_drop] at ha;rw [List.getElem?_toArray,List.getElem?_map,List.getElem?_range hi] at hu;injection hu with hu
    subst hu;exact hr _ a ha
   ·cases ha
  ·cases hv
 | false =>
  rw [hA] at hv;simp only [partA,Bool.false_eq_true,if_false] at hv;exact ⟨f off,fun w' hb=>by simp [execOp,he,Instr.loadAt,Instr.sureAddr,run_loadVar1 hT hA (hk hb (hc off v hv))],hr off v hv⟩
theorem op_load_box {D:TypeDesc} {z:Option Value} {s b:Nat} {id o:Nat} {cs:List AV} {e:TypeId} {v:AV} (hx:st.ev x=.box id o) (hb:look .dead st.heap id=.box cs e) (hT:P.underlying t=some D) (hI:tyI P t=some (z,s,b)) (hv:partA cs o s (aggB D)=some v) (hd:dok d n=true) :
  OpR P n ⟨d,.load t x,ty,ps,af,g⟩ st v :=
 .mk hd fun K a w G rr=>by
  have e1:=rr.ev x;rw [hx] at e1;obtain ⟨gg,vs,e2,_,hh,hsz,hc⟩:=rr.boxAt hb e1;refine load_core (o:=0) (f:=fun j=>vs.getD j undef) hT hI hv (by rw [e2,Nat.zero_add]) (fun j c hj=>?_) (fun j c hj=>?_) rr
  ·obtain ⟨u,h1,_⟩:=hc j c hj;rw [Nat.zero_add,cell_of_cells hh h1,Array.getD_eq_getD_getElem?,h1];rfl
  ·obtain ⟨u,h1,_,h3⟩:=hc j c hj;rw [Array.getD_eq_getD_getElem?,h1];exact h3
theorem op_load_run {K:Kn} {a:Act} {w:World} {G:Gh} (rr:RelG K n st a w G) {D:TypeDesc} {z:Option Value} {s b:Nat} {id tt:Nat} {cs:List AV} {e:TypeId} {v:AV} (hx:look .any st.regs tt=.box id 0) (hb:look .dead st.heap id=.box cs e) (hT:P.underlying t=some D) (hI:tyI P t=some (z,s,b)) (hv:partA cs 0 s (aggB D)=some v) :
  ∃ u,(do loadVar t (←asAddr (a.tmps.getD tt undef)):Sem Value).run P w=.ok u w∧RelV w G v u:=by
 have e1:=rr.regs tt;rw [hx] at e1;obtain ⟨gg,vs,e2,_,hh,hsz,hc⟩:=rr.boxAt hb e1
 obtain ⟨u, h1, h2⟩ := load_core (P := P) (x := .tmp tt) (d := none) (ty := 0) (ps := "") (af := #[]) (g := none) (o := 0) (off := 0) (bb := gg) (f := fun j => vs.getD j undef) hT hI hv e2 (fun j c hj => by
  obtain ⟨u,h1,_⟩:=hc j c hj
  rw [Nat.zero_add,cell_of_cells hh h1,Array.getD_eq_getD_getElem?,h1];rfl) (fun j c hj=>by
  obtain ⟨u,h1,_,h3⟩:=hc j c hj
  rw [Array.getD_eq_getD_getElem?,h1];exact h3) rr
 refine ⟨u,?_,h2⟩;have h1:=h1 w (Below.refl _ _);have e3:a.eval (.tmp tt)=.pointer (some ⟨gg,0,none⟩):=e2;simp only [execOp,e3,Instr.loadAt,Instr.sureAddr,Sem.run_bind,Sem.run_pure,Result.andThen_ok] at h1;rw [e2];simp only [asAddr,Sem.run_bind,Sem.run_pure,Result.andThen_ok]
 cases hl:(loadVar t ⟨gg,0,none⟩).run P w with
 | ok u' w''=>rw [hl] at h1;simp only [Result.andThen_ok] at h1;injection h1 with h1 h3;injection h1 with h1;subst h1;subst h3;rfl
 | halt x w''=>rw [hl] at h1;simp [Result.andThen] at h1
theorem op_load_peek {D:TypeDesc} {z:Option Value} {s b:Nat} {o:Nat} {row:List AV} {v:AV} (hx:st.ev x=.peek row o) (hT:P.underlying t=some D) (hI:tyI P t=some (z,s,b)) (hv:partA row o s (aggB D)=some v) (hd:dok d n=true) :
  OpR P n ⟨d,.load t x,ty,ps,af,g⟩ st v :=
 .mk hd fun K a w G rr=>by
  have e1:=rr.ev x;rw [hx] at e1;generalize he:a.eval x=u at e1
  cases e1 with
  | dat h=>cases h
  | peek _ _ bb oo ff hr hb h1 h2=>exact load_core (o:=oo) (f:=ff) hT hI hv he h1 (fun j c hj=>.dat (h2 j c hj)) rr
theorem RelG.rowAt {K:Kn} {a:Act} {w:World} {G:Gh} (r:RelG K n st a w G) {id m:Nat} {sz:Nat} {rows:List (List AV)} {e:TypeId} (hb:look .dead st.heap id=.row sz rows e) (hm:m=rows.length) (h0:0<m) :
  ∃ gg c flat,G.ρ id=.slice (some ⟨gg,0,none⟩) rows.length c∧id<G.nx∧G.sz id=sz∧0<sz∧G.ln id=rows.length∧ownsM w K.w0.heap.size e sz (G.ρ id) rows.length flat∧(∀ v ∈ flat,v.oneCell'=true) ∧
   (∀ (i:Nat) (row:List AV),rows[i]?=some row→row.length=sz∧∀ (j:Nat) (a:AV),row[j]?=some a→∃ v,flat[i*sz+j]?=some v∧w.cell? ⟨gg,i*sz+j,none⟩=some v∧RelV w G a v):=by
 have hk:=r.hr.blk id;rw [hb] at hk;obtain ⟨h1,h2,h3,h4,flat,h5,h6,h7⟩:=hk;rcases h5.2 with ⟨_,h⟩ | ⟨gg,cap,cur,hv,hbase,hh,hcap,hcm,hcs,htake⟩
 ·omega
 ·refine ⟨gg,cap,flat,hv,h1,h3,h2,h4,h5,h6,fun i row hi=>?_⟩;obtain ⟨g1,g2⟩:=h7 i row hi;refine ⟨g1,fun j a hj=>?_⟩;obtain ⟨v,g3,g4⟩:=g2 j a hj;refine ⟨v,g3,?_,g4⟩;have h5':=h5;rw [hv] at h5';have:=h5'.cellAt (i*sz+j) (by have:=(List.getElem?_eq_some_iff.1 g3).1;rw [h5.1] at this;exact this);rw [this,g3]
theorem op_load_elt {D:TypeDesc} {z:Option Value} {s b:Nat} {id m i o sz:Nat} {rows:List (List AV)} {e:TypeId} {row:List AV} {v:AV} (hx:st.ev x=.elt id m i o) (hb:look .dead st.heap id=.row sz rows e) (hm:m=rows.length) (hr:rows[i]?=some row) (hT:P.underlying t=some D) (hI:tyI P t=some (z,s,b)) (hv:partA row o s (aggB D)=some v) (hd:dok d n=true) :
  OpR P n ⟨d,.load t x,ty,ps,af,g⟩ st v :=
 .mk hd fun K a w G rr=>by
  have e1:=rr.ev x;rw [hx] at e1;obtain ⟨gg,c,flat,q1,q2,q3,q4,q5,q6,q7,q8⟩:=rr.rowAt hb hm (by have:=(List.getElem?_eq_some_iff.1 hr).1;omega);obtain ⟨p1,p2⟩:=q8 i row hr;generalize he:a.eval x=u at e1
  cases e1 with
  | dat h=>cases h
  | elt _ _ _ _ _ hid hin hs' hn hv' h =>
   obtain ⟨gg',c',e2,rfl⟩:=h (by rw [q5,hm]);rw [q1] at e2;injection e2 with e2 _ _
   injection e2 with e2
   injection e2 with e2 _ _
   subst e2;rw [q3] at he;refine load_core (o:=i*sz) (f:=fun j=>flat.getD (i*sz+j) undef) hT hI hv he (fun j c hj=>?_) (fun j c hj=>?_) rr
   ·obtain ⟨u,h1,h2,_⟩:=p2 j c hj;rw [h2,List.getD_eq_getElem?_getD,h1];rfl
   ·obtain ⟨u,h1,_,h3⟩:=p2 j c hj;rw [List.getD_eq_getElem?_getD,h1];exact h3
end
end Go.Proofs.Ytljebnobajmjnaa
/- Symbolic walks: stores,rows (make,index,append),literals. No program in sight. -/
namespace Go.Proofs.Ytljebnobajmjnaa
open Go Go.RowKit

def setR (cs:List AV) (off:Nat):List AV→List AV
 | []=>cs
 | v::l=>setR (cs.set off v) (off+1) l
structure RowsV (w:World) (G:Gh) (sz:Nat) (rows:List (List AV)) (flat:List Value):Prop where
 len:flat.length=rows.length*sz
 one:∀ v ∈ flat,v.oneCell'=true
 rel:∀ (i:Nat) (row:List AV),rows[i]?=some row→row.length=sz∧∀ (j:Nat) (a:AV),row[j]?=some a→∃ v,flat[i*sz+j]?=some v∧RelV w G a v
theorem RowsV.ext {w w':World} {G G':Gh} {sz:Nat} {rows:List (List AV)} {flat:List Value} (h:RowsV w G sz rows flat) (hx:Ext w G w' G'):RowsV w' G' sz rows flat :=
 ⟨h.len,h.one,fun i row hi=>⟨(h.rel i row hi).1,fun j a hj=>let ⟨v,h1,h2⟩:=(h.rel i row hi).2 j a hj;⟨v,h1,h2.ext hx⟩⟩⟩
theorem RowsV.append {w:World} {G:Gh} {sz:Nat} {rows rows':List (List AV)} {flat flat':List Value} (h:RowsV w G sz rows flat) (h':RowsV w G sz rows' flat'):RowsV w G sz (rows++rows') (flat++flat'):=by
 refine ⟨by rw [List.length_append,h.len,h'.len,List.length_append,Nat.add_mul],fun v hv=>?_,fun i row hi=>?_⟩
 ·rcases List.mem_append.1 hv with hv | hv
  ·exact h.one v hv
  ·exact h'.one v hv
 ·by_cases hlt:i<rows.length
  ·rw [List.getElem?_append_left hlt] at hi;obtain ⟨h1,h2⟩:=h.rel i row hi;refine ⟨h1,fun j a hj=>?_⟩;obtain ⟨v,h3,h4⟩:=h2 j a hj;exact ⟨v,by rw [List.getElem?_append_left (List.getElem?_eq_some_iff.1 h3).1];exact h3,h4⟩
  ·rw [List.getElem?_append_right (by omega)] at hi;obtain ⟨h1,h2⟩:=h'.rel _ row hi;refine ⟨h1,fun j a hj=>?_⟩;obtain ⟨v,h3,h4⟩:=h2 j a hj;have hle:rows.length*sz≤i*sz:=Nat.mul_le_mul_right _ (by omega);refine ⟨v,?_,h4⟩;rw [List.getElem?_append_right (by rw [h.len];omega),h.len,show i*sz+j-rows.length*sz=(i-rows.length)*sz+j by rw [Nat.sub_mul];omega];exact h3
theorem RowsV.nil (w:World) (G:Gh) (sz:Nat):RowsV w G sz [] []:=⟨by simp,fun v hv=>(by cases hv),fun i row hi=>(by simp at hi)⟩
theorem flat_lt {i m j sz:Nat} (hi:i<m) (hj:j<sz):i*sz+j<m*sz:=by
 have:(i+1)*sz≤m*sz:=Nat.mul_le_mul_right _ hi;rw [Nat.add_mul] at this;omega
theorem flat_inj {i i' j j' sz:Nat} (hj:j<sz) (hj':j'<sz) (h:i*sz+j=i'*sz+j'):i=i'∧j=j':=by
 rcases Nat.lt_trichotomy i i' with hlt | rfl | hlt
 ·have:=flat_lt (sz:=sz) hlt hj;omega
 ·exact ⟨rfl,by omega⟩
 ·have:=flat_lt (sz:=sz) hlt hj';omega
theorem RowsV.set {w:World} {G:Gh} {sz:Nat} {rows:List (List AV)} {flat:List Value} (h:RowsV w G sz rows flat) {i j:Nat} {row:List AV} (hi:rows[i]?=some row) (hj:j<sz) {x:AV} {u:Value} (hu:RelV w G x u) (h1:u.oneCell'=true) :
  RowsV w G sz (rows.set i (row.set j x)) (flat.set (i*sz+j) u):=by
 have hil:i<rows.length:=(List.getElem?_eq_some_iff.1 hi).1;refine ⟨by simp [h.len],fun v hv=>?_,fun i' row' hi'=>?_⟩
 ·rcases List.mem_or_eq_of_mem_set hv with hv | rfl
  ·exact h.one v hv
  ·exact h1
 ·rw [List.getElem?_set] at hi';by_cases e:i=i'
  ·subst e;rw [if_pos rfl,if_pos hil] at hi';injection hi' with hi'
   subst hi';obtain ⟨g1,g2⟩:=h.rel i row hi;refine ⟨by simp [g1],fun j' a hj'=>?_⟩;rw [List.getElem?_set] at hj';by_cases e:j=j'
   ·subst e;rw [if_pos rfl,if_pos (by omega)] at hj';injection hj' with hj'
    subst hj';exact ⟨u,by rw [List.getElem?_set,if_pos rfl,if_pos (by rw [h.len];exact flat_lt hil hj)],hu⟩
   ·rw [if_neg e] at hj';obtain ⟨v,g3,g4⟩:=g2 j' a hj';exact ⟨v,by rw [List.getElem?_set,if_neg (by omega)];exact g3,g4⟩
  ·rw [if_neg e] at hi';obtain ⟨g1,g2⟩:=h.rel i' row' hi';refine ⟨g1,fun j' a hj'=>?_⟩;obtain ⟨v,g3,g4⟩:=g2 j' a hj';have hjl:j'<sz:=by rw [←g1];exact (List.getElem?_eq_some_iff.1 hj').1
   exact ⟨v,by rw [List.getElem?_set,if_neg (fun e2=>e (flat_inj hj hjl e2).1)];exact g3,g4⟩

theorem HR.congr {w0 w:World} {G:Gh} {hp hp':List (Nat×AB)} (h:HR w0 w G hp) (he:∀ id,look .dead hp' id=look .dead hp id):HR w0 w G hp' :=
 ⟨h.bs,h.below,h.ownlt',fun id=>by rw [he];exact h.blk id,h.dist,h.ownhas'⟩
section
variable {K:Kn} {n:Nat} {st:ASt} {a:Act} {w:World} {G:Gh}
theorem RelG.hcongr {hp:List (Nat×AB)} (r:RelG K n st a w G) (he:∀ id,look .dead hp id=look .dead st.heap id):RelG K n ⟨st.regs,hp,st.nx⟩ a w G:=⟨r.nx,r.hr.congr he,r.ext,r.size,r.defers,r.regs⟩
theorem RelG.hset2 {id:Nat} {b b':AB} (r:RelG K n ((st.hset id b).hset id b') a w G):RelG K n (st.hset id b') a w G :=
 r.hcongr (hp:=(id,b')::st.heap) (fun i=>by
  show look AB.dead ((id,b')::st.heap) i=look AB.dead ((id,b')::(id,b)::st.heap) i;rw [look_cons,look_cons,look_cons]
  split <;> rfl)
theorem RelG.hself {id:Nat} {b:AB} (r:RelG K n st a w G) (hb:look .dead st.heap id=b):RelG K n (st.hset id b) a w G :=
 r.hcongr (hp:=(id,b)::st.heap) (fun i=>by
  rw [look_cons];split
  ·rename_i e;subst e;exact hb.symm
  ·rfl)
theorem Ext.setCell {b o:Nat} (hb:G.own b) (hf:¬ G.far b) (u:Value):Ext w G (w.setCell ⟨b,o,none⟩ u) G :=
 ⟨by simp [World.setCell],fun b' ho _=>Below.heap_setCell _ _ _ _ (fun e=>ho.elim (fun ho=>ho (e ▸ hb)) (fun h=>hf (by have e':b'=b:=e;rw [←e'];exact h))),fun _ h=>.inl h,Nat.le_refl _,⟨rfl,rfl⟩,fun _ _=>⟨Nat.le_refl _,rfl,fun _=>rfl,fun _=>rfl⟩⟩
theorem RelG.owns (r:RelG K n st a w G) {id g:Nat} (hid:id<G.nx) (h:ownBlk (G.ρ id)=some g):G.own g∧g<w.heap.size:=⟨r.hr.ownhas id g hid h,(r.hr.ownlt g (r.hr.ownhas id g hid h)).2⟩
theorem RelG.storeBox {P:Program} {id g:Nat} {e:TypeId} (hid:id<G.nx) (hρ:G.ρ id=.pointer (some ⟨g,0,none⟩)):∀ (xs:List AV) (vs:List Value) (i o:Nat) (cs:List AV) (w:World),RelG K n st a w G→look .dead st.heap id=.box cs e→o+i+vs.length≤cs.length→vs.length=xs.length →
  (∀ v ∈ vs,v.oneCell'=true)→(∀ (j:Nat) (x:AV) (v:Value),xs[j]?=some x→vs[j]?=some v→RelV w G x v) →
  ∃ w',(storeCells ⟨g,o,none⟩ vs i).run P w=.ok () w'∧RelG K n (st.hset id (.box (setR cs (o+i) xs) e)) a w' G∧∀ k,k≠g→w'.heap[k]?=w.heap[k]?:=by
 intro xs
 induction xs generalizing st with
 | nil =>
  intro vs i o cs w r hb _ hl _ _;have:vs=[]:=List.eq_nil_of_length_eq_zero hl;subst this;exact ⟨w,rfl,r.hself hb,fun _ _=>rfl⟩
 | cons x xs ih =>
  intro vs i o cs w r hb hle hl h1 hr
  obtain ⟨v,vs,rfl⟩:∃ v l,vs=v::l:=by match vs,hl with | v::l,_=>exact ⟨v,l,rfl⟩
  have hv1:=h1 v (by simp);have hvr:=hr 0 x v rfl rfl;obtain ⟨hog,_⟩:=r.owns hid (by rw [hρ];rfl);have hnf:=r.hr.nofar id g hid (by rw [hρ];rfl);have r2:=r.setBox (off:=o+i) hb hρ hvr hv1;have hk:=r.hr.blk id;rw [hb] at hk;obtain ⟨_,_,g',us,h3,h4,h5,_⟩:=hk;rw [h3] at hρ;injection hρ with hρ
  injection hρ with hρ
  injection hρ with hρ _ _
  subst hρ;have hlt:o+i<us.size:=by simp at hle;omega
  have hc:w.cell? ⟨g',o+i,none⟩=some us[o+i]:=by simp [World.cell?,h4,hlt]
  have hf:=unfrozen_of_cells (i:=o+i) h4
  have hst:(store ((⟨g',o,none⟩:Addr).add i) v).run P w=.ok () (w.setCell ⟨g',o+i,none⟩ v):=by
   rw [addr_add,run_store P w _ v _ hv1,hc];simp [hf]
  obtain ⟨w',e1,r3,hoth⟩:=ih (st:=st.hset id (.box (cs.set (o+i) x) e)) vs (i+1) o (cs.set (o+i) x) _ r2 (look_self _ _ _ _) (by simp at hle ⊢;omega) (by simpa using hl) (fun u hu=>h1 u (by simp [hu]))
   (fun j y u hy hu=>(hr (j+1) y u (by simpa using hy) (by simpa using hu)).ext (Ext.setCell hog hnf v))
  refine ⟨w',?_,?_,fun k hk=>(hoth k hk).trans (Below.heap_setCell w _ v k hk)⟩
  ·simp only [storeCells,Sem.run_bind,hst,Result.andThen_ok,e1]
  ·have:=r3.hset2;rw [setR];exact this
end

section
variable {P:Program} {n:Nat} {st:ASt} {d:Option Nat} {ty:TypeId} {ps:String} {af:Array Edge} {g:Option (Nat×Bool)} {x y:Operand} {t t':TypeId}
theorem run_storeVar' {z:Option Value} {s b:Nat} (hI:tyI P t=some (z,s,b)) {p:Addr} {v:Value} {w:World} (hs:v.cells.size=s):(storeVar t p v).run P w=(storeCells p v.cells.toList).run P w:=by
 simp [storeVar,run_sizeOf' hI,hs]
theorem op_store_box {z:Option Value} {s b:Nat} {id o:Nat} {cs vs:List AV} {e:TypeId} (hx:st.ev x=.box id o) (hb:look .dead st.heap id=.box cs e) (hy:(st.ev y).cells=vs) (h1:allOne vs=true) (hI:tyI P t=some (z,s,b)) (hs:vs.length=s) (hle:o+s≤cs.length) :
  OpV P n ⟨none,.store t x y,ty,ps,af,g⟩ st (st.hset id (.box (setR cs o vs) e)):=.mk fun K a w ⟨G,r⟩=>by
 subst hy;have e1:=r.ev x;rw [hx] at e1;have hcv:=(r.ev y).cellsV h1;obtain ⟨gg,us,e2,hρ,_,_,_⟩:=r.boxAt hb e1
 have hid:id<G.nx:=by
  have hk:=r.hr.blk id;rw [hb] at hk;exact hk.1
 obtain ⟨w',hrun,r2,_⟩:=RelG.storeBox (P:=P) (e:=e) hid hρ (st.ev y).cells (a.eval y).cells.toList 0 o cs w r hb (by have:=hcv.size;simp;omega) (by simpa using hcv.size) (fun v hv=>by
  obtain ⟨i,hi,hv⟩:=List.getElem_of_mem hv
  exact hcv.one i v (by rw [←hv];simp)) (fun j x' v hx' hv=>hcv.rel j x' v hx' (by simpa using hv))
 refine ⟨undef,w',.inr ⟨?_,rfl⟩,G,r2⟩;simp [execOp,Instr.storeAt,e2,Instr.sureAddr,run_storeVar' hI (show (a.eval y).cells.size=s by rw [hcv.size,hs]),hrun]
theorem op_index_ro {e:TypeId} {z:Option Value} {sz b:Nat} {fr:Bool} {rows:List (List AV)} {row:List AV} {k:IntKind} {i:Int} (hx:st.ev x=.ro fr sz rows) (hy:st.ev y=.int k i) (hT:P.underlying t=some (.slice e)) (hI:tyI P e=some (z,sz,b)) (h0:0≤i) (hr:rows[i.toNat]?=some row) (hne:row≠[]) (hd:dok d n=true) :
  OpR P n ⟨d,.indexAddr t x y,ty,ps,af,g⟩ st (.peek row 0) :=
 .mk hd fun K a w G rr=>by
  have e1:=rr.ev x;rw [hx] at e1;have e2:=rr.ev y;rw [hy] at e2;have e2:=e2.int';have hil:i.toNat<rows.length:=(List.getElem?_eq_some_iff.1 hr).1;generalize he:a.eval x=v at e1
  cases e1 with
  | dat h =>
   cases h with
   | ro _ _ _ A c f hc hm h0' h1 h2 =>
    obtain ⟨q,l,rfl⟩:=List.exists_cons_of_ne_nil hne;obtain ⟨bb,oo,rfl,ho,_,_⟩:=h1 i.toNat _ 0 q hr rfl;refine ⟨.pointer (some ⟨bb,oo+i.toNat*sz+0,none⟩),?_,.peek _ 0 bb (oo+i.toNat*sz) (fun j=>f i.toNat j) (by simp) ho (fun j a hj=>?_) (fun j a hj=>h2 i.toNat _ j a hr hj)⟩
    ·have hlt:i<(rows.length:Int):=by omega
     simp [execOp,he,e2,Instr.indexAt,asIntOf,run_underlying hT,run_sizeOf' hI,h0,hlt,addr_add]
    ·obtain ⟨b',o',e3,_,_,h4⟩:=h1 i.toNat _ j a hr hj;injection e3 with e3
     injection e3 with e3 e4 _
     subst e3;subst e4
     exact h4
theorem op_index_osl {e e':TypeId} {z:Option Value} {sz sz' b id m:Nat} {rows:List (List AV)} {k:IntKind} {i:Int} (hx:st.ev x=.osl id m) (hb:look .dead st.heap id=.row sz rows e') (hm:m=rows.length) (hy:st.ev y=.int k i) (hT:P.underlying t=some (.slice e)) (hI:tyI P e=some (z,sz',b)) (hsz:sz'=sz) (h0:0≤i) (hlt:i<(m:Int)) (hd:dok d n=true) :
  OpR P n ⟨d,.indexAddr t x y,ty,ps,af,g⟩ st (.elt id m i.toNat 0) :=
 .mk hd fun K a w G rr=>by
  subst hsz;have e1:=rr.ev x;rw [hx] at e1;have e2:=rr.ev y;rw [hy] at e2;have e2:=e2.int';obtain ⟨gg,c,flat,q1,q2,q3,q4,q5,q6,q7,q8⟩:=rr.rowAt hb hm (by omega);generalize he:a.eval x=v at e1
  cases e1 with
  | dat h=>cases h
  | osl _ _ _ hid hs hn hv h =>
   have e3:=h (by rw [q5,hm]);rw [q1] at e3;subst e3;refine ⟨.pointer (some ⟨gg,0+i.toNat*sz',none⟩),?_,.elt _ _ _ _ _ hid (by omega) hs hn ⟨_,rfl⟩ fun _=>⟨gg,c,by rw [q1,hm],by rw [q3];simp⟩⟩;intro w' _;have hlt:i<(rows.length:Int):=by omega
   simp [execOp,he,e2,Instr.indexAt,asIntOf,run_underlying hT,run_sizeOf' hI,h0,hlt,addr_add]
def AV.lenA:AV→Option Nat
 | .ro _ _ rows=>some rows.length
 | .osl _ n=>some n
 | .vsl _ _ _ len=>some len
 | .nils=>some 0
 | _=>none
theorem RelV.lenA {w:World} {G:Gh} {a:AV} {v:Value} (h:RelV w G a v) {m:Nat} (hm:a.lenA=some m):∃ A c,v=.slice A m c:=by
 cases h with
 | dat h =>
  cases h with
  | ro _ _ _ A c=>simp [AV.lenA] at hm;subst hm;exact ⟨A,c,rfl⟩
  | nils=>simp [AV.lenA] at hm;subst hm;exact ⟨_,_,rfl⟩
  | _=>simp [AV.lenA] at hm
 | osl _ _ _ _ _ _ hv=>simp [AV.lenA] at hm;subst hm;exact hv
 | vsl _ _ _ _ _ _ _ _ _ hv=>simp [AV.lenA] at hm;subst hm;exact hv
 | _=>simp [AV.lenA] at hm
theorem op_len {e:TypeId} {m:Nat} (hx:(st.ev x).lenA=some m) (hT:P.underlying t=some (.slice e)) (hd:dok d n=true) :
  OpR P n ⟨d,.call {callee:=.builtin .len,args:=#[x],argTypes:=#[t] },ty,ps,af,g⟩ st (.int .i64 m) :=
 .mk hd fun K a w G rr=>by
  obtain ⟨A,c,e1⟩:=(rr.ev x).lenA hx;refine ⟨_,?_,rI _ _ _ _⟩;intro w' _;simp [execOp,resolve,invoke,builtin,e1,Builtin.len_,run_underlying hT,goInt]
theorem op_len_str {s:ByteArray} (hx:st.ev x=.str s) (hT:P.underlying t=some .string) (hd:dok d n=true) :
  OpR P n ⟨d,.call {callee:=.builtin .len,args:=#[x],argTypes:=#[t] },ty,ps,af,g⟩ st (.int .i64 s.size) :=
 .mk hd fun K a w G rr=>by
  have e1:=rr.ev x;rw [hx] at e1;have e1:=e1.str';refine ⟨_,?_,rI _ _ _ _⟩;intro w' _;simp [execOp,resolve,invoke,builtin,e1,Builtin.len_,run_underlying hT,goInt]
theorem RelG.newRow {K:Kn} {a:Act} {w w':World} {G:Gh} (r:RelG K n st a w G) (hb:Below w.heap.size w w') {v:Value} {sz:Nat} {rows:List (List AV)} {flat:List Value} {e:TypeId} (hs:0<sz) (ho:ownsM w' w.heap.size e sz v rows.length flat) (hv:RowsV w G sz rows flat) :
  RelG K n (st.hnew (.row sz rows e)) a w' (G.add v rows.length sz)∧RelV w' (G.add v rows.length sz) (.osl st.nx rows.length) v:=by
 have hfr:∀ g,ownBlk v=some g→w.heap.size≤g∧g<w'.heap.size:=by
  intro g hg;rcases ho.2 with ⟨rfl,_⟩ | ⟨gg,cap,cur,rfl,hb',hh,_⟩
  ·simp [ownBlk] at hg
  ·simp [ownBlk] at hg;subst hg;exact ⟨hb',hh.lt⟩
 have hx:Ext w G w' (G.add v rows.length sz):=Ext.add hb (fun g hg=>(hfr g hg).1) _ _;have hnx:=r.nx;have hvv:(G.add v rows.length sz).ρ st.nx=v:=if_pos hnx.symm;have hll:(G.add v rows.length sz).ln st.nx=rows.length:=if_pos hnx.symm;have hss:(G.add v rows.length sz).sz st.nx=sz:=if_pos hnx.symm;have hnn:st.nx<(G.add v rows.length sz).nx:=by show st.nx<G.nx+1;omega
 have ho':ownsM w' K.w0.heap.size e sz v rows.length flat:=by
  refine ⟨ho.1,?_⟩;rcases ho.2 with h | ⟨gg,cap,cur,h1,h2,h3⟩
  ·exact .inl h
  ·exact .inr ⟨gg,cap,cur,h1,Nat.le_trans r.hr.below.size h2,h3⟩
 refine ⟨r.new hb hfr ⟨hnn,hs,hss,hll,flat,by rw [hvv];exact ho',hv.one,(hv.ext hx).rel⟩,.osl _ _ _ hnn (by rw [hss];exact hs) (by rw [hll];exact Nat.le_refl _) ?_ (fun _=>hvv.symm)⟩;rcases ho.2 with ⟨h1,h2⟩ | ⟨gg,cap,cur,h1,_⟩
 ·rw [h1,h2];exact ⟨_,_,rfl⟩
 ·rw [h1];exact ⟨_,_,rfl⟩
theorem madeCells_rows {w:World} {G:Gh} {z:Value} {sz L:Nat} {zr:List AV} (hz:z.cells.toList.map avOf=zr) (hs:zr.length=sz) (h0:0<sz) (h1:allOne zr=true):RowsV w G sz (List.replicate L zr) (madeCells z.cells (L*sz)).toList:=by
 subst hz;have hzs:z.cells.size=sz:=by simpa using hs
 have hcv:=cellsV_const w G h1;refine ⟨by simp [size_madeCells],fun v hv=>?_,fun i row hi=>?_⟩
 ·obtain ⟨i,hi,rfl⟩:=List.getElem_of_mem hv;simp only [madeCells,Array.getElem_toList,Array.getElem_map];have hlt:(Array.range (L*sz))[i]'(by simpa [madeCells] using hi) % z.cells.size<z.cells.size:=Nat.mod_lt _ (by omega);have key:∀ k (hk:k<z.cells.size),z.cells[k]! = z.cells[k]:=fun k hk=>by simp [hk]
  rw [key _ hlt];exact hcv.one _ _ (Array.getElem?_eq_getElem hlt)
 ·rw [List.getElem?_replicate] at hi;split at hi
  ·rename_i hiL;injection hi with hi
   subst hi;refine ⟨hs,fun j a hj=>?_⟩;have hjs:j<sz:=by rw [←hs];exact (List.getElem?_eq_some_iff.1 hj).1
   have hlt:i*sz+j<L*sz:=flat_lt hiL hjs;have hmod:(i*sz+j) % z.cells.size=j:=by rw [hzs,Nat.mul_comm,Nat.mul_add_mod];exact Nat.mod_eq_of_lt hjs
   have hjz:j<z.cells.size:=by omega
   refine ⟨z.cells[j],?_,hcv.rel j a _ hj (Array.getElem?_eq_getElem hjz)⟩;simp [madeCells,hlt,hmod,hjz]
  ·cases hi
end
end Go.Proofs.Ytljebnobajmjnaa
/- Symbolic walks: results,calls,contracts. No program in sight. -/
namespace Go.Proofs.Ytljebnobajmjnaa
open Go Go.RowKit

theorem run_mapM_list {P:Program} {α β:Type} {w:World} (f:α→Sem β) (g:α→β):∀ (l:List α),(∀ x ∈ l,(f x).run P w=.ok (g x) w)→(l.mapM f).run P w=.ok (l.map g) w
 | [],_=>rfl
 | x::l,h=>by
  rw [List.mapM_cons,Sem.run_bind,h x (by simp)];simp only [Result.andThen_ok];rw [Sem.run_bind,run_mapM_list f g l (fun y hy=>h y (by simp [hy]))];rfl
theorem run_mapM_array {P:Program} {α β:Type} {w:World} (f:α→Sem β) (g:α→β) (l:Array α) (h:∀ x ∈ l,(f x).run P w=.ok (g x) w):(l.mapM f).run P w=.ok (l.map g) w:=by
 rw [Array.mapM_eq_mapM_toList,←bind_pure_comp,Sem.run_bind,run_mapM_list (P:=P) f g l.toList (fun x hx=>h x (by simpa using hx))];simp only [Result.andThen_ok,Sem.run_pure];rw [←Array.toList_map,Array.toArray_toList]

def resF (a:Act):ResultVar→Sem Value
 | .tmp t=>pure (a.tmps.getD t undef)
 | .cell t ty=>do loadVar ty (←asAddr (a.tmps.getD t undef))
def resA (P:Program) (st:ASt):ResultVar→AV→Prop
 | .tmp t,x=>look .any st.regs t=x
 | .cell t ty,x=>∀ (K:Kn) (n:Nat) (a:Act) (w:World) (G:Gh),RelG K n st a w G→∃ v,(resF a (.cell t ty)).run P w=.ok v w∧RelV w G x v
def resL (P:Program) (st:ASt):List ResultVar→List AV→Prop
 | [],[]=>True
 | r::l,x::xs=>resA P st r x∧resL P st l xs
 | _,_=>False
def oneOf (xs:List AV):AV:=match xs with | [x]=>x | xs=>.tup xs
section
variable {P:Program} {K:Kn} {n:Nat} {st:ASt} {a:Act} {w:World} {G:Gh}
theorem resA_box {t ty id:Nat} {cs:List AV} {e:TypeId} {D:TypeDesc} {z:Option Value} {s b:Nat} {x:AV} (h1:look .any st.regs t=.box id 0) (h2:look .dead st.heap id=.box cs e) (h3:P.underlying ty=some D) (h4:tyI P ty=some (z,s,b)) (h5:partA cs 0 s (aggB D)=some x):resA P st (.cell t ty) x:=fun K n a w G r=>by
 obtain ⟨u,g1,g2⟩:=op_load_run r h1 h2 h3 h4 h5;exact ⟨u,g1,g2⟩
theorem resA_elt {t ty id q i o : Nat} {x : AV} (hx : look .any st.regs t = .elt id q i o) (h : ∀ n, OpR P n ⟨none, .load ty (.tmp t), 0, "", #[], none⟩ st x) : resA P st (.cell t ty) x := fun K n a w G r => by
 obtain ⟨u,h1,h2⟩:=(h n).out K a w G r;have e1:=r.regs t;rw [hx] at e1;generalize he:a.tmps.getD t undef=v at e1
 cases e1 with
 | dat h=>cases h
 | elt _ _ _ _ _ hid hin hs hn hv hr =>
  obtain ⟨A,rfl⟩:=hv;refine ⟨u,?_,h2⟩;have h1:=h1 w (Below.refl _ _);have e3:a.eval (.tmp t)=.pointer (some A):=he;simp only [execOp,e3,Instr.loadAt,Instr.sureAddr,Sem.run_bind,Sem.run_pure,Result.andThen_ok] at h1;show (do loadVar ty (←asAddr (a.tmps.getD t undef)):Sem Value).run P w=_;rw [he];simp only [asAddr,Sem.run_bind,Sem.run_pure,Result.andThen_ok]
  cases hl:(loadVar ty A).run P w with
  | ok u' w''=>rw [hl] at h1;simp only [Result.andThen_ok] at h1;injection h1 with h1 h3;injection h1 with h1;subst h1;subst h3;rfl
  | halt x w''=>rw [hl] at h1;simp [Result.andThen] at h1
theorem run_resA (r:RelG K n st a w G) {rv:ResultVar} {x:AV} (h:resA P st rv x):∃ v,(resF a rv).run P w=.ok v w∧RelV w G x v:=by
 cases rv with
 | tmp t =>
  have h:look AV.any st.regs t=x:=h;subst h;exact ⟨_,rfl,r.regs t⟩
 | cell t ty =>
  exact h K n a w G r
theorem run_results (r:RelG K n st a w G):∀ {rs:List ResultVar} {xs:List AV},resL P st rs xs→∃ vs:List Value,(rs.mapM (resF a)).run P w=.ok vs w∧vs.length=xs.length∧∀ (i:Nat) (x:AV) (v:Value),xs[i]?=some x→vs[i]?=some v→RelV w G x v
 | [],[],_=>⟨[],rfl,rfl,fun i x v h=>by simp at h⟩
 | rv::l,x::xs,h=>by
  obtain ⟨v,h1,h2⟩:=run_resA r h.1;obtain ⟨vs,h3,h4,h5⟩:=run_results r h.2;refine ⟨v::vs,?_,by simp [h4],fun i y u hy hu=>?_⟩
  ·rw [List.mapM_cons,Sem.run_bind,h1];simp only [Result.andThen_ok];rw [Sem.run_bind,h3];rfl
  ·cases i with
   | zero=>simp at hy hu;subst hy;subst hu;exact h2
   | succ i=>exact h5 i y u (by simpa using hy) (by simpa using hu)
theorem run_results' (r:RelG K n st a w G) {fn:Func} {xs:List AV} (h:resL P st fn.results.toList xs):∃ v,(results fn a.tmps).run P w=.ok v w∧RelV w G (oneOf xs) v:=by
 obtain ⟨vs,h1,h2,h3⟩:=run_results r h;unfold results;rw [Sem.run_bind,Array.mapM_eq_mapM_toList,←bind_pure_comp,Sem.run_bind]
 refine ⟨_,by
  rw [show (List.mapM _ fn.results.toList:Sem (List Value))=fn.results.toList.mapM (resF a) from by congr 1,h1]
  rfl,?_⟩
 split
 ·rename_i hs
  match xs,vs,h2,hs with
  | [x],[v],_,_=>exact h3 0 x v rfl rfl
  | [],[v],h2,_=>simp at h2
  | _::_::_,[v],h2,_=>simp at h2
  | _,[],_,hs=>simp at hs
  | _,_::_::_,_,hs=>simp at hs
 ·rename_i hs
  have hne:∀ x,xs≠[x]:=by
   intro x e;subst e;exact hs (by simpa using h2)
  have ho:oneOf xs=.tup xs:=by
   unfold oneOf;split
   ·rename_i x;exact absurd rfl (hne x)
   ·rfl
  rw [ho];exact .tup _ _ (by simpa using h2) (fun i x v hx hv=>h3 i x v hx (by simpa using hv))
end

def callable (P : Program) (F : FuncId) : Bool := match P.funcs[F]? with | some fn => !(fn.name == "runtime.NumGoroutine") && fn.body.isSome | none => false
theorem run_callFunc' {P:Program} {F:FuncId} (h:callable P F=true) (args:Array Value) (w:World):(callFunc F args).run P w=.ok (.enter F args) w:=by
 unfold callable at h;split at h
 ·rename_i fn hf;rw [Bool.and_eq_true] at h
  have h1 : (fn.name == "runtime.NumGoroutine") = false := by simpa using h.1
  have h2:fn.body.isNone=false:=by
   cases hb:fn.body with
   | none=>rw [hb] at h;simp at h
   | some c=>rfl
  simp only [callFunc,Sem.run_bind,run_program,Result.andThen_ok,hf];rw [if_neg (by rw [h1];decide),if_neg (by rw [h2];decide)];rfl
 ·cases h
structure ArgsV (w:World) (G:Gh) (xs:List AV) (vs:Array Value):Prop where
 size:vs.size=xs.length
 rel:∀ (i:Nat) (x:AV) (v:Value),xs[i]?=some x→vs[i]?=some v→RelV w G x v
def AC (P:Program) (F:FuncId) (xs:List AV) (hp:List (Nat×AB)) (nx:Nat) (post:AV→List (Nat×AB)→Nat→Prop):Prop :=
 ∀ w0 w G vs,HR w0 w G hp→G.nx=nx→ArgsV w G xs vs→Calls P F vs w fun e w'=>∃ v x hp' nx' G',e=.returned v∧post x hp' nx'∧G'.nx=nx'∧HR w0 w' G' hp'∧RelV w' G' x v∧Ext w G w' G'
section
variable {P:Program} {n:Nat} {st:ASt} {Q:Exit→ASt→Prop} {d:Option Nat} {ty:TypeId} {ps:String} {af:Array Edge} {g:Option (Nat×Bool)}
theorem list_ev {K:Kn} {a:Act} {w:World} {G:Gh} (r:RelG K n st a w G) (l:List Operand) (i:Nat) (x:AV) (v:Value) (hx:(l.map st.ev)[i]?=some x) (hv:(l.map a.eval)[i]?=some v):RelV w G x v:=by
 rw [List.getElem?_map] at hx hv
 cases h:l[i]? with
 | none=>rw [h] at hx;cases hx
 | some o =>
  rw [h] at hx hv;simp at hx hv;subst hx;subst hv
  exact r.ev o
theorem RelV.fn' {w:World} {G:Gh} {f:FuncId} {cs:List AV} {v:Value} (h:RelV w G (.fn f cs) v):∃ us,v=.func (.func f) #[] us∧us.size=cs.length∧∀ (i:Nat) (a:AV) (u:Value),cs[i]?=some a→us[i]?=some u→RelV w G a u:=by
 cases h with
 | dat h=>cases h
 | fn _ _ fs us hf hl h=>subst hf;exact ⟨us,rfl,hl,h⟩
def callSt (st:ASt) (d:Option Nat) (x:AV) (hp:List (Nat×AB)) (nx:Nat):ASt:=(⟨st.regs,hp,nx⟩:ASt).put d x
theorem AL.call' {ops:Array Oper} {l:List Oper} {o:Oper} {cal:Operand} {args:Array Operand} {ats:Array TypeId} {F:FuncId} {caps xs:List AV}
  (hw:∀ (K:Kn) (a:Act) (w:World) (G:Gh),RelG K n st a w G→Region.wanted o (yielded ops a.tmps)=true)
  (ho:o.op=.call {callee:=.value cal,args:=args,argTypes:=ats }) (hc:st.ev cal=.fn F caps) (hxs:args.toList.map st.ev++caps=xs) (hF:callable P F=true) (hd:dok o.dst n=true)
  (h:AC P F xs st.heap st.nx (fun x hp nx=>AL P n ops Q l (callSt st o.dst x hp nx))):AL P n ops Q (o::l) st:=.mk fun K a w ⟨G,r⟩ =>
 wpList_step fun K' hK'=>by
  rw [if_pos (hw K a w G r)];subst hxs;have e1:=r.ev cal;rw [hc] at e1;obtain ⟨us,e2,hl,hr⟩:=e1.fn'
  have hargs:ArgsV w G (args.toList.map st.ev++caps) (args.map a.eval++us):=by
   refine ⟨by simp [hl],fun i x v hx hv=>?_⟩;by_cases hi:i<args.size
   ·rw [List.getElem?_append_left (by simpa using hi)] at hx;rw [Array.getElem?_append_left (by simpa using hi)] at hv;refine list_ev r args.toList i x v hx ?_;rw [List.getElem?_map,Array.getElem?_toList];rw [Array.getElem?_map] at hv;exact hv
   ·rw [List.getElem?_append_right (by simp;omega)] at hx;rw [Array.getElem?_append_right (by simp;omega)] at hv;exact hr _ x v hx (by simpa using hv)
  have hcall:=h K.w0 w G _ r.hr r.nx hargs
  have hrun:(execOp a.eval o).run P w=.ok (.enter F (args.map a.eval++us)) w:=by
   simp [execOp,ho,resolve,e2,Deferred.ofValue,invoke,run_callFunc' hF]
  unfold Oper.wp;rw [hrun];refine hcall.mono fun e w' ⟨v,x,hp',nx',G',he,hpost,hnx,hHR,hRV,hExt⟩=>?_
  subst he;exact hK' _ _ (hpost K _ _ ⟨G',(r.turn nx' hnx hHR hExt).put (dok_lt hd) hRV⟩)
theorem wanted_of {ops:Array Oper} {o:Oper} {dj:Nat} {want:Bool} (hg:gdst ops o=some (dj,want)) (hb:look .any st.regs dj=.bool want) (K:Kn) (a:Act) (w:World) (G:Gh) (r:RelG K n st a w G):Region.wanted o (yielded ops a.tmps)=true:=by
 unfold gdst at hg;unfold Region.wanted
 cases hgd:o.guard with
 | none=>rfl
 | some p =>
  obtain ⟨j,wt⟩:=p;rw [hgd] at hg;obtain ⟨d',hd',e⟩:=Option.map_eq_some_iff.1 hg;injection e with e1 e2
  subst e1;subst e2
  simp [yielded_of r hd' hb]
def argR (i:Nat):List AV→List (Nat×AV)
 | []=>[]
 | x::l=>(i,x)::argR (i+1) l
theorem look_argR (xs:List AV):∀ (i k:Nat),look .any (argR i xs) k=if i≤k then (xs[k-i]?).getD .any else .any:=by
 induction xs with
 | nil=>intro i k;simp [argR,look]
 | cons x l ih =>
  intro i k;rw [argR,look_cons];by_cases e:i=k
  ·subst e;simp
  ·rw [if_neg e,ih];by_cases h:i≤k
   ·rw [if_pos h,if_pos (by omega)];rw [show k-i=(k-(i+1))+1 by omega];simp
   ·rw [if_neg h,if_neg (by omega)]
def retQ (P:Program) (rs:List ResultVar) (post:AV→List (Nat×AB)→Nat→Prop):Exit→ASt→Prop:=fun e st=>(e=.ret∨e=.normal)∧∃ xs,resL P st rs xs∧post (oneOf xs) st.heap st.nx
theorem AC.body {F:FuncId} {fn:Func} {c:Code} {m:Nat} {xs:List AV} {hp:List (Nat×AB)} {nx:Nat} {post:AV→List (Nat×AB)→Nat→Prop} {rs:List ResultVar} (hf:P.funcs[F]?=some fn) (hb:fn.body=some c) (hm:fn.ntmps=m) (hrs:fn.results.toList=rs) (hle:Nat.ble xs.length m=true)
  (h:AW P m c (retQ P rs post) ⟨argR 0 xs,hp,nx⟩):AC P F xs hp nx post:=fun w0 w G vs hHR hnx hargs=>by
 refine calls_of_wp hf hb ?_;subst hrs;have hsz:=hargs.size;have hle:=Nat.le_of_ble_eq_true hle
 have hR:RelG ⟨w0,w,G⟩ m ⟨argR 0 xs,hp,nx⟩ {tmps:=vs++Array.replicate (fn.ntmps-vs.size) undef,defers:=[] } w G:=by
  refine ⟨hnx,hHR,Ext.refl _ _,by simp;omega,rfl,fun k=>?_⟩;show RelV w G (look .any (argR 0 xs) k) ((vs++Array.replicate (fn.ntmps-vs.size) undef).getD k undef);rw [look_argR,if_pos (Nat.zero_le _),Nat.sub_zero]
  cases hx:xs[k]? with
  | none=>exact .dat (.any _)
  | some x =>
   have hk:k<vs.size:=by rw [hsz];exact (List.getElem?_eq_some_iff.1 hx).1
   have hv:vs[k]?=some vs[k]:=Array.getElem?_eq_getElem hk;rw [Array.getD_eq_getD_getElem?,Array.getElem?_append_left hk,hv];exact hargs.rel k x _ hx hv
 refine wp_mono (h ⟨w0,w,G⟩ _ w ⟨G,hR⟩) fun e a' w' ⟨st',⟨he,ys,hres,hpost⟩,G',r'⟩=>?_
 obtain ⟨v,h1,h2⟩:=run_results' (P:=P) r' (fn:=fn) hres
 have hfin:a'.defers=[]∧∃ v,(results fn a'.tmps).run P w'=.ok v w'∧∃ v' x hp' nx' G'',Ending.returned v=.returned v'∧post x hp' nx'∧G''.nx=nx'∧HR w0 w' G'' hp'∧RelV w' G'' x v'∧Ext w G w' G'' :=
  ⟨r'.defers,v,h1,v,_,_,_,G',rfl,hpost,r'.nx,r'.hr,h2,r'.ext⟩
 rcases he with rfl | rfl <;> exact hfin
end
end Go.Proofs.Ytljebnobajmjnaa
/- Symbolic walks: contracts on data alone. No program in sight. -/
namespace Go.Proofs.Ytljebnobajmjnaa
open Go Go.RowKit

def isD:AV→Bool
 | .int .. | .bool _ | .str _ | .nilp | .nils | .nilf | .ro .. | .any=>true
 | _=>false
theorem RelV.isD {w:World} {G:Gh} {a:AV} {v:Value} (h:RelV w G a v) (hd:isD a=true):RelD w G.own G.bs a v:=by
 cases h with
 | dat h=>exact h
 | _=>simp [Go.Proofs.Ytljebnobajmjnaa.isD] at hd
mutual
def AV.old:AV→AV
 | .ro _ sz rows=>.ro false sz (oldRR rows)
 | .any=>.any
 | .und=>.und
 | .int k n=>.int k n
 | .bool b=>.bool b
 | .str s=>.str s
 | .nilp=>.nilp
 | .nils=>.nils
 | .nilf=>.nilf
 | .box id o=>.box id o
 | .elt id n i j=>.elt id n i j
 | .peek row j=>.peek row j
 | .osl id n=>.osl id n
 | .vsl id n lo len=>.vsl id n lo len
 | .agg cs=>.agg cs
 | .tup cs=>.tup cs
 | .fn f cs=>.fn f cs
def oldR:List AV→List AV
 | []=>[]
 | a::l=>a.old::oldR l
def oldRR:List (List AV)→List (List AV)
 | []=>[]
 | a::l=>oldR a::oldRR l
end
theorem oldR_map (l:List AV):oldR l=l.map AV.old:=by
 induction l with
 | nil=>rw [oldR];rfl
 | cons a l ih=>rw [oldR,ih];rfl
theorem oldRR_map (l:List (List AV)):oldRR l=l.map oldR:=by
 induction l with
 | nil=>rw [oldRR];rfl
 | cons a l ih=>rw [oldRR,ih];rfl
theorem RelD.old {w:World} {own own':Nat→Prop} {bs bs':Nat} {a:AV} {v:Value} (h:RelD w own bs a v) (ho:∀ b,own' b→own b):RelD w own' bs' a.old v:=by
 induction h with
 | ro fr sz rows A c f hc hm h0 h1 h2 ih =>
  rw [AV.old,oldRR_map];have hl:rows.length=(rows.map oldR).length:=by simp
  rw [hl];refine .ro false sz _ A c f (by simpa using hc) hm (by simpa using h0) (fun i row j a g1 g2=>?_) (fun i row j a g1 g2=>?_)
  ·rw [List.getElem?_map] at g1;obtain ⟨row',g3,rfl⟩:=Option.map_eq_some_iff.1 g1;rw [oldR_map,List.getElem?_map] at g2;obtain ⟨a',g4,rfl⟩:=Option.map_eq_some_iff.1 g2;obtain ⟨b,o,e1,e2,_,e4⟩:=h1 i row' j a' g3 g4;exact ⟨b,o,e1,fun hb=>e2 (ho b hb),(by intro e;cases e),e4⟩
  ·rw [List.getElem?_map] at g1;obtain ⟨row',g3,rfl⟩:=Option.map_eq_some_iff.1 g1;rw [oldR_map,List.getElem?_map] at g2;obtain ⟨a',g4,rfl⟩:=Option.map_eq_some_iff.1 g2;exact ih i row' j a' g3 g4
 | any v=>rw [AV.old];exact .any v
 | und=>rw [AV.old];exact .und
 | int k n=>rw [AV.old];exact .int k n
 | bool b=>rw [AV.old];exact .bool b
 | str s=>rw [AV.old];exact .str s
 | nilp=>rw [AV.old];exact .nilp
 | nils=>rw [AV.old];exact .nils
 | nilf=>rw [AV.old];exact .nilf
def Gh.none (B:Nat):Gh:=⟨fun _=>undef,fun _=>False,fun _=>0,fun _=>0,0,B,fun _=>False⟩
def Gh.frz (B:Nat):Gh:=⟨fun _=>undef,fun b=>b<B,fun _=>0,fun _=>0,0,B,fun _=>False⟩
inductive FrzA (hp:List (Nat×AB)):AV→AV→Prop
 | dat (a:AV) (h:isD a=true) (b:AV) (hb:a.old=b):FrzA hp a b
 | osl (id n sz:Nat) (rows rows':List (List AV)) (e:TypeId) (h:look .dead hp id=.row sz rows e) (hn:n=rows.length) (hd:∀ row ∈ rows,∀ a ∈ row,isD a=true) (hr:oldRR rows=rows'):FrzA hp (.osl id n) (.ro false sz rows')
 | oslN (id n sz:Nat) (rows rows':List (List AV)) (e:TypeId) (h:look .dead hp id=.row sz rows e) (hn:n=rows.length) (hl:rows.length=rows'.length) (hll:∀ (i:Nat) (row row':List AV),rows[i]?=some row→rows'[i]?=some row'→row.length=row'.length)
   (hd:∀ (i:Nat) (row row':List AV) (j:Nat) (a a':AV),rows[i]?=some row→rows'[i]?=some row'→row[j]?=some a→row'[j]?=some a'→FrzA hp a a') (hD:∀ row ∈ rows',∀ a ∈ row,isD a=true):FrzA hp (.osl id n) (.ro false sz rows')
 | nilro (sz:Nat):FrzA hp .nils (.ro false sz [])
 | vsl (id n lo len sz:Nat) (rows rows':List (List AV)) (e:TypeId) (h:look .dead hp id=.row sz rows e) (hn:n=rows.length) (hd:∀ row ∈ rows,∀ a ∈ row,isD a=true) (hr:oldRR ((rows.drop lo).take len)=rows'):FrzA hp (.vsl id n lo len) (.ro false sz rows')
 | agg (cs cs':List AV) (hl:cs.length=cs'.length) (h:∀ (i:Nat) (a b:AV),cs[i]?=some a→cs'[i]?=some b→FrzA hp a b):FrzA hp (.agg cs) (.agg cs')
 | peekBox (id:Nat) (cs cs':List AV) (e:TypeId) (h:look .dead hp id=.box cs e) (hl:cs.length=cs'.length) (h2:∀ (i:Nat) (a b:AV),cs[i]?=some a→cs'[i]?=some b→FrzA hp a b) (hD:∀ b ∈ cs',isD b=true) (hne:cs'≠[]):FrzA hp (.box id 0) (.peek cs' 0)
 | peek (cs cs':List AV) (j:Nat) (hl:cs.length=cs'.length) (h2:∀ (i:Nat) (a b:AV),cs[i]?=some a→cs'[i]?=some b→FrzA hp a b) (hD:∀ b ∈ cs',isD b=true) (hne:cs'≠[]) (hDa:∀ a ∈ cs,isD a=true):FrzA hp (.peek cs j) (.peek cs' j)
 | peekElt (id n i j sz:Nat) (rows:List (List AV)) (cs cs':List AV) (e:TypeId) (h:look .dead hp id=.row sz rows e) (hn:n=rows.length) (hi:rows[i]?=some cs) (hl:cs.length=cs'.length) (h2:∀ (i:Nat) (a b:AV),cs[i]?=some a→cs'[i]?=some b→FrzA hp a b) (hD:∀ b ∈ cs',isD b=true) (hne:cs'≠[]):FrzA hp (.elt id n i j) (.peek cs' j)
 | fn (f:FuncId) (cs cs':List AV) (hl:cs.length=cs'.length) (h:∀ (i:Nat) (a b:AV),cs[i]?=some a→cs'[i]?=some b→FrzA hp a b):FrzA hp (.fn f cs) (.fn f cs')
 | peekO (cs cs':List AV) (off:Nat) (hl:off+cs'.length≤cs.length) (h2:∀ (i:Nat) (a b:AV),cs[off+i]?=some a→cs'[i]?=some b→FrzA hp a b) (hD:∀ b ∈ cs',isD b=true) (hne:cs'≠[]):FrzA hp (.peek cs off) (.peek cs' 0)
 | peekBoxO (id off:Nat) (cs cs':List AV) (e:TypeId) (h:look .dead hp id=.box cs e) (hl:off+cs'.length≤cs.length) (h2:∀ (i:Nat) (a b:AV),cs[off+i]?=some a→cs'[i]?=some b→FrzA hp a b) (hD:∀ b ∈ cs',isD b=true) (hne:cs'≠[]):FrzA hp (.box id off) (.peek cs' 0)
 | peekEltO (id n i off sz:Nat) (rows:List (List AV)) (cs cs':List AV) (e:TypeId) (h:look .dead hp id=.row sz rows e) (hn:n=rows.length) (hi:∀ row,rows[i]?=some row→row=cs) (hl:off+cs'.length≤cs.length) (h2:∀ (i:Nat) (a b:AV),cs[off+i]?=some a→cs'[i]?=some b→FrzA hp a b) (hD:∀ b ∈ cs',isD b=true) (hne:cs'≠[]):FrzA hp (.elt id n i off) (.peek cs' 0)
inductive FrzR (hp:List (Nat×AB)):AV→AV→Prop
 | dat (a:AV) (h:isD a=true) (hf:∀ fr sz rows,a≠.ro fr sz rows):FrzR hp a a
 | ro (sz:Nat) (rows:List (List AV)) (hd:∀ row ∈ rows,∀ a ∈ row,FrzR hp a a) (hD:∀ row ∈ rows,∀ a ∈ row,isD a=true):FrzR hp (.ro true sz rows) (.ro true sz rows)
 | osl (id n sz:Nat) (rows:List (List AV)) (e:TypeId) (h:look .dead hp id=.row sz rows e) (hn:n=rows.length) (hd:∀ row ∈ rows,∀ a ∈ row,FrzR hp a a) (hD:∀ row ∈ rows,∀ a ∈ row,isD a=true):FrzR hp (.osl id n) (.ro true sz rows)
 | oslN (id n sz:Nat) (rows rows':List (List AV)) (e:TypeId) (h:look .dead hp id=.row sz rows e) (hn:n=rows.length) (hl:rows.length=rows'.length) (hll:∀ (i:Nat) (row row':List AV),rows[i]?=some row→rows'[i]?=some row'→row.length=row'.length)
   (hd:∀ (i:Nat) (row row':List AV) (j:Nat) (a a':AV),rows[i]?=some row→rows'[i]?=some row'→row[j]?=some a→row'[j]?=some a'→FrzR hp a a') (hD:∀ row ∈ rows',∀ a ∈ row,isD a=true):FrzR hp (.osl id n) (.ro true sz rows')
 | vsl (id n lo len sz:Nat) (rows rows':List (List AV)) (e:TypeId) (h:look .dead hp id=.row sz rows e) (hn:n=rows.length) (hr:(rows.drop lo).take len=rows') (hd:∀ row ∈ rows',∀ a ∈ row,FrzR hp a a) (hD:∀ row ∈ rows',∀ a ∈ row,isD a=true):FrzR hp (.vsl id n lo len) (.ro true sz rows')
 | nilro (sz:Nat):FrzR hp .nils (.ro true sz [])
 | agg (cs cs':List AV) (hl:cs.length=cs'.length) (h:∀ (i:Nat) (a b:AV),cs[i]?=some a→cs'[i]?=some b→FrzR hp a b):FrzR hp (.agg cs) (.agg cs')
 | tup (cs cs':List AV) (hl:cs.length=cs'.length) (h:∀ (i:Nat) (a b:AV),cs[i]?=some a→cs'[i]?=some b→FrzR hp a b):FrzR hp (.tup cs) (.tup cs')

theorem row_ro {w0 w:World} {G:Gh} {own':Nat→Prop} {bs':Nat} {hp:List (Nat×AB)} {id n sz:Nat} {rows rows':List (List AV)} {e:TypeId} {fr:Bool} {v:Value} (hHR:HR w0 w G hp) (h:look .dead hp id=.row sz rows e) (hn:n=rows.length) (hv:RelV w G (.osl id n) v)
  (hl:rows.length=rows'.length) (hr:∀ (i:Nat) (row row':List AV) (j:Nat) (a':AV),rows[i]?=some row→rows'[i]?=some row'→row'[j]?=some a'→∃ a,row[j]?=some a∧∀ u,RelV w G a u→RelD w own' bs' a' u)
  (ho:∀ b,G.own b→¬ own' b) (hb:fr=true→∀ b,G.own b→bs'≤b):RelD w own' bs' (.ro fr sz rows') v:=by
 have hk:=hHR.blk id;rw [h] at hk;obtain ⟨q1,q2,q3,q4,flat,q5,q6,q7⟩:=hk
 have ev:v=G.ρ id:=by
  cases hv with
  | dat h=>cases h
  | osl _ _ _ _ _ _ _ hh=>exact hh (by rw [q4,hn])
 subst ev;rcases q5.2 with ⟨e1,e2⟩ | ⟨gg,cap,cur,e1,_,hh,hcap,hcm,_,_⟩
 ·rw [e1];have hr0:rows'=[]:=List.eq_nil_of_length_eq_zero (by omega);subst hr0;exact .ro fr sz [] none 0 (fun _ _=>undef) (Nat.le_refl _) (by simp [maxLen]) (fun i hi=>by simp at hi) (fun i row j a g=>by simp at g) (fun i row j a g=>by simp at g)
 ·have hog:G.own gg:=hHR.ownhas id gg q1 (by rw [e1];rfl);have q5':=q5;rw [e1] at q5';rw [e1,hl]
  have key:∀ (i:Nat) (row':List AV) (j:Nat) (a':AV),rows'[i]?=some row'→row'[j]?=some a'→∃ u,flat[i*sz+j]?=some u∧w.cell? ⟨gg,i*sz+j,none⟩=some u∧RelD w own' bs' a' u:=by
   intro i row' j a' g1 g2;have hil:i<rows.length:=by rw [hl];exact (List.getElem?_eq_some_iff.1 g1).1
   have g3:rows[i]?=some rows[i]:=List.getElem?_eq_getElem hil;obtain ⟨a,g4,g5⟩:=hr i _ row' j a' g3 g1 g2;obtain ⟨u,g6,g7⟩:=(q7 i _ g3).2 j a g4;refine ⟨u,g6,?_,g5 u g7⟩;rw [q5'.cellAt _ (by have:=(List.getElem?_eq_some_iff.1 g6).1;rw [q5.1] at this;exact this),g6]
  refine .ro fr sz rows' (some ⟨gg,0,none⟩) cap (fun i j=>flat.getD (i*sz+j) undef) (by omega) hcm (fun _ _=>by simp) (fun i row j a g1 g2=>?_) (fun i row j a g1 g2=>?_)
  ·obtain ⟨u,g3,g4,_⟩:=key i row j a g1 g2;refine ⟨gg,0,rfl,ho gg hog,fun e=>hb e gg hog,?_⟩;rw [Nat.zero_add,g4,List.getD_eq_getElem?_getD,g3];rfl
  ·obtain ⟨u,g3,_,g5⟩:=key i row j a g1 g2;rw [List.getD_eq_getElem?_getD,g3];exact g5
theorem view_ro {w0 w:World} {G:Gh} {hp:List (Nat×AB)} {id n lo len sz:Nat} {rows:List (List AV)} {e:TypeId} {v:Value} (hHR:HR w0 w G hp) (h:look .dead hp id=.row sz rows e) (hn:n=rows.length) (hv:RelV w G (.vsl id n lo len) v)
  (hd:∀ row ∈ rows,∀ a ∈ row,isD a=true):RelD w (Gh.none w.heap.size).own (Gh.none w.heap.size).bs (.ro false sz (oldRR ((rows.drop lo).take len))) v:=by
 have hk:=hHR.blk id;rw [h] at hk;obtain ⟨q1,q2,q3,q4,flat,q5,q6,q7⟩:=hk
 cases hv with
 | dat h=>cases h
 | vsl _ _ _ _ _ p1 p2 p3 hle p4 p5 =>
  obtain ⟨A,c,rfl,hc,hcm,hA⟩:=p5 (by rw [q4,hn]);have hlen:(oldRR ((rows.drop lo).take len)).length=len:=by rw [oldRR_map,List.length_map,List.length_take,List.length_drop];omega
  have key:∀ (i:Nat) (row':List AV) (j:Nat) (a':AV),(oldRR ((rows.drop lo).take len))[i]?=some row'→row'[j]?=some a'→∃ g,A=some ⟨g,lo*sz,none⟩∧w.cell? ⟨g,(lo+i)*sz+j,none⟩=some (flat.getD ((lo+i)*sz+j) undef)∧RelD w (Gh.none w.heap.size).own (Gh.none w.heap.size).bs a' (flat.getD ((lo+i)*sz+j) undef):=by
   intro i row' j a' g1 g2;have hil:i<len:=by rw [←hlen];exact (List.getElem?_eq_some_iff.1 g1).1
   obtain ⟨g,c',e1,e2⟩:=hA (by omega);rw [oldRR_map,List.getElem?_map,List.getElem?_take_of_lt hil,List.getElem?_drop] at g1;obtain ⟨row,g3,rfl⟩:=Option.map_eq_some_iff.1 g1;rw [oldR_map,List.getElem?_map] at g2;obtain ⟨a,g4,rfl⟩:=Option.map_eq_some_iff.1 g2;obtain ⟨u,g6,g7⟩:=(q7 _ row g3).2 j a g4;have q5':=q5;rw [e1,hn] at q5';refine ⟨g,by rw [e2,q3],?_,?_⟩
   ·rw [q5'.cellAt _ (by have:=(List.getElem?_eq_some_iff.1 g6).1;rw [q5.1] at this;exact this),List.getD_eq_getElem?_getD,g6];rfl
   ·rw [List.getD_eq_getElem?_getD,g6];exact (g7.isD (hd row (List.mem_of_getElem? g3) a (List.mem_of_getElem? g4))).old (fun _ h=>h.elim)
  have fin:=RelD.ro (w:=w) (own:=(Gh.none w.heap.size).own) (bs:=(Gh.none w.heap.size).bs) false sz (oldRR ((rows.drop lo).take len)) A c (fun i j=>flat.getD ((lo+i)*sz+j) undef) (by rw [hlen];exact hc) hcm (fun i hi=>by
    rw [hlen] at hi;obtain ⟨g,c',e1,e2⟩:=hA (by omega)
    rw [e2];simp) (fun i row j a g1 g2=>by
    obtain ⟨g,e1,e2,_⟩:=key i row j a g1 g2;refine ⟨g,lo*sz,e1,fun h=>h,fun e=>(by cases e),?_⟩;rw [show lo*sz+i*sz+j=(lo+i)*sz+j by rw [Nat.add_mul]]
    exact e2) (fun i row j a g1 g2=>(by
    obtain ⟨g,_,_,e3⟩:=key i row j a g1 g2
    exact e3))
  rw [hlen] at fin;exact fin
theorem view_roG {w0 w:World} {G:Gh} {own':Nat→Prop} {bs':Nat} {hp:List (Nat×AB)} {id n lo len sz:Nat} {rows:List (List AV)} {e:TypeId} {v:Value} (hHR:HR w0 w G hp) (h:look .dead hp id=.row sz rows e) (hn:n=rows.length) (hv:RelV w G (.vsl id n lo len) v)
  (hr:∀ row ∈ (rows.drop lo).take len,∀ a ∈ row,∀ u,RelV w G a u→RelD w own' bs' a u) (ho:∀ b,G.own b→¬ own' b) (hb:∀ b,G.own b→bs'≤b):RelD w own' bs' (.ro true sz ((rows.drop lo).take len)) v:=by
 have hk:=hHR.blk id;rw [h] at hk;obtain ⟨q1,q2,q3,q4,flat,q5,q6,q7⟩:=hk
 cases hv with
 | dat h=>cases h
 | vsl _ _ _ _ _ p1 p2 p3 hle p4 p5 =>
  obtain ⟨A,c,rfl,hc,hcm,hA⟩:=p5 (by rw [q4,hn]);have hlen:((rows.drop lo).take len).length=len:=by rw [List.length_take,List.length_drop];omega
  have key:∀ (i:Nat) (row:List AV) (j:Nat) (a:AV),((rows.drop lo).take len)[i]?=some row→row[j]?=some a→∃ g,A=some ⟨g,lo*sz,none⟩∧G.own g∧w.cell? ⟨g,(lo+i)*sz+j,none⟩=some (flat.getD ((lo+i)*sz+j) undef)∧RelD w own' bs' a (flat.getD ((lo+i)*sz+j) undef):=by
   intro i row j a g1 g2;have hil:i<len:=by rw [←hlen];exact (List.getElem?_eq_some_iff.1 g1).1
   obtain ⟨g,c',e1,e2⟩:=hA (by omega);have hm1:=List.mem_of_getElem? g1;rw [List.getElem?_take_of_lt hil,List.getElem?_drop] at g1;obtain ⟨u,g6,g7⟩:=(q7 _ row g1).2 j a g2;have hog:G.own g:=hHR.ownhas id g q1 (by rw [e1];rfl);have q5':=q5;rw [e1,hn] at q5';refine ⟨g,by rw [e2,q3],hog,?_,?_⟩
   ·rw [q5'.cellAt _ (by have:=(List.getElem?_eq_some_iff.1 g6).1;rw [q5.1] at this;exact this),List.getD_eq_getElem?_getD,g6];rfl
   ·rw [List.getD_eq_getElem?_getD,g6];exact hr row hm1 a (List.mem_of_getElem? g2) _ g7
  have fin:=RelD.ro (w:=w) (own:=own') (bs:=bs') true sz ((rows.drop lo).take len) A c (fun i j=>flat.getD ((lo+i)*sz+j) undef) (by rw [hlen];exact hc) hcm (fun i hi=>by
    rw [hlen] at hi;obtain ⟨g,c',e1,e2⟩:=hA (by omega)
    rw [e2];simp) (fun i row j a g1 g2=>by
    obtain ⟨g,e1,e2,e3,_⟩:=key i row j a g1 g2;refine ⟨g,lo*sz,e1,ho g e2,fun _=>hb g e2,?_⟩;rw [show lo*sz+i*sz+j=(lo+i)*sz+j by rw [Nat.add_mul]]
    exact e3) (fun i row j a g1 g2=>(by
    obtain ⟨g,_,_,_,e4⟩:=key i row j a g1 g2
    exact e4))
  rw [hlen] at fin;exact fin
theorem FrzA.rel {w0 w:World} {G:Gh} {hp:List (Nat×AB)} (hHR:HR w0 w G hp) {a b:AV} (h:FrzA hp a b):∀ {v:Value},RelV w G a v→RelV w (Gh.none w.heap.size) b v:=by
 induction h with
 | dat a h b hb =>
  intro v r;subst hb;exact .dat ((r.isD h).old (fun _ h=>h.elim))
 | osl id n sz rows rows' e h hn hd hr =>
  intro v r;subst hr;refine .dat (row_ro hHR h hn r (by rw [oldRR_map];simp) (fun i row row' j a' g1 g2 g3=>?_) (fun _ _ h=>h) (fun e=>by cases e));rw [oldRR_map,List.getElem?_map,g1] at g2;simp at g2;subst g2;rw [oldR_map,List.getElem?_map] at g3;obtain ⟨a,g4,rfl⟩:=Option.map_eq_some_iff.1 g3;exact ⟨a,g4,fun u hu=>(hu.isD (hd row (List.mem_of_getElem? g1) a (List.mem_of_getElem? g4))).old (fun _ h=>h.elim)⟩
 | oslN id n sz rows rows' e h hn hl hll hd hD ih =>
  intro v r;refine .dat (row_ro hHR h hn r hl (fun i row row' j a' g1 g2 g3=>?_) (fun _ _ h=>h) (fun e=>by cases e));have hj:j<row.length:=by rw [hll i row row' g1 g2];exact (List.getElem?_eq_some_iff.1 g3).1
  have g4:row[j]?=some row[j]:=List.getElem?_eq_getElem hj;exact ⟨_,g4,fun u hu=>(ih i row row' j _ a' g1 g2 g4 g3 hu).isD (hD row' (List.mem_of_getElem? g2) a' (List.mem_of_getElem? g3))⟩
 | vsl id n lo len sz rows rows' e h hn hd hr =>
  intro v r;subst hr;exact .dat (view_ro hHR h hn r hd)
 | nilro sz =>
  intro v r;have:=r.nils';subst this;exact .dat (.ro false sz [] none 0 (fun _ _=>undef) (Nat.le_refl _) (by simp [maxLen]) (fun i hi=>by simp at hi) (fun i row j a g=>by simp at g) (fun i row j a g=>by simp at g))
 | agg cs cs' hl h ih =>
  intro v r;obtain ⟨us,rfl,hsz,hr⟩:=r.agg';refine .agg _ _ (by rw [hsz,hl]) (fun i b u hb hu=>?_);have hi:i<cs.length:=by rw [←hsz];exact (Array.getElem?_eq_some_iff.1 hu).1
  have ha:cs[i]?=some cs[i]:=List.getElem?_eq_getElem hi;exact ih i _ b ha hb (hr i _ u ha hu)
 | peekElt id n i j sz rows cs cs' e h hn hi hl h2 hD hne ih =>
  intro v r;have hk:=hHR.blk id;rw [h] at hk;obtain ⟨q1,q2,q3,q4,flat,q5,q6,q7⟩:=hk
  cases r with
  | dat r=>cases r
  | elt _ _ _ _ _ p1 _ p2 p3 p4 p5 =>
   obtain ⟨g,c,e1,rfl⟩:=p5 (by rw [q4,hn]);have q5':=q5;rw [e1,hn] at q5';obtain ⟨g1,g2⟩:=q7 i cs hi;have hil:i<rows.length:=(List.getElem?_eq_some_iff.1 hi).1
   have key:∀ (t:Nat) (b:AV),cs'[t]?=some b→∃ u,flat[i*sz+t]?=some u∧RelV w (Gh.none w.heap.size) b u:=by
    intro t b hb;have ht:t<cs.length:=by rw [hl];exact (List.getElem?_eq_some_iff.1 hb).1
    have ha:cs[t]?=some cs[t]:=List.getElem?_eq_getElem ht;obtain ⟨u,g3,g4⟩:=g2 t _ ha;exact ⟨u,g3,ih t _ b ha hb g4⟩
   rw [q3];refine .peek cs' j g (i*sz) (fun t=>flat.getD (i*sz+t) undef) hne (fun h=>h) (fun t b hb=>?_) (fun t b hb=>?_)
   ·obtain ⟨u,g3,_⟩:=key t b hb;have hlt:i*sz+t<rows.length*sz:=by have:=(List.getElem?_eq_some_iff.1 g3).1;rw [q5.1] at this;exact this
    rw [q5'.cellAt _ hlt,List.getD_eq_getElem?_getD,g3];rfl
   ·obtain ⟨u,g3,g4⟩:=key t b hb;rw [List.getD_eq_getElem?_getD,g3];exact g4.isD (hD b (List.mem_of_getElem? hb))
 | fn f cs cs' hl h ih =>
  intro v r;obtain ⟨us,rfl,hsz,hr⟩:=r.fn';refine .fn _ _ _ _ rfl (by rw [hsz,hl]) (fun i b u hb hu=>?_);have hi:i<cs.length:=by rw [←hsz];exact (Array.getElem?_eq_some_iff.1 hu).1
  have ha:cs[i]?=some cs[i]:=List.getElem?_eq_getElem hi;exact ih i _ b ha hb (hr i _ u ha hu)
 | peekBox id cs cs' e h hl h2 hD hne ih =>
  intro v r;have hk:=hHR.blk id;rw [h] at hk;obtain ⟨_,_,g,vs,e1,hh,hsz,hc⟩:=hk
  cases r with
  | dat r=>cases r
  | box _ _ g' q1 q2 q3 =>
   rw [e1] at q3;injection q3 with q3
   injection q3 with q3
   injection q3 with q3
   subst q3
   have key:∀ (t:Nat) (b:AV),cs'[t]?=some b→∃ u,vs[t]?=some u∧RelV w (Gh.none w.heap.size) b u:=by
    intro t b hb;have ht:t<cs.length:=by rw [hl];exact (List.getElem?_eq_some_iff.1 hb).1
    have ha:cs[t]?=some cs[t]:=List.getElem?_eq_getElem ht;obtain ⟨u,g1,_,g3⟩:=hc t _ ha;exact ⟨u,g1,ih t _ b ha hb g3⟩
   refine .peek cs' 0 g 0 (fun t=>vs.getD t undef) hne (fun h=>h) (fun t b hb=>?_) (fun t b hb=>?_)
   ·obtain ⟨u,g1,_⟩:=key t b hb;rw [Nat.zero_add,Array.getD_eq_getD_getElem?,g1];rw [cell_of_cells hh g1];rfl
   ·obtain ⟨u,g1,g2⟩:=key t b hb;rw [Array.getD_eq_getD_getElem?,g1];exact g2.isD (hD b (List.mem_of_getElem? hb))
 | peek cs cs' j hl h2 hD hne hDa ih =>
  intro v r
  cases r with
  | dat r=>cases r
  | peek _ _ b o f hr hb h1 h3 =>
   have key:∀ (t:Nat) (x:AV),cs'[t]?=some x→∃ a,cs[t]?=some a∧RelV w (Gh.none w.heap.size) x (f t):=by
    intro t x hx;have ht:t<cs.length:=by rw [hl];exact (List.getElem?_eq_some_iff.1 hx).1
    have ha:cs[t]?=some cs[t]:=List.getElem?_eq_getElem ht;exact ⟨_,ha,ih t _ x ha hx (.dat (h3 t _ ha))⟩
   refine .peek cs' j b o f hne (fun h=>h) (fun t x hx=>?_) (fun t x hx=>?_)
   ·obtain ⟨a,ha,_⟩:=key t x hx;exact h1 t a ha
   ·obtain ⟨a,_,g2⟩:=key t x hx;exact g2.isD (hD x (List.mem_of_getElem? hx))
 | peekO cs cs' off hl h2 hD hne ih =>
  intro v r
  cases r with
  | dat r=>cases r
  | peek _ _ b o f hr hb h1 h3 =>
   have key:∀ (t:Nat) (x:AV),cs'[t]?=some x→∃ a,cs[off+t]?=some a∧RelV w (Gh.none w.heap.size) x (f (off+t)):=by
    intro t x hx;have ht:off+t<cs.length:=by have:=(List.getElem?_eq_some_iff.1 hx).1;omega
    have ha:cs[off+t]?=some cs[off+t]:=List.getElem?_eq_getElem ht;exact ⟨_,ha,ih t _ x ha hx (.dat (h3 _ _ ha))⟩
   refine .peek cs' 0 b (o+off) (fun t=>f (off+t)) hne (fun h=>h) (fun t x hx=>?_) (fun t x hx=>?_)
   ·obtain ⟨a,ha,_⟩:=key t x hx;have:=h1 _ a ha;rw [←Nat.add_assoc] at this;exact this
   ·obtain ⟨a,_,g2⟩:=key t x hx;exact g2.isD (hD x (List.mem_of_getElem? hx))
 | peekBoxO id off cs cs' e h hl h2 hD hne ih =>
  intro v r;have hk:=hHR.blk id;rw [h] at hk;obtain ⟨_,_,g,vs,e1,hh,hsz,hc⟩:=hk
  cases r with
  | dat r=>cases r
  | box _ _ g' q1 q2 q3 =>
   rw [e1] at q3;injection q3 with q3
   injection q3 with q3
   injection q3 with q3
   subst q3
   have key:∀ (t:Nat) (b:AV),cs'[t]?=some b→∃ u,vs[off+t]?=some u∧RelV w (Gh.none w.heap.size) b u:=by
    intro t b hb;have ht:off+t<cs.length:=by have:=(List.getElem?_eq_some_iff.1 hb).1;omega
    have ha:cs[off+t]?=some cs[off+t]:=List.getElem?_eq_getElem ht;obtain ⟨u,g1,_,g3⟩:=hc _ _ ha;exact ⟨u,g1,ih t _ b ha hb g3⟩
   refine .peek cs' 0 g off (fun t=>vs.getD (off+t) undef) hne (fun h=>h) (fun t b hb=>?_) (fun t b hb=>?_)
   ·obtain ⟨u,g1,_⟩:=key t b hb;rw [Array.getD_eq_getD_getElem?,g1];rw [cell_of_cells hh g1];rfl
   ·obtain ⟨u,g1,g2⟩:=key t b hb;rw [Array.getD_eq_getD_getElem?,g1];exact g2.isD (hD b (List.mem_of_getElem? hb))
 | peekEltO id n i off sz rows cs cs' e h hn hi hl h2 hD hne ih =>
  intro v r;have hk:=hHR.blk id;rw [h] at hk;obtain ⟨q1,q2,q3,q4,flat,q5,q6,q7⟩:=hk
  cases r with
  | dat r=>cases r
  | elt _ _ _ _ _ p1 hin p2 p3 p4 p5 =>
   obtain ⟨g,c,e1,rfl⟩:=p5 (by rw [q4,hn]);have q5':=q5;rw [e1,hn] at q5';have hil:i<rows.length:=by omega
   have hrow:rows[i]?=some cs:=by rw [List.getElem?_eq_getElem hil,hi _ (List.getElem?_eq_getElem hil)]
   obtain ⟨g1,g2⟩:=q7 i cs hrow
   have key:∀ (t:Nat) (b:AV),cs'[t]?=some b→∃ u,flat[i*sz+(off+t)]?=some u∧RelV w (Gh.none w.heap.size) b u:=by
    intro t b hb;have ht:off+t<cs.length:=by have:=(List.getElem?_eq_some_iff.1 hb).1;omega
    have ha:cs[off+t]?=some cs[off+t]:=List.getElem?_eq_getElem ht;obtain ⟨u,g3,g4⟩:=g2 _ _ ha;exact ⟨u,g3,ih t _ b ha hb g4⟩
   rw [q3];refine .peek cs' 0 g (i*sz+off) (fun t=>flat.getD (i*sz+(off+t)) undef) hne (fun h=>h) (fun t b hb=>?_) (fun t b hb=>?_)
   ·obtain ⟨u,g3,_⟩:=key t b hb;have hlt:i*sz+(off+t)<rows.length*sz:=by have:=(List.getElem?_eq_some_iff.1 g3).1;rw [q5.1] at this;exact this
    rw [Nat.add_assoc,q5'.cellAt _ hlt,List.getD_eq_getElem?_getD,g3];rfl
   ·obtain ⟨u,g3,g4⟩:=key t b hb;rw [List.getD_eq_getElem?_getD,g3];exact g4.isD (hD b (List.mem_of_getElem? hb))
theorem FrzR.rel {w0 w:World} {G:Gh} {hp:List (Nat×AB)} (hHR:HR w0 w G hp) (hbs:∀ b,G.own b→w0.heap.size≤b) {a b:AV} (h:FrzR hp a b):∀ {v:Value},RelV w G a v→RelV w (Gh.frz w0.heap.size) b v:=by
 induction h with
 | dat a h hf =>
  intro v r;refine .dat ?_;have r:=r.isD h
  cases r with
  | any=>exact .any _
  | und=>exact .und
  | int=>exact .int _ _
  | bool=>exact .bool _
  | str=>exact .str _
  | nilp=>exact .nilp
  | nils=>exact .nils
  | nilf=>exact .nilf
  | ro fr sz rows=>exact absurd rfl (hf fr sz rows)
 | ro sz rows hd hD ih =>
  intro v r;refine .dat ?_;have r:=r.isD rfl
  cases r with
  | ro _ _ _ A c f hc hm h0 h1 h2 =>
   refine .ro true sz rows A c f hc hm h0 (fun i row j a g1 g2=>?_) (fun i row j a g1 g2=>?_)
   ·obtain ⟨b,o,e1,e2,e3,e4⟩:=h1 i row j a g1 g2;have e3:=e3 rfl;rw [hHR.bs] at e3;exact ⟨b,o,e1,(by intro hlt;have:b<w0.heap.size:=hlt;omega),fun _=>e3,e4⟩
   ·exact (ih row (List.mem_of_getElem? g1) a (List.mem_of_getElem? g2) (.dat (h2 i row j a g1 g2))).isD (hD row (List.mem_of_getElem? g1) a (List.mem_of_getElem? g2))
 | osl id n sz rows e h hn hd hD ih =>
  intro v r;refine .dat (row_ro hHR h hn r rfl (fun i row row' j a' g1 g2 g3=>?_) (fun b hb hlt=>by have:=hbs b hb;have:b<w0.heap.size:=hlt;omega) (fun _ b hb=>hbs b hb));rw [g1] at g2;injection g2 with g2
  subst g2;exact ⟨a',g3,fun u hu=>(ih row (List.mem_of_getElem? g1) a' (List.mem_of_getElem? g3) hu).isD (hD row (List.mem_of_getElem? g1) a' (List.mem_of_getElem? g3))⟩
 | vsl id n lo len sz rows rows' e h hn hr hd hD ih =>
  intro v r;subst hr;exact .dat (view_roG hHR h hn r (fun row h1 a h2 u hu=>(ih row h1 a h2 hu).isD (hD row h1 a h2)) (fun b hb hlt=>by have:=hbs b hb;have:b<w0.heap.size:=hlt;omega) (fun b hb=>hbs b hb))
 | oslN id n sz rows rows' e h hn hl hll hd hD ih =>
  intro v r;refine .dat (row_ro hHR h hn r hl (fun i row row' j a' g1 g2 g3=>?_) (fun b hb hlt=>by have:=hbs b hb;have:b<w0.heap.size:=hlt;omega) (fun _ b hb=>hbs b hb));have hj:j<row.length:=by rw [hll i row row' g1 g2];exact (List.getElem?_eq_some_iff.1 g3).1
  have g4:row[j]?=some row[j]:=List.getElem?_eq_getElem hj;exact ⟨_,g4,fun u hu=>(ih i row row' j _ a' g1 g2 g4 g3 hu).isD (hD row' (List.mem_of_getElem? g2) a' (List.mem_of_getElem? g3))⟩
 | nilro sz =>
  intro v r;have:=r.nils';subst this;exact .dat (.ro true sz [] none 0 (fun _ _=>undef) (Nat.le_refl _) (by simp [maxLen]) (fun i hi=>by simp at hi) (fun i row j a g=>by simp at g) (fun i row j a g=>by simp at g))
 | agg cs cs' hl h ih =>
  intro v r;obtain ⟨us,rfl,hsz,hr⟩:=r.agg';refine .agg _ _ (by rw [hsz,hl]) (fun i b u hb hu=>?_);have hi:i<cs.length:=by rw [←hsz];exact (Array.getElem?_eq_some_iff.1 hu).1
  have ha:cs[i]?=some cs[i]:=List.getElem?_eq_getElem hi;exact ih i _ b ha hb (hr i _ u ha hu)
 | tup cs cs' hl h ih =>
  intro v r;obtain ⟨us,rfl,hsz,hr⟩:=r.tup';refine .tup _ _ (by rw [hsz,hl]) (fun i b u hb hu=>?_);have hi:i<cs.length:=by rw [←hsz];exact (Array.getElem?_eq_some_iff.1 hu).1
  have ha:cs[i]?=some cs[i]:=List.getElem?_eq_getElem hi;exact ih i _ b ha hb (hr i _ u ha hu)


structure AF (P:Program) (F:FuncId) (xs:List AV) (y:AV):Prop where
 out:∀ (w:World) (vs:Array Value),ArgsV w (Gh.none w.heap.size) xs vs→Calls P F vs w fun e w'=>∃ v,e=.returned v∧Below w.heap.size w w'∧RelV w' (Gh.frz w.heap.size) y v
theorem HR.start (w:World):HR w w (Gh.none w.heap.size) [] :=
 ⟨rfl,Below.refl _ _,fun _=>⟨fun h=>h.elim,fun h=>h⟩,fun _=>trivial,fun _ _ _ h=>absurd h (Nat.not_lt_zero _),fun _ _ h=>absurd h (Nat.not_lt_zero _)⟩
section
variable {P:Program} {F:FuncId} {xs:List AV} {y:AV}
theorem AF.of_AC (h:AC P F xs [] 0 (fun x hp _=>FrzR hp x y)):AF P F xs y:=.mk fun w vs ha =>
 (h w w (Gh.none w.heap.size) vs (HR.start w) rfl ha).mono fun _ _ ⟨v,_,_,_,_,he,hp,_,hHR,hRV,_⟩=>⟨v,he,hHR.below,hp.rel hHR (fun b hb=>(hHR.ownlt b hb).1) hRV⟩
theorem AC.of_AF {xs':List AV} {hp:List (Nat×AB)} {nx:Nat} {post:AV→List (Nat×AB)→Nat→Prop} (h:AF P F xs' y) (hl:xs.length=xs'.length) (hx:∀ (i:Nat) (a b:AV),xs[i]?=some a→xs'[i]?=some b→FrzA hp a b) (hpost:post y hp nx):AC P F xs hp nx post:=fun w0 w G vs hHR hnx ha=>by
 have ha':ArgsV w (Gh.none w.heap.size) xs' vs:=by
  refine ⟨by rw [ha.size,hl],fun i b v hb hv=>?_⟩;have hi:i<xs.length:=by rw [hl];exact (List.getElem?_eq_some_iff.1 hb).1
  have hxi:xs[i]?=some xs[i]:=List.getElem?_eq_getElem hi;exact (hx i _ b hxi hb).rel hHR (ha.rel i _ v hxi hv)
 refine (h.out w vs ha').mono fun e w' ⟨v,he,hb,hr⟩=>?_
 obtain ⟨h1,h2⟩:=hHR.same hb;refine ⟨v,y,hp,nx,G,he,hpost,hnx,h1,?_,h2⟩
 have key:∀ {a:AV} {u:Value},RelD w' (Gh.frz w.heap.size).own (Gh.frz w.heap.size).bs a u→RelD w' G.own G.bs a u:=by
  intro a u hd
  induction hd with
  | ro fr sz rows A c f hc hm h0 h1' h2' ih =>
   refine .ro fr sz rows A c f hc hm h0 (fun i row j a g1 g2=>?_) ih;obtain ⟨b,o,e1,e2,e3,e4⟩:=h1' i row j a g1 g2;have e2:¬ b<w.heap.size:=e2;refine ⟨b,o,e1,fun ho=>e2 (hHR.ownlt b ho).2,fun _=>?_,e4⟩;rw [hHR.bs];have:=hHR.below.size;omega
  | any v=>exact .any v
  | und=>exact .und
  | int k n=>exact .int k n
  | bool b=>exact .bool b
  | str s=>exact .str s
  | nilp=>exact .nilp
  | nils=>exact .nils
  | nilf=>exact .nilf
 have key2:∀ {a:AV} {u:Value},RelV w' (Gh.frz w.heap.size) a u→RelV w' G a u:=by
  intro a u hd
  induction hd with
  | dat h=>exact .dat (key h)
  | box id off g hid=>exact absurd hid (Nat.not_lt_zero _)
  | elt id n i j v hid=>exact absurd hid (Nat.not_lt_zero _)
  | osl id n v hid=>exact absurd hid (Nat.not_lt_zero _)
  | vsl id n lo len v hid=>exact absurd hid (Nat.not_lt_zero _)
  | peek row j b o f hr hb h1' h2'=>exact .peek row j b o f hr (fun ho=>hb (hHR.ownlt b ho).2) h1' (fun t a g=>key (h2' t a g))
  | agg cs vs hl _ ih=>exact .agg cs vs hl ih
  | tup cs vs hl _ ih=>exact .tup cs vs hl ih
  | fn f cs fs vs hf hl _ ih=>exact .fn f cs fs vs hf hl ih
 exact key2 hr
end
end Go.Proofs.Ytljebnobajmjnaa
/- Symbolic walks: small laws that the walking tactic uses. No program in sight. -/
namespace Go.Proofs.Ytljebnobajmjnaa
open Go Go.RowKit

section
variable {P:Program} {n:Nat} {Q:Exit→ASt→Prop} {st:ASt} {K:ASt→Prop}
theorem inA_eq {id:Nat} (h:Q .normal st):inBlockA id Q (.exit id) st:=by unfold inBlockA;simp;exact h
theorem inA_ne {id id':Nat} (hne:Nat.beq id' id=false) (h:Q (.exit id') st):inBlockA id Q (.exit id') st:=by
 unfold inBlockA;have:¬ id'=id:=fun e=>by subst e;simp at hne
 simp [this];exact h
theorem AW.condT {c:Operand} {x y:Code} (hc:st.ev c=.bool true) (h:AW P n x Q st):AW P n (.cond c x y) Q st:=AW.cond hc (fun _=>h) (fun e=>by cases e)
theorem AW.condF {c:Operand} {x y:Code} (hc:st.ev c=.bool false) (h:AW P n y Q st):AW P n (.cond c x y) Q st:=AW.cond hc (fun e=>by cases e) (fun _=>h)
end
theorem wr64 {x:Int} (h0:-9223372036854775808≤x) (h1:x≤9223372036854775807):IntKind.i64.wrap x=x:=by rw [IntKind.wrap_i64];omega
theorem enc_at {α:Type} {f:α→List AV} {xs:List α} {i:Nat} {x:α} (h:xs[i]?=some x):(xs.map f)[i]?=some (f x):=by rw [List.getElem?_map,h];rfl
def eI (k:IntKind) (x:Int):List AV:=[.int k x]
section
variable {P:Program} {st:ASt} {post:AV→List (Nat×AB)→Nat→Prop}
end
theorem FrzR.int {hp:List (Nat×AB)} {k:IntKind} {m n:Int} (h:m=n):FrzR hp (.int k m) (.int k n):=by subst h;exact .dat _ rfl (fun _ _ _=>by simp)
theorem FrzR.bool {hp:List (Nat×AB)} {b c:Bool} (h:b=c):FrzR hp (.bool b) (.bool c):=by subst h;exact .dat _ rfl (fun _ _ _=>by simp)
end Go.Proofs.Ytljebnobajmjnaa
/- Symbolic walks: rows written,rows grown;rows that are lists of encoded elements. No program in sight. -/
namespace Go.Proofs.Ytljebnobajmjnaa
open Go Go.RowKit

def bmul:Nat→Nat
 | 0=>1
 | b+1=>b+1
theorem bmul_pos:∀ b,0<bmul b
 | 0=>Nat.one_pos
 | _+1=>Nat.succ_pos _
theorem bmul_le:∀ b,b≤bmul b
 | 0=>Nat.zero_le _
 | _+1=>Nat.le_refl _
theorem run_append_v {P:Program} (w:World) (base:Nat) (t ty e:TypeId) (i:TypeInfo) (z:Value) (size bytes:Nat) (ht:P.underlying t=some (.slice e)) (hi:P.info? e=some i) (hz:i.zero=some z)
  (hsize:i.size=size) (hby:i.bytes=bytes) (hzs:z.cells.size=size) (v:Value) (n:Nat) (xs:List Value) (hown:ownsM w base e size v n xs)
  (A:Option Addr) (m c:Nat) (news:List Value) (hl:news.length=m*size) (hA:A=none→m=0) (hnews:∀ (j:Nat) (u:Value),news[j]?=some u→∃ b o,A=some ⟨b,o,none⟩∧w.cell? ⟨b,o+j,none⟩=some u) (h1:∀ u ∈ news,u.oneCell'=true)
  (h63:n+m≤maxLen) (hbytes:(n+m)*bytes≤140737488355328) (hbase:base≤w.heap.size) (hAs:m≠0→∀ a,A=some a→a.spot=none) :
  ∃ v' w',(Builtin.append_ #[t,t] ty #[v,.slice A m c]).run P w=.ok v' w'∧ownsM w' base e size v' (n+m) (xs++news)∧w.grownBy w' v.ownBlock∧(∀ g,ownBlk v'=some g→ownBlk v=some g∨w.heap.size≤g)∧(m=0→v'=v):=by
 subst hsize
 subst hby;have hsmall:n+m≤9223372036854775807:=by simp only [maxLen] at h63;omega
 have hlen:(xs++news).length=(n+m)*i.size:=by rw [List.length_append,hown.1,hl,Nat.add_mul]
 have grown:∀ (old:Nat),old<n+m→∀ (row:Option Nat),
   ownsM (w.drew.alloc (.cells (xs.toArray++news.toArray++Builtin.zeroCells z.cells (grownCap w (n+m) old e-(n+m))) e)) base e i.size
    (.slice (some ⟨w.heap.size,0,none⟩) (n+m) (grownCap w (n+m) old e)) (n+m) (xs++news) ∧
   w.grownBy (w.drew.alloc (.cells (xs.toArray++news.toArray++Builtin.zeroCells z.cells (grownCap w (n+m) old e-(n+m))) e)) row:=by
  intro old ho row;have hge:=grownCap_ge w (n+m) old e;have hcm:grownCap w (n+m) old e≤maxLen:=grownCap_le_maxLen w (n+m) old e h63;refine ⟨⟨hlen,.inr ⟨w.heap.size,_,_,rfl,hbase,.of (heap_alloc_new w.drew _),hge,hcm,?_,?_⟩⟩,⟨rfl,rfl,rfl,by simp,fun k hk _=>Below.heap_alloc w.drew _ k hk⟩⟩
  ·simp only [Array.size_append,List.size_toArray,size_zeroCells,hzs,hown.1,hl,←Nat.add_mul];congr 1;omega
  ·simp only [Array.toList_append,List.append_assoc];rw [←List.append_assoc,←hlen];exact List.take_left
 by_cases hm:m=0
 ·subst hm;have hn:news=[]:=List.eq_nil_of_length_eq_zero (by simpa using hl);subst hn;refine ⟨v,w,?_,by simpa using hown,⟨rfl,rfl,rfl,Nat.le_refl _,fun _ _ _=>rfl⟩,fun g hg=>.inl hg,fun _=>rfl⟩
  have hfc:∀ (A:Option Addr),(Builtin.firstCells i.size 0 (.slice A 0 c)).run P w=.ok #[] w:=by
   intro A
   cases A <;> simp [Builtin.firstCells,loadCells,loadCellsFrom]
  rcases hown.2 with ⟨rfl,rfl⟩ | ⟨g,cap,cur,rfl,_,_,hnc,_⟩
  ·simp [Builtin.append_,run_underlying ht,sizeOf,typeInfo,hi,Builtin.lenOf,hfc]
  ·simp [Builtin.append_,run_underlying ht,sizeOf,typeInfo,hi,Builtin.lenOf,hfc,hnc,storeCells]
 obtain ⟨a,rfl⟩:∃ a,A=some a:=by
  cases A with
  | none=>exact absurd (hA rfl) hm
  | some a=>exact ⟨a,rfl⟩
 obtain ⟨b,o,sp⟩:=a;have hsp:sp=none:=hAs hm _ rfl;subst hsp
 have hnews':∀ j u,news[j]?=some u→w.cell? ((⟨b,o,none⟩:Addr).add j)=some u:=by
  intro j u hu;obtain ⟨b',o',e1,e2⟩:=hnews j u hu;injection e1 with e1
  injection e1 with e1 e3 _
  subst e1;subst e3
  rw [addr_add];exact e2
 rcases hown.2 with ⟨rfl,rfl⟩ | ⟨g,cap,cur,rfl,hbg,hg,hnc,hcm,hcs,htake⟩
 ·have hx:xs=[]:=List.eq_nil_of_length_eq_zero (by simpa using hown.1);subst hx;have hr:=run_append_nil (P:=P) w t ty e i z ht hi hz ⟨b,o,none⟩ m c news hl hnews' (by omega) (by omega) (by have hb:=hbytes;simp only [Nat.zero_add] at hb;omega);have hgr:=grown 0 (by omega) (Value.ownBlock (.slice none 0 0));simp only [Nat.zero_add,List.nil_append,Array.empty_append] at hgr ⊢;exact ⟨_,_,hr,hgr.1,hgr.2,fun g hg=>(by simp [ownBlk] at hg;right;omega),fun h=>absurd h hm⟩
 ·by_cases hroom:n+m≤cap
  ·have hfit:n*i.size+news.length≤cur.size:=by rw [hl,hcs,←Nat.add_mul];exact Nat.mul_le_mul_right _ hroom
   have hr:=run_append_roomM (P:=P) w t ty e i ht hi g n cap cur hg ⟨b,o,none⟩ m c news hl hnews' h1 hroom hfit;refine ⟨_,_,hr,⟨hlen,.inr ⟨g,cap,_,rfl,hbg,hg.setRow ?_,hroom,hcm,?_,?_⟩⟩,⟨rfl,rfl,rfl,by simp,fun k _ hk=>setRow_other w g k _ (fun e=>hk (by simp [Value.ownBlock,e]))⟩,fun g' hg'=>.inl hg',fun h=>absurd h hm⟩
   ·simp only [List.size_toArray,List.length_append,List.length_take,List.length_drop,Array.length_toList];omega
   ·simp only [List.size_toArray,List.length_append,List.length_take,List.length_drop,Array.length_toList];omega
   ·rw [htake,←hlen];exact List.take_left
  ·have holds:∀ j u,xs[j]?=some u→w.cell? ((⟨g,0,none⟩:Addr).add j)=some u:=hown.cells (g:=g) rfl;have hr:=run_append_grow (P:=P) w t ty e i z ht hi hz ⟨g,0,none⟩ n cap xs hown.1 holds ⟨b,o,none⟩ m c news hl hnews' (by omega) (by omega) (growslice_fits (by omega) hbytes);have hgr:=grown cap (by omega) (Value.ownBlock (.slice (some ⟨g,0,none⟩) n cap));exact ⟨_,_,hr,hgr.1,hgr.2,fun g' hg'=>(by simp [ownBlk] at hg';right;omega),fun h=>absurd h hm⟩

inductive SrcA (hp:List (Nat×AB)) (sz:Nat):AV→List (List AV)→Prop
 | ro (fr:Bool) (rows:List (List AV)) (h:∀ row ∈ rows,row.length=sz∧allOne row=true):SrcA hp sz (.ro fr sz rows) rows
 | osl (id n:Nat) (rows:List (List AV)) (e:TypeId) (h:look .dead hp id=.row sz rows e) (hn:n=rows.length):SrcA hp sz (.osl id n) rows
 | vsl (id n lo len:Nat) (rows0 rows:List (List AV)) (e:TypeId) (h:look .dead hp id=.row sz rows0 e) (hn:n=rows0.length) (hr:(rows0.drop lo).take len=rows):SrcA hp sz (.vsl id n lo len) rows
 | nils:SrcA hp sz .nils []
section
variable {P:Program} {n:Nat} {st:ASt}
theorem SrcA.real {K:Kn} {a:Act} {w:World} {G:Gh} (r:RelG K n st a w G) {sz:Nat} (h0:0<sz) {x:AV} {rows:List (List AV)} (h:SrcA st.heap sz x rows) {v:Value} (hv:RelV w G x v) :
  ∃ A c news,v=.slice A rows.length c∧RowsV w G sz rows news∧(A=none→rows.length=0)∧(rows.length≠0→∀ a,A=some a→a.spot=none)∧(∀ (j:Nat) (u:Value),news[j]?=some u→∃ b o,A=some ⟨b,o,none⟩∧w.cell? ⟨b,o+j,none⟩=some u):=by
 cases h with
 | nils =>
  have:=hv.nils';subst this;exact ⟨none,0,[],rfl,RowsV.nil _ _ _,fun _=>rfl,fun _ a h=>(by cases h),fun j u h=>(by simp at h)⟩
 | ro fr _ h =>
  cases hv with
  | dat hd =>
   cases hd with
   | ro _ _ _ A c f hc hm q0 h1 h2 =>
    have hsp:∀ a,A=some a→0<rows.length→a.spot=none:=by
     intro a ha hl;have g1:rows[0]?=some rows[0]:=List.getElem?_eq_getElem hl;obtain ⟨hrl,_⟩:=h _ (List.mem_of_getElem? g1);have g2:rows[0][0]?=some rows[0][0]:=List.getElem?_eq_getElem (by omega);obtain ⟨b,o,e,_⟩:=h1 0 _ 0 _ g1 g2;rw [e] at ha;injection ha with ha
     rw [←ha]
    have hrl:∀ (i:Nat) (row:List AV),rows[i]?=some row→row.length=sz:=fun i row hi=>(h row (List.mem_of_getElem? hi)).1
    have hq:∀ t,t<rows.length*sz→∃ row a,rows[t / sz]?=some row∧row[t % sz]?=some a:=by
     intro t ht;have h3:t / sz<rows.length:=(Nat.div_lt_iff_lt_mul h0).2 ht;have g1:rows[t / sz]?=some rows[t / sz]:=List.getElem?_eq_getElem h3;have h4:t % sz<(rows[t / sz]).length:=by rw [hrl _ _ g1];exact Nat.mod_lt _ h0
     exact ⟨_,_,g1,List.getElem?_eq_getElem h4⟩
    have hdm:∀ t:Nat,t / sz*sz+t % sz=t:=fun t=>by rw [Nat.mul_comm];exact Nat.div_add_mod t sz
    refine ⟨A,c,(List.range (rows.length*sz)).map (fun t=>f (t / sz) (t % sz)),rfl,⟨by simp,fun v hv=>?_,fun i row hi=>⟨hrl i row hi,fun j a hj=>?_⟩⟩,fun hA=>?_,fun hne a ha=>hsp a ha (by omega),fun j u hu=>?_⟩
    ·obtain ⟨t,ht,rfl⟩:=List.mem_map.1 hv;obtain ⟨row,a,g1,g2⟩:=hq t (List.mem_range.1 ht);exact (RelV.dat (G:=G) (h2 _ row _ a g1 g2)).one (allOne_at (h row (List.mem_of_getElem? g1)).2 g2)
    ·have hjs:j<sz:=by rw [←hrl i row hi];exact (List.getElem?_eq_some_iff.1 hj).1
     have hil:i<rows.length:=(List.getElem?_eq_some_iff.1 hi).1;have hlt:i*sz+j<rows.length*sz:=flat_lt hil hjs;refine ⟨f i j,?_,.dat (h2 i row j a hi hj)⟩;rw [List.getElem?_map,List.getElem?_range hlt];have e1:(i*sz+j) / sz=i:=by rw [Nat.mul_comm,Nat.mul_add_div h0,Nat.div_eq_of_lt hjs,Nat.add_zero]
     have e2:(i*sz+j) % sz=j:=by rw [Nat.mul_comm,Nat.mul_add_mod];exact Nat.mod_eq_of_lt hjs
     show some (f ((i*sz+j) / sz) ((i*sz+j) % sz))=_;rw [e1,e2]
    ·rcases Nat.eq_zero_or_pos rows.length with e | hpos
     ·exact e
     ·exact absurd hA (q0 0 hpos)
    ·have hjl:j<rows.length*sz:=by have:=(List.getElem?_eq_some_iff.1 hu).1;simpa using this
     rw [List.getElem?_map,List.getElem?_range hjl] at hu;injection hu with hu
     obtain ⟨row,a,g1,g2⟩:=hq j hjl;obtain ⟨b,o,e1,_,_,e4⟩:=h1 _ row _ a g1 g2;refine ⟨b,o,e1,?_⟩;rw [Nat.add_assoc,hdm j] at e4;rw [e4,←hu]
 | vsl id _ lo len rows0 _ e h hn hr =>
  subst hr;have hk:=r.hr.blk id;rw [h] at hk;obtain ⟨q1,q2,q3,q4,flat,q5,q6,q7⟩:=hk
  cases hv with
  | dat h=>cases h
  | vsl _ _ _ _ _ p1 p2 p3 hle p4 p5 =>
   obtain ⟨A,c,rfl,hc,hcm,hA⟩:=p5 (by rw [q4,hn]);have hlen:((rows0.drop lo).take len).length=len:=by rw [List.length_take,List.length_drop];omega
   have hf:(lo+len)*sz≤flat.length:=by rw [q5.1];exact Nat.mul_le_mul_right sz (by omega)
   rw [Nat.add_mul] at hf;have hget:∀ j,j<len*sz→((flat.drop (lo*sz)).take (len*sz))[j]?=flat[lo*sz+j]?:=fun j hj=>by rw [List.getElem?_take_of_lt hj,List.getElem?_drop]
   have hnl:((flat.drop (lo*sz)).take (len*sz)).length=len*sz:=by rw [List.length_take,List.length_drop];omega
   refine ⟨A,c,(flat.drop (lo*sz)).take (len*sz),by rw [hlen],⟨by rw [hlen,hnl],fun u hu=>q6 u (List.mem_of_mem_drop (List.mem_of_mem_take hu)),fun i row hi=>?_⟩,fun h0=>?_,fun hne a ha=>?_,fun j u hu=>?_⟩
   ·have hil:i<len:=by rw [←hlen];exact (List.getElem?_eq_some_iff.1 hi).1
    rw [List.getElem?_take_of_lt hil,List.getElem?_drop] at hi;obtain ⟨g1,g2⟩:=q7 (lo+i) row hi;refine ⟨g1,fun j a hj=>?_⟩;have hjs:j<sz:=by rw [←g1];exact (List.getElem?_eq_some_iff.1 hj).1
    rw [hget _ (flat_lt hil hjs),show lo*sz+(i*sz+j)=(lo+i)*sz+j by rw [Nat.add_mul];omega];exact g2 j a hj
   ·rw [hlen];rcases Nat.eq_zero_or_pos len with h1 | h1
    ·exact h1
    ·obtain ⟨g,c',_,e2⟩:=hA h1;rw [e2] at h0;cases h0
   ·rw [hlen] at hne;obtain ⟨g,c',_,e2⟩:=hA (by omega);rw [e2] at ha;injection ha with ha
    rw [←ha]
   ·have hjl:j<len*sz:=by rw [←hnl];exact (List.getElem?_eq_some_iff.1 hu).1
    have hpos:0<len:=by
     rcases Nat.eq_zero_or_pos len with h1 | h1
     ·rw [h1,Nat.zero_mul] at hjl;omega
     ·exact h1
    obtain ⟨g,c',e1,e2⟩:=hA hpos;rw [hget j hjl] at hu;have q5':=q5;rw [e1,hn] at q5';refine ⟨g,lo*sz,by rw [e2,q3],?_⟩;rw [q5'.cellAt _ (by have:=(List.getElem?_eq_some_iff.1 hu).1;rw [q5.1] at this;exact this)];exact hu
 | osl id _ _ e h hn =>
  have hk:=r.hr.blk id;rw [h] at hk;obtain ⟨q1,q2,q3,q4,flat,q5,q6,q7⟩:=hk
  have ev:v=G.ρ id:=by
   cases hv with
   | dat h=>cases h
   | osl _ _ _ _ _ _ _ hh=>exact hh (by rw [q4,hn])
  subst ev;have hRV:RowsV w G sz rows flat:=⟨q5.1,q6,q7⟩;rcases q5.2 with ⟨e1,e2⟩ | ⟨gg,cap,cur,e1,_,hh,hcap,hcm,_,_⟩
  ·have hf:flat=[]:=List.eq_nil_of_length_eq_zero (by rw [q5.1,e2];simp);subst hf;rw [e1];exact ⟨none,0,[],by rw [e2],hRV,fun _=>e2,fun _ a h=>(by cases h),fun j u h=>(by simp at h)⟩
  ·have q5':=q5;rw [e1] at q5' ⊢;refine ⟨some ⟨gg,0,none⟩,cap,flat,rfl,hRV,fun h=>(by cases h),fun _ a h=>(by injection h with h;rw [←h]),fun j u hu=>⟨gg,0,rfl,?_⟩⟩;rw [Nat.zero_add,q5'.cellAt j (by have:=(List.getElem?_eq_some_iff.1 hu).1;rw [q5.1] at this;exact this)];exact hu
variable {Q:Exit→ASt→Prop} {d:Option Nat} {ty:TypeId} {ps:String} {af:Array Edge} {g:Option (Nat×Bool)} {x y:Operand} {t t':TypeId}
theorem grown_below {w w':World} {B:Nat} {row:Option Nat} (h:w.grownBy w' row) (hB:B≤w.heap.size) (hr:∀ g,row=some g→B≤g):Below B w w' :=
 ⟨h.os,h.tape,h.output,h.size,fun i hi=>h.block i (by omega) (by intro e;have:=hr i e.symm;omega)⟩
theorem ownBlock_eq {w:World} {base:Nat} {e:TypeId} {s:Nat} {v:Value} {n:Nat} {xs:List Value} (h:ownsM w base e s v n xs):v.ownBlock=ownBlk v:=by
 rcases h.2 with ⟨rfl,_⟩ | ⟨g,cap,cur,rfl,_⟩ <;> rfl
theorem op_append_g {e:TypeId} {z:Value} {sz b id m:Nat} {e':TypeId} {rows new:List (List AV)} {xv:AV} (hx:st.ev x=.osl id m) (hb:look .dead st.heap id=.row sz rows e') (he:e'=e) (hm:m=rows.length) (hy:st.ev y=xv) (hs:SrcA st.heap sz xv new)
  (hT:P.underlying t=some (.slice e)) (hI:tyI P e=some (some z,sz,b)) (hz:z.cells.size=sz) (h63:(rows.length+new.length)*bmul b≤140737488355328) {K:Kn} {a:Act} {w:World} {G:Gh} (r:RelG K n st a w G) :
  ∃ v w' G',(execOp a.eval (⟨d,.call {callee:=.builtin .append,args:=#[x,y],argTypes:=#[t,t] },ty,ps,af,g⟩:Oper)).run P w=.ok (.value v) w'∧HR K.w0 w' G' ((id,.row sz (rows++new) e)::st.heap)∧Ext w G w' G'∧G'.nx=G.nx∧(∀ j,j≠id→G'.ρ j=G.ρ j∧G'.ln j=G.ln j∧(j<G.nx→∀ g,ownBlk (G.ρ j)=some g→w'.heap[g]?=w.heap[g]?))∧RelV w' G' (.osl id (rows.length+new.length)) v:=by
 subst he;have e1:=r.ev x;rw [hx] at e1;have e2:=r.ev y;rw [hy] at e2;have hk:=r.hr.blk id;rw [hb] at hk;obtain ⟨q1,q2,q3,q4,flat,q5,q6,q7⟩:=hk
 have ev:a.eval x=G.ρ id:=by
  cases e1 with
  | dat h=>cases h
  | osl _ _ _ _ _ _ _ hh=>exact hh (by rw [q4,hm])
 obtain ⟨A,c,news,f1,f2,f3,f4,f5⟩:=hs.real r q2 e2;obtain ⟨i,hi,hz0,hz1,hz2⟩:=tyI_info hI;have hmul:rows.length+new.length≤(rows.length+new.length)*bmul b:=Nat.le_mul_of_pos_right _ (bmul_pos b);have hmul2:(rows.length+new.length)*b≤(rows.length+new.length)*bmul b:=Nat.mul_le_mul_left _ (bmul_le b);obtain ⟨v',w',p1,p2,p3,p4,p5⟩:=run_append_v (P:=P) w K.w0.heap.size t ty e' i z sz b hT hi hz0 hz1 hz2 hz (G.ρ id) rows.length flat q5 A new.length c news f2.len f3 f5 f2.one (by simp only [maxLen];omega) (by omega) r.hr.below.size f4;have hob:=ownBlock_eq q5;rw [hob] at p3;have hoo:∀ g,ownBlk (G.ρ id)=some g→G.own g:=fun g hg=>r.hr.ownhas id g q1 hg
 let G':Gh:=⟨fun j=>if j=id then v' else G.ρ j,fun b=>G.own b∨ownBlk v'=some b,fun j=>if j=id then rows.length+new.length else G.ln j,G.sz,G.nx,G.bs,G.far⟩
 have hρ:G'.ρ id=v':=if_pos rfl;have hln:G'.ln id=rows.length+new.length:=if_pos rfl
 have hsl:∃ A c,v'=.slice A (rows.length+new.length) c:=by
  rcases p2.2 with ⟨h1,h2⟩ | ⟨gg,cap,cur,h1,_⟩
  ·rw [h1,h2];exact ⟨_,_,rfl⟩
  ·rw [h1];exact ⟨_,_,rfl⟩
 have hext:Ext w G w' G':=by
  refine ⟨p3.size,fun b hb hl=>p3.block b hl (fun e=>hb.elim (fun hb=>hb (hoo b e.symm)) (fun hf=>r.hr.nofar id b q1 e.symm hf)),fun b h=>?_,Nat.le_refl _,⟨rfl,rfl⟩,fun j hj=>?_⟩
  ·rcases h with h | h
   ·exact .inl h
   ·exact (p4 b h).imp (hoo b) (fun h=>h)
  ·by_cases e:j=id
   ·subst e;refine ⟨by rw [hln,q4];omega,rfl,fun h=>?_,fun h=>by omega⟩;rw [hρ];exact p5 (by rw [hln,q4] at h;omega)
   ·have h1:G'.ln j=G.ln j:=if_neg e;have h2:G'.ρ j=G.ρ j:=if_neg e;exact ⟨by omega,rfl,fun _=>h2,fun _=>h1⟩
 have hRV:RowsV w G sz rows flat:=⟨q5.1,q6,q7⟩;have hRV2:=(hRV.append f2).ext hext;have hlr:(rows++new).length=rows.length+new.length:=by simp
 have hHR:HR K.w0 w' G' ((id,.row sz (rows++new) e')::st.heap):=by
  refine r.hr.update hext (fun b h=>.inl h) (grown_below p3 r.hr.below.size (fun g hg=>(r.hr.ownlt g (hoo g hg)).1)) id _ (fun j hne hj=>⟨if_neg hne,if_neg hne,fun g hg=>p3.block g (r.hr.ownlt g (r.hr.ownhas j g hj hg)).2 (fun e=>?_)⟩) (fun j h _=>h) (fun b hb=>?_)
   ⟨q1,q2,q3,by rw [hln,hlr],flat++news,by rw [hρ,hlr];exact p2,hRV2.one,hRV2.rel⟩ (fun j g hj hne hg he=>?_) (fun g _ hg=>?_)
  ·exact r.hr.dist j id g hj q1 hne hg e.symm
  ·rcases hb with hb | hb
   ·have:=r.hr.ownlt b hb;have:=p3.size;omega
   ·rcases p4 b hb with h | h
    ·have:=r.hr.ownlt b (hoo b h);have:=p3.size;omega
    ·have h2:b<w'.heap.size:=by
      rcases p2.2 with ⟨h1,_⟩ | ⟨gg,cap,cur,h1,_,h3,_⟩
      ·rw [h1] at hb;simp [ownBlk] at hb
      ·rw [h1] at hb;simp [ownBlk] at hb;subst hb;exact h3.lt
     have:=r.hr.below.size;omega
  ·rw [hρ] at hg;rcases p4 g hg with h | h
   ·exact r.hr.dist j id g hj q1 hne he h
   ·have:=(r.hr.ownlt g (r.hr.ownhas j g hj he)).2;omega
  ·rw [hρ] at hg;refine ⟨.inr hg,?_⟩;rcases p4 g hg with h | h
   ·exact r.hr.nofar id g q1 h
   ·exact r.hr.newFar h
 refine ⟨v',w',G',?_,hHR,hext,rfl,fun j hne=>⟨if_neg hne,if_neg hne,fun hj g hg=>p3.block g (r.hr.ownlt g (r.hr.ownhas j g hj hg)).2 (fun e=>r.hr.dist j id g hj q1 hne hg e.symm)⟩,RelV.osl (w:=w') (G:=G') id _ v' q1 (by show 0<G.sz id;omega) (by rw [hln];exact Nat.le_refl _) hsl (fun _=>hρ.symm)⟩;simp [execOp,resolve,invoke,builtin,ev,f1,p1]
theorem op_append {e:TypeId} {z:Value} {sz b id m:Nat} {e':TypeId} {rows new:List (List AV)} {xv:AV} (hx:st.ev x=.osl id m) (hb:look .dead st.heap id=.row sz rows e') (he:e'=e) (hm:m=rows.length) (hy:st.ev y=xv) (hs:SrcA st.heap sz xv new)
  (hT:P.underlying t=some (.slice e)) (hI:tyI P e=some (some z,sz,b)) (hz:z.cells.size=sz) (h63:(rows.length+new.length)*bmul b≤140737488355328) (hd:dok d n=true) :
  OpV P n ⟨d,.call {callee:=.builtin .append,args:=#[x,y],argTypes:=#[t,t] },ty,ps,af,g⟩ st ((st.hset id (.row sz (rows++new) e)).put d (.osl id (rows.length+new.length))):=.mk fun K a w ⟨G,r⟩=>by
 obtain ⟨v,w',G',h1,h2,h3,h4,_,h6⟩:=op_append_g (d:=d) (ty:=ty) (ps:=ps) (af:=af) (g:=g) hx hb he hm hy hs hT hI hz h63 r;exact ⟨v,w',.inl h1,G',(r.turn st.nx (h4.trans r.nx) h2 h3).put (dok_lt hd) h6⟩
theorem op_append_nil {e:TypeId} {z:Value} {sz b:Nat} {new:List (List AV)} {xv:AV} (hx:st.ev x=.nils) (hy:st.ev y=xv) (hs:SrcA st.heap sz xv new)
  (hT:P.underlying t=some (.slice e)) (hI:tyI P e=some (some z,sz,b)) (h0:0<sz) (hz:z.cells.size=sz) (h63:new.length*bmul b≤140737488355328) (hd:dok d n=true) :
  OpV P n ⟨d,.call {callee:=.builtin .append,args:=#[x,y],argTypes:=#[t,t] },ty,ps,af,g⟩ st ((st.hnew (.row sz new e)).put d (.osl st.nx new.length)):=.mk fun K a w ⟨G,r⟩=>by
 have e1:=r.ev x;rw [hx] at e1;have e1:=e1.nils';have e2:=r.ev y;rw [hy] at e2;obtain ⟨A,c,news,f1,f2,f3,f4,f5⟩:=hs.real r h0 e2;obtain ⟨i,hi,hz0,hz1,hz2⟩:=tyI_info hI;have hmul:new.length≤new.length*bmul b:=Nat.le_mul_of_pos_right _ (bmul_pos b);have hmul2:new.length*b≤new.length*bmul b:=Nat.mul_le_mul_left _ (bmul_le b);obtain ⟨v',w',p1,p2,p3,p4,p5⟩:=run_append_v (P:=P) w w.heap.size t ty e i z sz b hT hi hz0 hz1 hz2 hz (.slice none 0 0) 0 [] (ownsM.nil w _ _ _) A new.length c news f2.len f3 f5 f2.one (by simp only [maxLen];omega) (by rw [Nat.zero_add];omega) (Nat.le_refl _) f4;rw [Nat.zero_add,List.nil_append] at p2;obtain ⟨r2,hv⟩:=r.newRow (grown_below p3 (Nat.le_refl _) (fun g hg=>by simp [Value.ownBlock] at hg)) (e:=e) h0 p2 f2;refine ⟨v',w',.inl ?_,_,r2.put (dok_lt hd) hv⟩;simp [execOp,resolve,invoke,builtin,e1,f1,p1]
end
end Go.Proofs.Ytljebnobajmjnaa
/- Symbolic walks: elements written,structs and literals built,slices cut,structs compared;rows of encoded elements. No program in sight. -/
namespace Go.Proofs.Ytljebnobajmjnaa
open Go Go.RowKit

section
variable {P:Program} {n:Nat} {st:ASt} {d:Option Nat} {ty:TypeId} {ps:String} {af:Array Edge} {g:Option (Nat×Bool)} {x y:Operand} {t t':TypeId}
theorem RelG.setElt {K:Kn} {a:Act} {w:World} {G:Gh} (r:RelG K n st a w G) {id sz i j gg c:Nat} {rows:List (List AV)} {e:TypeId} (hb:look .dead st.heap id=.row sz rows e) (hρ:G.ρ id=.slice (some ⟨gg,0,none⟩) rows.length c) {row:List AV} (hi:rows[i]?=some row) (hj:j<sz) {xv:AV} {u:Value} (hu:RelV w G xv u) (h1:u.oneCell'=true) :
  RelG K n (st.hset id (.row sz (rows.set i (row.set j xv)) e)) a (w.setCell ⟨gg,i*sz+j,none⟩ u) G:=by
 have hk:=r.hr.blk id;rw [hb] at hk;obtain ⟨q1,q2,q3,q4,flat,q5,q6,q7⟩:=hk;have hog:G.own gg:=r.hr.ownhas id gg q1 (by rw [hρ];rfl);have hnf:¬ G.far gg:=r.hr.nofar id gg q1 (by rw [hρ];rfl);have hlt:=r.hr.ownlt gg hog;have hb0:Below K.w0.heap.size w (w.setCell ⟨gg,i*sz+j,none⟩ u):=(Below.refl _ _).setCell hlt.1 u;have hx:Ext w G (w.setCell ⟨gg,i*sz+j,none⟩ u) G:=Ext.setCell hog hnf u;have hRV:RowsV w G sz rows flat:=⟨q5.1,q6,q7⟩;have hRV2:=(hRV.set hi hj hu h1).ext hx;have q5':=q5;rw [hρ] at q5';have hst:=(q5'.stored (i*sz+j) u).1;rw [←hρ] at hst;have hlr:(rows.set i (row.set j xv)).length=rows.length:=by simp
 refine r.turn st.nx r.nx (r.hr.update hx (fun _ h=>h) hb0 id _ (fun id' hne hid'=>⟨rfl,rfl,fun g hg=>Below.heap_setCell _ _ _ _ ?_⟩) (fun id' h _=>h) (fun b ho=>?_) ⟨q1,q2,q3,by rw [q4,hlr],flat.set (i*sz+j) u,by rw [hlr];exact hst,hRV2.one,hRV2.rel⟩ (fun id' g hid' hne hg=>?_) (fun g _ hg=>?_)) hx
 ·intro e1;have e1:g=gg:=e1;subst e1;exact r.hr.dist id' id g hid' q1 hne hg (by rw [hρ];rfl)
 ·have:=r.hr.ownlt b ho;have:=hb0.size;omega
 ·exact r.hr.dist id id' g q1 hid' (fun e=>hne e.symm) hg
 ·exact r.hr.ownhas' id g q1 hg
theorem RelG.storeElt {K:Kn} {a:Act} {G:Gh} {id sz i gg c:Nat} {e:TypeId} (hρ:∀ L,L=G.ln id→G.ρ id=.slice (some ⟨gg,0,none⟩) L c):∀ (xs:List AV) (vs:List Value) (k o:Nat) (rows:List (List AV)) (row:List AV) (w:World) (st:ASt),RelG K n st a w G→look .dead st.heap id=.row sz rows e→rows[i]?=some row→o+k+vs.length≤sz→vs.length=xs.length →
  (∀ v ∈ vs,v.oneCell'=true)→(∀ (j:Nat) (x:AV) (v:Value),xs[j]?=some x→vs[j]?=some v→RelV w G x v) →
  ∃ w',(storeCells ⟨gg,i*sz+o,none⟩ vs k).run P w=.ok () w'∧RelG K n (st.hset id (.row sz (rows.set i (setR row (o+k) xs)) e)) a w' G∧∀ q,q≠gg→w'.heap[q]?=w.heap[q]?:=by
 intro xs
 induction xs with
 | nil =>
  intro vs k o rows row w st r hb hi _ hl _ _;have:vs=[]:=List.eq_nil_of_length_eq_zero hl;subst this
  have:rows.set i row=rows:=by
   apply List.ext_getElem?;intro m;rw [List.getElem?_set];split
   ·rename_i e;subst e
    split
    ·exact hi.symm
    ·rename_i h;exact absurd (List.getElem?_eq_some_iff.1 hi).1 h
   ·rfl
  rw [setR,this];exact ⟨w,rfl,r.hself hb,fun _ _=>rfl⟩
 | cons x xs ih =>
  intro vs k o rows row w st r hb hi hle hl h1 hr
  obtain ⟨v,vs,rfl⟩:∃ v l,vs=v::l:=by match vs,hl with | v::l,_=>exact ⟨v,l,rfl⟩
  have hv1:=h1 v (by simp);have hvr:=hr 0 x v rfl rfl;have hk:=r.hr.blk id;rw [hb] at hk;obtain ⟨q1,q2,q3,q4,flat,q5,q6,q7⟩:=hk;have hρ':=hρ rows.length q4.symm;have hog:G.own gg:=r.hr.ownhas id gg q1 (by rw [hρ'];rfl);have hnf:¬ G.far gg:=r.hr.nofar id gg q1 (by rw [hρ'];rfl);have hjs:o+k<sz:=by simp at hle;omega
  have r2:=r.setElt (j:=o+k) hb hρ' hi hjs hvr hv1;have hil:i<rows.length:=(List.getElem?_eq_some_iff.1 hi).1;have hfl:i*sz+(o+k)<rows.length*sz:=flat_lt hil hjs;have q5':=q5;rw [hρ'] at q5';have hc:=q5'.cellAt (i*sz+(o+k)) hfl;have hfl':i*sz+(o+k)<flat.length:=by rw [q5.1];exact hfl
  rw [List.getElem?_eq_getElem hfl'] at hc;have hf:=q5'.frozenAt (i*sz+(o+k)) hfl
  have hst:(store ((⟨gg,i*sz+o,none⟩:Addr).add k) v).run P w=.ok () (w.setCell ⟨gg,i*sz+(o+k),none⟩ v):=by
   rw [addr_add,Nat.add_assoc,run_store P w _ v _ hv1,hc];simp [hf]
  obtain ⟨w',e1,r3,hoth⟩:=ih vs (k+1) o (rows.set i (row.set (o+k) x)) (row.set (o+k) x) _ (st.hset id (.row sz (rows.set i (row.set (o+k) x)) e)) r2 (look_self _ _ _ _) (by rw [List.getElem?_set,if_pos rfl,if_pos hil]) (by simp at hle ⊢;omega) (by simpa using hl) (fun u hu=>h1 u (by simp [hu]))
   (fun j y u hy hu=>(hr (j+1) y u (by simpa using hy) (by simpa using hu)).ext (Ext.setCell hog hnf v))
  refine ⟨w',?_,?_,fun q hq=>(hoth q hq).trans (Below.heap_setCell w _ v q hq)⟩
  ·simp only [storeCells,Sem.run_bind,hst,Result.andThen_ok,e1]
  ·have:=r3.hset2;rw [List.set_set] at this;rw [setR];exact this
theorem op_store_elt {z:Option Value} {s b:Nat} {id m i o sz:Nat} {rows:List (List AV)} {e:TypeId} {row vs:List AV} (hx:st.ev x=.elt id m i o) (hb:look .dead st.heap id=.row sz rows e) (hm:m=rows.length) (hr:rows[i]?=some row) (hy:(st.ev y).cells=vs) (h1:allOne vs=true) (hI:tyI P t=some (z,s,b)) (hs:vs.length=s) (hle:o+s≤sz) :
  OpV P n ⟨none,.store t x y,ty,ps,af,g⟩ st (st.hset id (.row sz (rows.set i (setR row o vs)) e)):=.mk fun K a w ⟨G,r⟩=>by
 subst hy;have e1:=r.ev x;rw [hx] at e1;have hcv:=(r.ev y).cellsV h1;obtain ⟨gg,c,flat,q1,q2,q3,q4,q5,q6,q7,q8⟩:=r.rowAt hb hm (by have:=(List.getElem?_eq_some_iff.1 hr).1;omega);generalize he:a.eval x=u at e1
 cases e1 with
 | dat h=>cases h
 | elt _ _ _ _ _ hid hin hs' hn hv' h =>
  obtain ⟨gg',c',e2,rfl⟩:=h (by rw [q5,hm]);rw [q1] at e2;injection e2 with e2 _ _
  injection e2 with e2
  injection e2 with e2 _ _
  subst e2;rw [q3] at he
  obtain ⟨w',hrun,r2,_⟩:=RelG.storeElt (P:=P) (K:=K) (n:=n) (a:=a) (G:=G) (id:=id) (sz:=sz) (i:=i) (gg:=gg) (c:=c) (e:=e) (fun L hL=>by rw [q5] at hL;subst hL;exact q1) (st.ev y).cells (a.eval y).cells.toList 0 o rows row w st r hb hr (by have:=hcv.size;simp;omega) (by simpa using hcv.size) (fun v hv=>by
   obtain ⟨i,hi,hv⟩:=List.getElem_of_mem hv
   exact hcv.one i v (by rw [←hv];simp)) (fun j x' v hx' hv=>hcv.rel j x' v hx' (by simpa using hv))
  refine ⟨undef,w',.inr ⟨?_,rfl⟩,G,r2⟩;simp [execOp,Instr.storeAt,he,Instr.sureAddr,run_storeVar' hI (show (a.eval y).cells.size=s by rw [hcv.size,hs]),hrun]

def fillA (place:Nat→Option (Nat×Nat)) (cells:List AV):List (Nat×AV)→Option (List AV)
 | []=>some cells
 |(i,v)::rest =>
  match place i with
  | none=>none
  | some (off,size)=>bif Nat.beq v.cells.length size&&Nat.ble (off+v.cells.length) cells.length&&allOne v.cells then fillA place (setR cells off v.cells) rest else none
theorem foldl_set {w:World} {G:Gh}:∀ (us:List Value) (xs cs:List AV) (vs:Array Value) (off k:Nat),us.length=xs.length→CellsV w G cs vs→(∀ u ∈ us,u.oneCell'=true)→(∀ (j:Nat) (x:AV) (u:Value),xs[j]?=some x→us[j]?=some u→RelV w G x u) →
  CellsV w G (setR cs (off+k) xs) ((us.zipIdx k).foldl (fun cs (c,j)=>cs.setIfInBounds (off+j) c) vs)
 | [],xs,cs,vs,off,k,hl,hc,_,_=>by
  have:xs=[]:=List.eq_nil_of_length_eq_zero hl.symm;subst this;exact hc
 | u::us,xs,cs,vs,off,k,hl,hc,h1,hr=>by
  obtain ⟨x,xs,rfl⟩:∃ x l,xs=x::l:=by match xs,hl with | x::l,_=>exact ⟨x,l,rfl⟩
  rw [setR,List.zipIdx_cons,List.foldl_cons];refine foldl_set us xs _ _ off (k+1) (by simpa using hl) ⟨by simp [hc.size],fun i v hv=>?_,fun i a v ha hv=>?_⟩ (fun v hv=>h1 v (by simp [hv])) (fun j y v hy hv=>hr (j+1) y v (by simpa using hy) (by simpa using hv))
  ·rw [Array.getElem?_setIfInBounds] at hv;split at hv
   ·split at hv
    ·injection hv with hv;subst hv;exact h1 u (by simp)
    ·cases hv
   ·exact hc.one i v hv
  ·rw [List.getElem?_set] at ha;rw [Array.getElem?_setIfInBounds] at hv;by_cases e:off+k=i
   ·subst e;simp only [if_true] at ha hv;split at ha
    ·rename_i hlt;rw [if_pos (by rw [hc.size];exact hlt)] at hv;injection ha with ha
     injection hv with hv
     subst ha;subst hv
     exact hr 0 x u rfl rfl
    ·cases ha
   ·rw [if_neg e] at ha hv;exact hc.rel i a v ha hv
theorem fill_rel {w:World} {G:Gh} (place:Nat→Option (Nat×Nat)):∀ (ps:List (Nat×AV)) (us:List (Nat×Value)) (cs out:List AV) (vs:Array Value),us.length=ps.length→(∀ (j:Nat) (p:Nat×AV) (u:Nat×Value),ps[j]?=some p→us[j]?=some u→p.1=u.1∧RelV w G p.2 u.2)→CellsV w G cs vs→fillA place cs ps=some out →
  ∃ os,Instr.fill place vs us=some os∧CellsV w G out os
 | [],us,cs,out,vs,hl,_,hc,h=>by
  have:us=[]:=List.eq_nil_of_length_eq_zero hl;subst this;rw [fillA] at h;injection h with h
  subst h;exact ⟨vs,rfl,hc⟩
 |(i,v)::ps,us,cs,out,vs,hl,hr,hc,h=>by
  obtain ⟨⟨i',u⟩,us,rfl⟩:∃ u l,us=u::l:=by match us,hl with | u::l,_=>exact ⟨u,l,rfl⟩
  obtain ⟨e1,e2⟩:=hr 0 _ _ rfl rfl;simp only at e1 e2;subst e1;rw [fillA] at h
  cases hp:place i with
  | none=>rw [hp] at h;cases h
  | some p =>
   obtain ⟨off,size⟩:=p;rw [hp] at h;simp only at h
   cases hb:(Nat.beq v.cells.length size&&Nat.ble (off+v.cells.length) cs.length&&allOne v.cells) with
   | false=>rw [hb] at h;cases h
   | true =>
    rw [hb] at h;simp only [Bool.and_eq_true] at hb;obtain ⟨⟨b1,b2⟩,b3⟩:=hb;have b1:=Nat.eq_of_beq_eq_true b1;have b2:=Nat.le_of_ble_eq_true b2;have hcv:=e2.cellsV b3
    have hc2:=foldl_set u.cells.toList v.cells cs vs off 0 (by simpa using hcv.size) hc (fun x hx=>by
     obtain ⟨k,hk,rfl⟩:=List.getElem_of_mem hx
     exact hcv.one k _ (by simp)) (fun j x u hx hu=>hcv.rel j x u hx (by simpa using hu))
    obtain ⟨os,h3,h4⟩:=fill_rel place ps us _ out _ (by simpa using hl) (fun j p u hp hu=>hr (j+1) p u (by simpa using hp) (by simpa using hu)) hc2 h;refine ⟨os,?_,h4⟩;rw [Instr.fill,hp];simp only;rw [if_neg (by have:=hcv.size;have:=hc.size;simp;omega)];rw [←Array.foldl_toList];have ez:(u.cells.zipIdx).toList=u.cells.toList.zipIdx:=by simp
    rw [ez];exact h3
end
end Go.Proofs.Ytljebnobajmjnaa
/- Symbolic walks: structs and slices built,slices cut,structs compared;rows of encoded elements. No program in sight. -/
namespace Go.Proofs.Ytljebnobajmjnaa
open Go Go.RowKit

def sizeN (P:Program) (t:TypeId):Nat:=((P.info? t).map (·.size)).getD 0
def aggN (P:Program) (t:TypeId):Bool:=((P.underlying t).map aggB).getD false
theorem fieldsP_list {P:Program} {t:TypeId} {fl:List (Nat×Nat×Bool)} (h:fieldsP P t=some fl):∃ fs,P.underlying t=some (.struct fs)∧fl=fs.toList.map (fun f=>(f.offset,sizeN P f.type,aggN P f.type))∧∀ f ∈ fs.toList,(∃ i,P.info? f.type=some i)∧∃ D,P.underlying f.type=some D:=by
 unfold fieldsP at h;split at h
 ·rename_i fs hfs;refine ⟨fs,hfs,?_⟩;clear hfs;generalize fs.toList=l at h
  induction l generalizing fl with
  | nil=>simp at h;subst h;exact ⟨rfl,fun f hf=>by cases hf⟩
  | cons x l ih =>
   rw [List.mapM_cons] at h
   cases hi:P.info? x.type with
   | none=>simp [fieldF,hi] at h
   | some i =>
    cases hD:P.underlying x.type with
    | none=>simp [fieldF,hi,hD] at h
    | some D =>
     simp only [fieldF,hi,hD] at h
     cases hr:(l.mapM (fieldF P)) with
     | none=>rw [hr] at h;simp at h
     | some r =>
      rw [hr] at h;simp at h;subst h;obtain ⟨h1,h2⟩:=ih hr;refine ⟨by rw [List.map_cons,←h1];simp [sizeN,aggN,hi,hD],fun f hf=>?_⟩;rcases List.mem_cons.1 hf with rfl | hf
      ·exact ⟨⟨i,hi⟩,D,hD⟩
      ·exact h2 f hf
 ·cases h
section
variable {P:Program} {n:Nat} {st:ASt} {d:Option Nat} {ty:TypeId} {ps:String} {af:Array Edge} {g:Option (Nat×Bool)} {x y:Operand} {t t':TypeId}
def placeS (fl:List (Nat×Nat×Bool)) (i:Nat):Option (Nat×Nat):=match fl[i]? with | some (o,s,_)=>some (o,s) | none=>none
theorem parts_rel {K:Kn} {a:Act} {w:World} {G:Gh} (r:RelG K n st a w G) (l:List (Nat×Operand)) (j:Nat) (p:Nat×AV) (u:Nat×Value) (hp:(l.map fun p=>(p.1,st.ev p.2))[j]?=some p) (hu:(l.map fun p=>(p.1,a.eval p.2))[j]?=some u):p.1=u.1∧RelV w G p.2 u.2:=by
 rw [List.getElem?_map] at hp hu
 cases h:l[j]? with
 | none=>rw [h] at hp;cases hp
 | some q =>
  rw [h] at hp hu;simp at hp hu;subst hp;subst hu
  exact ⟨rfl,r.ev q.2⟩
def evParts (st:ASt):List (Nat×Operand)→List (Nat×AV)
 | []=>[]
 |(i,x)::l=>(i,st.ev x)::evParts st l
theorem evParts_map (st:ASt) (l:List (Nat×Operand)):evParts st l=l.map fun p=>(p.1,st.ev p.2):=by
 induction l with
 | nil=>rfl
 | cons p l ih=>rw [evParts,ih];rfl
theorem op_build {z:Value} {s b:Nat} {parts:Array (Nat×Operand)} {fl:List (Nat×Nat×Bool)} {zs out:List AV} (hI:tyI P t=some (some z,s,b)) (hz:z.cells.toList.map avOf=zs) (hz1:allOne zs=true) (hF:fieldsP P t=some fl) (hf:fillA (placeS fl) zs (evParts st parts.toList)=some out) (hd:dok d n=true) :
  OpR P n ⟨d,.build t parts,ty,ps,af,g⟩ st (.agg out) :=
 .mk hd fun K a w G rr=>by
  subst hz;obtain ⟨fs,h1,h2,h3⟩:=fieldsP_list hF;rw [evParts_map] at hf;obtain ⟨os,g1,g2⟩:=fill_rel (placeS fl) _ (parts.toList.map fun p=>(p.1,a.eval p.2)) _ out z.cells (by simp) (fun j p u hp hu=>parts_rel rr parts.toList j p u hp hu) (cellsV_const w G hz1) hf
  have hpl:∀ w':World,(fs.mapM fun f=>do pure (f.offset,←sizeOf f.type):Sem (Array (Nat×Nat))).run P w'=.ok (fs.map fun f=>(f.offset,sizeN P f.type)) w':=by
   intro w';refine run_mapM_array _ _ fs fun f hf=>?_
   obtain ⟨⟨i,hi⟩,_⟩:=h3 f (by simpa using hf);simp [sizeOf,typeInfo,hi,sizeN]
  have hplace:(fun i=>(fs.map fun f=>(f.offset,sizeN P f.type))[i]?)=placeS fl:=by
   funext i
   unfold placeS;rw [h2,List.getElem?_map,Array.getElem?_map,Array.getElem?_toList]
   cases fs[i]? <;> rfl
  refine ⟨.agg os,?_,.agg _ _ g2.size g2.rel⟩;intro w' _;simp only [execOp,Instr.build,Sem.run_bind,run_zeroValue' hI,Result.andThen_ok,run_underlying h1,hpl];rw [hplace];simp only [Array.toList_map,g1];rfl
def chunk (sz:Nat):Nat→List AV→List (List AV)
 | 0,_=>[]
 | k+1,cs=>cs.take sz::chunk sz k (cs.drop sz)
theorem chunk_length (sz:Nat):∀ (k:Nat) (cs:List AV),(chunk sz k cs).length=k
 | 0,_=>rfl
 | k+1,cs=>by rw [chunk,List.length_cons,chunk_length]
theorem chunk_at (sz:Nat):∀ (k:Nat) (cs:List AV) (i:Nat),i<k→(chunk sz k cs)[i]?=some ((cs.drop (i*sz)).take sz)
 | k+1,cs,0,_=>by simp [chunk]
 | k+1,cs,i+1,h=>by
  rw [chunk,List.getElem?_cons_succ,chunk_at sz k _ i (by omega),List.drop_drop];congr 3;rw [Nat.add_mul];omega
def zerosA (zs:List AV):Nat→List AV
 | 0=>[]
 | k+1=>zs++zerosA zs k
theorem RowsV.of_cells {w:World} {G:Gh} {cs:List AV} {vs:Array Value} (h:CellsV w G cs vs) {sz L:Nat} (hl:cs.length=L*sz):RowsV w G sz (chunk sz L cs) vs.toList:=by
 refine ⟨by rw [chunk_length];simpa [hl] using h.size,fun v hv=>?_,fun i row hi=>?_⟩
 ·obtain ⟨k,hk,rfl⟩:=List.getElem_of_mem hv;exact h.one k _ (by simp)
 ·have hil:i<L:=by rw [←chunk_length sz L cs];exact (List.getElem?_eq_some_iff.1 hi).1
  rw [chunk_at sz L cs i hil] at hi;injection hi with hi
  subst hi;have hle:(i+1)*sz≤L*sz:=Nat.mul_le_mul_right _ hil;rw [Nat.add_mul] at hle;refine ⟨by rw [List.length_take,List.length_drop,hl];omega,fun j a hj=>?_⟩;rw [List.getElem?_take] at hj;split at hj
  ·rw [List.getElem?_drop] at hj;have hlt:i*sz+j<vs.size:=by rw [h.size];exact (List.getElem?_eq_some_iff.1 hj).1
   exact ⟨vs[i*sz+j],by simp [hlt],h.rel _ a _ hj (Array.getElem?_eq_getElem hlt)⟩
  ·cases hj
theorem zerosA_length (zs:List AV):∀ k,(zerosA zs k).length=k*zs.length
 | 0=>by simp [zerosA]
 | k+1=>by rw [zerosA,List.length_append,zerosA_length zs k,Nat.add_mul];omega
theorem zerosA_at (zs:List AV) (h0:0<zs.length):∀ k i,i<k*zs.length→(zerosA zs k)[i]?=zs[i % zs.length]?
 | 0,i,h=>by simp at h
 | k+1,i,h=>by
  rw [zerosA];by_cases hi:i<zs.length
  ·rw [List.getElem?_append_left hi,Nat.mod_eq_of_lt hi]
  ·rw [List.getElem?_append_right (by omega),zerosA_at zs h0 k _ (by rw [Nat.succ_mul] at h;omega)]
   conv=>rhs;rw [Nat.mod_eq_sub_mod (show zs.length≤i by omega)]
theorem op_buildSlice {e:TypeId} {z:Value} {sz b L:Nat} {parts:Array (Nat×Operand)} {zs out:List AV} {rows:List (List AV)} (hT:P.underlying t=some (.slice e)) (hI:tyI P e=some (some z,sz,b)) (hz:z.cells.toList.map avOf=zs) (hz1:allOne zs=true) (hzs:zs.length=sz) (h0:0<sz) (hL:Nat.ble (L*sz) 16777216=true)
  (hf:fillA (fun i=>some (i*sz,sz)) (zerosA zs L) (evParts st parts.toList)=some out) (hout:out.length=L*sz) (hr:chunk sz L out=rows) (hd:dok d n=true) :
  OpV P n ⟨d,.buildSlice t L parts,ty,ps,af,g⟩ st ((st.hnew (.row sz rows e)).put d (.osl st.nx L)):=.mk fun K a w ⟨G,r⟩=>by
 subst hr;subst hz;have hL:=Nat.le_of_ble_eq_true hL;have hzc:z.cells.size=sz:=by simpa using hzs
 rw [evParts_map] at hf
 have hcz:CellsV w G (zerosA (z.cells.toList.map avOf) L) ((Array.range (L*sz)).map (z.cells[· % z.cells.size]!)):=by
  have hcv:=cellsV_const w G hz1
  have hat:∀ (i:Nat) (v:Value),((Array.range (L*sz)).map (z.cells[· % z.cells.size]!))[i]?=some v→∃ hk:i % z.cells.size<z.cells.size,v=z.cells[i % z.cells.size]:=by
   intro i v hv;have hk:i % z.cells.size<z.cells.size:=Nat.mod_lt _ (by omega);refine ⟨hk,?_⟩;rw [Array.getElem?_map] at hv;obtain ⟨k,h1,h2⟩:=Option.map_eq_some_iff.1 hv
   have:k=i:=by
    have:=Array.getElem?_eq_some_iff.1 h1;obtain ⟨_,h⟩:=this;simpa using h.symm
   subst this;rw [←h2];simp [hk]
  refine ⟨by simp [zerosA_length,hzc],fun i v hv=>?_,fun i a v ha hv=>?_⟩
  ·obtain ⟨hk,rfl⟩:=hat i v hv;exact hcv.one _ _ (Array.getElem?_eq_getElem hk)
  ·obtain ⟨hk,rfl⟩:=hat i v hv
   have hi:i<L*(z.cells.toList.map avOf).length:=by
    have:=(List.getElem?_eq_some_iff.1 ha).1;rwa [zerosA_length] at this
   rw [zerosA_at _ (by rw [hzs];exact h0) L i hi] at ha;exact hcv.rel _ a _ (by simpa using ha) (by simp [hk])
 obtain ⟨os,g1,g2⟩:=fill_rel (fun i=>some (i*sz,sz)) _ (parts.toList.map fun p=>(p.1,a.eval p.2)) _ out _ (by simp) (fun j p u hp hu=>parts_rel r parts.toList j p u hp hu) hcz hf;have hos:os.size=L*sz:=by rw [g2.size,hout]
 have ho:=ownsM.of (World.ownsRow_lit (base:=w.heap.size) (e:=e) (size:=sz) w os L (Nat.le_refl _) (by simp [maxLen];have:L≤L*sz:=Nat.le_mul_of_pos_right _ h0;omega) hos);have hRV:=RowsV.of_cells g2 hout;obtain ⟨r2,hv⟩:=r.newRow (below_alloc' _ _) (rows:=chunk sz L out) (sz:=sz) (e:=e) h0 (by rw [chunk_length];exact ho) hRV;rw [chunk_length] at hv r2;refine ⟨_,_,.inl ?_,_,r2.put (dok_lt hd) hv⟩;have hng:¬ (2 ^ 24<L*sz):=by omega
 by_cases hn:L*sz=0
 ·have hL0:L=0:=by
   rcases Nat.eq_zero_or_pos L with h | h
   ·exact h
   ·have:=Nat.mul_pos h h0;omega
  subst hL0;simp only [Nat.zero_mul,Array.range_zero',Array.map_empty] at g1;simp [execOp,Instr.buildSlice,run_underlying hT,run_sizeOf' hI,Array.range_zero',g1,newRow]
 ·simp only [execOp,Instr.buildSlice,Sem.run_bind,run_underlying hT,Result.andThen_ok,run_sizeOf' hI];rw [if_neg (by omega),if_neg hn];simp only [Sem.run_bind,Sem.run_pure,Result.andThen_ok,run_zeroValue' hI,Array.toList_map,g1];simp [newRow]
end
end Go.Proofs.Ytljebnobajmjnaa
/- Symbolic walks: regions that draw their order;more operations. No program in sight. -/
namespace Go.Proofs.Ytljebnobajmjnaa
open Go Go.RowKit

section
variable {P:Program} {n:Nat} {Q:Exit→ASt→Prop} {st:ASt}
theorem unwanted_of {ops:Array Oper} {o:Oper} {dj:Nat} {want:Bool} (hg:gdst ops o=some (dj,want)) (hb:look .any st.regs dj=.bool (!want)∨look .any st.regs dj=.und) {K:Kn} {a:Act} {w:World} {G:Gh} (r:RelG K n st a w G):Region.wanted o (yielded ops a.tmps)=false:=by
 unfold gdst at hg;unfold Region.wanted
 cases hgd:o.guard with
 | none=>rw [hgd] at hg;cases hg
 | some p =>
  obtain ⟨j,wt⟩:=p;rw [hgd] at hg;obtain ⟨d',hd',e⟩:=Option.map_eq_some_iff.1 hg;injection e with e1 e2
  subst e1;subst e2
  rcases hb with hb | hb
  ·simp [yielded_of r hd' hb]
  ·have e:=r.regs d';rw [hb] at e;have e:=e.und'
   have:yielded ops a.tmps j=none:=by
    unfold yielded;rw [hd'];show (match a.tmps[d']? with | some (.bool b)=>some b | _=>none)=none;rw [Array.getD_eq_getD_getElem?] at e
    cases h:a.tmps[d']? with
    | none=>rfl
    | some v=>rw [h] at e;simp at e;subst e;rfl
   simp [this]
theorem wanted_none {ops:Array Oper} {o:Oper} (hg:o.guard=none) (a:Act):Region.wanted o (yielded ops a.tmps)=true:=by unfold Region.wanted;rw [hg]
end
end Go.Proofs.Ytljebnobajmjnaa
/- Symbolic walks: rows of encoded elements;calls by contract;structs compared;slices cut;arguments and old contracts. No program in sight. -/
namespace Go.Proofs.Ytljebnobajmjnaa
open Go Go.RowKit

section
variable {P:Program} {n:Nat} {Q:Exit→ASt→Prop} {st:ASt} {d:Option Nat} {ty:TypeId} {ps:String} {af:Array Edge} {g:Option (Nat×Bool)} {x y:Operand} {t t':TypeId} {α:Type} {f:α→List AV} {xs:List α}
def eqInts (P:Program) (t:TypeId):Bool :=
 match P.underlying t with
 | some (.struct fs) => !P.stoodInHeld t && !P.eqGuardType P.depth t && (fs.toList.zipIdx.all fun (f, i) => f.name != "_" && f.offset == i && (match P.underlying f.type with | some (.int _) => true | _ => false))
 | some (.array _ e)=>!P.eqGuardType P.depth t&&(match P.underlying e with | some (.int _)=>true | _=>false)&&(match tyI P e with | some (_,s,_)=>Nat.beq s 1 | none=>false)
 | _=>false
def eqLen (P:Program) (t:TypeId):Nat:=match P.underlying t with
 | some (.struct fs)=>fs.size
 | some (.array n _)=>n
 | _=>0
def kdOf:List AV→IntKind
 | .int k _::_=>k
 | _=>.i64
def intsOf (k:IntKind):List AV→Option (List Int)
 | []=>some []
 | .int k' m::l=>if k'=k then (match intsOf k l with | some r=>some (m::r) | none=>none) else none
 | _=>none
theorem intsOf_eq {k:IntKind}:∀ {cs:List AV} {ns:List Int},intsOf k cs=some ns→cs=ns.map (AV.int k)
 | [],ns,h=>by simp [intsOf] at h;subst h;rfl
 | a::l,ns,h=>by
  cases a with
  | int k' m =>
   simp only [intsOf] at h;split at h
   ·rename_i e;subst e
    cases hr:intsOf k' l with
    | none=>rw [hr] at h;cases h
    | some r=>rw [hr] at h;injection h with h;subst h;rw [List.map_cons,←intsOf_eq hr]
   ·cases h
  | _=>simp [intsOf] at h
theorem eqFields_run {k : IntKind} {w : World} (dd : Nat) (us vs : Array Value) (ns ms : List Int) (hu : us = (ns.map (Value.int k)).toArray) (hv : vs = (ms.map (Value.int k)).toArray) : ∀ (l : List Field) (i : Nat), (∀ (j : Nat) (f : Field), l[j]? = some f → f.name ≠ "_" ∧ f.offset = i + j ∧ ∃ k', P.underlying f.type = some (.int k')) → i + l.length = ns.length → i + l.length = ms.length →
  (Op.eqFields (dd+1) us vs l).run P w=.ok (decide (ns.drop i=ms.drop i)) w:=by
 intro l
 induction l with
 | nil =>
  intro i _ h1 h2;have e1:ns.drop i=[]:=List.drop_eq_nil_of_le (by simp at h1;omega);have e2:ms.drop i=[]:=List.drop_eq_nil_of_le (by simp at h2;omega);simp [Op.eqFields,e1,e2]
 | cons f l ih =>
  intro i hf h1 h2;obtain ⟨g1,g2,k',g3⟩:=hf 0 f rfl;rw [Nat.add_zero] at g2;have hi1:i<ns.length:=by simp at h1;omega
  have hi2:i<ms.length:=by simp at h2;omega
  have p1:(part f.type us f.offset).run P w=.ok (.int k ns[i]) w:=by simp [part,run_isAgg' g3,aggB,g2,hu,hi1]
  have p2:(part f.type vs f.offset).run P w=.ok (.int k ms[i]) w:=by simp [part,run_isAgg' g3,aggB,g2,hv,hi2]
  have p3:(Op.equalIn (dd+1) f.type (.int k ns[i]) (.int k ms[i])).run P w=.ok (ns[i]==ms[i]) w:=run_equalIn_int w dd f.type k k' _ _ g3;simp only [Op.eqFields];rw [if_pos g1,Sem.run_bind,p1];simp only [Result.andThen_ok];rw [Sem.run_bind,p2];simp only [Result.andThen_ok];rw [Sem.run_bind,p3];simp only [Result.andThen_ok]
  have hdr:(ns.drop i=ms.drop i)↔(ns[i]=ms[i]∧ns.drop (i+1)=ms.drop (i+1)):=by
   rw [List.drop_eq_getElem_cons hi1,List.drop_eq_getElem_cons hi2,List.cons.injEq]
  by_cases e:ns[i]=ms[i]
  ·rw [if_neg (by simp [e]),ih (i+1) (fun j f hj=>by
    obtain ⟨a1,a2,a3⟩:=hf (j+1) f (by simpa using hj)
    exact ⟨a1,by omega,a3⟩) (by simp at h1;omega) (by simp at h2;omega)]
   congr 1;rw [decide_eq_decide,hdr];exact ⟨fun h=>⟨e,h⟩,fun h=>h.2⟩
  ·rw [if_pos (by simp [e])];have:¬ ns.drop i=ms.drop i:=fun h=>e (hdr.1 h).1
   simp only [Sem.run_pure,decide_eq_false this]
theorem all_range_int:∀ (ns ms:List Int),ns.length=ms.length→((List.range ns.length).all fun i=>ns.getD i 0==ms.getD i 0)=decide (ns=ms)
 | [],[],_=>rfl
 | x::ns,y::ms,h=>by
  have ih:=all_range_int ns ms (by simpa using h);rw [List.length_cons,List.range_succ_eq_map,List.all_cons,List.all_map];simp only [List.getD_cons_zero,Function.comp_def,List.getD_cons_succ,ih];by_cases e:x=y
  ·subst e;simp
  ·simp [e]
 | [],_::_,h=>by simp at h
 | _::_,[],h=>by simp at h
theorem run_equalIn_arr {k k':IntKind} {w:World} (dd:Nat) {t e:TypeId} {L:Nat} (ht:P.underlying t=some (.array L e)) (he:P.underlying e=some (.int k')) (hsz:∀ w,(sizeOf e).run P w=.ok 1 w) (ns ms:List Int) (hx:ns.length=L) (hy:ms.length=L) :
  (Op.equalIn (dd+2) t (.agg (ns.map (Value.int k)).toArray) (.agg (ms.map (Value.int k)).toArray)).run P w=.ok (decide (ns=ms)) w:=by
 rw [←all_range_int ns ms (hx.trans hy.symm),hx,List.range_eq_range',Op.equalIn];simp only [Sem.run_bind,run_underlying ht,Result.andThen_ok,hsz,Std.Legacy.Range.forIn_eq_forIn_range',Std.Legacy.Range.size,Nat.sub_zero,Nat.add_sub_cancel,Nat.div_one];have hl:∀ i ∈ List.range' 0 L 1,i<L:=fun i hi=>by simpa using (List.mem_range'_1.1 hi).2
 generalize List.range' 0 L 1=l at hl ⊢
 induction l with
 | nil=>simp
 | cons i l ih =>
  have hi:i<L:=hl i (by simp)
  have px:(part e (ns.map (Value.int k)).toArray (i*1)).run P w=.ok (.int k (ns.getD i 0)) w:=by
   simp [part,run_isAgg' he,aggB,List.getD,List.getElem?_eq_getElem (show i<ns.length by omega)]
  have py:(part e (ms.map (Value.int k)).toArray (i*1)).run P w=.ok (.int k (ms.getD i 0)) w:=by
   simp [part,run_isAgg' he,aggB,List.getD,List.getElem?_eq_getElem (show i<ms.length by omega)]
  have pe:(Op.equalIn (dd+1) e (.int k (ns.getD i 0)) (.int k (ms.getD i 0))).run P w=.ok (ns.getD i 0==ms.getD i 0) w:=run_equalIn_int w dd e k k' _ _ he;simp only [List.forIn_cons,Sem.run_bind,px,py,pe,Result.andThen_ok,List.all_cons];cases hb:(ns.getD i 0==ms.getD i 0)
  ·simp
  ·simp only [Bool.not_true,Bool.false_eq_true,if_false,Sem.run_pure,Result.andThen_ok,Bool.true_and];exact ih fun j hj=>hl j (by simp [hj])
theorem agg_ints {k:IntKind} {K:Kn} {a:Act} {w:World} {G:Gh} (r:RelG K n st a w G) {x:Operand} {cs:List AV} {ns:List Int} (hx:st.ev x=.agg cs) (hn:intsOf k cs=some ns):a.eval x=.agg (ns.map (Value.int k)).toArray:=by
 have e1:=r.ev x;rw [hx] at e1;obtain ⟨us,e2,hl,hr⟩:=e1.agg';rw [e2];congr 1;have hc:=intsOf_eq hn;apply Array.ext
 ·rw [hl,hc];simp
 ·intro i h1 h2;have hlt:i<ns.length:=by simpa using h2
  have:=hr i (.int k ns[i]) us[i] (by rw [hc];simp [hlt]) (Array.getElem?_eq_getElem h1);rw [this.int'];simp
theorem op_eqs {k:IntKind} {neq:Bool} {cs cs':List AV} {ns ms:List Int} {L:Nat} (hx:st.ev x=.agg cs) (hy:st.ev y=.agg cs') (hn:intsOf k cs=some ns) (hm:intsOf k cs'=some ms) (hE:eqInts P t=true) (hF:eqLen P t=L) (hl1:ns.length=L) (hl2:ms.length=L) (hd:dok d n=true) :
  OpR P n ⟨d,.binOp (bif neq then .neq else .eql) t x y t',ty,ps,af,g⟩ st (.bool (bif neq then !decide (ns=ms) else decide (ns=ms))):=.mk hd fun K a w G rr=>by
 have e1:=agg_ints rr hx hn;have e2:=agg_ints rr hy hm;unfold eqInts at hE
 cases hT:P.underlying t with
 | none=>rw [hT] at hE;cases hE
 | some D =>
  rw [hT] at hE;unfold eqLen at hF;rw [hT] at hF
  cases D with
  | array nn e =>
   simp only [Bool.and_eq_true,Bool.not_eq_true'] at hE;obtain ⟨⟨h2,h3⟩,h4⟩:=hE;simp only at hF;subst hF;split at h3
   ·rename_i k' he;split at h4
    ·rename_i zz s bb hI;have hs:=Nat.eq_of_beq_eq_true h4;subst hs
     have heq:∀ w':World,(Op.equalIn 10000 t (.agg (ns.map (Value.int k)).toArray) (.agg (ms.map (Value.int k)).toArray)).run P w'=.ok (decide (ns=ms)) w':=fun w'=>by
      rw [show (10000:Nat)=9998+2 from rfl];exact run_equalIn_arr 9998 hT he (run_sizeOf' hI) ns ms hl1 hl2
     cases neq with
     | false=>exact ⟨_,fun w' _=>by
       simp only [execOp,e1,e2,Sem.run_bind,run_eqGuard_agg w' .eql t x y _ _ h2,Result.andThen_ok,cond_false,run_eql_struct,heq,Sem.run_pure],rB _ _ _⟩
     | true=>exact ⟨_,fun w' _=>by
       simp only [execOp,e1,e2,Sem.run_bind,run_eqGuard_agg w' .neq t x y _ _ h2,Result.andThen_ok,cond_true,run_neq_struct,heq,Sem.run_pure],rB _ _ _⟩
    ·cases h4
   ·cases h3
  | struct fs =>
   simp only [Bool.and_eq_true,Bool.not_eq_true'] at hE;obtain ⟨⟨h1,h2⟩,h3⟩:=hE;simp only at hF;have hfo:P.fieldsOf t=fs:=by simp [Program.fieldsOf,hT]
   have hTs:P.underlying t=some (.struct (P.fieldsOf t)):=by rw [hfo];exact hT
   have hfs : ∀ (j : Nat) (f : Field), fs.toList[j]? = some f → f.name ≠ "_" ∧ f.offset = 0 + j ∧ ∃ k', P.underlying f.type = some (.int k') := by
    intro j f hj
    have:=List.all_eq_true.1 h3 (f,j) (by
     rw [List.mem_iff_getElem?]
     exact ⟨j,by rw [List.getElem?_zipIdx,hj];simp⟩)
    simp only [Bool.and_eq_true,bne_iff_ne,ne_eq,beq_iff_eq] at this;obtain ⟨⟨a1,a2⟩,a3⟩:=this;refine ⟨a1,by omega,?_⟩;split at a3
    ·rename_i k' hk';exact ⟨k',hk'⟩
    ·cases a3
   have heq:∀ w':World,(Op.equalIn 10000 t (.agg (ns.map (Value.int k)).toArray) (.agg (ms.map (Value.int k)).toArray)).run P w'=.ok (decide (ns=ms)) w':=by
    intro w';rw [show (10000:Nat)=9999+1 from rfl,run_equalIn_struct w' 9999 t _ _ hTs h1,hfo];have:=eqFields_run (P:=P) (k:=k) (w:=w') 9998 (ns.map (Value.int k)).toArray (ms.map (Value.int k)).toArray ns ms rfl rfl fs.toList 0 hfs (by simp;omega) (by simp;omega);simpa using this
   cases neq with
   | false=>exact ⟨_,fun w' _=>by
     simp only [execOp,e1,e2,Sem.run_bind,run_eqGuard_agg w' .eql t x y _ _ h2,Result.andThen_ok,cond_false,run_eql_struct,heq,Sem.run_pure],rB _ _ _⟩
   | true=>exact ⟨_,fun w' _=>by
     simp only [execOp,e1,e2,Sem.run_bind,run_eqGuard_agg w' .neq t x y _ _ h2,Result.andThen_ok,cond_true,run_neq_struct,heq,Sem.run_pure],rB _ _ _⟩
  | _=>cases hE
end
end Go.Proofs.Ytljebnobajmjnaa
/- Symbolic walks: calls by contract,as the tactic uses them. No program in sight. -/
namespace Go.Proofs.Ytljebnobajmjnaa
open Go Go.RowKit

inductive FrzL (hp:List (Nat×AB)):List AV→List AV→Prop
 | nil:FrzL hp [] []
 | cons {a b:AV} {l m:List AV} (h:FrzA hp a b) (t:FrzL hp l m):FrzL hp (a::l) (b::m)
theorem FrzL.len {hp:List (Nat×AB)} {l m:List AV} (h:FrzL hp l m):l.length=m.length:=by
 induction h with
 | nil=>rfl
 | cons h t ih=>simp [ih]
theorem FrzL.at {hp:List (Nat×AB)} {l m:List AV} (h:FrzL hp l m):∀ (i:Nat) (a b:AV),l[i]?=some a→m[i]?=some b→FrzA hp a b:=by
 induction h with
 | nil=>intro i a b h;simp at h
 | cons h t ih =>
  intro i a b ha hb
  cases i with
  | zero=>simp at ha hb;subst ha;subst hb;exact h
  | succ i=>exact ih i a b (by simpa using ha) (by simpa using hb)
theorem FrzA.int {hp:List (Nat×AB)} {k:IntKind} {m:Int}:FrzA hp (.int k m) (.int k m):=.dat _ rfl _ (by rw [AV.old])
theorem FrzA.bool {hp:List (Nat×AB)} {b:Bool}:FrzA hp (.bool b) (.bool b):=.dat _ rfl _ (by rw [AV.old])
theorem FrzA.str {hp:List (Nat×AB)} {s:ByteArray}:FrzA hp (.str s) (.str s):=.dat _ rfl _ (by rw [AV.old])
theorem FrzA.agg' {hp:List (Nat×AB)} {cs cs':List AV} (h:FrzL hp cs cs'):FrzA hp (.agg cs) (.agg cs'):=.agg cs cs' h.len h.at
section
variable {P:Program} {n:Nat} {Q:Exit→ASt→Prop} {st:ASt} {ops:Array Oper} {l:List Oper} {d:Option Nat} {ty:TypeId} {ps:String} {af:Array Edge} {g:Option (Nat×Bool)} {cal:Operand} {args:Array Operand} {ats:Array TypeId} {F:FuncId} {caps xs xs0 xs':List AV} {y:AV}
end
end Go.Proofs.Ytljebnobajmjnaa
/- Symbolic walks: one function that carries out an operation,and what it asks for. No program in sight. -/
namespace Go.Proofs.Ytljebnobajmjnaa
open Go Go.RowKit

def lk {α:Type}:List (Nat×α)→Nat→Option α
 | [],_=>none
 |(j,v)::l,i=>bif Nat.beq j i then some v else lk l i
theorem lk_mem {α:Type} {l:List (Nat×α)} {i:Nat} {x:α} (h:lk l i=some x):(i,x) ∈ l:=by
 induction l with
 | nil=>cases h
 | cons p l ih =>
  obtain ⟨j,v⟩:=p;rw [lk] at h
  cases hb:Nat.beq j i with
  | true=>rw [hb] at h;have:=Nat.eq_of_beq_eq_true hb;subst this;simp at h;subst h;simp
  | false=>rw [hb] at h;exact List.mem_cons_of_mem _ (ih h)
structure Tab where
 und:List (Nat×TypeDesc)
 inf:List (Nat×(Option Value×Nat×Nat))
 fld:List (Nat×List (Nat×Nat×Bool))
 eqs:List (Nat×Nat)
def allP {α:Type} (R:Nat→α→Prop):List (Nat×α)→Prop
 | []=>True
 |(k,x)::l=>R k x∧allP R l
theorem allP_at {α:Type} {R:Nat→α→Prop} {l:List (Nat×α)} (h:allP R l) {k:Nat} {x:α} (hk:lk l k=some x):R k x:=by
 have hm:=lk_mem hk;clear hk
 induction l with
 | nil=>cases hm
 | cons p l ih =>
  obtain ⟨j,v⟩:=p;rcases List.mem_cons.1 hm with e | hm
  ·injection e with e1 e2;subst e1;subst e2;exact h.1
  ·exact ih h.2 hm
structure Tab.ok (P:Program) (T:Tab):Prop where
 und:allP (fun k D=>P.underlying k=some D) T.und
 inf:allP (fun k x=>tyI P k=some x) T.inf
 fld:allP (fun k x=>fieldsP P k=some x) T.fld
 eqs:allP (fun k L=>eqInts P k=true∧eqLen P k=L) T.eqs

section
variable {P:Program} {n:Nat} {T:Tab} {st:ASt} {o:Oper} {x:AV} {p:Prop}
end
end Go.Proofs.Ytljebnobajmjnaa
/- Symbolic walks: the operations that make or write memory,carried out by one function;the laws of the tactic. No program in sight. -/
namespace Go.Proofs.Ytljebnobajmjnaa
open Go Go.RowKit

section
variable {P:Program} {n:Nat} {T:Tab} {st st':ASt} {o:Oper} {x:AV} {p:Prop} {Q:Exit→ASt→Prop} {ops:Array Oper} {l:List Oper}
def gst (ops:Array Oper) (o:Oper) (st:ASt):Option Bool:=match gdst ops o with
 | none=>none
 | some (d,want)=>match look .any st.regs d,want with
  | .bool true,true=>some true
  | .bool false,false=>some true
  | .bool true,false=>some false
  | .bool false,true=>some false
  | .und,_=>some false
  | _,_=>none
theorem gst_yes (h:gst ops o st=some true):∃ d want,gdst ops o=some (d,want)∧look .any st.regs d=.bool want:=by
 unfold gst at h;split at h
 ·cases h
 ·rename_i d want h1
  split at h <;> first | (cases h;done) | (rename_i h2;exact ⟨d,_,h1,h2⟩)
theorem gst_no (h:gst ops o st=some false):∃ d want,gdst ops o=some (d,want)∧(look .any st.regs d=.bool (!want)∨look .any st.regs d=.und):=by
 unfold gst at h;split at h
 ·cases h
 ·rename_i d want h1
  split at h <;> first | (cases h;done) | (rename_i h2;exact ⟨d,_,h1,.inl h2⟩) | (rename_i h2;exact ⟨d,_,h1,.inr h2⟩)
variable {d:Option Nat} {op:Op} {ty:TypeId} {ps:String} {af:Array Edge} {gd:Nat×Bool}
end
end Go.Proofs.Ytljebnobajmjnaa
/- Symbolic walks: old contracts as contracts on data. No program in sight. -/
namespace Go.Proofs.Ytljebnobajmjnaa
open Go Go.RowKit

section
variable {w:World} {G:Gh} {vs:Array Value}
end
section
variable {P:Program} {F:FuncId} {xs:List AV} {y:AV}
end
end Go.Proofs.Ytljebnobajmjnaa
/- Symbolic walks: regions that draw their order and write: the stores come one after another,the first behind all that reads. No program in sight. -/
namespace Go.Proofs.Ytljebnobajmjnaa
open Go Go.RowKit

def storePos (i:Nat):List Oper→List Nat
 | []=>[]
 | o::l=>match o.op with
  | .store ..=>i::storePos (i+1) l
  | _=>storePos (i+1) l
def hasN:List Nat→Nat→Bool
 | [],_=>false
 | a::l,i=>bif Nat.beq a i then true else hasN l i
theorem hasN_mem {l:List Nat} {i:Nat} (h:hasN l i=true):i ∈ l:=by
 induction l with
 | nil=>cases h
 | cons a l ih =>
  rw [hasN] at h
  cases hb:Nat.beq a i with
  | true=>have:=Nat.eq_of_beq_eq_true hb;subst this;simp
  | false=>rw [hb] at h;exact List.mem_cons_of_mem _ (ih h)
def edgeOn (o:Oper) (j:Nat):Bool:=o.after.toList.any fun e=>Nat.beq e.on j&&Region.binds .any e
def indep:AV→Bool
 | .int .. | .bool _ | .str _ | .nilp | .nils | .nilf | .box .. | .elt .. | .osl ..=>true
 | _=>false
def ind (x:AV):AV:=bif indep x then x else .any
section
variable {P:Program} {n:Nat} {Q:Exit→ASt→Prop} {st:ASt}
def firstStore:List Oper→Option Oper
 | []=>none
 | o::l=>match o.op with
  | .store ..=>some o
  | _=>firstStore l
def early (l:List Oper):List Nat:=match firstStore l,(storePos 0 l)[0]? with
 | some o,some k=>(List.range k).filter (edgeOn o)
 | _,_=>[]
variable {T:Tab} {ops:Array Oper} {ks ev D:List Nat} {Kt:ASt→Prop} {d:Option Nat} {op:Op} {ty:TypeId} {ps:String} {af:Array Edge} {x:AV} {p:Prop} {l:List Oper} {r i:Nat} {st':ASt}
end
end Go.Proofs.Ytljebnobajmjnaa
/- A run of the abstract machine by one computed function: operations. No program in sight. -/
namespace Go.Proofs.Ytljebnobajmjnaa
open Go Go.RowKit

def fN {α:Type}:Nat→(Nat→α)→α
 | 0,k=>k 0
 | n+1,k=>k (Nat.succ n)
def fI {α:Type}:Int→(Int→α)→α
 | .ofNat n,k=>fN n fun n=>k (.ofNat n)
 | .negSucc n,k=>fN n fun n=>k (.negSucc n)
def fA0 {α:Type}:AV→(AV→α)→α
 | .int kk n,k=>fI n fun n=>k (.int kk n)
 | .bool true,k=>k (.bool true)
 | .bool false,k=>k (.bool false)
 | .box a b,k=>fN a fun a=>fN b fun b=>k (.box a b)
 | .elt a b c d,k=>fN a fun a=>fN b fun b=>fN c fun c=>fN d fun d=>k (.elt a b c d)
 | .osl a b,k=>fN a fun a=>fN b fun b=>k (.osl a b)
 | .vsl a b c d,k=>fN a fun a=>fN b fun b=>fN c fun c=>fN d fun d=>k (.vsl a b c d)
 | .peek r j,k=>fN j fun j=>k (.peek r j)
 | v,k=>k v
def fL0 {α:Type}:List AV→(List AV→α)→α
 | [],k=>k []
 | a::l,k=>fA0 a fun a=>fL0 l fun l=>k (a::l)
def fA1 {α:Type}:AV→(AV→α)→α
 | .agg cs,k=>fL0 cs fun cs=>k (.agg cs)
 | .tup cs,k=>fL0 cs fun cs=>k (.tup cs)
 | .fn f cs,k=>fL0 cs fun cs=>k (.fn f cs)
 | v,k=>fA0 v k
def fLL {α:Type}:List (List AV)→(List (List AV)→α)→α
 | [],k=>k []
 | a::l,k=>fL0 a fun a=>fLL l fun l=>k (a::l)
def fB {α:Type}:AB→(AB→α)→α
 | .dead,k=>k .dead
 | .box cs e,k=>fL0 cs fun cs=>k (.box cs e)
 | .row sz rows e,k=>fLL rows fun rows=>k (.row sz rows e)
def setK {β α:Type} (d:Nat) (v:β):List (Nat×β)→(List (Nat×β)→α)→α
 | [],k=>k [(d,v)]
 |(j,x)::l,k=>bif Nat.beq j d then k ((d,v)::l) else setK d v l fun l=>k ((j,x)::l)
def nmR {α:Type}:List (Nat×AV)→(List (Nat×AV)→α)→α
 | [],k=>k []
 |(d,v)::l,k=>fA1 v fun v=>setK d v l k
def nmH {α:Type}:List (Nat×AB)→(List (Nat×AB)→α)→α
 | [],k=>k []
 |(d,v)::l,k=>fB v fun v=>setK d v l k
def nm {α:Type} (st:ASt) (k:ASt→α):α:=nmR st.regs fun r=>nmH st.heap fun h=>fN st.nx fun x=>k ⟨r,h,x⟩
section
variable {P:Program} {n:Nat} {st st':ASt} {Q:Exit→ASt→Prop}
end

end Go.Proofs.Ytljebnobajmjnaa
/- A run of the abstract machine by one computed function: lengths,elements,append;regions,loops,calls. No program in sight. -/
namespace Go.Proofs.Ytljebnobajmjnaa
open Go Go.RowKit

section
variable {P:Program} {n:Nat} {T:Tab} {st st':ASt} {o:Oper} {x:AV} {Q:Exit→ASt→Prop} {ops:Array Oper} {l:List Oper}
structure Ctx where
 T:Tab
 fns:List (Nat×Func)
 cas:List (Nat×Nat)
structure Ctx.ok (P:Program) (C:Ctx):Prop where
 T:C.T.ok P
 fns:allP (fun k f=>P.funcs[k]?=some f) C.fns
 cas:allP (fun k _=>callable P k=true) C.cas
 mixed:P.follows .mixedOrders=true
theorem AC.mono {F:FuncId} {xs:List AV} {hp:List (Nat×AB)} {nx:Nat} {post post':AV→List (Nat×AB)→Nat→Prop} (h:AC P F xs hp nx post) (hm:∀ x hp nx,post x hp nx→post' x hp nx):AC P F xs hp nx post':=fun w0 w G vs hHR hnx ha =>
 (h w0 w G vs hHR hnx ha).mono fun _ _ ⟨v,x,hp',nx',G',e1,e2,e3⟩=>⟨v,x,hp',nx',G',e1,hm _ _ _ e2,e3⟩
theorem AL.opw (hw:∀ (K:Kn) (a:Act) (w:World) (G:Gh),RelG K n st a w G→Region.wanted o (yielded ops a.tmps)=true) (h:OpV P n o st st') (k:AL P n ops Q l st'):AL P n ops Q (o::l) st:=.mk fun K a w ⟨G,rg⟩ =>
 wpList_step fun K' hK'=>by
  rw [if_pos (hw K a w G rg)];obtain ⟨v,w',hr,h2⟩:=h K a w ⟨G,rg⟩;exact oper_of_run hr (hK' _ _ (k K _ _ h2))
end
end Go.Proofs.Ytljebnobajmjnaa
/- A run of the abstract machine by one computed function: regions that draw,control,functions. No program in sight. -/
namespace Go.Proofs.Ytljebnobajmjnaa
open Go Go.RowKit

section
variable {hp:List (Nat×AB)}
end

end Go.Proofs.Ytljebnobajmjnaa
/- A region that draws its order,by an invariant of what has been done;a tail that waits for all before it goes in the order of the text. No program in sight. -/
namespace Go.Proofs.Ytljebnobajmjnaa
open Go Go.RowKit

inductive Reach (l:List Oper):Nat→Nat→Prop
 | edge {i:Nat} {o:Oper} {e:Edge} (ho:l[i]?=some o) (he:e ∈ o.after) (hb:Region.binds .any e=true):Reach l i e.on
 | step {i k:Nat} {o:Oper} {e:Edge} (ho:l[i]?=some o) (he:e ∈ o.after) (hb:Region.binds .any e=true) (h:Reach l e.on k):Reach l i k
def ClosedD (l:List Oper) (d:Nat→Bool):Prop:=∀ j o,l[j]?=some o→d j=true→∀ e ∈ o.after,Region.binds .any e=true→d e.on=true
theorem Reach.done' {l:List Oper} {d:Nat→Bool} (hd:ClosedD l d) {i k:Nat} (h:Reach l i k):d i=true→d k=true:=by
 induction h with
 | edge ho he hb=>intro hi;exact hd _ _ ho hi _ he hb
 | step ho he hb _ ih=>intro hi;exact ih (hd _ _ ho hi _ he hb)
theorem Reach.done {l:List Oper} {d:Nat→Bool} (hd:ClosedD l d) {i k:Nat} {o:Oper} (ho:l[i]?=some o) (hi:∀ e ∈ o.after,Region.binds .any e=true→d e.on=true) (h:Reach l i k):d k=true:=by
 cases h with
 | edge ho' he hb=>rw [ho] at ho';cases ho';exact hi _ he hb
 | step ho' he hb h=>rw [ho] at ho';cases ho';exact h.done' hd (hi _ he hb)
def unionN:List Nat→List Nat→List Nat
 | [],b=>b
 | a::l,b=>unionN l (bif hasN b a then b else a::b)
theorem unionN_mem {k:Nat}:∀ {l b:List Nat},k ∈ unionN l b→k ∈ l∨k ∈ b
 | [],b,h=>.inr h
 | a::l,b,h=>by
  rw [unionN] at h;rcases unionN_mem h with h | h
  ·exact .inl (List.mem_cons_of_mem _ h)
  ·cases hb:hasN b a with
   | true=>rw [hb] at h;exact .inr h
   | false =>
    rw [hb] at h;rcases List.mem_cons.1 h with h | h
    ·subst h;exact .inl (by simp)
    ·exact .inr h
def ancE (T:List (List Nat)):List Edge→List Nat→List Nat
 | [],acc=>acc
 | e::l,acc=>ancE T l (bif Region.binds .any e then unionN (e.on::T.getD e.on []) acc else acc)
def ancs:List Oper→List (List Nat)→List (List Nat)
 | [],T=>T
 | o::l,T=>ancs l (T++[ancE T o.after.toList []])
def AncOk (l:List Oper) (T:List (List Nat)):Prop:=∀ i A,T[i]?=some A→∀ k ∈ A,Reach l i k
theorem ancE_ok {l:List Oper} {T:List (List Nat)} (hT:AncOk l T) {i:Nat} {o:Oper} (ho:l[i]?=some o):∀ (es:List Edge) (acc:List Nat),(∀ e ∈ es,e ∈ o.after)→(∀ k ∈ acc,Reach l i k)→∀ k ∈ ancE T es acc,Reach l i k
 | [],acc,_,ha,k,hk=>ha k hk
 | e::es,acc,he,ha,k,hk=>by
  rw [ancE] at hk;refine ancE_ok hT ho es _ (fun e' h=>he e' (List.mem_cons_of_mem _ h)) (fun k' hk'=>?_) k hk
  cases hb:Region.binds .any e with
  | false=>rw [hb] at hk';exact ha k' hk'
  | true =>
   rw [hb] at hk';simp only [cond_true] at hk';have hem:=he e (by simp);rcases unionN_mem hk' with h | h
   ·rcases List.mem_cons.1 h with rfl | h
    ·exact .edge ho hem hb
    ·cases hT':T[e.on]? with
     | none=>rw [List.getD_eq_getElem?_getD,hT'] at h;simp at h
     | some A=>rw [List.getD_eq_getElem?_getD,hT'] at h;exact .step ho hem hb (hT _ _ hT' _ h)
   ·exact ha k' h
theorem ancs_ok {l:List Oper}:∀ (r:List Oper) (T:List (List Nat)),AncOk l T→l.drop T.length=r→AncOk l (ancs r T)
 | [],T,hT,_=>hT
 | o::r,T,hT,hd=>by
  rw [ancs]
  have ho:l[T.length]?=some o:=by
   have h1:(l.drop T.length)[0]?=some o:=by rw [hd];rfl
   rw [List.getElem?_drop] at h1;simpa using h1
  refine ancs_ok r _ (fun i A hA=>?_) ?_
  ·by_cases hi:i<T.length
   ·rw [List.getElem?_append_left hi] at hA;exact hT i A hA
   ·rw [List.getElem?_append_right (by omega)] at hA
    have hi2:i-T.length=0:=by
     have:=(List.getElem?_eq_some_iff.1 hA).1;simp at this;omega
    rw [hi2] at hA;simp at hA;subst hA;have:i=T.length:=by omega
    subst this;exact ancE_ok hT ho _ _ (fun e he=>by simpa using he) (fun k hk=>by cases hk)
  ·rw [List.length_append,List.length_singleton,←List.drop_drop,hd];rfl
section
variable {P:Program}
theorem wp_region_inv {Q:Exit→Act→World→Prop} {Inv:(Nat→Bool)→Act→World→Prop} {id:Nat} {l:List Oper} {a:Act} {w:World} (hm:P.follows .mixedOrders=true) (hp:∀ i o,l.toArray[i]?=some o→∀ e ∈ o.after,Region.binds .any e=true→e.on<i) (k:Nat) (hkl:k≤l.length)
  (start:Inv (fun _=>false) a w.drew)
  (step:∀ i o d a w,i<k→l[i]?=some o→d i=false→ClosedD l d→(∀ e ∈ o.after,Region.binds .any e=true→d e.on=true)→Inv d a w →
   if Region.wanted o (yielded l.toArray a.tmps) then o.wp P a w (fun a' w'=>Inv (upd d i) a' w') Q else Inv (upd d i) (a.put o.dst undef) w)
  (fin:∀ d a w,(∀ i,i<k→d i=true)→Inv d a w→wpList P l.toArray Q (l.drop k) a w)
  (tail:∀ i,k≤i→i<l.length→∀ j,j<i→Reach l i j):(Code.region id l.toArray true).wp P Q a w:=by
 refine wp_region_any hm ?_
 let St (listed:Array Bool) (a:Act) (w:World):Prop :=
  (ClosedD l (fun j=>listed.getD j false)∧(∀ j,k≤j→listed.getD j false=false)∧Inv (fun j=>listed.getD j false) a w) ∨
  (∃ i,k≤i∧i≤l.length∧(∀ j,listed.getD j false=true↔j<i)∧wpList P l.toArray Q (l.drop i) a w)
 have conv:∀ (listed:Array Bool) (a:Act) (w:World),listed.size=l.length→St listed a w→(∀ j,j<k→listed.getD j false=true)→∃ i,k≤i∧i≤l.length∧(∀ j,listed.getD j false=true↔j<i)∧wpList P l.toArray Q (l.drop i) a w:=by
  intro listed a w _ hs hall;rcases hs with ⟨_,h2,h3⟩ | h
  ·refine ⟨k,Nat.le_refl _,hkl,fun j=>⟨fun h=>?_,hall j⟩,fin _ a w hall h3⟩;rcases Nat.lt_or_ge j k with h' | h'
   ·exact h'
   ·rw [h2 j h'] at h;cases h
  ·exact h
 have rd:∀ (listed:Array Bool) (j:Nat),listed.size=l.length→j<l.length→listed.getD j false=false→(∀ o,l[j]?=some o→∀ e ∈ o.after,Region.binds .any e=true→listed.getD e.on false=true)→j ∈ Region.ready .any l.toArray listed:=by
  intro listed j hsz hj hf he;rw [mem_ready];refine ⟨?_,l[j],by simp [hj],fun e hem hb=>he _ (List.getElem?_eq_getElem hj) e hem hb⟩;have hl:j<listed.size:=by omega
  simp [hl] at hf ⊢;exact hf
 have key:∀ (fuel:Nat) (listed:Array Bool) (a:Act) (w:World),listed.size=l.length→listed.countP (fun b=>!b)≤fuel→St listed a w→wpAny P .any l.toArray Q fuel listed a w:=by
  have fin':∀ (listed:Array Bool) (a:Act) (w:World),listed.size=l.length→St listed a w→Region.ready .any l.toArray listed=[]→Q .normal a w:=by
   intro listed a w hsz hs hr
   have hall:∀ j,j<k→listed.getD j false=true:=by
    intro j
    induction j using Nat.strongRecOn with
    | ind j ih =>
     intro hj;rcases hb:listed.getD j false with _ | _
     ·exfalso
      have:=rd listed j hsz (by omega) hb (fun o ho e he hb'=>by
       have:=hp j o (by simpa using ho) e he hb'
       exact ih _ this (by omega))
      rw [hr] at this;cases this
     ·rfl
   obtain ⟨i,h1,h2,h3,h4⟩:=conv listed a w hsz hs hall;rcases Nat.lt_or_ge i l.length with hi | hi
   ·exfalso
    have hf:listed.getD i false=false:=by
     rcases hb:listed.getD i false with _ | _
     ·rfl
     ·have:=(h3 i).1 hb;omega
    have:=rd listed i hsz hi hf (fun o ho e he hb'=>(h3 _).2 (hp i o (by simpa using ho) e he hb'));rw [hr] at this;cases this
   ·obtain rfl:i=l.length:=by omega
    rw [List.drop_length] at h4;exact h4
  intro fuel
  induction fuel with
  | zero =>
   intro listed a w hsz hf hs
   have hr:Region.ready .any l.toArray listed=[]:=by
    rcases he:Region.ready .any l.toArray listed with _ | ⟨i,rest⟩
    ·rfl
    ·exfalso
     have hmem:i ∈ Region.ready .any l.toArray listed:=by rw [he];simp
     have h1:=(mem_ready.1 hmem).1;have h0:listed.countP (fun b=>!b)=0:=by omega
     rw [Array.countP_eq_zero] at h0
     have hi:i<listed.size:=by
      rcases Nat.lt_or_ge i listed.size with h | h
      ·exact h
      ·simp [Array.getElem?_eq_none h] at h1
     have:=h0 listed[i] (Array.getElem_mem hi);simp [hi] at h1;simp [h1] at this
   exact ⟨hr,fin' listed a w hsz hs hr⟩
  | succ fuel ih =>
   intro listed a w hsz hf hs;refine ⟨fin' listed a w hsz hs,fun i hi=>?_⟩;obtain ⟨h0,o,ho,hall⟩:=mem_ready.1 hi;have hol:l[i]?=some o:=by simpa using ho
   have hil:i<listed.size:=by rw [hsz];exact (List.getElem?_eq_some_iff.1 hol).1
   have hd0:listed.getD i false=false:=by simpa [hil] using h0
   have hup:∀ j,(listed.setIfInBounds i true).getD j false=upd (fun j=>listed.getD j false) i j:=by
    intro j;by_cases hji:j=i
    ·subst hji;rw [upd_self];simp [hil]
    ·rw [upd_ne hji,getD_set_ne false (fun e=>hji e.symm)]
   have hup':(fun j=>(listed.setIfInBounds i true).getD j false)=upd (fun j=>listed.getD j false) i:=funext hup
   have hcnt:(listed.setIfInBounds i true).countP (fun b=>!b)≤fuel:=by
    have hli:listed[i]=false:=by simpa [hil] using h0
    have h5:=Array.countP_set (xs:=listed) (p:=fun b=>!b) (a:=true) hil;have h6:listed.setIfInBounds i true=listed.set i true hil:=by simp [Array.setIfInBounds,hil]
    have h7:0<listed.countP (fun b=>!b):=Array.countP_pos_iff.2 ⟨listed[i],Array.getElem_mem hil,by simp [hli]⟩;rw [h6,h5];simp [hli];omega
   have phase2:(∃ i,k≤i∧i≤l.length∧(∀ j,listed.getD j false=true↔j<i)∧wpList P l.toArray Q (l.drop i) a w)→wpOp P l.toArray Q i (wpAny P .any l.toArray Q fuel (listed.setIfInBounds i true)) a w:=by
    rintro ⟨i',h1,h2,h3,h4⟩
    have hge:i'≤i:=by
     rcases Nat.lt_or_ge i i' with h | h
     ·have:=(h3 i).2 h;rw [hd0] at this;cases this
     ·exact h
    have hcl:ClosedD l (fun j=>listed.getD j false):=fun j o' ho' hj e he hb=>(h3 _).2 (by
     have:=hp j o' (by simpa using ho') e he hb;have:=(h3 j).1 hj
     omega)
    have hle:i≤i':=by
     rcases Nat.lt_or_ge i' i with h | h
     ·have:=(tail i (by omega) (by omega) i' h).done hcl hol hall;have:=(h3 i').1 this;omega
     ·exact h
    obtain rfl:i=i':=by omega
    have hdr:l.drop i=o::l.drop (i+1):=by
     obtain ⟨hlt,he⟩:=List.getElem?_eq_some_iff.1 hol;rw [List.drop_eq_getElem_cons hlt,he]
    rw [hdr] at h4
    have next:∀ a' w',wpList P l.toArray Q (l.drop (i+1)) a' w'→wpAny P .any l.toArray Q fuel (listed.setIfInBounds i true) a' w':=fun a' w' h =>
     ih _ a' w' (by simp [hsz]) hcnt (.inr ⟨i+1,by omega,by omega,fun j=>by
      rw [hup j];simp only [upd,Bool.or_eq_true,beq_iff_eq];rw [h3 j]
      omega,h⟩)
    unfold wpOp;simp only [ho];unfold wpList at h4;split
    ·rename_i hw;rw [if_pos hw] at h4;exact h4.imp (Oper.wp_mono next) (fun h=>h)
    ·rename_i hw;rw [if_neg hw] at h4;exact next _ _ h4
   by_cases hdone:∀ j,j<k→listed.getD j false=true
   ·exact phase2 (conv listed a w hsz hs hdone)
   ·rcases hs with ⟨h1,h2,h3⟩ | h
    ·have hik:i<k:=by
      rcases Nat.lt_or_ge i k with h | h
      ·exact h
      ·exfalso
       apply hdone;intro j hj;exact (tail i h (by omega) j (by omega)).done h1 hol hall
     have hst:=step i o _ a w hik hol hd0 h1 hall h3
     have next:∀ a' w',Inv (upd (fun j=>listed.getD j false) i) a' w'→wpAny P .any l.toArray Q fuel (listed.setIfInBounds i true) a' w':=fun a' w' h =>
      ih _ a' w' (by simp [hsz]) hcnt (.inl ⟨fun j o' ho' hj e he hb=>by
       rw [hup'] at hj ⊢;by_cases hji:j=i
       ·subst hji;rw [hol] at ho';cases ho';simp [upd,hall e he hb]
       ·rw [upd_ne hji] at hj;have:=h1 j o' ho' hj e he hb
        simp [upd,this],fun j hj=>by
       rw [hup j,upd_ne (by omega)]
       exact h2 j hj,by rw [hup'];exact h⟩)
     unfold wpOp;simp only [ho];split
     ·rename_i hw;rw [if_pos hw] at hst;exact .inl (Oper.wp_mono next hst)
     ·rename_i hw;rw [if_neg hw] at hst;exact next _ _ hst
    ·exact phase2 h
 have hg:∀ j,(Array.replicate l.toArray.size false).getD j false=false:=by
  intro j;simp only [List.size_toArray,Array.getD_eq_getD_getElem?,Array.getElem?_replicate]
  split <;> rfl
 refine key _ _ _ _ (by simp) ?_ (.inl ⟨fun j o ho hj=>?_,fun j _=>hg j,?_⟩)
 ·have:=Array.countP_le_size (p:=fun b=>!b) (xs:=Array.replicate l.toArray.size false);simpa using this
 ·have hj:(Array.replicate l.toArray.size false).getD j false=true:=hj;rw [hg j] at hj;cases hj
 ·have:(fun j=>(Array.replicate l.toArray.size false).getD j false)=fun _=>false:=funext hg
  rw [this];exact start
end
end Go.Proofs.Ytljebnobajmjnaa
/- Partial states: some operations of a region have been done,in any order;blocks made in any order. No program in sight. -/
namespace Go.Proofs.Ytljebnobajmjnaa
open Go Go.RowKit

def AV.nmd (p:Nat→Bool):AV→Bool
 | .box id _ | .elt id _ _ _ | .osl id _ | .vsl id _ _ _=>p id
 | .agg cs | .tup cs | .fn _ cs=>go p cs
 | _=>true
where go (p:Nat→Bool):List AV→Bool
 | []=>true
 | a::l=>a.nmd p&&go p l
theorem nmd_at {p:Nat→Bool}:∀ {cs:List AV} {i:Nat} {a:AV},AV.nmd.go p cs=true→cs[i]?=some a→a.nmd p=true
 | [],i,a,_,h=>by simp at h
 | b::l,i,a,h0,h=>by
  rw [AV.nmd.go,Bool.and_eq_true] at h0
  cases i with
  | zero=>simp at h;subst h;exact h0.1
  | succ i=>exact nmd_at h0.2 (by simpa using h)
theorem nmd_all {p:Nat→Bool}:∀ {cs:List AV},(∀ (i:Nat) (a:AV),cs[i]?=some a→a.nmd p=true)→AV.nmd.go p cs=true
 | [],_=>rfl
 | b::l,h=>by rw [AV.nmd.go,h 0 b rfl,nmd_all (cs:=l) (fun i a hi=>h (i+1) a (by simpa using hi))];rfl
theorem nmd_mono {p q:Nat→Bool} (hpq:∀ i,p i=true→q i=true):∀ (a:AV),a.nmd p=true→a.nmd q=true
 | .box ..,h=>by simp only [AV.nmd] at h ⊢;exact hpq _ h
 | .elt ..,h=>by simp only [AV.nmd] at h ⊢;exact hpq _ h
 | .osl ..,h=>by simp only [AV.nmd] at h ⊢;exact hpq _ h
 | .vsl ..,h=>by simp only [AV.nmd] at h ⊢;exact hpq _ h
 | .agg cs,h=>by
  simp only [AV.nmd] at h ⊢;refine nmd_all fun i a hi=>?_
  have hm:=List.mem_of_getElem? hi;exact nmd_mono hpq a (nmd_at h hi)
 | .tup cs,h=>by
  simp only [AV.nmd] at h ⊢;refine nmd_all fun i a hi=>?_
  have hm:=List.mem_of_getElem? hi;exact nmd_mono hpq a (nmd_at h hi)
 | .fn f cs,h=>by
  simp only [AV.nmd] at h ⊢;refine nmd_all fun i a hi=>?_
  have hm:=List.mem_of_getElem? hi;exact nmd_mono hpq a (nmd_at h hi)
 | .any,_=>rfl
 | .und,_=>rfl
 | .int ..,_=>rfl
 | .bool _,_=>rfl
 | .str _,_=>rfl
 | .nilp,_=>rfl
 | .nils,_=>rfl
 | .nilf,_=>rfl
 | .peek ..,_=>rfl
 | .ro ..,_=>rfl
termination_by a=>SizeOf.sizeOf a
decreasing_by all_goals (have:=List.sizeOf_lt_of_mem hm;simp;omega)
theorem RelV.nmd {w:World} {G:Gh} {a:AV} {v:Value} (r:RelV w G a v):a.nmd (fun id=>Nat.blt id G.nx)=true:=by
 induction r with
 | dat h=>cases h <;> rfl
 | box id off g hid=>simp [AV.nmd];exact hid
 | elt id n i j v hid=>simp [AV.nmd];exact hid
 | osl id n v hid=>simp [AV.nmd];exact hid
 | vsl id n lo len v hid=>simp [AV.nmd];exact hid
 | peek=>rfl
 | agg cs vs hl _ ih =>
  simp only [AV.nmd];exact nmd_all fun i a hi=>ih i a _ hi (Array.getElem?_eq_getElem (by rw [hl];exact (List.getElem?_eq_some_iff.1 hi).1))
 | tup cs vs hl _ ih =>
  simp only [AV.nmd];exact nmd_all fun i a hi=>ih i a _ hi (Array.getElem?_eq_getElem (by rw [hl];exact (List.getElem?_eq_some_iff.1 hi).1))
 | fn f cs fs vs hf hl _ ih =>
  simp only [AV.nmd];exact nmd_all fun i a hi=>ih i a _ hi (Array.getElem?_eq_getElem (by rw [hl];exact (List.getElem?_eq_some_iff.1 hi).1))
structure Mv (p:Nat→Bool) (w:World) (G:Gh) (w':World) (G':Gh):Prop where
 keep:∀ b,¬ G.own b→b<w.heap.size→w'.heap[b]?=w.heap[b]?
 own2:∀ b,G'.own b→G.own b∨w.heap.size≤b
 bs:G'.bs=G.bs
 gh:∀ id,p id=true→id<G.nx→id<G'.nx∧G'.ρ id=G.ρ id∧G'.ln id=G.ln id∧G'.sz id=G.sz id
theorem Mv.cell {p:Nat→Bool} {w w':World} {G G':Gh} (h:Mv p w G w' G') {a:Addr} {v:Value} (ho:¬ G.own a.block) (hc:w.cell? a=some v):w'.cell? a=some v :=
 (World.cell?_of_block (h.keep _ ho (cell_lt hc))).trans hc
theorem RelD.mv {p:Nat→Bool} {w w':World} {G G':Gh} (h:Mv p w G w' G') {a:AV} {v:Value} (r:RelD w G.own G.bs a v):RelD w' G'.own G'.bs a v:=by
 induction r with
 | any v=>exact .any v
 | und=>exact .und
 | int k n=>exact .int k n
 | bool b=>exact .bool b
 | str s=>exact .str s
 | nilp=>exact .nilp
 | nils=>exact .nils
 | nilf=>exact .nilf
 | ro fr sz rows A c f hc hm h0 h1 h2 ih =>
  refine .ro fr sz rows A c f hc hm h0 (fun i row j a g1 g2=>?_) ih;obtain ⟨b,o,e,ho,hfr,hcell⟩:=h1 i row j a g1 g2;exact ⟨b,o,e,fun ho'=>(h.own2 b ho').elim ho (fun hge=>by have:=cell_lt hcell;simp at this;omega),fun e=>(by rw [h.bs];exact hfr e),h.cell (a:=⟨b,_,none⟩) ho hcell⟩
theorem RelV.mv {p:Nat→Bool} {w w':World} {G G':Gh} (h:Mv p w G w' G') {a:AV} {v:Value} (r:RelV w G a v) (hp:a.nmd p=true):RelV w' G' a v:=by
 induction r with
 | dat r=>exact .dat (r.mv h)
 | box id off g hid hs hr =>
  obtain ⟨a1,a2,a3,a4⟩:=h.gh id (by simpa only [AV.nmd] using hp) hid;exact .box id off g a1 (a4 ▸ hs) (by rw [a2];exact hr)
 | elt id n i j v hid hin hs hn hv hr =>
  obtain ⟨a1,a2,a3,a4⟩:=h.gh id (by simpa only [AV.nmd] using hp) hid;refine .elt id n i j v a1 hin (by omega) (by omega) hv (fun e=>?_);obtain ⟨g,c,e1,e2⟩:=hr (by omega);exact ⟨g,c,by rw [a2];exact e1,by rw [a4];exact e2⟩
 | osl id n v hid hs hn hv hr =>
  obtain ⟨a1,a2,a3,a4⟩:=h.gh id (by simpa only [AV.nmd] using hp) hid;exact .osl id n v a1 (by omega) (by omega) hv (fun e=>by rw [a2];exact hr (by omega))
 | vsl id n lo len v hid hs hn hle hv hr =>
  obtain ⟨a1,a2,a3,a4⟩:=h.gh id (by simpa only [AV.nmd] using hp) hid;refine .vsl id n lo len v a1 (by omega) (by omega) hle hv (fun e=>?_);obtain ⟨A,c,e1,e2,e3,e4⟩:=hr (by omega);refine ⟨A,c,e1,e2,e3,fun hl=>?_⟩;obtain ⟨g,c',e5,e6⟩:=e4 hl;exact ⟨g,c',by rw [a2];exact e5,by rw [a4];exact e6⟩
 | peek row j b o f hr hb h1 h2 =>
  obtain ⟨x,l,rfl⟩:=List.exists_cons_of_ne_nil hr;have hc:=h1 0 x rfl;exact .peek _ j b o f hr (fun ho'=>(h.own2 b ho').elim hb (fun hge=>by have:=cell_lt hc;simp at this;omega)) (fun t a g=>h.cell (a:=⟨b,_,none⟩) hb (h1 t a g)) (fun t a g=>(h2 t a g).mv h)
 | agg cs vs hl _ ih=>exact .agg cs vs hl fun i a v g1 g2=>ih i a v g1 g2 (nmd_at (by simpa only [AV.nmd] using hp) g1)
 | tup cs vs hl _ ih=>exact .tup cs vs hl fun i a v g1 g2=>ih i a v g1 g2 (nmd_at (by simpa only [AV.nmd] using hp) g1)
 | fn f cs fs vs hf hl _ ih=>exact .fn f cs fs vs hf hl fun i a v g1 g2=>ih i a v g1 g2 (nmd_at (by simpa only [AV.nmd] using hp) g1)
def AB.nmd (p:Nat→Bool):AB→Bool
 | .dead=>true
 | .box cs _=>AV.nmd.go p cs
 | .row _ rows _=>rows.all (AV.nmd.go p)
theorem ABok.nmd {w0 w:World} {G:Gh} {id:Nat} {b:AB} (h:ABok w0 w G id b):b.nmd (fun id=>Nat.blt id G.nx)=true:=by
 cases b with
 | dead=>rfl
 | box cs e =>
  obtain ⟨_,_,g,vs,_,_,_,h6⟩:=h;refine nmd_all fun i a hi=>?_
  obtain ⟨v,_,_,g3⟩:=h6 i a hi;exact g3.nmd
 | row sz rows e =>
  obtain ⟨_,_,_,_,flat,_,_,h7⟩:=h;refine List.all_eq_true.2 fun row hr=>nmd_all fun j a hj=>?_
  obtain ⟨i,hi⟩:=List.mem_iff_getElem?.1 hr;obtain ⟨v,_,g4⟩:=(h7 i row hi).2 j a hj;exact g4.nmd
theorem abnmd_mono {p q:Nat→Bool} (hpq:∀ i,p i=true→q i=true) {b:AB} (h:b.nmd p=true):b.nmd q=true:=by
 cases b with
 | dead=>rfl
 | box cs e=>exact nmd_all fun i a hi=>nmd_mono hpq a (nmd_at h hi)
 | row sz rows e=>exact List.all_eq_true.2 fun row hr=>nmd_all fun j a hj=>nmd_mono hpq a (nmd_at (List.all_eq_true.1 h row hr) hj)
theorem ABok.mv {p:Nat→Bool} {w0 w w':World} {G G':Gh} {id:Nat} {b:AB} (h:ABok w0 w G id b) (hm:Mv p w G w' G') (hp:b.nmd p=true) (hid:b=.dead∨p id=true) (hc:∀ g,ownBlk (G.ρ id)=some g→w'.heap[g]?=w.heap[g]?):ABok w0 w' G' id b:=by
 cases b with
 | dead=>trivial
 | box cs e =>
  obtain ⟨h1,h2,g,vs,h3,h4,h5,h6⟩:=h;obtain ⟨p1,p2,p3,p4⟩:=hm.gh id (hid.resolve_left (by simp)) h1;refine ⟨p1,by rw [p4];exact h2,g,vs,by rw [p2];exact h3,(hc g (by rw [h3];rfl)).trans h4,h5,fun i a hi=>?_⟩;obtain ⟨v,g1,g2,g3⟩:=h6 i a hi;exact ⟨v,g1,g2,g3.mv hm (nmd_at hp hi)⟩
 | row sz rows e =>
  obtain ⟨h1,h2,h3,h4,flat,h5,h6,h7⟩:=h;obtain ⟨p1,p2,p3,p4⟩:=hm.gh id (hid.resolve_left (by simp)) h1;refine ⟨p1,h2,by rw [p4];exact h3,by rw [p3];exact h4,flat,by rw [p2];exact ownsRow_heap h5 hc,h6,fun i row hi=>?_⟩;obtain ⟨g1,g2⟩:=h7 i row hi;refine ⟨g1,fun j a hj=>?_⟩;obtain ⟨v,g3,g4⟩:=g2 j a hj;exact ⟨v,g3,g4.mv hm (nmd_at (List.all_eq_true.1 hp row (List.mem_of_getElem? hi)) hj)⟩

inductive NewB (w:World) (G:Gh):AB→Value→World→Prop
 | box (cs:List AV) (vs:Array Value) (e:TypeId) (hc:CellsV w G cs vs):NewB w G (.box cs e) (.pointer (some ⟨w.heap.size,0,none⟩)) (w.alloc (.cells vs e))
 | row (w':World) (v:Value) (sz:Nat) (rows:List (List AV)) (flat:List Value) (e:TypeId) (hb:Below w.heap.size w w') (hs:0<sz) (ho:ownsM w' w.heap.size e sz v rows.length flat) (hv:RowsV w G sz rows flat):NewB w G (.row sz rows e) v w'
def refB (b:AB) (id:Nat):AV:=match b with
 | .box ..=>.box id 0
 | .row _ rows _=>.osl id rows.length
 | .dead=>.any
def Gh.at (G:Gh) (id0:Nat) (v:Value) (ln sz:Nat):Gh:=⟨fun id=>if id=id0 then v else G.ρ id,fun b=>G.own b∨ownBlk v=some b,fun id=>if id=id0 then ln else G.ln id,fun id=>if id=id0 then sz else G.sz id,G.nx,G.bs,G.far⟩
theorem NewB.below {w w':World} {G:Gh} {b:AB} {v:Value} (h:NewB w G b v w'):Below w.heap.size w w':=by
 cases h with
 | box=>exact below_alloc' _ _
 | row _ _ _ _ _ _ hb=>exact hb
theorem NewB.fresh {w w':World} {G:Gh} {b:AB} {v:Value} (h:NewB w G b v w'):∀ g,ownBlk v=some g→w.heap.size≤g∧g<w'.heap.size:=by
 intro g hg
 cases h with
 | box cs vs e hc=>simp [ownBlk] at hg;simp;omega
 | row _ _ sz rows flat e hb hs ho hv =>
  rcases ho.2 with ⟨rfl,_⟩ | ⟨gg,cap,cur,rfl,hb',hh,_⟩
  ·simp [ownBlk] at hg
  ·simp [ownBlk] at hg;subst hg;exact ⟨hb',hh.lt⟩
def lnB:AB→Nat
 | .row _ rows _=>rows.length
 | _=>0
def szB:AB→Nat
 | .row sz _ _=>sz
 | _=>0

structure RelP (K:Kn) (n:Nat) (R:Nat→AV) (hp:List (Nat×AB)) (nx0:Nat) (lv:Nat→Bool) (a:Act) (w:World) (G:Gh):Prop where
 nx:G.nx=nx0
 hr:HR K.w0 w G hp
 ext:Ext K.w1 K.G1 w G
 size:a.tmps.size=n
 defers:a.defers=[]
 regs:∀ t,RelV w G (R t) (a.tmps.getD t undef)
 rnm:∀ t,(R t).nmd lv=true
 bnm:∀ id,(look .dead hp id).nmd lv=true
 free:∀ id,lv id=false→look .dead hp id=.dead∧(id<nx0→G.ρ id=undef)
 old:∀ id,id<K.G1.nx→lv id=true
section
variable {K:Kn} {n:Nat} {R:Nat→AV} {hp:List (Nat×AB)} {nx:Nat} {lv:Nat→Bool} {a:Act} {w:World} {G:Gh}
theorem RelP.same (h:RelP K n R hp nx lv a w G) {w':World} (hb:Below w.heap.size w w'):RelP K n R hp nx lv a w' G :=
 ⟨h.nx,(h.hr.same hb).1,h.ext.trans (h.hr.same hb).2,h.size,h.defers,fun t=>(h.regs t).ext (h.hr.same hb).2,h.rnm,h.bnm,h.free,h.old⟩
def updR (R:Nat→AV) (d:Option Nat) (x:AV):Nat→AV:=match d with
 | some d=>fun t=>if d=t then x else R t
 | none=>R
theorem RelP.put (h:RelP K n R hp nx lv a w G) {d:Option Nat} (hd:dok d n=true) {x:AV} {v:Value} (hv:RelV w G x v) (hx:x.nmd lv=true):RelP K n (updR R d x) hp nx lv (a.put d v) w G:=by
 cases d with
 | none=>exact h
 | some d =>
  have hd:=dok_lt hd d rfl;refine ⟨h.nx,h.hr,h.ext,by simp [Act.put,h.size],h.defers,fun k=>?_,fun t=>?_,h.bnm,h.free,h.old⟩
  ·show RelV w G (if d=k then x else R k) ((a.tmps.setIfInBounds d v).getD k undef);rw [getD_set (by rw [h.size];exact hd)];split
   ·exact hv
   ·exact h.regs k
  ·show (if d=t then x else R t).nmd lv=true;split
   ·exact hx
   ·exact h.rnm t
theorem RelP.newAt (h:RelP K n R hp nx lv a w G) {id:Nat} (hid:lv id=false) (hlt:id<nx) {b:AB} {v:Value} {w':World} (hN:NewB w G b v w') (hb:b.nmd lv=true) :
  RelP K n R ((id,b)::hp) nx (fun i=>lv i||Nat.beq i id) a w' (G.at id v (lnB b) (szB b))∧RelV w' (G.at id v (lnB b) (szB b)) (refB b id) v:=by
 have hbl:=hN.below;have hfr:=hN.fresh;obtain ⟨hdead,hund⟩:=h.free id hid;have hund:=hund hlt;have hne:∀ i,lv i=true→i≠id:=fun i hi e=>by subst e;rw [hid] at hi;cases hi
 have hmv:Mv lv w G w' (G.at id v (lnB b) (szB b)):=by
  refine ⟨fun bb _ hl=>hbl.block bb hl,fun bb hb=>?_,rfl,fun i hi hin=>?_⟩
  ·rcases hb with hb | hb
   ·exact .inl hb
   ·exact .inr (hfr bb hb).1
  ·have:=hne i hi;exact ⟨hin,if_neg this,if_neg this,if_neg this⟩
 have e1:(G.at id v (lnB b) (szB b)).ρ id=v:=if_pos rfl;have e2:(G.at id v (lnB b) (szB b)).ln id=lnB b:=if_pos rfl;have e3:(G.at id v (lnB b) (szB b)).sz id=szB b:=if_pos rfl;have e4:id<(G.at id v (lnB b) (szB b)).nx:=by show id<G.nx;rw [h.nx];exact hlt
 have hlv:∀ i,lv i=true→(lv i||Nat.beq i id)=true:=fun i hi=>by rw [hi];rfl
 have hok:ABok K.w0 w' (G.at id v (lnB b) (szB b)) id b:=by
  cases hN with
  | box cs vs e hc =>
   refine ⟨e4,e3,w.heap.size,vs,e1,heap_alloc_new w _,hc.size,fun i x hi=>?_⟩;have hl:i<vs.size:=by rw [hc.size];exact (List.getElem?_eq_some_iff.1 hi).1
   have hvi:vs[i]?=some vs[i]:=Array.getElem?_eq_getElem hl;exact ⟨vs[i],hvi,hc.one i _ hvi,(hc.rel i x _ hi hvi).mv hmv (nmd_at hb hi)⟩
  | row _ _ sz rows flat e hbb hs ho hv =>
   refine ⟨e4,hs,e3,e2,flat,?_,hv.one,fun i row hi=>?_⟩
   ·rw [e1];refine ⟨ho.1,?_⟩;rcases ho.2 with h' | ⟨gg,cap,cur,h1,h2,h3⟩
    ·exact .inl h'
    ·exact .inr ⟨gg,cap,cur,h1,Nat.le_trans h.hr.below.size h2,h3⟩
   ·obtain ⟨g1,g2⟩:=hv.rel i row hi;refine ⟨g1,fun j x hj=>?_⟩;obtain ⟨u,g3,g4⟩:=g2 j x hj;exact ⟨u,g3,g4.mv hmv (nmd_at (List.all_eq_true.1 hb row (List.mem_of_getElem? hi)) hj)⟩
 refine ⟨⟨h.nx,⟨h.hr.bs,h.hr.below.trans (hbl.mono h.hr.below.size),fun g=>⟨fun hg=>?_,fun hf=>.inl (h.hr.farown g hf)⟩,fun i=>?_,fun i i' g h1 h2 hii hg=>?_,fun i g h1 hg=>?_⟩,?_,h.size,h.defers,fun t=>(h.regs t).mv hmv (h.rnm t),fun t=>nmd_mono hlv _ (h.rnm t),fun i=>?_,fun i hi=>?_,fun i hi=>hlv i (h.old i hi)⟩,?_⟩
 ·rcases hg with hg | hg
  ·have:=h.hr.ownlt g hg;have:=hbl.size;omega
  ·have:=hfr g hg;have:=h.hr.below.size;omega
 ·rw [look_cons];split
  ·rename_i e;subst e;exact hok
  ·rename_i e
   have hi:look AB.dead hp i=.dead∨lv i=true:=by
    cases hl:lv i with
    | false=>exact .inl (h.free i hl).1
    | true=>exact .inr rfl
   by_cases hd:look AB.dead hp i=.dead
   ·rw [hd];trivial
   ·refine (h.hr.blk i).mv hmv (h.bnm i) hi fun g hg=>hbl.block g ?_
    have hin:i<G.nx:=by
     have hk:=h.hr.blk i
     cases hbk:look AB.dead hp i with
     | dead=>exact absurd hbk hd
     | box cs e=>rw [hbk] at hk;exact hk.1
     | row sz rows e=>rw [hbk] at hk;exact hk.1
    exact (h.hr.ownlt g (h.hr.ownhas i g hin hg)).2
 ·by_cases a1:i=id
  ·subst a1;rw [e1] at hg;have hi':(G.at i v (lnB b) (szB b)).ρ i'=G.ρ i':=if_neg (fun e=>hii e.symm);rw [hi'];intro hg';have:=(h.hr.ownlt g (h.hr.ownhas i' g h2 hg')).2;have:=(hfr g hg).1;omega
  ·have hi:(G.at id v (lnB b) (szB b)).ρ i=G.ρ i:=if_neg a1;rw [hi] at hg;by_cases a2:i'=id
   ·subst a2;rw [e1];intro hg';have:=(h.hr.ownlt g (h.hr.ownhas i g h1 hg)).2;have:=(hfr g hg').1;omega
   ·have hi':(G.at id v (lnB b) (szB b)).ρ i'=G.ρ i':=if_neg a2;rw [hi'];exact h.hr.dist i i' g h1 h2 hii hg
 ·by_cases a1:i=id
  ·subst a1;rw [e1] at hg;exact ⟨.inr hg,h.hr.newFar (hfr g hg).1⟩
  ·have hi:(G.at id v (lnB b) (szB b)).ρ i=G.ρ i:=if_neg a1;rw [hi] at hg;exact ⟨.inl (h.hr.ownhas i g h1 hg),h.hr.nofar i g h1 hg⟩
 ·refine ⟨Nat.le_trans h.ext.size hbl.size,fun bb ho hl=>?_,fun bb hb=>?_,h.ext.nx,h.ext.bs',fun i hi=>?_⟩
  ·rw [hbl.block bb (by have:=h.ext.size;omega)];exact h.ext.keep' bb ho hl
  ·rcases hb with hb | hb
   ·exact h.ext.own2 bb hb
   ·have:=(hfr bb hb).1;have:=h.ext.size
    right;omega
  ·have:=hne i (h.old i hi);have q1:(G.at id v (lnB b) (szB b)).ρ i=G.ρ i:=if_neg this;have q2:(G.at id v (lnB b) (szB b)).ln i=G.ln i:=if_neg this;have q3:(G.at id v (lnB b) (szB b)).sz i=G.sz i:=if_neg this;rw [q1,q2,q3];exact h.ext.gh i hi
 ·rw [look_cons];split
  ·exact abnmd_mono hlv hb
  ·exact abnmd_mono hlv (h.bnm i)
 ·have hi':lv i=false∧i≠id:=by
   rw [Bool.or_eq_false_iff] at hi;exact ⟨hi.1,fun e=>by subst e;simp at hi⟩
  obtain ⟨f1,f2⟩:=h.free i hi'.1;refine ⟨by rw [look_cons,if_neg (fun e=>hi'.2 e.symm)];exact f1,fun hl=>?_⟩;show (if i=id then v else G.ρ i)=undef;rw [if_neg hi'.2];exact f2 hl
 ·cases hN with
  | box cs vs e hc=>exact .box _ _ _ e4 e3 e1
  | row _ _ sz rows flat e hbb hs ho hv =>
   refine .osl _ _ _ e4 (by rw [e3];exact hs) (by rw [e2];exact Nat.le_refl _) ?_ (fun _=>e1.symm);rcases ho.2 with ⟨h1,h2⟩ | ⟨gg,cap,cur,h1,_⟩
   ·rw [h1,h2];exact ⟨_,_,rfl⟩
   ·rw [h1];exact ⟨_,_,rfl⟩
theorem RelG.reserve {st:ASt} (r:RelG K n st a w G) (hw:K.w1.heap.size≤w.heap.size) (m:Nat) (hm:st.nx≤m) :
  ∃ G',RelP K n (fun t=>look .any st.regs t) st.heap m (fun id=>Nat.blt id st.nx) a w G':=by
 have _:=hw
 let G':Gh:=⟨fun id=>if id<G.nx then G.ρ id else undef,G.own,fun id=>if id<G.nx then G.ln id else 0,fun id=>if id<G.nx then G.sz id else 0,m,G.bs,G.far⟩
 have hnx:=r.nx;have hG:∀ id,id<G.nx→G'.ρ id=G.ρ id∧G'.ln id=G.ln id∧G'.sz id=G.sz id:=fun id h=>⟨if_pos h,if_pos h,if_pos h⟩
 have hx:Ext w G w G':=by
  refine ⟨Nat.le_refl _,fun _ _ _=>rfl,fun _ h=>.inl h,by show G.nx≤m;omega,⟨rfl,rfl⟩,fun id hid=>?_⟩;obtain ⟨q1,q2,q3⟩:=hG id hid;exact ⟨by omega,by omega,fun _=>q1,fun _=>q2⟩
 have hu:∀ id,¬ id<G.nx→G'.ρ id=undef:=fun id h=>if_neg h
 refine ⟨G',rfl,⟨r.hr.bs,r.hr.below,r.hr.ownlt',fun id=>(r.hr.blk id).step hx (fun hid=>⟨(hG id hid).1,(hG id hid).2.1,fun _ _=>rfl⟩),fun i i' g _ _ hne hg=>?_,fun i g _ hg=>?_⟩,r.ext.trans hx,r.size,r.defers,fun t=>(r.regs t).ext hx,fun t=>?_,fun id=>?_,fun id hid=>?_,fun id hid=>?_⟩
 ·by_cases h1:i<G.nx
  ·by_cases h2:i'<G.nx
   ·rw [(hG i' h2).1];rw [(hG i h1).1] at hg;exact r.hr.dist i i' g h1 h2 hne hg
   ·rw [hu i' h2];simp [ownBlk,undef]
  ·rw [hu i h1] at hg;simp [ownBlk,undef] at hg
 ·by_cases h1:i<G.nx
  ·rw [(hG i h1).1] at hg;exact r.hr.ownhas' i g h1 hg
  ·rw [hu i h1] at hg;simp [ownBlk,undef] at hg
 ·have:=(r.regs t).nmd;rw [hnx] at this;exact this
 ·have:=(r.hr.blk id).nmd;rw [hnx] at this;exact this
 ·have hge:¬ id<G.nx:=by
   intro h;have h2:Nat.blt id st.nx=true:=by simp;omega
   have hid:Nat.blt id st.nx=false:=hid;rw [h2] at hid;cases hid
  refine ⟨?_,fun _=>hu id hge⟩;have hk:=r.hr.blk id
  cases hb:look AB.dead st.heap id with
  | dead=>rfl
  | box cs e=>rw [hb] at hk;exact absurd hk.1 hge
  | row sz rows e=>rw [hb] at hk;exact absurd hk.1 hge
 ·have:=r.ext.nx;show Nat.blt id st.nx=true;simp;omega
end
end Go.Proofs.Ytljebnobajmjnaa
/- Regions that draw their order: reads,calls by contract,new blocks in any order;a tail behind them. No program in sight. -/
namespace Go.Proofs.Ytljebnobajmjnaa
open Go Go.RowKit

structure OpN (P:Program) (n:Nat) (o:Oper) (st:ASt) (b:AB):Prop where
 dst:dok o.dst n=true
 out:∀ K a w G,RelG K n st a w G→∃ v w',(execOp a.eval o).run P w=.ok (.value v) w'∧NewB w G b v w'
section
variable {P:Program} {n:Nat} {st:ASt} {d:Option Nat} {ty:TypeId} {ps:String} {af:Array Edge} {g:Option (Nat×Bool)} {x y:Operand} {t t':TypeId}
theorem opN_alloc {e:TypeId} {z:Value} {s b:Nat} (hz:tyI P e=some (some z,s,b)) (h1:allOne (z.cells.toList.map avOf)=true) (hd:dok d n=true) :
  OpN P n ⟨d,.alloc e,ty,ps,af,g⟩ st (.box (z.cells.toList.map avOf) e):=⟨hd,fun K a w G r=>by
 have _:=r
 exact ⟨_,_,by simp [execOp,Instr.alloc,run_zeroValue' hz,newVar,newRow],.box _ _ _ (cellsV_const w G h1)⟩⟩
theorem opN_box {e:TypeId} (h1:allOne (st.ev x).cells=true) (hd:dok d n=true) :
  OpN P n ⟨d,.box e x,ty,ps,af,g⟩ st (.box (st.ev x).cells e):=⟨hd,fun K a w G r=>by
 exact ⟨_,_,by simp [execOp,Instr.box,newVar,newRow],.box _ _ _ ((r.ev x).cellsV h1)⟩⟩
theorem opN_lit {e:TypeId} {z:Value} {sz b L:Nat} {parts:Array (Nat×Operand)} {out:List AV} (hT:P.underlying t=some (.slice e)) (hI:tyI P e=some (some z,sz,b)) (hz1:allOne (z.cells.toList.map avOf)=true) (hzs:(z.cells.toList.map avOf).length=sz) (h0:0<sz) (hL:Nat.ble (L*sz) 16777216=true)
  (hf:fillA (fun i=>some (i*sz,sz)) (zerosA (z.cells.toList.map avOf) L) (evParts st parts.toList)=some out) (hout:out.length=L*sz) (hd:dok d n=true) :
  OpN P n ⟨d,.buildSlice t L parts,ty,ps,af,g⟩ st (.row sz (chunk sz L out) e):=⟨hd,fun K a w G r=>by
 have hL:=Nat.le_of_ble_eq_true hL;have hzc:z.cells.size=sz:=by simpa using hzs
 rw [evParts_map] at hf
 have hcz:CellsV w G (zerosA (z.cells.toList.map avOf) L) ((Array.range (L*sz)).map (z.cells[· % z.cells.size]!)):=by
  have hcv:=cellsV_const w G hz1
  have hat:∀ (i:Nat) (v:Value),((Array.range (L*sz)).map (z.cells[· % z.cells.size]!))[i]?=some v→∃ hk:i % z.cells.size<z.cells.size,v=z.cells[i % z.cells.size]:=by
   intro i v hv;have hk:i % z.cells.size<z.cells.size:=Nat.mod_lt _ (by omega);refine ⟨hk,?_⟩;rw [Array.getElem?_map] at hv;obtain ⟨k,h1,h2⟩:=Option.map_eq_some_iff.1 hv
   have:k=i:=by
    have:=Array.getElem?_eq_some_iff.1 h1;obtain ⟨_,h⟩:=this;simpa using h.symm
   subst this;rw [←h2];simp [hk]
  refine ⟨by simp [zerosA_length,hzc],fun i v hv=>?_,fun i a v ha hv=>?_⟩
  ·obtain ⟨hk,rfl⟩:=hat i v hv;exact hcv.one _ _ (Array.getElem?_eq_getElem hk)
  ·obtain ⟨hk,rfl⟩:=hat i v hv
   have hi:i<L*(z.cells.toList.map avOf).length:=by
    have:=(List.getElem?_eq_some_iff.1 ha).1;rwa [zerosA_length] at this
   rw [zerosA_at _ (by rw [hzs];exact h0) L i hi] at ha;exact hcv.rel _ a _ (by simpa using ha) (by simp [hk])
 obtain ⟨os,g1,g2⟩:=fill_rel (fun i=>some (i*sz,sz)) _ (parts.toList.map fun p=>(p.1,a.eval p.2)) _ out _ (by simp) (fun j p u hp hu=>parts_rel r parts.toList j p u hp hu) hcz hf;have hos:os.size=L*sz:=by rw [g2.size,hout]
 have ho:=ownsM.of (World.ownsRow_lit (base:=w.heap.size) (e:=e) (size:=sz) w os L (Nat.le_refl _) (by simp [maxLen];have:L≤L*sz:=Nat.le_mul_of_pos_right _ h0;omega) hos);have hRV:=RowsV.of_cells g2 hout;refine ⟨_,_,?_,.row _ _ _ _ _ _ (below_alloc' _ _) h0 (by rw [chunk_length];exact ho) hRV⟩;have hng:¬ (2 ^ 24<L*sz):=by omega
 by_cases hn:L*sz=0
 ·have hL0:L=0:=by
   rcases Nat.eq_zero_or_pos L with h | h
   ·exact h
   ·have:=Nat.mul_pos h h0;omega
  subst hL0;simp only [Nat.zero_mul,Array.range_zero',Array.map_empty] at g1;simp [execOp,Instr.buildSlice,run_underlying hT,run_sizeOf' hI,Array.range_zero',g1,newRow]
 ·simp only [execOp,Instr.buildSlice,Sem.run_bind,run_underlying hT,Result.andThen_ok,run_sizeOf' hI];rw [if_neg (by omega),if_neg hn];simp only [Sem.run_bind,Sem.run_pure,Result.andThen_ok,run_zeroValue' hI,Array.toList_map,g1]
  simp [newRow]⟩
end
section
variable {P:Program} {n:Nat} {T:Tab} {st:ASt} {o:Oper} {b:AB} {p:Prop}
end
structure OpF (P:Program) (n:Nat) (o:Oper) (st:ASt) (y:AV):Prop where
 dst:dok o.dst n=true
 out:∀ K a w G,RelG K n st a w G→∃ F args,(execOp a.eval o).run P w=.ok (.enter F args) w∧Calls P F args w fun e w'=>∃ v,e=.returned v∧Below w.heap.size w w'∧RelV w' G y v
theorem relV_frz {K:Kn} {n:Nat} {st:ASt} {a:Act} {w w':World} {G:Gh} (r:RelG K n st a w G) {y:AV} {v:Value} (h:RelV w' (Gh.frz w.heap.size) y v):RelV w' G y v:=by
 have hHR:=r.hr
 have key:∀ {a:AV} {u:Value},RelD w' (Gh.frz w.heap.size).own (Gh.frz w.heap.size).bs a u→RelD w' G.own G.bs a u:=by
  intro a u hd
  induction hd with
  | ro fr sz rows A c f hc hm h0 h1' h2' ih =>
   refine .ro fr sz rows A c f hc hm h0 (fun i row j a g1 g2=>?_) ih;obtain ⟨b,o,e1,e2,e3,e4⟩:=h1' i row j a g1 g2;have e2:¬ b<w.heap.size:=e2;refine ⟨b,o,e1,fun ho=>e2 (hHR.ownlt b ho).2,fun _=>?_,e4⟩;rw [hHR.bs];have:=hHR.below.size;omega
  | any v=>exact .any v
  | und=>exact .und
  | int k n=>exact .int k n
  | bool b=>exact .bool b
  | str s=>exact .str s
  | nilp=>exact .nilp
  | nils=>exact .nils
  | nilf=>exact .nilf
 induction h with
 | dat h=>exact .dat (key h)
 | box id off g hid=>exact absurd hid (Nat.not_lt_zero _)
 | elt id n i j v hid=>exact absurd hid (Nat.not_lt_zero _)
 | osl id n v hid=>exact absurd hid (Nat.not_lt_zero _)
 | vsl id n lo len v hid=>exact absurd hid (Nat.not_lt_zero _)
 | peek row j b o f hr hb h1' h2'=>exact .peek row j b o f hr (fun ho=>hb (hHR.ownlt b ho).2) h1' (fun t a g=>key (h2' t a g))
 | agg cs vs hl _ ih=>exact .agg cs vs hl ih
 | tup cs vs hl _ ih=>exact .tup cs vs hl ih
 | fn f cs fs vs hf hl _ ih=>exact .fn f cs fs vs hf hl ih
theorem OpF.of {P:Program} {n:Nat} {st:ASt} {d:Option Nat} {ty:TypeId} {ps:String} {af:Array Edge} {g:Option (Nat×Bool)} {cal:Operand} {args:Array Operand} {ats:Array TypeId} {F:FuncId} {caps xs xs':List AV} {y:AV}
  (hc:st.ev cal=.fn F caps) (hxs:args.toList.map st.ev++caps=xs) (hF:callable P F=true) (hd:dok d n=true) (hAF:AF P F xs' y) (hfz:FrzL st.heap xs xs') :
  OpF P n ⟨d,.call {callee:=.value cal,args:=args,argTypes:=ats },ty,ps,af,g⟩ st y:=⟨hd,fun K a w G r=>by
 subst hxs;have e1:=r.ev cal;rw [hc] at e1;obtain ⟨us,e2,hul,hr⟩:=e1.fn'
 have hargs:ArgsV w G (args.toList.map st.ev++caps) (args.map a.eval++us):=by
  refine ⟨by simp [hul],fun i x v hx hv=>?_⟩;by_cases hi:i<args.size
  ·rw [List.getElem?_append_left (by simpa using hi)] at hx;rw [Array.getElem?_append_left (by simpa using hi)] at hv;refine list_ev r args.toList i x v hx ?_;rw [List.getElem?_map,Array.getElem?_toList];rw [Array.getElem?_map] at hv;exact hv
  ·rw [List.getElem?_append_right (by simp;omega)] at hx;rw [Array.getElem?_append_right (by simp;omega)] at hv;exact hr _ x v hx (by simpa using hv)
 refine ⟨F,args.map a.eval++us,by simp [execOp,resolve,e2,Deferred.ofValue,invoke,run_callFunc' hF],(hAF.out w _ ⟨by rw [hargs.size,hfz.len],fun i b v hb' hv=>?_⟩).mono fun e w' ⟨v,h1,h2,h3⟩=>⟨v,h1,h2,relV_frz r h3⟩⟩;have hi:i<(args.toList.map st.ev++caps).length:=by rw [hfz.len];exact (List.getElem?_eq_some_iff.1 hb').1
 have hxi:=List.getElem?_eq_getElem hi
 exact (hfz.at i _ b hxi hb').rel r.hr (hargs.rel i _ v hxi hv)⟩

def vis (T:List (List Nat)) (nx0 i:Nat) (cr:List (Nat×Nat)) (id:Nat):Bool:=Nat.blt id nx0||cr.any fun c=>Nat.beq c.2 id&&hasN (T.getD i []) c.1
section
variable {P:Program} {n:Nat} {ops:Array Oper} {T:List (List Nat)} {nx0 i:Nat} {cr cr':List (Nat×Nat)} {o:Oper} {st st':ASt}
theorem put_nx (st:ASt) (d:Option Nat) (x:AV):(st.put d x).nx=st.nx:=by cases d <;> rfl
theorem put_regs (st:ASt) (d:Option Nat) (x:AV) (t:Nat) (h:d≠some t):look .any (st.put d x).regs t=look .any st.regs t:=by
 cases d with
 | none=>rfl
 | some d=>exact look_ne _ (fun e=>h (by rw [e])) _ _
theorem put_self (st:ASt) (d:Nat) (x:AV):look .any (st.put (some d) x).regs d=x:=look_self _ _ _ _
end
theorem look_filt {β:Type} {dd:β} {f:Nat→Bool} {l:List (Nat×β)} {i:Nat}:look dd (l.filter fun p=>f p.1) i=bif f i then look dd l i else dd:=by
 induction l with
 | nil=>cases f i <;> rfl
 | cons p l ih =>
  obtain ⟨j,v⟩:=p;rw [List.filter_cons]
  cases hj:f j with
  | true =>
   simp only [if_true];rw [look_cons,look_cons,ih];split
   ·rename_i e;subst e;rw [hj];rfl
   ·rfl
  | false =>
   simp only [Bool.false_eq_true,if_false];rw [ih,look_cons];split
   ·rename_i e;subst e;rw [hj];rfl
   ·rfl
theorem look_pick {β:Type} {dd:β} {f:Nat→β}:∀ {l:List Nat} {t:Nat},look dd (l.map fun t=>(t,f t)) t=f t∨look dd (l.map fun t=>(t,f t)) t=dd
 | [],_=>.inr rfl
 | a::l,t=>by
  rw [List.map_cons,look_cons];split
  ·rename_i e;subst e;exact .inl rfl
  ·exact look_pick
theorem look_pick_in {β:Type} {dd:β} {f:Nat→β}:∀ {l:List Nat} {t:Nat},t ∉ l→look dd (l.map fun t=>(t,f t)) t=dd
 | [],_,_=>rfl
 | a::l,t,h=>by
  rw [List.map_cons,look_cons,if_neg (fun e=>h (by simp [e]))];exact look_pick_in fun e=>h (List.mem_cons_of_mem _ e)
def lvD (S:Nat→ASt) (m nx0:Nat) (d:Nat→Bool) (id:Nat):Bool:=Nat.blt id nx0||(List.range m).any fun j=>d j&&(Nat.beq (S j).nx id&&Nat.blt (S j).nx (S (j+1)).nx)
section
variable {P:Program} {n:Nat} {l:List Oper} {T:List (List Nat)} {S:Nat→ASt} {C:Nat→List (Nat×Nat)} {m:Nat}
end
end Go.Proofs.Ytljebnobajmjnaa
