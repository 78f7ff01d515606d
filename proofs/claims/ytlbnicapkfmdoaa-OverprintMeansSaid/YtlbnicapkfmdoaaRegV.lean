/- A drawn region whose one store (ks) waits for all operations before it: all of them run in the world at the start. -/
import Derived.Test.YtlbnicapkfmdoaaReg
namespace Go.Proofs.Ytlbnicapkfmdoaa
open Go

def SV (w0 w1 : World) (ks : Nat) (d : Nat → Bool) (w : World) : Prop := (w = if d ks = true then w1 else w0) ∧ (d ks = true → ∀ i, i < ks → d i = true)
section
variable {P : Program} {ops : Array Oper} {w0 w1 : World} {ks : Nat}
abbrev PlanV (P : Program) (ops : Array Oper) (w0 w1 : World) (ks : Nat) : Nat → List Oper → Act → Act → Prop := PlanD P ops (SV w0 w1 ks)
theorem SV.up {i : Nat} (hs : ks ≠ i) {d : Nat → Bool} {w : World} (h : SV w0 w1 ks d w) : SV w0 w1 ks (upd d i) w := by
  refine ⟨by rw [upd_ne hs]; exact h.1, fun e j hj => ?_⟩
  rw [upd_ne hs] at e
  have := h.2 e j hj
  simp [upd, this]
theorem SV.early {i : Nat} (hi : i < ks) {d : Nat → Bool} {w : World} (h : SV w0 w1 ks d w) (hd : d i = false) : w = w0 := by
  have : d ks = false := by
    rw [Bool.eq_false_iff]; intro e; rw [h.2 e i hi] at hd; cases hd
  rw [h.1, this]; simp
theorem PlanV.done {i : Nat} {a : Act} : PlanV P ops w0 w1 ks i [] a a := PlanD.done
theorem PlanV.yield {i : Nat} {l : List Oper} {a b : Act} {o : Oper} {v : Value} (hg : Region.wanted o (yielded ops a.tmps) = true) (hi : i < ks) (hr : (execOp a.eval o).run P w0 = .ok (.value v) w0)
    (h : PlanV P ops w0 w1 ks (i + 1) l (a.put o.dst v) b) : PlanV P ops w0 w1 ks i (o :: l) a b :=
  .step (.inl ⟨hg, fun d w hd _ hS => by
    obtain rfl := hS.early hi hd
    unfold Oper.wp
    rw [hr]
    exact ⟨rfl, hS.up (by omega)⟩⟩) h
theorem PlanV.late {i : Nat} {l : List Oper} {a b : Act} {o : Oper} {v : Value} (hg : Region.wanted o (yielded ops a.tmps) = true) (hi : ks < i) (hr : ∀ w, (execOp a.eval o).run P w = .ok (.value v) w)
    (h : PlanV P ops w0 w1 ks (i + 1) l (a.put o.dst v) b) : PlanV P ops w0 w1 ks i (o :: l) a b :=
  .step (.inl ⟨hg, fun d w hd _ hS => by
    unfold Oper.wp
    rw [hr]
    exact ⟨rfl, hS.up (by omega)⟩⟩) h
theorem PlanV.call {i : Nat} {l : List Oper} {a b : Act} {o : Oper} {v : Value} {f : FuncId} {args : Array Value} (hg : Region.wanted o (yielded ops a.tmps) = true) (hi : i < ks) (hr : ∀ w, (execOp a.eval o).run P w = .ok (.enter f args) w)
    (hc : Calls P f args w0 fun e w' => e = .returned v ∧ w0 = w')
    (h : PlanV P ops w0 w1 ks (i + 1) l (a.put o.dst v) b) : PlanV P ops w0 w1 ks i (o :: l) a b :=
  .step (.inl ⟨hg, fun d w hd _ hS => by
    obtain rfl := hS.early hi hd
    unfold Oper.wp
    rw [hr w]
    exact hc.mono fun e w' ⟨h1, h2⟩ => by subst h1; subst h2; exact ⟨rfl, hS.up (by omega)⟩⟩) h
theorem PlanV.store {l : List Oper} {a b : Act} {o : Oper} (hg : Region.wanted o (yielded ops a.tmps) = true) (he : ((List.range ks).all fun i => o.after.any fun e => Region.binds .any e && e.on == i) = true) (hr : (execOp a.eval o).run P w0 = .ok .skip w1)
    (h : PlanV P ops w0 w1 ks (ks + 1) l (a.put o.dst undef) b) : PlanV P ops w0 w1 ks ks (o :: l) a b :=
  PlanD.act hg (fun d w hd hdep hS => by
    have hw : w = w0 := by rw [hS.1, hd]; simp
    subst hw
    refine ⟨_, .inr ⟨hr, rfl⟩, by rw [upd_self]; simp, fun _ i hi => ?_⟩
    rw [upd_ne (by omega)]
    obtain ⟨m, hm, hb⟩ := Array.any_eq_true.1 (List.all_eq_true.1 he i (List.mem_range.2 hi))
    rw [Bool.and_eq_true] at hb
    have := hdep o.after[m] (Array.getElem_mem hm) hb.1
    rwa [show (o.after[m]).on = i by simpa using hb.2] at this) h
theorem wp_region_planV {Q : Exit → Act → World → Prop} {id : Nat} {l : List Oper} {a b : Act} {w : World} (hm : P.follows .mixedOrders = true) (hk : planOk l.toArray a.tmps.size = true) (hks : ks < l.length)
    (hp : PlanV P l.toArray w.drew w1 ks 0 l a b) (hend : Q .normal b w1) : (Code.region id l.toArray true).wp P Q a w :=
  wp_region_planD hm hk (show SV w.drew w1 ks (fun _ => false) w.drew from ⟨rfl, fun (e : false = true) => (by cases e)⟩) hp fun d w' hd h => by
    have := h.1
    rw [hd ks hks] at this
    simp only [if_true] at this
    subst this
    exact hend
end
end Go.Proofs.Ytlbnicapkfmdoaa
