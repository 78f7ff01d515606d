/- GridNodes: for every input this law returns true and leaves its arguments as they were. -/
import Derived.Test.YtdfocbeejgcglaaZGN4
import Derived.Test.YtdfocbeejgcglaaRows
import Derived.WalkKit
import Derived.ProofKit
import Derived.SizedLaws
import Derived.BigQuiet
import Derived.Deep.QuietTactic
import Derived.Deep.Slices
import Derived.OpenShut
/- Grids: what the checks, the place of a node, Node and Step compute. -/
namespace Go.Proofs.Ytdfocbeejgcglaa
open Go Go.RowKit
set_option linter.unusedSimpArgs false
set_option linter.unusedSectionVars false
set_option linter.unusedVariables false
theorem within_s (fu : Nat) (x lo hi : Int) : R_Within_r fu (x, (lo, (hi, ()))) = some (decide (lo ≤ x ∧ x ≤ hi), ()) := by
  unfold R_Within_r
  by_cases h : lo ≤ x
  · rw [bif_pos h]
    by_cases h' : x ≤ hi
    · rw [decide_eq_true h', decide_eq_true ⟨h, h'⟩]
    · rw [decide_eq_false h', decide_eq_false (by omega)]
  · rw [bif_neg h, decide_eq_false (by omega)]
theorem none_s (fu : Nat) (z : Bool) (g w : Int) : law_none_r fu (z, (g, (w, ()))) = some (z && decide (g = w), ()) := by
  unfold law_none_r
  cases z <;> rfl
/-- a loop through the states st 0, st 1, .. st n -/
theorem stLoop {X β : Type} {f : (X → Option β) → X → Option β} {n fu : Nat} (hn : n < fu) {st : Nat → X} {x0 : X} {fin : Option β} (h0 : st 0 = x0)
    (step : ∀ j (i : Nat), i < n → f j (st i) = j (st (i + 1))) (last : ∀ j, f j (st n) = fin) : loopF f fu x0 = fin := by
  have key := errGen (f := f) (n := n) (st := st) (E := fun _ => 0) (out := fun _ => none) (fin := fin) (fun j i hi _ => by rw [if_pos rfl]; exact step j i hi) (fun _ => last) fu 0 (by omega) (by omega) (by omega)
  rw [if_pos (firstE_all _ _ fun _ _ _ => rfl), h0] at key
  exact key
/-- a counting loop that is left at the first error -/
theorem errLoopF {β : Type} {f : (Int → Option β) → Int → Option β} {n fu : Nat} (hn : n < fu) {E : Nat → Int} {out : Int → Option β} {fin : Option β}
    (step : ∀ j (i : Nat), i < n → f j i = if E i = 0 then j ((i : Int) + 1) else out (E i)) (last : (∀ k, k < n → E k = 0) → ∀ j, f j n = fin) :
    loopF f fu 0 = if firstE E n 0 = 0 then fin else out (firstE E n 0) :=
  errGen (f := f) (n := n) (st := fun i : Nat => (i : Int)) (E := E) (out := out) (fin := fin) (fun j i hi _ => step j i hi) last fu 0 (by omega) (by omega) (by omega)
abbrev GrT := Int × (Int × (Int × List Int))
/-! ### powers -/
theorem pw_bd {s : Int} {i : Nat} (h0 : 0 ≤ s) (h1 : s ≤ 9) (hi : i ≤ 4) : 0 ≤ s ^ i ∧ s ^ i ≤ 6561 := by
  obtain ⟨s, rfl⟩ := Int.eq_ofNat_of_zero_le h0
  have : ∀ s : Nat, s < 10 → ∀ i : Nat, i < 5 → 0 ≤ ((s : Nat) : Int) ^ i ∧ ((s : Nat) : Int) ^ i ≤ 6561 := by decide
  exact this s (by omega) i (by omega)
section
variable {fu : Nat} (hf : 18446744073709551616 ≤ fu)
include hf
theorem power_r {s n : Int} (h0 : 0 ≤ s) (h1 : s ≤ 9) (h2 : 0 ≤ n) (h3 : n ≤ 4) : R_Power_r fu (s, (n, ())) = some (s ^ n.toNat, ()) := by
  obtain ⟨n, rfl⟩ := Int.eq_ofNat_of_zero_le h2
  unfold R_Power_r
  refine stLoop (n := n) (st := fun i => (s ^ i, (i : Int))) (by omega) (by simp) (fun j i hi => ?_) (fun j => ?_)
  · have hb := pw_bd (i := i) h0 h1 (by omega)
    have hb' := pw_bd (i := i + 1) h0 h1 (by omega)
    rw [Int.pow_succ] at hb'
    unfold R_Power_l1
    simp (disch := omega) only [joinF_eq, bindO_some, s_wr, s_td, s_tm, s_pos, s_neg, cond_true, cond_false, Bool.not_true, Bool.not_false, Bool.true_and, Bool.and_true, Bool.false_and, Bool.and_false, bne_self_eq_false, decide_true, decide_false, Int.toNat_natCast]
    rw [Int.pow_succ]
    rfl
  · unfold R_Power_l1
    simp (disch := omega) only [joinF_eq, bindO_some, s_wr, s_td, s_tm, s_pos, s_neg, cond_true, cond_false, Bool.not_true, Bool.not_false, Bool.true_and, Bool.and_true, Bool.false_and, Bool.and_false, bne_self_eq_false, decide_true, decide_false, Int.toNat_natCast]
end
/-! ### the checks -/
def shOk (i o s : Int) : Prop := (1 ≤ i ∧ i ≤ 4) ∧ (1 ≤ o ∧ o ≤ 8) ∧ (2 ≤ s ∧ s ≤ 9) ∧ s ≠ 8
instance (i o s : Int) : Decidable (shOk i o s) := by unfold shOk; infer_instance
def shE (i o s : Int) : Int := if shOk i o s then (if 32768 < s ^ i.toNat * o then 2 else 0) else 3
def vlE (l : List Int) (i : Nat) : Int := if -32768 ≤ l.getD i 0 ∧ l.getD i 0 ≤ 65535 then 0 else 3
def grE (g : GrT) : Int := if shE g.1 g.2.1 g.2.2.1 = 0 then (if (g.2.2.2.length : Int) = g.2.2.1 ^ g.1.toNat * g.2.1 then firstE (vlE g.2.2.2) g.2.2.2.length 0 else 4) else shE g.1 g.2.1 g.2.2.1
def tnE (l : List Int) (m : Int) (i : Nat) : Int := if 0 ≤ l.getD i 0 ∧ l.getD i 0 ≤ m then 0 else 3
def tonesE (l : List Int) (n m : Int) : Int := if (l.length : Int) = n then firstE (tnE l m) l.length 0 else 4
theorem shE3 {i o s : Int} (h : ¬ shOk i o s) : shE i o s = 3 := by unfold shE; rw [if_neg h]
theorem shE2 {i o s : Int} (h : shOk i o s) (h' : 32768 < s ^ i.toNat * o) : shE i o s = 2 := by unfold shE; rw [if_pos h, if_pos h']
theorem shE0 {i o s : Int} (h : shOk i o s) (h' : ¬ 32768 < s ^ i.toNat * o) : shE i o s = 0 := by unfold shE; rw [if_pos h, if_neg h']
theorem sh_bd {i o s : Int} (h : shOk i o s) : 0 ≤ s ^ i.toNat ∧ s ^ i.toNat ≤ 6561 ∧ 0 ≤ s ^ i.toNat * o ∧ s ^ i.toNat * o ≤ 52488 := by
  unfold shOk at h
  obtain ⟨h1, h2⟩ := pw_bd (s := s) (i := i.toNat) (by omega) (by omega) (by omega)
  have h3 := Int.mul_nonneg h1 (show 0 ≤ o by omega)
  have h4 := Int.mul_le_mul h2 (show o ≤ 8 by omega) (by omega) (by omega)
  omega
section
variable {fu : Nat} (hf : 18446744073709551616 ≤ fu) {i o s : Int}
include hf
theorem shapeErr_r : R_ShapeErr_r fu (i, (o, (s, ()))) = some (shE i o s, ()) := by
  unfold R_ShapeErr_r
  have kt : shE i o s = 3 → R_ShapeErr_j1 fu (i, (o, (s, ()))) true = some (shE i o s, ()) := fun h => by unfold R_ShapeErr_j1; rw [h]; rfl
  by_cases c1 : 1 ≤ i ∧ i ≤ 4
  · by_cases c2 : 1 ≤ o ∧ o ≤ 8
    · by_cases c3 : 2 ≤ s ∧ s ≤ 9
      · by_cases c4 : s = 8
        · have e := shE3 (i := i) (o := o) (s := s) (fun h => h.2.2.2 c4)
          simp only [joinF_eq, within_s, bindO_some, decide_eq_true c1, decide_eq_true c2, decide_eq_true c3, decide_eq_true c4, Bool.not_true, cond_false]
          exact kt e
        · have ok : shOk i o s := ⟨c1, c2, c3, c4⟩
          obtain ⟨b1, b2, b3, b4⟩ := sh_bd ok
          simp only [joinF_eq, within_s, bindO_some, decide_eq_true c1, decide_eq_true c2, decide_eq_true c3, decide_eq_false c4, Bool.not_true, cond_false]
          unfold R_ShapeErr_j1
          simp (disch := omega) only [joinF_eq, bindO_some, s_wr, s_td, s_tm, s_pos, s_neg, cond_true, cond_false, Bool.not_true, Bool.not_false, Bool.true_and, Bool.and_true, Bool.false_and, Bool.and_false, bne_self_eq_false, decide_true, decide_false, Int.toNat_natCast, power_r hf]
          by_cases c5 : 32768 < s ^ i.toNat * o
          · rw [shE2 ok c5]; simp (disch := omega) only [joinF_eq, bindO_some, s_wr, s_td, s_tm, s_pos, s_neg, cond_true, cond_false, Bool.not_true, Bool.not_false, Bool.true_and, Bool.and_true, Bool.false_and, Bool.and_false, bne_self_eq_false, decide_true, decide_false, Int.toNat_natCast]
          · rw [shE0 ok c5]; simp (disch := omega) only [joinF_eq, bindO_some, s_wr, s_td, s_tm, s_pos, s_neg, cond_true, cond_false, Bool.not_true, Bool.not_false, Bool.true_and, Bool.and_true, Bool.false_and, Bool.and_false, bne_self_eq_false, decide_true, decide_false, Int.toNat_natCast]
      · have e := shE3 (i := i) (o := o) (s := s) (fun h => c3 h.2.2.1)
        simp only [joinF_eq, within_s, bindO_some, decide_eq_true c1, decide_eq_true c2, decide_eq_false c3, Bool.not_true, Bool.not_false, cond_false, cond_true]
        exact kt e
    · have e := shE3 (i := i) (o := o) (s := s) (fun h => c2 h.2.1)
      simp only [joinF_eq, within_s, bindO_some, decide_eq_true c1, decide_eq_false c2, Bool.not_true, Bool.not_false, cond_false, cond_true]
      exact kt e
  · have e := shE3 (i := i) (o := o) (s := s) (fun h => c1 h.1)
    simp only [joinF_eq, within_s, bindO_some, decide_eq_false c1, Bool.not_false, cond_true]
    exact kt e
theorem nodes_r : grid_nodes_r fu (i, (o, (s, ()))) = some ((if shE i o s = 0 then s ^ i.toNat else 0), (shE i o s, ())) := by
  unfold grid_nodes_r
  have kt : shE i o s = 3 → grid_nodes_j1 fu (i, (o, (s, ()))) true = some ((if shE i o s = 0 then s ^ i.toNat else 0), (shE i o s, ())) := fun h => by unfold grid_nodes_j1; rw [h]; rfl
  by_cases c1 : i < 1
  · simp (disch := omega) only [joinF_eq, bindO_some, s_wr, s_td, s_tm, s_pos, s_neg, cond_true, cond_false, Bool.not_true, Bool.not_false, Bool.true_and, Bool.and_true, Bool.false_and, Bool.and_false, bne_self_eq_false, decide_true, decide_false, Int.toNat_natCast]; exact kt (shE3 fun h => by unfold shOk at h; omega)
  by_cases c2 : 4 < i
  · simp (disch := omega) only [joinF_eq, bindO_some, s_wr, s_td, s_tm, s_pos, s_neg, cond_true, cond_false, Bool.not_true, Bool.not_false, Bool.true_and, Bool.and_true, Bool.false_and, Bool.and_false, bne_self_eq_false, decide_true, decide_false, Int.toNat_natCast]; exact kt (shE3 fun h => by unfold shOk at h; omega)
  by_cases c3 : o < 1
  · simp (disch := omega) only [joinF_eq, bindO_some, s_wr, s_td, s_tm, s_pos, s_neg, cond_true, cond_false, Bool.not_true, Bool.not_false, Bool.true_and, Bool.and_true, Bool.false_and, Bool.and_false, bne_self_eq_false, decide_true, decide_false, Int.toNat_natCast]; exact kt (shE3 fun h => by unfold shOk at h; omega)
  by_cases c4 : 8 < o
  · simp (disch := omega) only [joinF_eq, bindO_some, s_wr, s_td, s_tm, s_pos, s_neg, cond_true, cond_false, Bool.not_true, Bool.not_false, Bool.true_and, Bool.and_true, Bool.false_and, Bool.and_false, bne_self_eq_false, decide_true, decide_false, Int.toNat_natCast]; exact kt (shE3 fun h => by unfold shOk at h; omega)
  simp (disch := omega) only [joinF_eq, bindO_some, s_wr, s_td, s_tm, s_pos, s_neg, cond_true, cond_false, Bool.not_true, Bool.not_false, Bool.true_and, Bool.and_true, Bool.false_and, Bool.and_false, bne_self_eq_false, decide_true, decide_false, Int.toNat_natCast]
  unfold grid_nodes_j1
  simp (disch := omega) only [joinF_eq, bindO_some, s_wr, s_td, s_tm, s_pos, s_neg, cond_true, cond_false, Bool.not_true, Bool.not_false, Bool.true_and, Bool.and_true, Bool.false_and, Bool.and_false, bne_self_eq_false, decide_true, decide_false, Int.toNat_natCast]
  have kf : ∀ b : Bool, (b = true ↔ (2 ≤ s ∧ s ≤ 9) ∧ s ≠ 8) → grid_nodes_j2 fu (i, (o, (s, ()))) b = some ((if shE i o s = 0 then s ^ i.toNat else 0), (shE i o s, ())) := by
    intro b hb
    unfold grid_nodes_j2
    cases b
    · rw [shE3 (fun h => by unfold shOk at h; have := hb.2 h.2.2; cases this)]; rfl
    · have ok : shOk i o s := ⟨by omega, by omega, (hb.1 rfl).1, (hb.1 rfl).2⟩
      obtain ⟨b1, b2, b3, b4⟩ := sh_bd ok
      have ok' := ok
      unfold shOk at ok'
      obtain ⟨n, rfl⟩ := Int.eq_ofNat_of_zero_le (show 0 ≤ i by omega)
      rw [Int.toNat_natCast] at b1 b2 b3 b4
      simp (disch := omega) only [joinF_eq, bindO_some, s_wr, s_td, s_tm, s_pos, s_neg, cond_true, cond_false, Bool.not_true, Bool.not_false, Bool.true_and, Bool.and_true, Bool.false_and, Bool.and_false, bne_self_eq_false, decide_true, decide_false, Int.toNat_natCast]
      refine stLoop (n := n) (st := fun i => (s ^ i, (i : Int))) (by omega) (by simp) (fun j k hk => ?_) (fun j => ?_)
      · have hb := pw_bd (s := s) (i := k) (by omega) (by omega) (by omega)
        have hb' := pw_bd (s := s) (i := k + 1) (by omega) (by omega) (by omega)
        rw [Int.pow_succ] at hb'
        unfold grid_nodes_l3
        simp (disch := omega) only [joinF_eq, bindO_some, s_wr, s_td, s_tm, s_pos, s_neg, cond_true, cond_false, Bool.not_true, Bool.not_false, Bool.true_and, Bool.and_true, Bool.false_and, Bool.and_false, bne_self_eq_false, decide_true, decide_false, Int.toNat_natCast]
        rw [Int.pow_succ]
        rfl
      · unfold grid_nodes_l3
        simp (disch := omega) only [joinF_eq, bindO_some, s_wr, s_td, s_tm, s_pos, s_neg, cond_true, cond_false, Bool.not_true, Bool.not_false, Bool.true_and, Bool.and_true, Bool.false_and, Bool.and_false, bne_self_eq_false, decide_true, decide_false, Int.toNat_natCast]
        by_cases c5 : 32768 < s ^ n * o
        · rw [shE2 ok (by rw [Int.toNat_natCast]; exact c5)]; simp (disch := omega) only [joinF_eq, bindO_some, s_wr, s_td, s_tm, s_pos, s_neg, cond_true, cond_false, Bool.not_true, Bool.not_false, Bool.true_and, Bool.and_true, Bool.false_and, Bool.and_false, bne_self_eq_false, decide_true, decide_false, Int.toNat_natCast]; rfl
        · rw [shE0 ok (by rw [Int.toNat_natCast]; exact c5)]; simp (disch := omega) only [joinF_eq, bindO_some, s_wr, s_td, s_tm, s_pos, s_neg, cond_true, cond_false, Bool.not_true, Bool.not_false, Bool.true_and, Bool.and_true, Bool.false_and, Bool.and_false, bne_self_eq_false, decide_true, decide_false, Int.toNat_natCast]; rfl
  by_cases d2 : s = 2
  · simp (disch := omega) only [joinF_eq, bindO_some, s_wr, s_td, s_tm, s_pos, s_neg, cond_true, cond_false, Bool.not_true, Bool.not_false, Bool.true_and, Bool.and_true, Bool.false_and, Bool.and_false, bne_self_eq_false, decide_true, decide_false, Int.toNat_natCast]; exact kf _ (by simp; omega)
  by_cases d3 : s = 3
  · simp (disch := omega) only [joinF_eq, bindO_some, s_wr, s_td, s_tm, s_pos, s_neg, cond_true, cond_false, Bool.not_true, Bool.not_false, Bool.true_and, Bool.and_true, Bool.false_and, Bool.and_false, bne_self_eq_false, decide_true, decide_false, Int.toNat_natCast]; exact kf _ (by simp; omega)
  by_cases d4 : s = 4
  · simp (disch := omega) only [joinF_eq, bindO_some, s_wr, s_td, s_tm, s_pos, s_neg, cond_true, cond_false, Bool.not_true, Bool.not_false, Bool.true_and, Bool.and_true, Bool.false_and, Bool.and_false, bne_self_eq_false, decide_true, decide_false, Int.toNat_natCast]; exact kf _ (by simp; omega)
  by_cases d5 : s = 5
  · simp (disch := omega) only [joinF_eq, bindO_some, s_wr, s_td, s_tm, s_pos, s_neg, cond_true, cond_false, Bool.not_true, Bool.not_false, Bool.true_and, Bool.and_true, Bool.false_and, Bool.and_false, bne_self_eq_false, decide_true, decide_false, Int.toNat_natCast]; exact kf _ (by simp; omega)
  by_cases d6 : s = 6
  · simp (disch := omega) only [joinF_eq, bindO_some, s_wr, s_td, s_tm, s_pos, s_neg, cond_true, cond_false, Bool.not_true, Bool.not_false, Bool.true_and, Bool.and_true, Bool.false_and, Bool.and_false, bne_self_eq_false, decide_true, decide_false, Int.toNat_natCast]; exact kf _ (by simp; omega)
  by_cases d7 : s = 7
  · simp (disch := omega) only [joinF_eq, bindO_some, s_wr, s_td, s_tm, s_pos, s_neg, cond_true, cond_false, Bool.not_true, Bool.not_false, Bool.true_and, Bool.and_true, Bool.false_and, Bool.and_false, bne_self_eq_false, decide_true, decide_false, Int.toNat_natCast]; exact kf _ (by simp; omega)
  simp (disch := omega) only [joinF_eq, bindO_some, s_wr, s_td, s_tm, s_pos, s_neg, cond_true, cond_false, Bool.not_true, Bool.not_false, Bool.true_and, Bool.and_true, Bool.false_and, Bool.and_false, bne_self_eq_false, decide_true, decide_false, Int.toNat_natCast]
  exact kf _ (by rw [decide_eq_true_eq]; omega)
variable {vs : List Int} (hv : (vs.length : Int) ≤ 9223372036854775807)
include hv
theorem gridErr_r : R_GridErr_r fu ((i, (o, (s, vs))), ()) = some (grE (i, (o, (s, vs))), ()) := by
  unfold R_GridErr_r grE
  simp only [shapeErr_r hf, bindO_some]
  by_cases c : shE i o s = 0
  · have ok : shOk i o s := by
      refine Classical.byContradiction fun h => ?_
      rw [shE3 h] at c; omega
    obtain ⟨b1, b2, b3, b4⟩ := sh_bd ok
    have ok' := ok
    unfold shOk at ok'
    rw [if_pos c]
    simp (disch := omega) only [joinF_eq, bindO_some, s_wr, s_td, s_tm, s_pos, s_neg, cond_true, cond_false, Bool.not_true, Bool.not_false, Bool.true_and, Bool.and_true, Bool.false_and, Bool.and_false, bne_self_eq_false, decide_true, decide_false, Int.toNat_natCast, power_r hf]
    by_cases c2 : (vs.length : Int) = s ^ i.toNat * o
    · rw [if_pos c2]
      simp (disch := omega) only [joinF_eq, bindO_some, s_wr, s_td, s_tm, s_pos, s_neg, cond_true, cond_false, Bool.not_true, Bool.not_false, Bool.true_and, Bool.and_true, Bool.false_and, Bool.and_false, bne_self_eq_false, decide_true, decide_false, Int.toNat_natCast]
      rw [errLoop (n := vs.length) (E := vlE vs) (out := fun e => some (e, ())) (fin := some (0, ())) (by omega)]
      · split
        · rename_i e; rw [e]
        · rfl
      · intro j k hk
        unfold R_GridErr_l1 vlE
        simp (disch := omega) only [joinF_eq, bindO_some, s_wr, s_td, s_tm, s_pos, s_neg, cond_true, cond_false, Bool.not_true, Bool.not_false, Bool.true_and, Bool.and_true, Bool.false_and, Bool.and_false, bne_self_eq_false, decide_true, decide_false, Int.toNat_natCast, within_s]
        by_cases g : -32768 ≤ vs.getD k 0 ∧ vs.getD k 0 ≤ 65535
        · rw [if_pos g, decide_eq_true g]; simp (disch := omega) only [joinF_eq, bindO_some, s_wr, s_td, s_tm, s_pos, s_neg, cond_true, cond_false, Bool.not_true, Bool.not_false, Bool.true_and, Bool.and_true, Bool.false_and, Bool.and_false, bne_self_eq_false, decide_true, decide_false, Int.toNat_natCast]; rfl
        · rw [if_neg g, decide_eq_false g]; simp (disch := omega) only [joinF_eq, bindO_some, s_wr, s_td, s_tm, s_pos, s_neg, cond_true, cond_false, Bool.not_true, Bool.not_false, Bool.true_and, Bool.and_true, Bool.false_and, Bool.and_false, bne_self_eq_false, decide_true, decide_false, Int.toNat_natCast]; rfl
      · intro j
        unfold R_GridErr_l1
        simp (disch := omega) only [joinF_eq, bindO_some, s_wr, s_td, s_tm, s_pos, s_neg, cond_true, cond_false, Bool.not_true, Bool.not_false, Bool.true_and, Bool.and_true, Bool.false_and, Bool.and_false, bne_self_eq_false, decide_true, decide_false, Int.toNat_natCast]
    · rw [if_neg c2]; simp (disch := omega) only [joinF_eq, bindO_some, s_wr, s_td, s_tm, s_pos, s_neg, cond_true, cond_false, Bool.not_true, Bool.not_false, Bool.true_and, Bool.and_true, Bool.false_and, Bool.and_false, bne_self_eq_false, decide_true, decide_false, Int.toNat_natCast]
  · rw [if_neg c]; simp (disch := omega) only [joinF_eq, bindO_some, s_wr, s_td, s_tm, s_pos, s_neg, cond_true, cond_false, Bool.not_true, Bool.not_false, Bool.true_and, Bool.and_true, Bool.false_and, Bool.and_false, bne_self_eq_false, decide_true, decide_false, Int.toNat_natCast]
theorem check_r : grid_Check_r fu ((i, (o, (s, vs))), ()) = some (grE (i, (o, (s, vs))), ()) := by
  unfold grid_Check_r grE
  simp only [nodes_r hf, bindO_some]
  by_cases c : shE i o s = 0
  · have ok : shOk i o s := by
      refine Classical.byContradiction fun h => ?_
      rw [shE3 h] at c; omega
    obtain ⟨b1, b2, b3, b4⟩ := sh_bd ok
    have ok' := ok
    unfold shOk at ok'
    simp only [if_pos c]
    simp (disch := omega) only [joinF_eq, bindO_some, s_wr, s_td, s_tm, s_pos, s_neg, cond_true, cond_false, Bool.not_true, Bool.not_false, Bool.true_and, Bool.and_true, Bool.false_and, Bool.and_false, bne_self_eq_false, decide_true, decide_false, Int.toNat_natCast]
    by_cases c2 : (vs.length : Int) = s ^ i.toNat * o
    · rw [if_pos c2]
      simp (disch := omega) only [joinF_eq, bindO_some, s_wr, s_td, s_tm, s_pos, s_neg, cond_true, cond_false, Bool.not_true, Bool.not_false, Bool.true_and, Bool.and_true, Bool.false_and, Bool.and_false, bne_self_eq_false, decide_true, decide_false, Int.toNat_natCast]
      rw [errLoop (n := vs.length) (E := vlE vs) (out := fun e => some (e, ())) (fin := some (0, ())) (by omega)]
      · split
        · rename_i e; rw [e]
        · rfl
      · intro j k hk
        have t3 : ¬ (-32768 ≤ vs.getD k 0 ∧ vs.getD k 0 ≤ 65535) → vlE vs k = 3 := fun h => by unfold vlE; rw [if_neg h]
        have t0 : (-32768 ≤ vs.getD k 0 ∧ vs.getD k 0 ≤ 65535) → vlE vs k = 0 := fun h => by unfold vlE; rw [if_pos h]
        unfold grid_Check_l1
        simp (disch := omega) only [joinF_eq, bindO_some, s_wr, s_td, s_tm, s_pos, s_neg, cond_true, cond_false, Bool.not_true, Bool.not_false, Bool.true_and, Bool.and_true, Bool.false_and, Bool.and_false, bne_self_eq_false, decide_true, decide_false, Int.toNat_natCast]
        by_cases g : vs.getD k 0 < -32768
        · rw [t3 (by omega)]; simp (disch := omega) only [joinF_eq, bindO_some, s_wr, s_td, s_tm, s_pos, s_neg, cond_true, cond_false, Bool.not_true, Bool.not_false, Bool.true_and, Bool.and_true, Bool.false_and, Bool.and_false, bne_self_eq_false, decide_true, decide_false, Int.toNat_natCast, grid_Check_j2]; rfl
        by_cases g2 : 65535 < vs.getD k 0
        · rw [t3 (by omega)]; simp (disch := omega) only [joinF_eq, bindO_some, s_wr, s_td, s_tm, s_pos, s_neg, cond_true, cond_false, Bool.not_true, Bool.not_false, Bool.true_and, Bool.and_true, Bool.false_and, Bool.and_false, bne_self_eq_false, decide_true, decide_false, Int.toNat_natCast, grid_Check_j2]; rfl
        · rw [t0 (by omega)]; simp (disch := omega) only [joinF_eq, bindO_some, s_wr, s_td, s_tm, s_pos, s_neg, cond_true, cond_false, Bool.not_true, Bool.not_false, Bool.true_and, Bool.and_true, Bool.false_and, Bool.and_false, bne_self_eq_false, decide_true, decide_false, Int.toNat_natCast, grid_Check_j2]; rfl
      · intro j
        unfold grid_Check_l1
        simp (disch := omega) only [joinF_eq, bindO_some, s_wr, s_td, s_tm, s_pos, s_neg, cond_true, cond_false, Bool.not_true, Bool.not_false, Bool.true_and, Bool.and_true, Bool.false_and, Bool.and_false, bne_self_eq_false, decide_true, decide_false, Int.toNat_natCast]
    · rw [if_neg c2]; simp (disch := omega) only [joinF_eq, bindO_some, s_wr, s_td, s_tm, s_pos, s_neg, cond_true, cond_false, Bool.not_true, Bool.not_false, Bool.true_and, Bool.and_true, Bool.false_and, Bool.and_false, bne_self_eq_false, decide_true, decide_false, Int.toNat_natCast]
  · simp only [if_neg c]; simp (disch := omega) only [joinF_eq, bindO_some, s_wr, s_td, s_tm, s_pos, s_neg, cond_true, cond_false, Bool.not_true, Bool.not_false, Bool.true_and, Bool.and_true, Bool.false_and, Bool.and_false, bne_self_eq_false, decide_true, decide_false, Int.toNat_natCast]
end
end Go.Proofs.Ytdfocbeejgcglaa
/- Grids: the place of a node, Node and Step, and the law GridNodes. -/
namespace Go.Proofs.Ytdfocbeejgcglaa
open Go Go.RowKit
set_option linter.unusedSimpArgs false
set_option linter.unusedSectionVars false
set_option linter.unusedVariables false
theorem grE_ok {i o s : Int} {vs : List Int} (h : grE (i, (o, (s, vs))) = 0) : shOk i o s ∧ ¬ 32768 < s ^ i.toNat * o ∧ (vs.length : Int) = s ^ i.toNat * o ∧ ∀ k, k < vs.length → -32768 ≤ vs.getD k 0 ∧ vs.getD k 0 ≤ 65535 := by
  unfold grE at h
  by_cases c : shE i o s = 0
  · simp only [if_pos c] at h
    have ok : shOk i o s := by
      refine Classical.byContradiction fun h => ?_
      rw [shE3 h] at c; omega
    refine ⟨ok, fun h' => by rw [shE2 ok h'] at c; omega, ?_⟩
    by_cases c2 : (vs.length : Int) = s ^ i.toNat * o
    · rw [if_pos c2] at h
      refine ⟨c2, fun k hk => ?_⟩
      have := firstE_ok _ _ h k (by omega) (by omega)
      unfold vlE at this
      split at this
      · assumption
      · omega
    · rw [if_neg c2] at h; omega
  · simp only [if_neg c] at h
    omega
theorem tones_ok {l : List Int} {n m : Int} (h : tonesE l n m = 0) : (l.length : Int) = n ∧ ∀ k, k < l.length → 0 ≤ l.getD k 0 ∧ l.getD k 0 ≤ m := by
  unfold tonesE at h
  split at h
  · rename_i c
    refine ⟨c, fun k hk => ?_⟩
    have := firstE_ok _ _ h k (by omega) (by omega)
    unfold tnE at this
    split at this
    · assumption
    · omega
  · omega
def horN (s : Int) (l : List Int) : Nat → Int
  | 0 => 0
  | i + 1 => horN s l i * s + l.getD i 0
theorem horN_bd {s : Int} (h1 : 1 ≤ s) {l : List Int} : ∀ (n : Nat), (∀ k, k < n → 0 ≤ l.getD k 0 ∧ l.getD k 0 ≤ s - 1) → 0 ≤ horN s l n ∧ horN s l n ≤ s ^ n - 1
  | 0, _ => by simp [horN]
  | n + 1, h => by
    obtain ⟨a, b⟩ := horN_bd h1 n (fun k hk => h k (by omega))
    have c := h n (by omega)
    have d := Int.mul_nonneg a (show 0 ≤ s by omega)
    have e := Int.mul_le_mul_of_nonneg_right b (show 0 ≤ s by omega)
    rw [Int.sub_mul, Int.one_mul] at e
    rw [horN, Int.pow_succ]
    omega
section
variable {fu : Nat} (hf : 18446744073709551616 ≤ fu)
include hf
theorem tonesErr_r {l : List Int} (hl : (l.length : Int) ≤ 9223372036854775807) {n m : Int} : R_TonesErr_r fu (l, (n, (m, ()))) = some (tonesE l n m, ()) := by
  unfold R_TonesErr_r tonesE
  by_cases c : (l.length : Int) = n
  · rw [if_pos c]
    simp (disch := omega) only [joinF_eq, bindO_some, s_wr, s_td, s_tm, s_pos, s_neg, cond_true, cond_false, Bool.not_true, Bool.not_false, Bool.true_and, Bool.and_true, Bool.false_and, Bool.and_false, bne_self_eq_false, decide_true, decide_false, Int.toNat_natCast]
    rw [errLoop (n := l.length) (E := tnE l m) (out := fun e => some (e, ())) (fin := some (0, ())) (by omega)]
    · split
      · rename_i e; rw [e]
      · rfl
    · intro j i hi
      unfold R_TonesErr_l1 tnE
      simp (disch := omega) only [joinF_eq, bindO_some, s_wr, s_td, s_tm, s_pos, s_neg, cond_true, cond_false, Bool.not_true, Bool.not_false, Bool.true_and, Bool.and_true, Bool.false_and, Bool.and_false, bne_self_eq_false, decide_true, decide_false, Int.toNat_natCast, within_s]
      by_cases g : 0 ≤ l.getD i 0 ∧ l.getD i 0 ≤ m
      · rw [if_pos g, decide_eq_true g]; simp (disch := omega) only [joinF_eq, bindO_some, s_wr, s_td, s_tm, s_pos, s_neg, cond_true, cond_false, Bool.not_true, Bool.not_false, Bool.true_and, Bool.and_true, Bool.false_and, Bool.and_false, bne_self_eq_false, decide_true, decide_false, Int.toNat_natCast]; rfl
      · rw [if_neg g, decide_eq_false g]; simp (disch := omega) only [joinF_eq, bindO_some, s_wr, s_td, s_tm, s_pos, s_neg, cond_true, cond_false, Bool.not_true, Bool.not_false, Bool.true_and, Bool.and_true, Bool.false_and, Bool.and_false, bne_self_eq_false, decide_true, decide_false, Int.toNat_natCast]; rfl
    · intro j
      unfold R_TonesErr_l1
      simp (disch := omega) only [joinF_eq, bindO_some, s_wr, s_td, s_tm, s_pos, s_neg, cond_true, cond_false, Bool.not_true, Bool.not_false, Bool.true_and, Bool.and_true, Bool.false_and, Bool.and_false, bne_self_eq_false, decide_true, decide_false, Int.toNat_natCast]
  · rw [if_neg c]; simp (disch := omega) only [joinF_eq, bindO_some, s_wr, s_td, s_tm, s_pos, s_neg, cond_true, cond_false, Bool.not_true, Bool.not_false, Bool.true_and, Bool.and_true, Bool.false_and, Bool.and_false, bne_self_eq_false, decide_true, decide_false, Int.toNat_natCast]
theorem at_r {i o s : Int} {vs l : List Int} (h1 : 1 ≤ s) (h2 : s ≤ 9) (h3 : 0 ≤ o) (h4 : o ≤ 8) (hl : l.length ≤ 4) (hb : ∀ k, k < l.length → 0 ≤ l.getD k 0 ∧ l.getD k 0 ≤ s - 1) :
    grid_at_r fu ((i, (o, (s, vs))), (l, ())) = some (horN s l l.length * o, ()) := by
  unfold grid_at_r
  have bd : ∀ n, n ≤ l.length → 0 ≤ horN s l n ∧ horN s l n ≤ 6561 := fun n hn => by
    have a := horN_bd h1 n (fun k hk => hb k (by omega))
    have b := pw_bd (s := s) (i := n) (by omega) h2 (by omega)
    omega
  refine stLoop (n := l.length) (st := fun i => (horN s l i, (i : Int))) (by omega) rfl (fun j k hk => ?_) (fun j => ?_)
  · have a := bd k (by omega)
    have b := hb k hk
    have c := Int.mul_nonneg a.1 (show 0 ≤ s by omega)
    have d := Int.mul_le_mul a.2 h2 (show 0 ≤ s by omega) (by omega)
    unfold grid_at_l1
    simp (disch := omega) only [joinF_eq, bindO_some, s_wr, s_td, s_tm, s_pos, s_neg, cond_true, cond_false, Bool.not_true, Bool.not_false, Bool.true_and, Bool.and_true, Bool.false_and, Bool.and_false, bne_self_eq_false, decide_true, decide_false, Int.toNat_natCast]
    rfl
  · have a := bd l.length (by omega)
    have c := Int.mul_nonneg a.1 h3
    have d := Int.mul_le_mul a.2 h4 h3 (by omega)
    unfold grid_at_l1
    simp (disch := omega) only [joinF_eq, bindO_some, s_wr, s_td, s_tm, s_pos, s_neg, cond_true, cond_false, Bool.not_true, Bool.not_false, Bool.true_and, Bool.and_true, Bool.false_and, Bool.and_false, bne_self_eq_false, decide_true, decide_false, Int.toNat_natCast]
theorem sameI_r {l : List Int} (hl : (l.length : Int) ≤ 9223372036854775807) : R_SameInts_r fu (l, (l, ())) = some (true, ()) := by
  unfold R_SameInts_r
  simp (disch := omega) only [joinF_eq, bindO_some, s_wr, s_td, s_tm, s_pos, s_neg, cond_true, cond_false, Bool.not_true, Bool.not_false, Bool.true_and, Bool.and_true, Bool.false_and, Bool.and_false, bne_self_eq_false, decide_true, decide_false, Int.toNat_natCast]
  rw [errLoop (n := l.length) (E := fun _ => 0) (out := fun e => some (true, ())) (fin := some (true, ())) (by omega)]
  · split <;> rfl
  · intro j i hi
    unfold R_SameInts_l1
    simp (disch := omega) only [joinF_eq, bindO_some, s_wr, s_td, s_tm, s_pos, s_neg, cond_true, cond_false, Bool.not_true, Bool.not_false, Bool.true_and, Bool.and_true, Bool.false_and, Bool.and_false, bne_self_eq_false, decide_true, decide_false, Int.toNat_natCast]
    rfl
  · intro j
    unfold R_SameInts_l1
    simp (disch := omega) only [joinF_eq, bindO_some, s_wr, s_td, s_tm, s_pos, s_neg, cond_true, cond_false, Bool.not_true, Bool.not_false, Bool.true_and, Bool.and_true, Bool.false_and, Bool.and_false, bne_self_eq_false, decide_true, decide_false, Int.toNat_natCast]
section
variable {i o s : Int} {vs : List Int} (hv : (vs.length : Int) ≤ 9223372036854775807) {l : List Int} (hl : (l.length : Int) ≤ 9223372036854775807)
include hv
theorem step_r : grid_Step_r fu ((i, (o, (s, vs))), ()) = some ((if grE (i, (o, (s, vs))) = 0 then 65280 / (s - 1) else 0), (grE (i, (o, (s, vs))), ())) := by
  unfold grid_Step_r
  simp only [check_r hf hv, bindO_some]
  by_cases c : grE (i, (o, (s, vs))) = 0
  · obtain ⟨ok, _⟩ := grE_ok c
    unfold shOk at ok
    rw [c, if_pos rfl]
    have h := div_abs (n := 65280) (d := s - 1) (m := 65280) (by omega) (by omega) (by omega) (by omega)
    simp (disch := omega) only [joinF_eq, bindO_some, s_wr, s_td, s_tm, s_pos, s_neg, cond_true, cond_false, Bool.not_true, Bool.not_false, Bool.true_and, Bool.and_true, Bool.false_and, Bool.and_false, bne_self_eq_false, decide_true, decide_false, Int.toNat_natCast]
  · rw [if_neg c]; simp (disch := omega) only [joinF_eq, bindO_some, s_wr, s_td, s_tm, s_pos, s_neg, cond_true, cond_false, Bool.not_true, Bool.not_false, Bool.true_and, Bool.and_true, Bool.false_and, Bool.and_false, bne_self_eq_false, decide_true, decide_false, Int.toNat_natCast]
include hl
theorem node_r : grid_Node_r fu ((i, (o, (s, vs))), (l, ())) = some (if grE (i, (o, (s, vs))) = 0 then (if tonesE l i (s - 1) = 0 then (((vs.take (horN s l l.length * o + o).toNat).drop (horN s l l.length * o).toNat), ((0 : Int), ())) else ([], (tonesE l i (s - 1), ()))) else ([], (grE (i, (o, (s, vs))), ()))) := by
  unfold grid_Node_r
  simp only [check_r hf hv, bindO_some]
  by_cases c : grE (i, (o, (s, vs))) = 0
  · obtain ⟨ok, ok2, ok3, _⟩ := grE_ok c
    have bb := sh_bd ok
    unfold shOk at ok
    simp only [if_pos c]
    rw [c]
    simp (disch := omega) only [joinF_eq, bindO_some, s_wr, s_td, s_tm, s_pos, s_neg, cond_true, cond_false, Bool.not_true, Bool.not_false, Bool.true_and, Bool.and_true, Bool.false_and, Bool.and_false, bne_self_eq_false, decide_true, decide_false, Int.toNat_natCast]
    by_cases c2 : (l.length : Int) = i
    · simp (disch := omega) only [joinF_eq, bindO_some, s_wr, s_td, s_tm, s_pos, s_neg, cond_true, cond_false, Bool.not_true, Bool.not_false, Bool.true_and, Bool.and_true, Bool.false_and, Bool.and_false, bne_self_eq_false, decide_true, decide_false, Int.toNat_natCast]
      rw [errLoopF (n := l.length) (E := tnE l (s - 1)) (out := fun e => some ([], (e, ()))) (fin := some (((vs.take (horN s l l.length * o + o).toNat).drop (horN s l l.length * o).toNat), ((0 : Int), ()))) (by omega) ?_ ?_]
      · have e : tonesE l i (s - 1) = firstE (tnE l (s - 1)) l.length 0 := by unfold tonesE; rw [if_pos c2]
        rw [e]
        split
        · rfl
        · rfl
      · intro j k hk
        have t3 : ¬ (0 ≤ l.getD k 0 ∧ l.getD k 0 ≤ s - 1) → tnE l (s - 1) k = 3 := fun h => by unfold tnE; rw [if_neg h]
        have t0 : (0 ≤ l.getD k 0 ∧ l.getD k 0 ≤ s - 1) → tnE l (s - 1) k = 0 := fun h => by unfold tnE; rw [if_pos h]
        unfold grid_Node_l1
        simp (disch := omega) only [joinF_eq, bindO_some, s_wr, s_td, s_tm, s_pos, s_neg, cond_true, cond_false, Bool.not_true, Bool.not_false, Bool.true_and, Bool.and_true, Bool.false_and, Bool.and_false, bne_self_eq_false, decide_true, decide_false, Int.toNat_natCast]
        by_cases g : l.getD k 0 < 0
        · rw [t3 (by omega)]; simp (disch := omega) only [joinF_eq, bindO_some, s_wr, s_td, s_tm, s_pos, s_neg, cond_true, cond_false, Bool.not_true, Bool.not_false, Bool.true_and, Bool.and_true, Bool.false_and, Bool.and_false, bne_self_eq_false, decide_true, decide_false, Int.toNat_natCast, grid_Node_j2]; rfl
        by_cases g2 : s ≤ l.getD k 0
        · rw [t3 (by omega)]; simp (disch := omega) only [joinF_eq, bindO_some, s_wr, s_td, s_tm, s_pos, s_neg, cond_true, cond_false, Bool.not_true, Bool.not_false, Bool.true_and, Bool.and_true, Bool.false_and, Bool.and_false, bne_self_eq_false, decide_true, decide_false, Int.toNat_natCast, grid_Node_j2]; rfl
        · rw [t0 (by omega)]; simp (disch := omega) only [joinF_eq, bindO_some, s_wr, s_td, s_tm, s_pos, s_neg, cond_true, cond_false, Bool.not_true, Bool.not_false, Bool.true_and, Bool.and_true, Bool.false_and, Bool.and_false, bne_self_eq_false, decide_true, decide_false, Int.toNat_natCast, grid_Node_j2]; rfl
      · intro hE j
        have hb : ∀ k, k < l.length → 0 ≤ l.getD k 0 ∧ l.getD k 0 ≤ s - 1 := fun k hk => by
          have := hE k hk
          unfold tnE at this
          split at this
          · assumption
          · omega
        have a := horN_bd (s := s) (by omega) l.length hb
        have e1 : s ^ i.toNat = s ^ l.length := by rw [← c2]; rfl
        rw [e1] at ok2 ok3 bb
        have m1 := Int.mul_nonneg a.1 (show 0 ≤ o by omega)
        have m2 := Int.mul_le_mul_of_nonneg_right a.2 (show 0 ≤ o by omega)
        rw [Int.sub_mul, Int.one_mul] at m2
        unfold grid_Node_l1
        simp (disch := omega) only [joinF_eq, bindO_some, s_wr, s_td, s_tm, s_pos, s_neg, cond_true, cond_false, Bool.not_true, Bool.not_false, Bool.true_and, Bool.and_true, Bool.false_and, Bool.and_false, bne_self_eq_false, decide_true, decide_false, Int.toNat_natCast, at_r hf]
        have hlen : ((vs.take (horN s l l.length * o + o).toNat).drop (horN s l l.length * o).toNat).length ≤ vs.length := by
          rw [List.length_drop, List.length_take]; omega
        generalize (vs.take (horN s l l.length * o + o).toNat).drop (horN s l l.length * o).toNat = q at *
        simp (disch := omega) only [joinF_eq, bindO_some, s_wr, s_td, s_tm, s_pos, s_neg, cond_true, cond_false, Bool.not_true, Bool.not_false, Bool.true_and, Bool.and_true, Bool.false_and, Bool.and_false, bne_self_eq_false, decide_true, decide_false, Int.toNat_natCast]
    · have e : tonesE l i (s - 1) = 4 := by unfold tonesE; rw [if_neg c2]
      rw [e]
      simp (disch := omega) only [joinF_eq, bindO_some, s_wr, s_td, s_tm, s_pos, s_neg, cond_true, cond_false, Bool.not_true, Bool.not_false, Bool.true_and, Bool.and_true, Bool.false_and, Bool.and_false, bne_self_eq_false, decide_true, decide_false, Int.toNat_natCast]
      rfl
  · rw [if_neg c]; simp (disch := omega) only [joinF_eq, bindO_some, s_wr, s_td, s_tm, s_pos, s_neg, cond_true, cond_false, Bool.not_true, Bool.not_false, Bool.true_and, Bool.and_true, Bool.false_and, Bool.and_false, bne_self_eq_false, decide_true, decide_false, Int.toNat_natCast]
/-- the law -/
theorem gridNodes_r (hW : law_gridWorks_r fu () = some (true, ())) : law_GridNodes_r fu ((i, (o, (s, vs))), (l, ())) = some (true, ()) := by
  unfold law_GridNodes_r
  simp (disch := omega) only [joinF_eq, bindO_some, s_wr, s_td, s_tm, s_pos, s_neg, cond_true, cond_false, Bool.not_true, Bool.not_false, Bool.true_and, Bool.and_true, Bool.false_and, Bool.and_false, bne_self_eq_false, decide_true, decide_false, Int.toNat_natCast, hW, node_r hf hv hl, step_r hf hv, gridErr_r hf hv]
  by_cases c : grE (i, (o, (s, vs))) = 0
  · obtain ⟨ok, ok2, ok3, _⟩ := grE_ok c
    have bb := sh_bd ok
    unfold shOk at ok
    have hst : 65280 / (s - 1) * (s - 1) = 65280 := by
      have : s = 2 ∨ s = 3 ∨ s = 4 ∨ s = 5 ∨ s = 6 ∨ s = 7 ∨ s = 9 := by omega
      rcases this with h | h | h | h | h | h | h <;> subst h <;> decide
    simp only [if_pos c]
    rw [c]
    simp (disch := omega) only [joinF_eq, bindO_some, s_wr, s_td, s_tm, s_pos, s_neg, cond_true, cond_false, Bool.not_true, Bool.not_false, Bool.true_and, Bool.and_true, Bool.false_and, Bool.and_false, bne_self_eq_false, decide_true, decide_false, Int.toNat_natCast]
    unfold law_GridNodes_j3
    simp (disch := omega) only [joinF_eq, bindO_some, s_wr, s_td, s_tm, s_pos, s_neg, cond_true, cond_false, Bool.not_true, Bool.not_false, Bool.true_and, Bool.and_true, Bool.false_and, Bool.and_false, bne_self_eq_false, decide_true, decide_false, Int.toNat_natCast, tonesErr_r hf hl]
    unfold law_GridNodes_j1
    by_cases c2 : tonesE l i (s - 1) = 0
    · obtain ⟨t1, t2⟩ := tones_ok c2
      simp only [if_pos c2]
      rw [c2]
      simp (disch := omega) only [joinF_eq, bindO_some, s_wr, s_td, s_tm, s_pos, s_neg, cond_true, cond_false, Bool.not_true, Bool.not_false, Bool.true_and, Bool.and_true, Bool.false_and, Bool.and_false, bne_self_eq_false, decide_true, decide_false, Int.toNat_natCast]
      have hor : ∀ k, k ≤ l.length → 0 ≤ horN s l k ∧ horN s l k ≤ 6561 := fun k hk => by
        have a := horN_bd (s := s) (l := l) (by omega) k (fun q hq => t2 q (by omega))
        have b := pw_bd (s := s) (i := k) (by omega) (by omega) (by omega)
        omega
      refine stLoop (n := l.length) (st := fun i => (horN s l i, (i : Int))) (by omega) rfl (fun j k hk => ?_) (fun j => ?_)
      · have a := hor k (by omega)
        have b := t2 k hk
        have c := Int.mul_nonneg a.1 (show 0 ≤ s by omega)
        have d := Int.mul_le_mul a.2 (show s ≤ 9 by omega) (show 0 ≤ s by omega) (by omega)
        unfold law_GridNodes_l2
        simp (disch := omega) only [joinF_eq, bindO_some, s_wr, s_td, s_tm, s_pos, s_neg, cond_true, cond_false, Bool.not_true, Bool.not_false, Bool.true_and, Bool.and_true, Bool.false_and, Bool.and_false, bne_self_eq_false, decide_true, decide_false, Int.toNat_natCast]
        rfl
      · have a := horN_bd (s := s) (l := l) (by omega) l.length t2
        have e1 : s ^ i.toNat = s ^ l.length := by rw [← t1]; rfl
        rw [e1] at ok2 ok3 bb
        have m1 := Int.mul_nonneg a.1 (show 0 ≤ o by omega)
        have m2 := Int.mul_le_mul_of_nonneg_right a.2 (show 0 ≤ o by omega)
        rw [Int.sub_mul, Int.one_mul] at m2
        have m3 : (horN s l l.length + 1) * o = horN s l l.length * o + o := by rw [Int.add_mul, Int.one_mul]
        unfold law_GridNodes_l2
        simp (disch := omega) only [joinF_eq, bindO_some, s_wr, s_td, s_tm, s_pos, s_neg, cond_true, cond_false, Bool.not_true, Bool.not_false, Bool.true_and, Bool.and_true, Bool.false_and, Bool.and_false, bne_self_eq_false, decide_true, decide_false, Int.toNat_natCast]
        have hlen : ((vs.take (horN s l l.length * o + o).toNat).drop (horN s l l.length * o).toNat).length ≤ vs.length := by
          rw [List.length_drop, List.length_take]; omega
        rw [m3]
        generalize (vs.take (horN s l l.length * o + o).toNat).drop (horN s l l.length * o).toNat = q at *
        simp (disch := omega) only [joinF_eq, bindO_some, s_wr, s_td, s_tm, s_pos, s_neg, cond_true, cond_false, Bool.not_true, Bool.not_false, Bool.true_and, Bool.and_true, Bool.false_and, Bool.and_false, bne_self_eq_false, decide_true, decide_false, Int.toNat_natCast, sameI_r hf]
    · simp only [if_neg c2]
      simp (disch := omega) only [joinF_eq, bindO_some, s_wr, s_td, s_tm, s_pos, s_neg, cond_true, cond_false, Bool.not_true, Bool.not_false, Bool.true_and, Bool.and_true, Bool.false_and, Bool.and_false, bne_self_eq_false, decide_true, decide_false, Int.toNat_natCast, none_s]
      rfl
  · simp only [if_neg c]
    simp (disch := omega) only [joinF_eq, bindO_some, s_wr, s_td, s_tm, s_pos, s_neg, cond_true, cond_false, Bool.not_true, Bool.not_false, Bool.true_and, Bool.and_true, Bool.false_and, Bool.and_false, bne_self_eq_false, decide_true, decide_false, Int.toNat_natCast]
    unfold law_GridNodes_j4 law_GridNodes_j1
    simp (disch := omega) only [joinF_eq, bindO_some, s_wr, s_td, s_tm, s_pos, s_neg, cond_true, cond_false, Bool.not_true, Bool.not_false, Bool.true_and, Bool.and_true, Bool.false_and, Bool.and_false, bne_self_eq_false, decide_true, decide_false, Int.toNat_natCast, none_s]
    rfl
end
end
end Go.Proofs.Ytdfocbeejgcglaa
/- The step from a walk to a law's row, once for all laws of the seat: a law that returns true and leaves all that was there as it was. -/
namespace Go.Proofs.Ytdfocbeejgcglaa
open Go.ChangeShapes Go.WideShapes Go.ChangeAt Go.RowKit

theorem own : ownKnob Try.prog.godebug = none := by kernel_rfl
theorem laidOut : laidOutB Try.prog = true := by kernel_rfl
theorem boolT : Try.prog.underlying 4 = some .bool := Try.underlying4

theorem trodAll_stays {H : Type} {enc : TypeId × Value → H} {P : Program} (hl : laidOutB P = true) {W W' : World} (hb : Below W.heap.size W W') :
    ∀ {ts : List TypeId} {vs : List Value} {ds : List (DataW H)} {ps : List MemPlace}, (∀ t ∈ ts, P.readableRec t = true ∧ t < P.types.size) → DataW.TrodAll enc P W 0 (fun _ => true) true ts vs ds ps →
      (∀ x ∈ ps, x.block < W.heap.size) → DataW.TrodAll enc P W' 0 (fun b => decide (b < W.heap.size)) true ts vs ds ps
  | [], [], [], _, _, h, _ => h
  | t :: ts, v :: vs, d :: ds, _, hr, ⟨p, q, h1, h2, e⟩, hlt =>
    ⟨p, q, Below.trod hl (hr t (by simp)).1 (hr t (by simp)).2 h1 hb (fun x hx => hlt x (by rw [e]; simp [hx])),
      trodAll_stays hl hb (fun t' ht => hr t' (by simp [ht])) h2 (fun x hx => hlt x (by rw [e]; simp [hx])), e⟩
  | [], [], _ :: _, _, _, h, _ => h.elim
  | [], _ :: _, _, _, _, h, _ => h.elim
  | _ :: _, [], _, _, _, h, _ => h.elim
  | _ :: _, _ :: _, [], _, _, h, _ => h.elim

/-- what a law's row asks of the readable types among its parameters -/
def readsAll (P : Program) (ts : List TypeId) : Bool := ts.all fun t => P.readableRec t && decide (t < P.types.size)
theorem readsAll_all {P : Program} {ts : List TypeId} (h : readsAll P ts = true) : ∀ t ∈ ts, P.readableRec t = true ∧ t < P.types.size := by
  intro t ht
  have := List.all_eq_true.1 h t ht
  simpa using this

theorem trodAll_length {H : Type} {enc : TypeId × Value → H} {P : Program} {W : World} {base : Nat} {spare : Nat → Bool} {held : Bool} :
    ∀ {ts : List TypeId} {vs : List Value} {ds : List (DataW H)} {ps : List MemPlace}, DataW.TrodAll enc P W base spare held ts vs ds ps → ds.length = ts.length
  | [], [], [], _, _ => rfl
  | _ :: _, _ :: _, _ :: _, _, ⟨_, _, _, h2, _⟩ => by simp [trodAll_length h2]
  | [], [], _ :: _, _, h => h.elim
  | [], _ :: _, _, _, h => h.elim
  | _ :: _, [], _, _, h => h.elim
  | _ :: _, _ :: _, [], _, h => h.elim

set_option maxRecDepth 100000 in
theorem law_lifted {os : Os} (started : os.Started) {H : Type} {enc : TypeId × Value → H} {f : FuncId} {fn : Func} {s : ChangeSpec}
    (noInit : Try.checked.prog.inits.idxOf? f = none) (hfn : Try.checked.prog.funcs[f]? = some fn)
    (witness : ∃ (w : World) (tape : Tape) (i : Input), w.os = os ∧ (w.forCall tape i).Shaped Try.checked.prog ∧ i.vars = [] ∧ Input.okWide Try.checked.prog (w.forCall tape i) .any w.heap.size f i ∧
      s.pre6 enc Try.checked.prog fn [] false (w.forCall tape i).memory i.args ∧ ({} : Assume).holds Try.checked.prog (lone (Frame.enter Try.checked.prog f i.args .normal) [] (w.forCall tape i)))
    (hvars : s.vars = []) (hres : fn.resultTypes = #[4]) (hread : readsAll Try.prog fn.params.toList = true)
    (hspec : ∀ ds : List (DataW H), ds.length = fn.params.toList.length → s.fn H ds = { results := [.lit (.bool true)], args := ds })
    (walk : ∀ (W : World) (base : Nat) (args : List Value) (ds : List (DataW H)) (ps : List MemPlace),
      (∀ (j : Nat) t v, fn.params[j]? = some t → args[j]? = some v → Value.okWide Try.prog W .any base t v) → DataW.TrodAll enc Try.prog W 0 (fun _ => true) true fn.params.toList args ds ps →
      (DataW.weightsEach Try.prog fn.params.toList ds).all (· ≤ reachBytes) = true → (∀ x ∈ ps, x.block < W.heap.size) →
      Calls Try.prog f args.toArray W fun e W' => e = .returned (.bool true) ∧ Below W.heap.size W W') :
    ReturnsInHanded {} Try.checked os f .any (s.pre6 enc Try.checked.prog fn [] false) (s.post enc Try.checked.prog fn false true false false) := by
  refine returnsInHanded_of_change_sized (C := Try.checked) own started noInit hfn witness ?_
  intro W base args ds gs before hval hW _ hsz _
  have hW' := hW
  obtain ⟨p, q, hA0, hV, rfl, hfz, hnd⟩ := hW
  rw [hvars] at hV
  obtain ⟨rfl, rfl⟩ := trodVars_none hV
  have hA : DataW.TrodAll enc Try.prog W 0 (fun _ => true) true fn.params.toList args.toList ds p := hA0
  have hlen : ds.length = fn.params.toList.length := trodAll_length hA
  have hlt : ∀ x ∈ p, x.block < W.heap.size := fun x hx => hW'.lt x (by simpa using hx)
  have hargs : args.toList.toArray = args := by simp
  have hsz' : (DataW.weightsEach Try.prog fn.params.toList ds).all (· ≤ reachBytes) = true := by
    have h := hsz
    have hvt : s.plain.varTypes Try.checked.prog = [] := by simp [DataSpec.varTypes, ChangeSpec.plain, hvars]
    rw [hvt] at h
    simp only [List.append_nil] at h
    exact h
  have hw := walk W base args.toList ds p (fun j t v ht hv => hval j t v ht (by simpa using hv)) hA hsz' hlt
  rw [hargs] at hw
  refine hw.mono fun e W' ⟨he, hb⟩ => ⟨.bool true, he, ?_⟩
  have hsf : s.fn H (ds ++ []) = { results := [.lit (.bool true)], args := ds } := by rw [List.append_nil]; exact hspec ds hlen
  refine ⟨ds, [], p ++ [], [], p, [], hW', ?_, ?_, ?_, hb.frame _, fun h => by cases h⟩
  · rw [hsf, hres]
    exact trodAll_mk1 (shut_bool boolT true)
  · rw [hsf]
    exact trodAll_stays laidOut hb (readsAll_all hread) hA hlt
  · rw [hsf, hvars]
    rfl
end Go.Proofs.Ytdfocbeejgcglaa
/- Arguments opened: what slices and structs of numbers read as. -/
set_option maxRecDepth 100000
namespace Go.Proofs.Ytdfocbeejgcglaa
open Go.ChangeShapes Go.WideShapes Go.ChangeAt Go.RowKit Go.Deep

theorem choose_list {α : Type} {n : Nat} {Q : Nat → α → Prop} (h : ∀ i, i < n → ∃ p, Q i p) : ∃ l : List α, l.length = n ∧ ∀ i p, l[i]? = some p → Q i p := by
  induction n with
  | zero => exact ⟨[], rfl, by intro i p hi; simp at hi⟩
  | succ n ih =>
    obtain ⟨l, hl, hq⟩ := ih (fun i hi => h i (by omega))
    obtain ⟨p, hp⟩ := h n (by omega)
    refine ⟨l ++ [p], by simp [hl], fun i q hi => ?_⟩
    rcases Nat.lt_trichotomy i n with hlt | rfl | hgt
    · rw [List.getElem?_append_left (by omega)] at hi
      exact hq i q hi
    · rw [List.getElem?_append_right (by omega), hl] at hi
      simp at hi
      subst hi; exact hp
    · rw [List.getElem?_eq_none (by simp; omega)] at hi
      cases hi

section
variable {H : Type} {enc : TypeId × Value → H} {P : Program} {w : World} {base : Nat} {spare : Nat → Bool} {held : Bool}
/-- a slice, whatever its elements: of each element its cells and its reading -/
theorem rd_slice {t e : TypeId} {fuel : Nat} {v : Value} {x : DataW H × List MemPlace} (ht : P.underlying t = some (.slice e)) (hc : 0 < P.cellsOf e) (h : DataW.trod enc P w base spare held fuel t [v] = some x) :
    ∃ A n c, v = .slice A n c ∧ n ≤ c ∧ c ≤ maxLen ∧ ∀ i, i < n → ∃ b o cs n' x', A = some ⟨b, o, none⟩ ∧ cs.length = P.cellsOf e ∧ (∀ j u, cs[j]? = some u → w.cell? ⟨b, o + i * P.cellsOf e + j, none⟩ = some u) ∧
      DataW.trod enc P w base spare held n' e cs = some x' := by
  rcases open_slice ht h with ⟨h0, _⟩ | ⟨a, len, cap, m, n', D, Pl, hcs, _, hl, hm, hmm, _, hi⟩
  · simp at h0
    subst h0
    exact ⟨none, 0, 0, rfl, by omega, by unfold maxLen; omega, by intro i hi; omega⟩
  · simp at hcs
    subst hcs
    refine ⟨some a, len, cap, rfl, hl, hm, fun i hil => ?_⟩
    have hlm : len ≤ m := by rw [hmm]; split <;> omega
    obtain ⟨cs, h1, h2⟩ := hi i (by omega)
    obtain ⟨hb, hlen, hat⟩ := World.cells?_some h1
    obtain ⟨b, o, spot⟩ := a
    have h00 := hat 0 (by omega)
    have hsp : spot = none := by
      obtain ⟨cs0, g1, _⟩ := hi 0 (by omega)
      obtain ⟨_, gl, gat⟩ := World.cells?_some g1
      have hx := gat 0 (by omega)
      rw [List.getElem?_eq_getElem (by omega)] at hx
      simpa [Addr.add] using World.cell?_spot hx
    subst hsp
    refine ⟨b, o, cs, n', _, rfl, hlen, ?_, h2⟩
    intro j u hu
    have hjl : j < P.cellsOf e := by rw [← hlen]; exact (List.getElem?_eq_some_iff.1 hu).1
    have := hat j hjl
    rw [hu, Addr.add_lit, Addr.add_lit] at this
    exact this
end

end Go.Proofs.Ytdfocbeejgcglaa
/- Arguments opened, as abstract values. -/
set_option maxRecDepth 100000
namespace Go.Proofs.Ytdfocbeejgcglaa
open Go Go.ChangeShapes Go.WideShapes Go.ChangeAt Go.RowKit Go.Deep

section
variable {H : Type} {enc : TypeId × Value → H} {P : Program} {w : World} {base : Nat} {spare : Nat → Bool} {held : Bool}
/-- data of the caller's -/
abbrev RelC (w : World) : AV → Value → Prop := RelD w (fun _ => False) w.heap.size
/-- one element's cells, read as enc p -/
def Reads {α : Type} (w : World) (sz : Nat) (ec : α → List AV) (Q : α → Prop) (cs : List Value) : Prop :=
  ∃ p, Q p ∧ (ec p).length = sz ∧ ∀ (j : Nat) (a : AV) (u : Value), (ec p)[j]? = some a → cs[j]? = some u → RelC w a u
theorem ro_slice {α : Type} (ec : α → List AV) (Q : α → Prop) {t e : TypeId} {sz fuel : Nat} {v : Value} {x : DataW H × List MemPlace} (ht : P.underlying t = some (.slice e)) (hz : P.cellsOf e = sz) (hc : 0 < sz)
    (hel : ∀ (fuel : Nat) (cs : List Value) (x : DataW H × List MemPlace), cs.length = sz → DataW.trod enc P w base spare held fuel e cs = some x → Reads w sz ec Q cs) (h : DataW.trod enc P w base spare held fuel t [v] = some x) :
    ∃ xs : List α, (∀ p ∈ xs, Q p) ∧ RelC w (.ro false sz (xs.map ec)) v := by
  subst hz
  obtain ⟨A, n, c, rfl, hn, hm, hi⟩ := rd_slice ht hc h
  obtain ⟨xs, hl, hq⟩ := choose_list (Q := fun i (p : α) => Q p ∧ ∃ (b o : Nat) (cs : List Value), A = some ⟨b, o, none⟩ ∧ cs.length = P.cellsOf e ∧ (∀ (j : Nat) (u : Value), cs[j]? = some u → w.cell? ⟨b, o + i * P.cellsOf e + j, none⟩ = some u) ∧ (ec p).length = P.cellsOf e ∧ ∀ (j : Nat) (a : AV) (u : Value), (ec p)[j]? = some a → cs[j]? = some u → RelC w a u) (n := n) (by
    intro i hil
    obtain ⟨b, o, cs, n', x', hA, hlen, hat, htr⟩ := hi i hil
    obtain ⟨p, h1, h2, h3⟩ := hel n' cs x' hlen htr
    exact ⟨p, h1, b, o, cs, hA, hlen, hat, h2, h3⟩)
  subst hl
  refine ⟨xs, fun p hp => ?_, ?_⟩
  · obtain ⟨i, hi⟩ := List.mem_iff_getElem?.1 hp
    exact (hq i p hi).1
  have key : ∀ (i : Nat) (row : List AV) (j : Nat) (a : AV), (xs.map ec)[i]? = some row → row[j]? = some a → ∃ b o u, A = some ⟨b, o, none⟩ ∧ w.cell? ⟨b, o + i * P.cellsOf e + j, none⟩ = some u ∧ RelC w a u := by
    intro i row j a hr ha
    rw [List.getElem?_map] at hr
    obtain ⟨p, hp, rfl⟩ := Option.map_eq_some_iff.1 hr
    obtain ⟨_, b, o, cs, hA, hlen, hat, hel, hrel⟩ := hq i p hp
    have hj : j < cs.length := by rw [hlen, ← hel]; exact (List.getElem?_eq_some_iff.1 ha).1
    have hu : cs[j]? = some cs[j] := List.getElem?_eq_getElem hj
    exact ⟨b, o, cs[j], hA, hat j _ hu, hrel j a _ ha hu⟩
  have hcon := RelD.ro (w := w) (own := fun _ => False) (bs := w.heap.size) false (P.cellsOf e) (xs.map ec) A c (fun i j => match A with
    | some ⟨b, o, _⟩ => (w.cell? ⟨b, o + i * P.cellsOf e + j, none⟩).getD undef
    | none => undef) (by simpa using hn) hm (fun i hi hA => by
      have hi : i < xs.length := by simpa using hi
      obtain ⟨_, b, o, _, h1, _⟩ := hq i xs[i] (List.getElem?_eq_getElem hi)
      rw [hA] at h1; cases h1) (fun i row j a hr ha => by
      obtain ⟨b, o, u, hA, hu, _⟩ := key i row j a hr ha
      subst hA
      exact ⟨b, o, rfl, fun h => h.elim, (fun h => by cases h), by simp [hu]⟩) (fun i row j a hr ha => by
      obtain ⟨b, o, u, hA, hu, hr⟩ := key i row j a hr ha
      subst hA
      simpa [hu] using hr)
  rw [List.length_map] at hcon
  exact hcon
end
/-- a law that answers true -/
theorem AF.yes {P : Program} {F : FuncId} {xs : List AV} {vs : Array Value} {w : World} (h : AF P F xs (.bool true)) (ha : ArgsV w (Gh.none w.heap.size) xs vs) : Calls P F vs w fun e w' => e = .returned (.bool true) ∧ Below w.heap.size w w' :=
  (h.out w vs ha).mono fun e w' ⟨v, he, hb, hv⟩ => ⟨by rw [he, hv.bool'], hb⟩
end Go.Proofs.Ytdfocbeejgcglaa
/- Arguments of any type, opened by one theorem; the last step of a law that a residual program answers. -/
set_option maxRecDepth 100000
namespace Go.Proofs.Ytdfocbeejgcglaa
open Go Go.ChangeShapes Go.WideShapes Go.ChangeAt Go.RowKit Go.Deep

/-- what every argument of a type meets -/
def Ty.wf : (t : Ty) → t.den → Prop
  | .int k, n => (Lit.int k n).wf = true
  | .bool, _ => True
  | .str, s => List.length s ≤ maxLen
  | .list t, xs => List.length xs ≤ maxLen ∧ ∀ x ∈ (xs : List t.den), t.wf x
  | .unit, _ => True
  | .pair a b, x => a.wf x.1 ∧ b.wf x.2
  | .agg t, x => t.wf x
  | .ptr _, _ => False
def prB (t : Ty) (f : Ty → Ty → Bool) : Bool := match t with
  | .pair x y => f x y
  | _ => false
def unB (t : Ty) : Bool := match t with
  | .unit => true
  | _ => false
theorem prB_ok {t : Ty} {f : Ty → Ty → Bool} (h : prB t f = true) : ∃ x y, t = .pair x y ∧ f x y = true := by
  unfold prB at h
  split at h
  · exact ⟨_, _, rfl, h⟩
  · cases h
theorem unB_ok {t : Ty} (h : unB t = true) : t = .unit := by
  unfold unB at h
  split at h
  · rfl
  · cases h
def fsB (g : TypeId → Ty → Bool) : List Field → Nat → Ty → Bool
  | [], _, t => unB t
  | [a], o, t => Nat.beq a.offset o && g a.type t
  | a :: b :: l, o, t => prB t fun x y => Nat.beq a.offset o && g a.type x && fsB g (b :: l) (o + x.size) y
def arB (g : Ty → Bool) : Nat → Ty → Bool
  | 0, t => unB t
  | 1, t => g t
  | n + 2, t => prB t fun x y => g x && arB g (n + 1) y
def intB (k : IntKind) (t : Ty) : Bool := match t with
  | .int k' => decide (k' = k)
  | _ => false
def boolB (t : Ty) : Bool := match t with
  | .bool => true
  | _ => false
def strB (t : Ty) : Bool := match t with
  | .str => true
  | _ => false
def sliceB (g : Ty → Bool) (t : Ty) : Bool := match t with
  | .list t' => g t' && Nat.blt 0 t'.size
  | _ => false
/-- a type as the program has it -/
def tyB (P : Program) : Nat → TypeId → Ty → Bool
  | 0, _, _ => false
  | f + 1, tid, t => Nat.beq (P.cellsOf tid) t.size && (match P.underlying tid with
    | some (.int k) => intB k t
    | some .bool => boolB t
    | some .string => strB t
    | some (.slice e) => sliceB (tyB P f e) t
    | some (.struct ⟨fs⟩) => fsB (tyB P f) fs 0 t
    | some (.array n e) => arB (tyB P f e) n t
    | _ => false)
section
variable {H : Type} {enc : TypeId × Value → H} {P : Program} {w : World} {base : Nat} {spare : Nat → Bool} {held : Bool}
abbrev ReadsT (w : World) (t : Ty) (cs : List Value) : Prop := Reads w t.size (t.cells false) t.wf cs
theorem tyB_size {f : Nat} {tid : TypeId} {t : Ty} (h : tyB P f tid t = true) : P.cellsOf tid = t.size := by
  cases f with
  | zero => cases h
  | succ f => rw [tyB, Bool.and_eq_true] at h; exact Nat.eq_of_beq_eq_true h.1
theorem ReadsT.pair {a b : Ty} {c d : List Value} (h : ReadsT w a c) (k : ReadsT w b d) (hl : c.length = a.size) : ReadsT w (.pair a b) (c ++ d) := by
  obtain ⟨x, x1, x2, x3⟩ := h
  obtain ⟨y, y1, y2, y3⟩ := k
  refine ⟨(x, y), ⟨x1, y1⟩, Ty.cells_length _ _ _, fun j v u hv hu => ?_⟩
  rw [Ty.cells] at hv
  by_cases hj : j < a.size
  · rw [List.getElem?_append_left (by rw [x2]; exact hj)] at hv
    rw [List.getElem?_append_left (by omega)] at hu
    exact x3 j v u hv hu
  · rw [List.getElem?_append_right (by rw [x2]; omega), x2] at hv
    rw [List.getElem?_append_right (by omega), hl] at hu
    exact y3 _ v u hv hu
theorem ReadsT.unit : ReadsT w .unit [] := ⟨(), trivial, rfl, fun j a u h _ => by simp [Ty.cells] at h⟩
theorem fs_reads {g : TypeId → Ty → Bool} (hg : ∀ (tid : TypeId) (t : Ty) (n : Nat) (cs : List Value) (x : DataW H × List MemPlace), g tid t = true → cs.length = t.size → DataW.trod enc P w base spare held n tid cs = some x → ReadsT w t cs) (hsz : ∀ tid t, g tid t = true → P.cellsOf tid = t.size) {cs : List Value} :
    ∀ (l : List Field) (o : Nat) (t : Ty), fsB g l o t = true → (∀ a ∈ l, ∃ n y, DataW.trod enc P w base spare held n a.type ((cs.drop a.offset).take (P.cellsOf a.type)) = some y) → o + t.size ≤ cs.length → ReadsT w t ((cs.drop o).take t.size)
  | [], o, t, h, _, _ => by
    rw [unB_ok h, show Ty.unit.size = 0 from rfl, List.take_zero]; exact .unit
  | [a], o, t, h, hr, hl => by
    rw [fsB, Bool.and_eq_true] at h
    obtain ⟨n, y, hy⟩ := hr a (by simp)
    rw [Nat.eq_of_beq_eq_true h.1, hsz _ _ h.2] at hy
    exact hg _ _ n _ y h.2 (by rw [List.length_take, List.length_drop]; omega) hy
  | a :: b :: l, o, t, h, hr, hl => by
    obtain ⟨x, y, rfl, h'⟩ := prB_ok h
    clear h
    have h := h'
    clear h'
    rw [Bool.and_eq_true, Bool.and_eq_true] at h
    obtain ⟨n, z, hz⟩ := hr a (by simp)
    rw [Nat.eq_of_beq_eq_true h.1.1, hsz _ _ h.1.2] at hz
    have hs : (Ty.pair x y).size = x.size + y.size := rfl
    rw [hs] at hl
    have h1 := hg _ _ n _ z h.1.2 (by rw [List.length_take, List.length_drop]; omega) hz
    have h2 := fs_reads hg hsz (b :: l) (o + x.size) y h.2 (fun a ha => hr a (List.mem_cons_of_mem _ ha)) (by omega)
    rw [hs, List.take_add, List.drop_drop]
    exact h1.pair h2 (by rw [List.length_take, List.length_drop]; omega)
theorem ar_reads {g : Ty → Bool} {e : TypeId} (hg : ∀ (t : Ty) (n : Nat) (cs : List Value) (x : DataW H × List MemPlace), g t = true → cs.length = t.size → DataW.trod enc P w base spare held n e cs = some x → ReadsT w t cs) (hsz : ∀ t, g t = true → P.cellsOf e = t.size) {cs : List Value} :
    ∀ (k o : Nat) (t : Ty), arB g k t = true → (∀ i, i < k → ∃ n y, DataW.trod enc P w base spare held n e ((cs.drop (o + i * P.cellsOf e)).take (P.cellsOf e)) = some y) → o + t.size ≤ cs.length → ReadsT w t ((cs.drop o).take t.size)
  | 0, o, t, h, _, _ => by
    rw [unB_ok h, show Ty.unit.size = 0 from rfl, List.take_zero]; exact .unit
  | 1, o, t, h, hr, hl => by
    rw [arB] at h
    obtain ⟨n, y, hy⟩ := hr 0 (by omega)
    rw [hsz _ h, Nat.zero_mul, Nat.add_zero] at hy
    exact hg _ n _ y h (by rw [List.length_take, List.length_drop]; omega) hy
  | k + 2, o, t, h, hr, hl => by
    obtain ⟨x, y, rfl, h'⟩ := prB_ok h
    clear h
    have h := h'
    clear h'
    rw [Bool.and_eq_true] at h
    obtain ⟨n, z, hz⟩ := hr 0 (by omega)
    rw [hsz _ h.1, Nat.zero_mul, Nat.add_zero] at hz
    have hs : (Ty.pair x y).size = x.size + y.size := rfl
    rw [hs] at hl
    have h1 := hg _ n _ z h.1 (by rw [List.length_take, List.length_drop]; omega) hz
    have h2 := ar_reads hg hsz (k + 1) (o + x.size) y h.2 (fun i hi => by
      obtain ⟨n, z, hz⟩ := hr (i + 1) (by omega)
      refine ⟨n, z, ?_⟩
      rw [← hz, ← hsz _ h.1, Nat.add_mul, Nat.one_mul, Nat.add_assoc, Nat.add_comm (P.cellsOf e)]) (by omega)
    rw [hs, List.take_add, List.drop_drop]
    exact h1.pair h2 (by rw [List.length_take, List.length_drop]; omega)
theorem ro_len {own : Nat → Prop} {bs sz : Nat} {fr : Bool} {rows : List (List AV)} {v : Value} (h : RelD w own bs (.ro fr sz rows) v) : rows.length ≤ maxLen := by
  cases h with
  | ro fr sz rows A c f hc hm h0 h1 h2 => omega
theorem one_cell {cs : List Value} (h : cs.length = 1) : ∃ u, cs = [u] := by match cs, h with | [u], _ => exact ⟨u, rfl⟩
theorem reads_ty : ∀ (f : Nat) (tid : TypeId) (t : Ty) (n : Nat) (cs : List Value) (x : DataW H × List MemPlace), tyB P f tid t = true → cs.length = t.size → DataW.trod enc P w base spare held n tid cs = some x → ReadsT w t cs
  | 0, _, _, _, _, _, h, _, _ => by cases h
  | f + 1, tid, t, n, cs, x, h, hl, hx => by
    have hsize := tyB_size h
    rw [tyB, Bool.and_eq_true] at h
    obtain ⟨_, h⟩ := h
    split at h
    · rename_i k hu
      unfold intB at h
      split at h
      · have hk := of_decide_eq_true h
        subst hk
        obtain ⟨m, rfl, _, hwf⟩ := DataW.trod_int hu hx
        refine ⟨m, hwf, rfl, fun j a u ha hu => ?_⟩
        match j with
        | 0 => simp [Ty.cells] at ha hu; subst ha; subst hu; exact .int _ _
        | j + 1 => simp [Ty.cells] at ha
      · cases h
    · rename_i hu
      unfold boolB at h
      split at h
      · obtain ⟨m, rfl, _⟩ := DataW.trod_bool hu hx
        refine ⟨m, trivial, rfl, fun j a u ha hu => ?_⟩
        match j with
        | 0 => simp [Ty.cells] at ha hu; subst ha; subst hu; exact .bool _
        | j + 1 => simp [Ty.cells] at ha
      · cases h
    · rename_i hu
      unfold strB at h
      split at h
      · obtain ⟨s, rfl, _, hs⟩ := DataW.trod_string hu hx
        refine ⟨s.data.toList, by rw [Ty.wf, Array.length_toList]; exact hs, rfl, fun j a u ha hu => ?_⟩
        match j with
        | 0 => simp [Ty.cells] at ha hu; subst ha; subst hu; exact .str _
        | j + 1 => simp [Ty.cells] at ha
      · cases h
    · rename_i e hu
      unfold sliceB at h
      split at h
      · rename_i _ t' _
        rw [Bool.and_eq_true] at h
        have hpos : 0 < t'.size := Nat.le_of_ble_eq_true h.2
        obtain ⟨v, rfl⟩ := one_cell hl
        obtain ⟨xs, hw, hr⟩ := ro_slice (t'.cells false) t'.wf hu (tyB_size h.1) hpos (fun m cs x hl hx => reads_ty f e t' m cs x h.1 hl hx) hx
        refine ⟨xs, ⟨?_, hw⟩, rfl, fun j a u ha hu => ?_⟩
        · have := ro_len hr
          rw [List.length_map] at this
          exact this
        match j with
        | 0 => simp [Ty.cells] at ha hu; subst ha; subst hu; exact hr
        | j + 1 => simp [Ty.cells] at ha
      · cases h
    · rename_i fs hu
      obtain ⟨xs, m, _, _, _, hxl, hat⟩ := DataW.trod_struct hu hx
      have := fs_reads (cs := cs) (fun tid t n cs x h1 h2 h3 => reads_ty f tid t n cs x h1 h2 h3) (fun tid t h => tyB_size h) fs 0 t h (fun a ha => by
        obtain ⟨i, hi⟩ := List.mem_iff_getElem?.1 ha
        have hi' : i < xs.length := by rw [hxl]; exact (List.getElem?_eq_some_iff.1 hi).1
        exact ⟨m, _, by rw [hat i a (by simpa using hi), List.getElem?_eq_getElem hi']⟩) (by omega)
      rw [List.drop_zero, List.take_of_length_le (by omega)] at this
      exact this
    · rename_i k e hu
      obtain ⟨xs, m, _, _, _, hxl, hat⟩ := DataW.trod_array hu hx
      have := ar_reads (cs := cs) (e := e) (fun t n cs x h1 h2 h3 => reads_ty f e t n cs x h1 h2 h3) (fun t h => tyB_size h) k 0 t h (fun i hi => by
        have hi' : i < xs.length := by rw [hxl]; exact hi
        exact ⟨m, _, by rw [Nat.zero_add, hat i hi, List.getElem?_eq_getElem hi']⟩) (by omega)
      rw [List.drop_zero, List.take_of_length_le (by omega)] at this
      exact this
    · cases h
/-! ### Arguments -/
def aggP (P : Program) (tid : TypeId) : Bool := match P.underlying tid with
  | some (.struct _) => true
  | some (.array _ _) => true
  | _ => false
def cellP (P : Program) (tid : TypeId) : Bool := match P.underlying tid with
  | some (.int _) => true
  | some .bool => true
  | some .string => true
  | some (.slice _) => true
  | _ => false
def argB (P : Program) (tid : TypeId) (a : Ty) : Bool := match a with
  | .agg t => tyB P 9 tid t && aggP P tid
  | .int k => tyB P 9 tid (.int k) && cellP P tid
  | .bool => tyB P 9 tid .bool && cellP P tid
  | .str => tyB P 9 tid .str && cellP P tid
  | .list t => tyB P 9 tid (.list t) && cellP P tid
  | _ => false
def argsB (P : Program) : List TypeId → Ty → Bool
  | [], t => unB t
  | tid :: l, t => prB t fun a b => argB P tid a && argsB P l b
theorem okWide_arr {n b : Nat} {r : Go.Reach} {t e : TypeId} {v : Value} (ht : P.underlying t = some (.array n e)) (h : Value.okWide P w r b t v) : ∃ cs, v = .agg cs ∧ cs.size = P.cellsOf t := by
  simp only [Value.okWide, ht] at h
  obtain ⟨cs, h1, h2, _⟩ := h
  exact ⟨cs, h1, h2⟩
theorem arg_agg {tid : TypeId} {t : Ty} {v : Value} {d : DataW H} {p : List MemPlace} {b : Nat} (h : tyB P 9 tid t = true) (ha : aggP P tid = true) (hv : Value.okWide P w .any b tid v) (hd : DataW.Trod enc P w base spare held tid v d p) : ∃ x : t.den, t.wf x ∧ RelV w (Gh.none w.heap.size) (.agg (t.cells false x)) v := by
  obtain ⟨cs, rfl, hs⟩ : ∃ cs, v = .agg cs ∧ cs.size = P.cellsOf tid := by
    unfold aggP at ha
    split at ha
    · rename_i h1; exact okWide_struct h1 hv
    · rename_i h1; exact okWide_arr h1 hv
    · cases ha
  obtain ⟨n, hd⟩ := hd
  have hl : cs.toList.length = t.size := by rw [← tyB_size h, ← hs]; simp
  obtain ⟨x, x1, x2, x3⟩ := reads_ty 9 tid t n cs.toList _ h hl hd
  exact ⟨x, x1, .agg _ _ (by rw [x2, ← hl]; simp) fun i a u ha hu => .dat (x3 i a u ha (by simpa using hu))⟩
theorem arg_cell {tid : TypeId} {t : Ty} {v : Value} {d : DataW H} {p : List MemPlace} {b : Nat} (h : tyB P 9 tid t = true) (hc : cellP P tid = true) (h1 : t.size = 1) (hv : Value.okWide P w .any b tid v) (hd : DataW.Trod enc P w base spare held tid v d p) : ∃ x : t.den, t.wf x ∧ ∀ a, (t.cells false x)[0]? = some a → RelV w (Gh.none w.heap.size) a v := by
  have hd : ∃ n, DataW.trod enc P w base spare held n tid [v] = some (d, p) := by
    unfold cellP at hc
    split at hc
    · rename_i hu
      obtain ⟨m, rfl⟩ := okWide_int hu hv
      exact hd
    · rename_i hu
      obtain ⟨m, rfl⟩ := okWide_bool hu hv
      exact hd
    · rename_i hu
      obtain ⟨m, rfl⟩ := okWide_string hu hv
      exact hd
    · rename_i hu
      obtain ⟨a, n, c, rfl⟩ := okWide_slice hu hv
      exact hd
    · cases hc
  obtain ⟨n, hd⟩ := hd
  obtain ⟨x, x1, x2, x3⟩ := reads_ty 9 tid t n [v] _ h (by rw [h1]; rfl) hd
  exact ⟨x, x1, fun a ha => .dat (x3 0 a v ha rfl)⟩
theorem arg_ty {tid : TypeId} {v : Value} {d : DataW H} {p : List MemPlace} {b : Nat} : ∀ {a : Ty}, argB P tid a = true → Value.okWide P w .any b tid v → DataW.Trod enc P w base spare held tid v d p → ∃ x : a.den, a.wf x ∧ RelV w (Gh.none w.heap.size) (a.av false x) v
  | .agg t, h, hv, hd => by
    rw [argB, Bool.and_eq_true] at h
    obtain ⟨x, h1, h2⟩ := arg_agg h.1 h.2 hv hd
    exact ⟨x, h1, by rw [Ty.av]; exact h2⟩
  | .int k, h, hv, hd => by
    rw [argB, Bool.and_eq_true] at h
    obtain ⟨x, h1, h2⟩ := arg_cell h.1 h.2 rfl hv hd
    exact ⟨x, h1, h2 _ rfl⟩
  | .bool, h, hv, hd => by
    rw [argB, Bool.and_eq_true] at h
    obtain ⟨x, h1, h2⟩ := arg_cell h.1 h.2 rfl hv hd
    exact ⟨x, h1, h2 _ rfl⟩
  | .str, h, hv, hd => by
    rw [argB, Bool.and_eq_true] at h
    obtain ⟨x, h1, h2⟩ := arg_cell h.1 h.2 rfl hv hd
    exact ⟨x, h1, h2 _ rfl⟩
  | .list t, h, hv, hd => by
    rw [argB, Bool.and_eq_true] at h
    obtain ⟨x, h1, h2⟩ := arg_cell h.1 h.2 rfl hv hd
    exact ⟨x, h1, h2 _ rfl⟩
  | .unit, h, _, _ => by cases h
  | .pair _ _, h, _, _ => by cases h
  | .ptr _, h, _, _ => by cases h
/-- values one by one -/
inductive RelsV (w : World) (G : Gh) : List AV → List Value → Prop
  | nil : RelsV w G [] []
  | cons {a : AV} {v : Value} {l : List AV} {m : List Value} (h : RelV w G a v) (k : RelsV w G l m) : RelsV w G (a :: l) (v :: m)
theorem RelsV.args {G : Gh} {l : List AV} {m : List Value} (h : RelsV w G l m) : ArgsV w G l m.toArray := by
  induction h with
  | nil => exact ⟨rfl, fun i a v ha hv => by simp at ha⟩
  | cons h k ih =>
    refine ⟨by have := ih.size; simp at this ⊢; exact this, fun i a v ha hv => ?_⟩
    cases i with
    | zero => simp at ha hv; subst ha; subst hv; exact h
    | succ i => exact ih.rel i a v (by simpa using ha) (by simpa using hv)
theorem args_ty {b : Nat} : ∀ {ts : List TypeId} {σ : Ty} {vs : List Value} {ds : List (DataW H)} {ps : List MemPlace}, argsB P ts σ = true → (∀ (j : Nat) t v, ts[j]? = some t → vs[j]? = some v → Value.okWide P w .any b t v) → DataW.TrodAll enc P w base spare held ts vs ds ps → ∃ x : σ.den, σ.wf x ∧ RelsV w (Gh.none w.heap.size) (σ.avs false x) vs
  | [], σ, vs, ds, ps, h, _, hA => by
    obtain ⟨rfl, rfl, rfl⟩ := trodAll_nil hA
    have e := unB_ok h
    subst e
    exact ⟨(), trivial, .nil⟩
  | tid :: l, σ, vs, ds, ps, h, hv, hA => by
    obtain ⟨v, vs, d, ds, p, q, rfl, rfl, rfl, h0, r0⟩ := trodAll_cons hA
    obtain ⟨a, c, rfl, h'⟩ := prB_ok h
    clear h
    have h := h'
    clear h'
    rw [Bool.and_eq_true] at h
    obtain ⟨x, x1, x2⟩ := arg_ty h.1 (hv 0 tid v rfl rfl) h0
    obtain ⟨y, y1, y2⟩ := args_ty h.2 (fun j t u ht hu => hv (j + 1) t u (by simpa using ht) (by simpa using hu)) r0
    exact ⟨(x, y), ⟨x1, y1⟩, by rw [Ty.avs]; exact .cons x2 y2⟩
end
/-- a law whose residual program answers true at all data -/
theorem law_any {H : Type} {enc : TypeId × Value → H} {F : Nat} {ts : List TypeId} {σ : Ty} {f : Nat → σ.den → Option (Bool × Unit)} {nm : Nat} (hc : CtrOk Try.prog F ⟨σ, .pair .bool .unit, f, nm⟩) (hB : argsB Try.prog ts σ = true) (hp : ∀ x : σ.den, σ.wf x → f FU x = some (true, ())) {W : World} {b : Nat} {args : List Value} {ds : List (DataW H)} {ps : List MemPlace}
    (hv : ∀ (j : Nat) t v, ts[j]? = some t → args[j]? = some v → Value.okWide Try.prog W .any b t v) (hA : DataW.TrodAll enc Try.prog W 0 (fun _ => true) true ts args ds ps) :
    Calls Try.prog F args.toArray W fun e W' => e = .returned (.bool true) ∧ Below W.heap.size W W' := by
  obtain ⟨x, hx, hr⟩ := args_ty hB hv hA
  exact AF.yes (hc FU x (true, ()) (hp x hx)) hr.args
theorem fu_le : 18446744073709551616 ≤ FU := Nat.le_refl _
end Go.Proofs.Ytdfocbeejgcglaa
/- The examples of the grids hold. -/
namespace Go.Proofs.Ytdfocbeejgcglaa
open Go Go.RowKit
set_option maxRecDepth 100000
theorem gridWorks_true : law_gridWorks_r FU () = some (true, ()) := by kernel_rfl
theorem wf_len {n : Nat} (h : n ≤ maxLen) : (n : Int) ≤ 9223372036854775807 := by unfold maxLen at h; omega
end Go.Proofs.Ytdfocbeejgcglaa
/- GridNodes: for every input this law returns true and leaves its arguments as they were. -/
namespace Go.Proofs.Ytdfocbeejgcglaa
open Go.ChangeShapes Go.WideShapes Go.ChangeAt Go.RowKit

set_option maxRecDepth 100000 in
theorem gridNodes_lifted (os : Os) (started : os.Started) (H : Type) (enc : TypeId × Value → H) :
    ReturnsInHanded {} Try.checked os 11 .any (Rows.gridNodesSpec.pre6 enc Try.prog Try.f11 Rows.gridNodesRow.domain false) (Rows.gridNodesSpec.post enc Try.prog Try.f11 false true false false) := by
  refine law_lifted started (by kernel_rfl) Try.func11
    (ChangeSpec.witness6 (enc := enc) (C := Try.checked) false ⟨#[], #[.agg #[.int .i64 0, .int .i64 0, .int .i64 0, .slice none 0 0], .slice none 0 0], []⟩ 8 (by kernel_rfl) (by kernel_rfl) (by kernel_rfl) (by kernel_rfl)) rfl rfl (by kernel_rfl)
    (fun ds h => by rw [Try.params11] at h; match ds, h with | [_, _], _ => rfl) ?_
  intro W base args ds ps hval hA hsz hlt
  rw [Try.params11] at hA hval
  exact law_any law_GridNodes_ok (by kernel_rfl) (fun x hx => gridNodes_r fu_le (wf_len hx.1.2.2.2.1) (wf_len hx.2.1.1) gridWorks_true) (fun j t v ht hv => hval j t v (by simpa using ht) hv) hA

theorem gridNodes_holds : Rows.GridNodesSaid :=
  OpenClaim.holds_of_wide 11 Try.f11 rfl rfl rfl rfl rfl rfl rfl ⟨rfl, rfl, rfl, rfl, rfl⟩ rfl rfl rfl rfl rfl (by kernel_rfl) Try.func11 (by kernel_rfl)
    (of_decide_eq_true (by kernel_rfl)) (by unfold Func.isWrapper; first | (rw [if_pos (by decide +kernel)]; kernel_rfl) | (rw [if_neg (by decide +kernel)]; exact ⟨rfl, rfl⟩))
    (fun os started H enc _ => gridNodes_lifted os started H enc)
end Go.Proofs.Ytdfocbeejgcglaa
