/- SpotExpansions: for every input this law returns true and leaves its arguments as they were. -/
import Derived.Test.YtdfocbeejgcglaaZSD4
import Derived.Test.YtdfocbeejgcglaaRows
import Derived.WalkKit
import Derived.ProofKit
import Derived.SizedLaws
import Derived.BigQuiet
import Derived.Deep.QuietTactic
import Derived.Deep.Slices
import Derived.OpenShut
/- Spot inks: libraries, tints; the law SpotTints. -/
namespace Go.Proofs.Ytdfocbeejgcglaa
open Go Go.RowKit
set_option linter.unusedSimpArgs false
set_option linter.unusedSectionVars false
set_option linter.unusedVariables false
def spAt (l : List SpotT) (i : Nat) : SpotT := l.getD i ([], ((0, (0, 0)), ((0, (0, 0)), ([], []))))
theorem spAt_fold (l : List SpotT) (i : Nat) : List.getD l i ([], ((0, (0, 0)), ((0, (0, 0)), ([], [])))) = spAt l i := rfl
theorem spAt_mem {l : List SpotT} {i : Nat} (h : i < l.length) : spAt l i ∈ l := by
  unfold spAt
  rw [List.getD_eq_getElem?_getD, List.getElem?_eq_getElem h]
  exact List.getElem_mem h
def AllS (l : List SpotT) : Prop := (l.length : Int) ≤ 9223372036854775807 ∧ ∀ s ∈ l, wfS s
theorem AllS.at {l : List SpotT} (h : AllS l) {i : Nat} (hi : i < l.length) : wfS (spAt l i) := h.2 _ (spAt_mem hi)
def twin (l : List SpotT) (i : Nat) : Prop := ∃ k, k < i ∧ (spAt l k).1 = (spAt l i).1
open Classical in
/-- the error of spot ink i of a library -/
noncomputable def liE (l : List SpotT) (i : Nat) : Int := if spotE (spAt l i) = 0 then (if twin l i then 7 else 0) else spotE (spAt l i)
noncomputable def libE (l : List SpotT) : Int := if 40 < l.length then 2 else firstE (liE l) l.length 0
theorem libE_ok {l : List SpotT} (h : libE l = 0) : l.length ≤ 40 ∧ ∀ i, i < l.length → SpotOk (spAt l i) ∧ ∀ k, k < i → (spAt l k).1 ≠ (spAt l i).1 := by
  unfold libE at h
  by_cases c : 40 < l.length
  · rw [if_pos c] at h; omega
  rw [if_neg c] at h
  refine ⟨by omega, fun i hi => ?_⟩
  have e := firstE_ok _ 0 h i (by omega) (by omega)
  unfold liE at e
  split at e
  · rename_i c1
    split at e
    · omega
    · rename_i c2
      exact ⟨spotE_ok c1, fun k hk q => c2 ⟨k, hk, q⟩⟩
  · rename_i c1; exact absurd e c1
section
variable {fu : Nat} (hf : 18446744073709551616 ≤ fu)
include hf
theorem spotAt_r {l : List SpotT} (hl : (l.length : Int) ≤ 9223372036854775807) (nm : List UInt8) :
    (∃ k, k < l.length ∧ (spAt l k).1 = nm ∧ (∀ i, k < i → i < l.length → (spAt l i).1 ≠ nm) ∧ R_SpotAt_r fu (l, (nm, ())) = some ((k : Int), ())) ∨ ((∀ i, i < l.length → (spAt l i).1 ≠ nm) ∧ R_SpotAt_r fu (l, (nm, ())) = some (-1, ())) := by
  unfold R_SpotAt_r
  simp (disch := omega) only [joinF_eq, bindO_some, s_wr, s_td, s_tm, s_pos, s_neg, cond_true, cond_false, Bool.not_true, Bool.not_false, Bool.true_and, Bool.and_true, Bool.false_and, Bool.and_false, bne_self_eq_false, decide_true, decide_false, Int.toNat_natCast]
  refine downLoop (f := R_SpotAt_l1 fu (l, (nm, ()))) (n := l.length) (fu := fu) (by omega) (p := fun i => (spAt l i).1 = nm) (hit := fun k => some ((k : Int), ())) (miss := some (-1, ())) ?_ ?_ ?_
  · intro j i hi hp
    unfold R_SpotAt_l1
    simp (disch := omega) only [joinF_eq, bindO_some, s_wr, s_td, s_tm, s_pos, s_neg, cond_true, cond_false, Bool.not_true, Bool.not_false, Bool.true_and, Bool.and_true, Bool.false_and, Bool.and_false, bne_self_eq_false, decide_true, decide_false, Int.toNat_natCast]
    show (bif decide ((spAt l i).1 = nm) then _ else _) = _
    simp (disch := omega) only [joinF_eq, bindO_some, s_wr, s_td, s_tm, s_pos, s_neg, cond_true, cond_false, Bool.not_true, Bool.not_false, Bool.true_and, Bool.and_true, Bool.false_and, Bool.and_false, bne_self_eq_false, decide_true, decide_false, Int.toNat_natCast]
  · intro j i hi hp
    unfold R_SpotAt_l1
    simp (disch := omega) only [joinF_eq, bindO_some, s_wr, s_td, s_tm, s_pos, s_neg, cond_true, cond_false, Bool.not_true, Bool.not_false, Bool.true_and, Bool.and_true, Bool.false_and, Bool.and_false, bne_self_eq_false, decide_true, decide_false, Int.toNat_natCast]
    show (bif decide ((spAt l i).1 = nm) then _ else _) = _
    simp (disch := omega) only [joinF_eq, bindO_some, s_wr, s_td, s_tm, s_pos, s_neg, cond_true, cond_false, Bool.not_true, Bool.not_false, Bool.true_and, Bool.and_true, Bool.false_and, Bool.and_false, bne_self_eq_false, decide_true, decide_false, Int.toNat_natCast]
  · intro j
    unfold R_SpotAt_l1
    simp (disch := omega) only [joinF_eq, bindO_some, s_wr, s_td, s_tm, s_pos, s_neg, cond_true, cond_false, Bool.not_true, Bool.not_false, Bool.true_and, Bool.and_true, Bool.false_and, Bool.and_false, bne_self_eq_false, decide_true, decide_false, Int.toNat_natCast]
variable {l : List SpotT} (hl : AllS l)
include hl
theorem libCheck_r : spot_Check_r fu (l, ()) = some (libE l, ()) := by
  have hl1 := hl.1
  unfold spot_Check_r libE
  by_cases c : 40 < l.length
  · rw [if_pos c]; simp (disch := omega) only [joinF_eq, bindO_some, s_wr, s_td, s_tm, s_pos, s_neg, cond_true, cond_false, Bool.not_true, Bool.not_false, Bool.true_and, Bool.and_true, Bool.false_and, Bool.and_false, bne_self_eq_false, decide_true, decide_false, Int.toNat_natCast]
  rw [if_neg c]
  simp (disch := omega) only [joinF_eq, bindO_some, s_wr, s_td, s_tm, s_pos, s_neg, cond_true, cond_false, Bool.not_true, Bool.not_false, Bool.true_and, Bool.and_true, Bool.false_and, Bool.and_false, bne_self_eq_false, decide_true, decide_false, Int.toNat_natCast]
  rw [errLoop (n := l.length) (E := liE l) (out := fun e => some (e, ())) (fin := some (0, ())) (by omega)]
  · split
    · rename_i e; rw [e]
    · rfl
  · intro j i hi
    have hw := hl.at hi
    have t7 : spotE (spAt l i) = 0 → twin l i → liE l i = 7 := fun h h' => by unfold liE; rw [if_pos h, if_pos h']
    have t0 : spotE (spAt l i) = 0 → ¬ twin l i → liE l i = 0 := fun h h' => by unfold liE; rw [if_pos h, if_neg h']
    have tE : spotE (spAt l i) ≠ 0 → liE l i = spotE (spAt l i) := fun h => by unfold liE; rw [if_neg h]
    unfold spot_Check_l1
    simp (disch := omega) only [joinF_eq, bindO_some, s_wr, s_td, s_tm, s_pos, s_neg, cond_true, cond_false, Bool.not_true, Bool.not_false, Bool.true_and, Bool.and_true, Bool.false_and, Bool.and_false, bne_self_eq_false, decide_true, decide_false, Int.toNat_natCast]
    show bindO (spot_one_r fu (spAt l i, ())) _ = _
    rw [spotOne_r hf hw]
    simp (disch := omega) only [joinF_eq, bindO_some, s_wr, s_td, s_tm, s_pos, s_neg, cond_true, cond_false, Bool.not_true, Bool.not_false, Bool.true_and, Bool.and_true, Bool.false_and, Bool.and_false, bne_self_eq_false, decide_true, decide_false, Int.toNat_natCast]
    by_cases e0 : spotE (spAt l i) = 0
    · simp (disch := omega) only [joinF_eq, bindO_some, s_wr, s_td, s_tm, s_pos, s_neg, cond_true, cond_false, Bool.not_true, Bool.not_false, Bool.true_and, Bool.and_true, Bool.false_and, Bool.and_false, bne_self_eq_false, decide_true, decide_false, Int.toNat_natCast]
      rcases findLoop (f := spot_Check_l2 fu (l, ()) i j) (n := i) (fu := fu) (by omega) (p := fun k => (spAt l k).1 = (spAt l i).1) (hit := fun _ => some (7, ())) (miss := j ((i : Int) + 1))
        (fun j' k hk hp => by
          unfold spot_Check_l2
          simp (disch := omega) only [joinF_eq, bindO_some, s_wr, s_td, s_tm, s_pos, s_neg, cond_true, cond_false, Bool.not_true, Bool.not_false, Bool.true_and, Bool.and_true, Bool.false_and, Bool.and_false, bne_self_eq_false, decide_true, decide_false, Int.toNat_natCast]
          show (bif decide ((spAt l k).1 = (spAt l i).1) then _ else _) = _
          simp (disch := omega) only [joinF_eq, bindO_some, s_wr, s_td, s_tm, s_pos, s_neg, cond_true, cond_false, Bool.not_true, Bool.not_false, Bool.true_and, Bool.and_true, Bool.false_and, Bool.and_false, bne_self_eq_false, decide_true, decide_false, Int.toNat_natCast])
        (fun j' k hk hp => by
          unfold spot_Check_l2
          simp (disch := omega) only [joinF_eq, bindO_some, s_wr, s_td, s_tm, s_pos, s_neg, cond_true, cond_false, Bool.not_true, Bool.not_false, Bool.true_and, Bool.and_true, Bool.false_and, Bool.and_false, bne_self_eq_false, decide_true, decide_false, Int.toNat_natCast]
          show (bif decide ((spAt l k).1 = (spAt l i).1) then _ else _) = _
          simp (disch := omega) only [joinF_eq, bindO_some, s_wr, s_td, s_tm, s_pos, s_neg, cond_true, cond_false, Bool.not_true, Bool.not_false, Bool.true_and, Bool.and_true, Bool.false_and, Bool.and_false, bne_self_eq_false, decide_true, decide_false, Int.toNat_natCast])
        (fun j' => by
          unfold spot_Check_l2
          simp (disch := omega) only [joinF_eq, bindO_some, s_wr, s_td, s_tm, s_pos, s_neg, cond_true, cond_false, Bool.not_true, Bool.not_false, Bool.true_and, Bool.and_true, Bool.false_and, Bool.and_false, bne_self_eq_false, decide_true, decide_false, Int.toNat_natCast]) with ⟨k, hk, hp, _, h⟩ | ⟨hp, h⟩
      · rw [h, t7 e0 ⟨k, hk, hp⟩]; rfl
      · rw [h, t0 e0 (fun ⟨k, hk, q⟩ => hp k hk q)]; rfl
    · rw [tE e0, if_neg e0]; simp (disch := omega) only [joinF_eq, bindO_some, s_wr, s_td, s_tm, s_pos, s_neg, cond_true, cond_false, Bool.not_true, Bool.not_false, Bool.true_and, Bool.and_true, Bool.false_and, Bool.and_false, bne_self_eq_false, decide_true, decide_false, Int.toNat_natCast]
  · intro j
    unfold spot_Check_l1
    simp (disch := omega) only [joinF_eq, bindO_some, s_wr, s_td, s_tm, s_pos, s_neg, cond_true, cond_false, Bool.not_true, Bool.not_false, Bool.true_and, Bool.and_true, Bool.false_and, Bool.and_false, bne_self_eq_false, decide_true, decide_false, Int.toNat_natCast]
theorem libErr_r : R_SpotsErr_r fu (l, ()) = some (libE l, ()) := by
  have hl1 := hl.1
  unfold R_SpotsErr_r libE
  by_cases c : 40 < l.length
  · rw [if_pos c]; simp (disch := omega) only [joinF_eq, bindO_some, s_wr, s_td, s_tm, s_pos, s_neg, cond_true, cond_false, Bool.not_true, Bool.not_false, Bool.true_and, Bool.and_true, Bool.false_and, Bool.and_false, bne_self_eq_false, decide_true, decide_false, Int.toNat_natCast]
  rw [if_neg c]
  simp (disch := omega) only [joinF_eq, bindO_some, s_wr, s_td, s_tm, s_pos, s_neg, cond_true, cond_false, Bool.not_true, Bool.not_false, Bool.true_and, Bool.and_true, Bool.false_and, Bool.and_false, bne_self_eq_false, decide_true, decide_false, Int.toNat_natCast]
  rw [errLoop (n := l.length) (E := liE l) (out := fun e => some (e, ())) (fin := some (0, ())) (by omega)]
  · split
    · rename_i e; rw [e]
    · rfl
  · intro j i hi
    have hw := hl.at hi
    have t7 : spotE (spAt l i) = 0 → twin l i → liE l i = 7 := fun h h' => by unfold liE; rw [if_pos h, if_pos h']
    have t0 : spotE (spAt l i) = 0 → ¬ twin l i → liE l i = 0 := fun h h' => by unfold liE; rw [if_pos h, if_neg h']
    have tE : spotE (spAt l i) ≠ 0 → liE l i = spotE (spAt l i) := fun h => by unfold liE; rw [if_neg h]
    unfold R_SpotsErr_l1
    simp (disch := omega) only [joinF_eq, bindO_some, s_wr, s_td, s_tm, s_pos, s_neg, cond_true, cond_false, Bool.not_true, Bool.not_false, Bool.true_and, Bool.and_true, Bool.false_and, Bool.and_false, bne_self_eq_false, decide_true, decide_false, Int.toNat_natCast]
    show bindO (R_SpotErr_r fu (spAt l i, ())) _ = _
    rw [spotErr_r hf hw]
    simp (disch := omega) only [joinF_eq, bindO_some, s_wr, s_td, s_tm, s_pos, s_neg, cond_true, cond_false, Bool.not_true, Bool.not_false, Bool.true_and, Bool.and_true, Bool.false_and, Bool.and_false, bne_self_eq_false, decide_true, decide_false, Int.toNat_natCast]
    by_cases e0 : spotE (spAt l i) = 0
    · simp (disch := omega) only [joinF_eq, bindO_some, s_wr, s_td, s_tm, s_pos, s_neg, cond_true, cond_false, Bool.not_true, Bool.not_false, Bool.true_and, Bool.and_true, Bool.false_and, Bool.and_false, bne_self_eq_false, decide_true, decide_false, Int.toNat_natCast]
      show bindO (R_SpotAt_r fu (List.take i l, ((spAt l i).1, ()))) _ = _
      have ht : (List.take i l).length = i := by rw [List.length_take]; omega
      have hta : ∀ k, k < i → spAt (List.take i l) k = spAt l k := fun k hk => by
        unfold spAt
        rw [List.getD_eq_getElem?_getD, List.getD_eq_getElem?_getD, List.getElem?_take_of_lt hk]
      rcases spotAt_r hf (l := List.take i l) (by rw [ht]; omega) (spAt l i).1 with ⟨k, hk, hp, _, h⟩ | ⟨hp, h⟩
      · rw [ht] at hk
        rw [hta k hk] at hp
        rw [h, t7 e0 ⟨k, hk, hp⟩]; simp (disch := omega) only [joinF_eq, bindO_some, s_wr, s_td, s_tm, s_pos, s_neg, cond_true, cond_false, Bool.not_true, Bool.not_false, Bool.true_and, Bool.and_true, Bool.false_and, Bool.and_false, bne_self_eq_false, decide_true, decide_false, Int.toNat_natCast]; rfl
      · rw [h, t0 e0 (fun ⟨k, hk, q⟩ => hp k (by rw [ht]; exact hk) (by rw [hta k hk]; exact q))]; simp (disch := omega) only [joinF_eq, bindO_some, s_wr, s_td, s_tm, s_pos, s_neg, cond_true, cond_false, Bool.not_true, Bool.not_false, Bool.true_and, Bool.and_true, Bool.false_and, Bool.and_false, bne_self_eq_false, decide_true, decide_false, Int.toNat_natCast]; rfl
    · rw [tE e0, if_neg e0]; simp (disch := omega) only [joinF_eq, bindO_some, s_wr, s_td, s_tm, s_pos, s_neg, cond_true, cond_false, Bool.not_true, Bool.not_false, Bool.true_and, Bool.and_true, Bool.false_and, Bool.and_false, bne_self_eq_false, decide_true, decide_false, Int.toNat_natCast]
  · intro j
    unfold R_SpotsErr_l1
    simp (disch := omega) only [joinF_eq, bindO_some, s_wr, s_td, s_tm, s_pos, s_neg, cond_true, cond_false, Bool.not_true, Bool.not_false, Bool.true_and, Bool.and_true, Bool.false_and, Bool.and_false, bne_self_eq_false, decide_true, decide_false, Int.toNat_natCast]
end
/-! ### tints -/
section
variable {fu : Nat} (hf : 18446744073709551616 ≤ fu) {p q : LabT} (hp : labR p = 0) (hq : labR q = 0) {n : Int} (h0 : 0 ≤ n) (h1 : n ≤ 65280)
include h0 h1 in
include h0 h1 hp hq
end
section
variable {fu : Nat} (hf : 18446744073709551616 ≤ fu) {s : SpotT} (hs : wfS s) {t : Int}
include hf hs
end
section
variable {fu : Nat} (hf : 18446744073709551616 ≤ fu)
include hf
theorem sameI_r {l : List Int} (hl : (l.length : Int) ≤ 9223372036854775807) : R_SameInts_r fu (l, (l, ())) = some (true, ()) := by
  unfold R_SameInts_r
  simp (disch := omega) only [joinF_eq, bindO_some, s_wr, s_td, s_tm, s_pos, s_neg, cond_true, cond_false, Bool.not_true, Bool.not_false, Bool.true_and, Bool.and_true, Bool.false_and, Bool.and_false, bne_self_eq_false, decide_true, decide_false, Int.toNat_natCast]
  rw [errLoop (n := l.length) (E := fun _ => 0) (out := fun e => some (true, ())) (fin := some (true, ())) (by omega)]
  · split <;> rfl
  · intro j i hi
    unfold R_SameInts_l1
    simp (disch := omega) only [joinF_eq, bindO_some, s_wr, s_td, s_tm, s_pos, s_neg, cond_true, cond_false, Bool.not_true, Bool.not_false, Bool.true_and, Bool.and_true, Bool.false_and, Bool.and_false, bne_self_eq_false, decide_true, decide_false, Int.toNat_natCast]
    rfl
  · intro j
    unfold R_SameInts_l1
    simp (disch := omega) only [joinF_eq, bindO_some, s_wr, s_td, s_tm, s_pos, s_neg, cond_true, cond_false, Bool.not_true, Bool.not_false, Bool.true_and, Bool.and_true, Bool.false_and, Bool.and_false, bne_self_eq_false, decide_true, decide_false, Int.toNat_natCast]
end
theorem spotWorks_true : law_spotWorks_r FU () = some (true, ()) := by kernel_rfl
end Go.Proofs.Ytdfocbeejgcglaa
/- The step from a walk to a law's row, once for all laws of the seat: a law that returns true and leaves all that was there as it was. -/
namespace Go.Proofs.Ytdfocbeejgcglaa
open Go.ChangeShapes Go.WideShapes Go.ChangeAt Go.RowKit

theorem own : ownKnob Try.prog.godebug = none := by kernel_rfl
theorem laidOut : laidOutB Try.prog = true := by kernel_rfl
theorem boolT : Try.prog.underlying 4 = some .bool := Try.underlying4

theorem trodAll_stays {H : Type} {enc : TypeId × Value → H} {P : Program} (hl : laidOutB P = true) {W W' : World} (hb : Below W.heap.size W W') :
    ∀ {ts : List TypeId} {vs : List Value} {ds : List (DataW H)} {ps : List MemPlace}, (∀ t ∈ ts, P.readableRec t = true ∧ t < P.types.size) → DataW.TrodAll enc P W 0 (fun _ => true) true ts vs ds ps →
      (∀ x ∈ ps, x.block < W.heap.size) → DataW.TrodAll enc P W' 0 (fun b => decide (b < W.heap.size)) true ts vs ds ps
  | [], [], [], _, _, h, _ => h
  | t :: ts, v :: vs, d :: ds, _, hr, ⟨p, q, h1, h2, e⟩, hlt =>
    ⟨p, q, Below.trod hl (hr t (by simp)).1 (hr t (by simp)).2 h1 hb (fun x hx => hlt x (by rw [e]; simp [hx])),
      trodAll_stays hl hb (fun t' ht => hr t' (by simp [ht])) h2 (fun x hx => hlt x (by rw [e]; simp [hx])), e⟩
  | [], [], _ :: _, _, _, h, _ => h.elim
  | [], _ :: _, _, _, _, h, _ => h.elim
  | _ :: _, [], _, _, _, h, _ => h.elim
  | _ :: _, _ :: _, [], _, _, h, _ => h.elim

/-- what a law's row asks of the readable types among its parameters -/
def readsAll (P : Program) (ts : List TypeId) : Bool := ts.all fun t => P.readableRec t && decide (t < P.types.size)
theorem readsAll_all {P : Program} {ts : List TypeId} (h : readsAll P ts = true) : ∀ t ∈ ts, P.readableRec t = true ∧ t < P.types.size := by
  intro t ht
  have := List.all_eq_true.1 h t ht
  simpa using this

theorem trodAll_length {H : Type} {enc : TypeId × Value → H} {P : Program} {W : World} {base : Nat} {spare : Nat → Bool} {held : Bool} :
    ∀ {ts : List TypeId} {vs : List Value} {ds : List (DataW H)} {ps : List MemPlace}, DataW.TrodAll enc P W base spare held ts vs ds ps → ds.length = ts.length
  | [], [], [], _, _ => rfl
  | _ :: _, _ :: _, _ :: _, _, ⟨_, _, _, h2, _⟩ => by simp [trodAll_length h2]
  | [], [], _ :: _, _, h => h.elim
  | [], _ :: _, _, _, h => h.elim
  | _ :: _, [], _, _, h => h.elim
  | _ :: _, _ :: _, [], _, h => h.elim

set_option maxRecDepth 100000 in
theorem law_lifted {os : Os} (started : os.Started) {H : Type} {enc : TypeId × Value → H} {f : FuncId} {fn : Func} {s : ChangeSpec}
    (noInit : Try.checked.prog.inits.idxOf? f = none) (hfn : Try.checked.prog.funcs[f]? = some fn)
    (witness : ∃ (w : World) (tape : Tape) (i : Input), w.os = os ∧ (w.forCall tape i).Shaped Try.checked.prog ∧ i.vars = [] ∧ Input.okWide Try.checked.prog (w.forCall tape i) .any w.heap.size f i ∧
      s.pre6 enc Try.checked.prog fn [] false (w.forCall tape i).memory i.args ∧ ({} : Assume).holds Try.checked.prog (lone (Frame.enter Try.checked.prog f i.args .normal) [] (w.forCall tape i)))
    (hvars : s.vars = []) (hres : fn.resultTypes = #[4]) (hread : readsAll Try.prog fn.params.toList = true)
    (hspec : ∀ ds : List (DataW H), ds.length = fn.params.toList.length → s.fn H ds = { results := [.lit (.bool true)], args := ds })
    (walk : ∀ (W : World) (base : Nat) (args : List Value) (ds : List (DataW H)) (ps : List MemPlace),
      (∀ (j : Nat) t v, fn.params[j]? = some t → args[j]? = some v → Value.okWide Try.prog W .any base t v) → DataW.TrodAll enc Try.prog W 0 (fun _ => true) true fn.params.toList args ds ps →
      (DataW.weightsEach Try.prog fn.params.toList ds).all (· ≤ reachBytes) = true → (∀ x ∈ ps, x.block < W.heap.size) →
      Calls Try.prog f args.toArray W fun e W' => e = .returned (.bool true) ∧ Below W.heap.size W W') :
    ReturnsInHanded {} Try.checked os f .any (s.pre6 enc Try.checked.prog fn [] false) (s.post enc Try.checked.prog fn false true false false) := by
  refine returnsInHanded_of_change_sized (C := Try.checked) own started noInit hfn witness ?_
  intro W base args ds gs before hval hW _ hsz _
  have hW' := hW
  obtain ⟨p, q, hA0, hV, rfl, hfz, hnd⟩ := hW
  rw [hvars] at hV
  obtain ⟨rfl, rfl⟩ := trodVars_none hV
  have hA : DataW.TrodAll enc Try.prog W 0 (fun _ => true) true fn.params.toList args.toList ds p := hA0
  have hlen : ds.length = fn.params.toList.length := trodAll_length hA
  have hlt : ∀ x ∈ p, x.block < W.heap.size := fun x hx => hW'.lt x (by simpa using hx)
  have hargs : args.toList.toArray = args := by simp
  have hsz' : (DataW.weightsEach Try.prog fn.params.toList ds).all (· ≤ reachBytes) = true := by
    have h := hsz
    have hvt : s.plain.varTypes Try.checked.prog = [] := by simp [DataSpec.varTypes, ChangeSpec.plain, hvars]
    rw [hvt] at h
    simp only [List.append_nil] at h
    exact h
  have hw := walk W base args.toList ds p (fun j t v ht hv => hval j t v ht (by simpa using hv)) hA hsz' hlt
  rw [hargs] at hw
  refine hw.mono fun e W' ⟨he, hb⟩ => ⟨.bool true, he, ?_⟩
  have hsf : s.fn H (ds ++ []) = { results := [.lit (.bool true)], args := ds } := by rw [List.append_nil]; exact hspec ds hlen
  refine ⟨ds, [], p ++ [], [], p, [], hW', ?_, ?_, ?_, hb.frame _, fun h => by cases h⟩
  · rw [hsf, hres]
    exact trodAll_mk1 (shut_bool boolT true)
  · rw [hsf]
    exact trodAll_stays laidOut hb (readsAll_all hread) hA hlt
  · rw [hsf, hvars]
    rfl
end Go.Proofs.Ytdfocbeejgcglaa
/- Arguments opened: what slices and structs of numbers read as. -/
set_option maxRecDepth 100000
namespace Go.Proofs.Ytdfocbeejgcglaa
open Go.ChangeShapes Go.WideShapes Go.ChangeAt Go.RowKit Go.Deep

theorem choose_list {α : Type} {n : Nat} {Q : Nat → α → Prop} (h : ∀ i, i < n → ∃ p, Q i p) : ∃ l : List α, l.length = n ∧ ∀ i p, l[i]? = some p → Q i p := by
  induction n with
  | zero => exact ⟨[], rfl, by intro i p hi; simp at hi⟩
  | succ n ih =>
    obtain ⟨l, hl, hq⟩ := ih (fun i hi => h i (by omega))
    obtain ⟨p, hp⟩ := h n (by omega)
    refine ⟨l ++ [p], by simp [hl], fun i q hi => ?_⟩
    rcases Nat.lt_trichotomy i n with hlt | rfl | hgt
    · rw [List.getElem?_append_left (by omega)] at hi
      exact hq i q hi
    · rw [List.getElem?_append_right (by omega), hl] at hi
      simp at hi
      subst hi; exact hp
    · rw [List.getElem?_eq_none (by simp; omega)] at hi
      cases hi

section
variable {H : Type} {enc : TypeId × Value → H} {P : Program} {w : World} {base : Nat} {spare : Nat → Bool} {held : Bool}
/-- a slice, whatever its elements: of each element its cells and its reading -/
theorem rd_slice {t e : TypeId} {fuel : Nat} {v : Value} {x : DataW H × List MemPlace} (ht : P.underlying t = some (.slice e)) (hc : 0 < P.cellsOf e) (h : DataW.trod enc P w base spare held fuel t [v] = some x) :
    ∃ A n c, v = .slice A n c ∧ n ≤ c ∧ c ≤ maxLen ∧ ∀ i, i < n → ∃ b o cs n' x', A = some ⟨b, o, none⟩ ∧ cs.length = P.cellsOf e ∧ (∀ j u, cs[j]? = some u → w.cell? ⟨b, o + i * P.cellsOf e + j, none⟩ = some u) ∧
      DataW.trod enc P w base spare held n' e cs = some x' := by
  rcases open_slice ht h with ⟨h0, _⟩ | ⟨a, len, cap, m, n', D, Pl, hcs, _, hl, hm, hmm, _, hi⟩
  · simp at h0
    subst h0
    exact ⟨none, 0, 0, rfl, by omega, by unfold maxLen; omega, by intro i hi; omega⟩
  · simp at hcs
    subst hcs
    refine ⟨some a, len, cap, rfl, hl, hm, fun i hil => ?_⟩
    have hlm : len ≤ m := by rw [hmm]; split <;> omega
    obtain ⟨cs, h1, h2⟩ := hi i (by omega)
    obtain ⟨hb, hlen, hat⟩ := World.cells?_some h1
    obtain ⟨b, o, spot⟩ := a
    have h00 := hat 0 (by omega)
    have hsp : spot = none := by
      obtain ⟨cs0, g1, _⟩ := hi 0 (by omega)
      obtain ⟨_, gl, gat⟩ := World.cells?_some g1
      have hx := gat 0 (by omega)
      rw [List.getElem?_eq_getElem (by omega)] at hx
      simpa [Addr.add] using World.cell?_spot hx
    subst hsp
    refine ⟨b, o, cs, n', _, rfl, hlen, ?_, h2⟩
    intro j u hu
    have hjl : j < P.cellsOf e := by rw [← hlen]; exact (List.getElem?_eq_some_iff.1 hu).1
    have := hat j hjl
    rw [hu, Addr.add_lit, Addr.add_lit] at this
    exact this
end

end Go.Proofs.Ytdfocbeejgcglaa
/- Arguments opened, as abstract values. -/
set_option maxRecDepth 100000
namespace Go.Proofs.Ytdfocbeejgcglaa
open Go Go.ChangeShapes Go.WideShapes Go.ChangeAt Go.RowKit Go.Deep

section
variable {H : Type} {enc : TypeId × Value → H} {P : Program} {w : World} {base : Nat} {spare : Nat → Bool} {held : Bool}
/-- data of the caller's -/
abbrev RelC (w : World) : AV → Value → Prop := RelD w (fun _ => False) w.heap.size
/-- one element's cells, read as enc p -/
def Reads {α : Type} (w : World) (sz : Nat) (ec : α → List AV) (Q : α → Prop) (cs : List Value) : Prop :=
  ∃ p, Q p ∧ (ec p).length = sz ∧ ∀ (j : Nat) (a : AV) (u : Value), (ec p)[j]? = some a → cs[j]? = some u → RelC w a u
theorem ro_slice {α : Type} (ec : α → List AV) (Q : α → Prop) {t e : TypeId} {sz fuel : Nat} {v : Value} {x : DataW H × List MemPlace} (ht : P.underlying t = some (.slice e)) (hz : P.cellsOf e = sz) (hc : 0 < sz)
    (hel : ∀ (fuel : Nat) (cs : List Value) (x : DataW H × List MemPlace), cs.length = sz → DataW.trod enc P w base spare held fuel e cs = some x → Reads w sz ec Q cs) (h : DataW.trod enc P w base spare held fuel t [v] = some x) :
    ∃ xs : List α, (∀ p ∈ xs, Q p) ∧ RelC w (.ro false sz (xs.map ec)) v := by
  subst hz
  obtain ⟨A, n, c, rfl, hn, hm, hi⟩ := rd_slice ht hc h
  obtain ⟨xs, hl, hq⟩ := choose_list (Q := fun i (p : α) => Q p ∧ ∃ (b o : Nat) (cs : List Value), A = some ⟨b, o, none⟩ ∧ cs.length = P.cellsOf e ∧ (∀ (j : Nat) (u : Value), cs[j]? = some u → w.cell? ⟨b, o + i * P.cellsOf e + j, none⟩ = some u) ∧ (ec p).length = P.cellsOf e ∧ ∀ (j : Nat) (a : AV) (u : Value), (ec p)[j]? = some a → cs[j]? = some u → RelC w a u) (n := n) (by
    intro i hil
    obtain ⟨b, o, cs, n', x', hA, hlen, hat, htr⟩ := hi i hil
    obtain ⟨p, h1, h2, h3⟩ := hel n' cs x' hlen htr
    exact ⟨p, h1, b, o, cs, hA, hlen, hat, h2, h3⟩)
  subst hl
  refine ⟨xs, fun p hp => ?_, ?_⟩
  · obtain ⟨i, hi⟩ := List.mem_iff_getElem?.1 hp
    exact (hq i p hi).1
  have key : ∀ (i : Nat) (row : List AV) (j : Nat) (a : AV), (xs.map ec)[i]? = some row → row[j]? = some a → ∃ b o u, A = some ⟨b, o, none⟩ ∧ w.cell? ⟨b, o + i * P.cellsOf e + j, none⟩ = some u ∧ RelC w a u := by
    intro i row j a hr ha
    rw [List.getElem?_map] at hr
    obtain ⟨p, hp, rfl⟩ := Option.map_eq_some_iff.1 hr
    obtain ⟨_, b, o, cs, hA, hlen, hat, hel, hrel⟩ := hq i p hp
    have hj : j < cs.length := by rw [hlen, ← hel]; exact (List.getElem?_eq_some_iff.1 ha).1
    have hu : cs[j]? = some cs[j] := List.getElem?_eq_getElem hj
    exact ⟨b, o, cs[j], hA, hat j _ hu, hrel j a _ ha hu⟩
  have hcon := RelD.ro (w := w) (own := fun _ => False) (bs := w.heap.size) false (P.cellsOf e) (xs.map ec) A c (fun i j => match A with
    | some ⟨b, o, _⟩ => (w.cell? ⟨b, o + i * P.cellsOf e + j, none⟩).getD undef
    | none => undef) (by simpa using hn) hm (fun i hi hA => by
      have hi : i < xs.length := by simpa using hi
      obtain ⟨_, b, o, _, h1, _⟩ := hq i xs[i] (List.getElem?_eq_getElem hi)
      rw [hA] at h1; cases h1) (fun i row j a hr ha => by
      obtain ⟨b, o, u, hA, hu, _⟩ := key i row j a hr ha
      subst hA
      exact ⟨b, o, rfl, fun h => h.elim, (fun h => by cases h), by simp [hu]⟩) (fun i row j a hr ha => by
      obtain ⟨b, o, u, hA, hu, hr⟩ := key i row j a hr ha
      subst hA
      simpa [hu] using hr)
  rw [List.length_map] at hcon
  exact hcon
end
/-- a law that answers true -/
theorem AF.yes {P : Program} {F : FuncId} {xs : List AV} {vs : Array Value} {w : World} (h : AF P F xs (.bool true)) (ha : ArgsV w (Gh.none w.heap.size) xs vs) : Calls P F vs w fun e w' => e = .returned (.bool true) ∧ Below w.heap.size w w' :=
  (h.out w vs ha).mono fun e w' ⟨v, he, hb, hv⟩ => ⟨by rw [he, hv.bool'], hb⟩
end Go.Proofs.Ytdfocbeejgcglaa
/- Arguments of any type, opened by one theorem; the last step of a law that a residual program answers. -/
set_option maxRecDepth 100000
namespace Go.Proofs.Ytdfocbeejgcglaa
open Go Go.ChangeShapes Go.WideShapes Go.ChangeAt Go.RowKit Go.Deep

/-- what every argument of a type meets -/
def Ty.wf : (t : Ty) → t.den → Prop
  | .int k, n => (Lit.int k n).wf = true
  | .bool, _ => True
  | .str, s => List.length s ≤ maxLen
  | .list t, xs => List.length xs ≤ maxLen ∧ ∀ x ∈ (xs : List t.den), t.wf x
  | .unit, _ => True
  | .pair a b, x => a.wf x.1 ∧ b.wf x.2
  | .agg t, x => t.wf x
  | .ptr _, _ => False
def prB (t : Ty) (f : Ty → Ty → Bool) : Bool := match t with
  | .pair x y => f x y
  | _ => false
def unB (t : Ty) : Bool := match t with
  | .unit => true
  | _ => false
theorem prB_ok {t : Ty} {f : Ty → Ty → Bool} (h : prB t f = true) : ∃ x y, t = .pair x y ∧ f x y = true := by
  unfold prB at h
  split at h
  · exact ⟨_, _, rfl, h⟩
  · cases h
theorem unB_ok {t : Ty} (h : unB t = true) : t = .unit := by
  unfold unB at h
  split at h
  · rfl
  · cases h
def fsB (g : TypeId → Ty → Bool) : List Field → Nat → Ty → Bool
  | [], _, t => unB t
  | [a], o, t => Nat.beq a.offset o && g a.type t
  | a :: b :: l, o, t => prB t fun x y => Nat.beq a.offset o && g a.type x && fsB g (b :: l) (o + x.size) y
def arB (g : Ty → Bool) : Nat → Ty → Bool
  | 0, t => unB t
  | 1, t => g t
  | n + 2, t => prB t fun x y => g x && arB g (n + 1) y
def intB (k : IntKind) (t : Ty) : Bool := match t with
  | .int k' => decide (k' = k)
  | _ => false
def boolB (t : Ty) : Bool := match t with
  | .bool => true
  | _ => false
def strB (t : Ty) : Bool := match t with
  | .str => true
  | _ => false
def sliceB (g : Ty → Bool) (t : Ty) : Bool := match t with
  | .list t' => g t' && Nat.blt 0 t'.size
  | _ => false
/-- a type as the program has it -/
def tyB (P : Program) : Nat → TypeId → Ty → Bool
  | 0, _, _ => false
  | f + 1, tid, t => Nat.beq (P.cellsOf tid) t.size && (match P.underlying tid with
    | some (.int k) => intB k t
    | some .bool => boolB t
    | some .string => strB t
    | some (.slice e) => sliceB (tyB P f e) t
    | some (.struct ⟨fs⟩) => fsB (tyB P f) fs 0 t
    | some (.array n e) => arB (tyB P f e) n t
    | _ => false)
section
variable {H : Type} {enc : TypeId × Value → H} {P : Program} {w : World} {base : Nat} {spare : Nat → Bool} {held : Bool}
abbrev ReadsT (w : World) (t : Ty) (cs : List Value) : Prop := Reads w t.size (t.cells false) t.wf cs
theorem tyB_size {f : Nat} {tid : TypeId} {t : Ty} (h : tyB P f tid t = true) : P.cellsOf tid = t.size := by
  cases f with
  | zero => cases h
  | succ f => rw [tyB, Bool.and_eq_true] at h; exact Nat.eq_of_beq_eq_true h.1
theorem ReadsT.pair {a b : Ty} {c d : List Value} (h : ReadsT w a c) (k : ReadsT w b d) (hl : c.length = a.size) : ReadsT w (.pair a b) (c ++ d) := by
  obtain ⟨x, x1, x2, x3⟩ := h
  obtain ⟨y, y1, y2, y3⟩ := k
  refine ⟨(x, y), ⟨x1, y1⟩, Ty.cells_length _ _ _, fun j v u hv hu => ?_⟩
  rw [Ty.cells] at hv
  by_cases hj : j < a.size
  · rw [List.getElem?_append_left (by rw [x2]; exact hj)] at hv
    rw [List.getElem?_append_left (by omega)] at hu
    exact x3 j v u hv hu
  · rw [List.getElem?_append_right (by rw [x2]; omega), x2] at hv
    rw [List.getElem?_append_right (by omega), hl] at hu
    exact y3 _ v u hv hu
theorem ReadsT.unit : ReadsT w .unit [] := ⟨(), trivial, rfl, fun j a u h _ => by simp [Ty.cells] at h⟩
theorem fs_reads {g : TypeId → Ty → Bool} (hg : ∀ (tid : TypeId) (t : Ty) (n : Nat) (cs : List Value) (x : DataW H × List MemPlace), g tid t = true → cs.length = t.size → DataW.trod enc P w base spare held n tid cs = some x → ReadsT w t cs) (hsz : ∀ tid t, g tid t = true → P.cellsOf tid = t.size) {cs : List Value} :
    ∀ (l : List Field) (o : Nat) (t : Ty), fsB g l o t = true → (∀ a ∈ l, ∃ n y, DataW.trod enc P w base spare held n a.type ((cs.drop a.offset).take (P.cellsOf a.type)) = some y) → o + t.size ≤ cs.length → ReadsT w t ((cs.drop o).take t.size)
  | [], o, t, h, _, _ => by
    rw [unB_ok h, show Ty.unit.size = 0 from rfl, List.take_zero]; exact .unit
  | [a], o, t, h, hr, hl => by
    rw [fsB, Bool.and_eq_true] at h
    obtain ⟨n, y, hy⟩ := hr a (by simp)
    rw [Nat.eq_of_beq_eq_true h.1, hsz _ _ h.2] at hy
    exact hg _ _ n _ y h.2 (by rw [List.length_take, List.length_drop]; omega) hy
  | a :: b :: l, o, t, h, hr, hl => by
    obtain ⟨x, y, rfl, h'⟩ := prB_ok h
    clear h
    have h := h'
    clear h'
    rw [Bool.and_eq_true, Bool.and_eq_true] at h
    obtain ⟨n, z, hz⟩ := hr a (by simp)
    rw [Nat.eq_of_beq_eq_true h.1.1, hsz _ _ h.1.2] at hz
    have hs : (Ty.pair x y).size = x.size + y.size := rfl
    rw [hs] at hl
    have h1 := hg _ _ n _ z h.1.2 (by rw [List.length_take, List.length_drop]; omega) hz
    have h2 := fs_reads hg hsz (b :: l) (o + x.size) y h.2 (fun a ha => hr a (List.mem_cons_of_mem _ ha)) (by omega)
    rw [hs, List.take_add, List.drop_drop]
    exact h1.pair h2 (by rw [List.length_take, List.length_drop]; omega)
theorem ar_reads {g : Ty → Bool} {e : TypeId} (hg : ∀ (t : Ty) (n : Nat) (cs : List Value) (x : DataW H × List MemPlace), g t = true → cs.length = t.size → DataW.trod enc P w base spare held n e cs = some x → ReadsT w t cs) (hsz : ∀ t, g t = true → P.cellsOf e = t.size) {cs : List Value} :
    ∀ (k o : Nat) (t : Ty), arB g k t = true → (∀ i, i < k → ∃ n y, DataW.trod enc P w base spare held n e ((cs.drop (o + i * P.cellsOf e)).take (P.cellsOf e)) = some y) → o + t.size ≤ cs.length → ReadsT w t ((cs.drop o).take t.size)
  | 0, o, t, h, _, _ => by
    rw [unB_ok h, show Ty.unit.size = 0 from rfl, List.take_zero]; exact .unit
  | 1, o, t, h, hr, hl => by
    rw [arB] at h
    obtain ⟨n, y, hy⟩ := hr 0 (by omega)
    rw [hsz _ h, Nat.zero_mul, Nat.add_zero] at hy
    exact hg _ n _ y h (by rw [List.length_take, List.length_drop]; omega) hy
  | k + 2, o, t, h, hr, hl => by
    obtain ⟨x, y, rfl, h'⟩ := prB_ok h
    clear h
    have h := h'
    clear h'
    rw [Bool.and_eq_true] at h
    obtain ⟨n, z, hz⟩ := hr 0 (by omega)
    rw [hsz _ h.1, Nat.zero_mul, Nat.add_zero] at hz
    have hs : (Ty.pair x y).size = x.size + y.size := rfl
    rw [hs] at hl
    have h1 := hg _ n _ z h.1 (by rw [List.length_take, List.length_drop]; omega) hz
    have h2 := ar_reads hg hsz (k + 1) (o + x.size) y h.2 (fun i hi => by
      obtain ⟨n, z, hz⟩ := hr (i + 1) (by omega)
      refine ⟨n, z, ?_⟩
      rw [← hz, ← hsz _ h.1, Nat.add_mul, Nat.one_mul, Nat.add_assoc, Nat.add_comm (P.cellsOf e)]) (by omega)
    rw [hs, List.take_add, List.drop_drop]
    exact h1.pair h2 (by rw [List.length_take, List.length_drop]; omega)
theorem ro_len {own : Nat → Prop} {bs sz : Nat} {fr : Bool} {rows : List (List AV)} {v : Value} (h : RelD w own bs (.ro fr sz rows) v) : rows.length ≤ maxLen := by
  cases h with
  | ro fr sz rows A c f hc hm h0 h1 h2 => omega
theorem one_cell {cs : List Value} (h : cs.length = 1) : ∃ u, cs = [u] := by match cs, h with | [u], _ => exact ⟨u, rfl⟩
theorem reads_ty : ∀ (f : Nat) (tid : TypeId) (t : Ty) (n : Nat) (cs : List Value) (x : DataW H × List MemPlace), tyB P f tid t = true → cs.length = t.size → DataW.trod enc P w base spare held n tid cs = some x → ReadsT w t cs
  | 0, _, _, _, _, _, h, _, _ => by cases h
  | f + 1, tid, t, n, cs, x, h, hl, hx => by
    have hsize := tyB_size h
    rw [tyB, Bool.and_eq_true] at h
    obtain ⟨_, h⟩ := h
    split at h
    · rename_i k hu
      unfold intB at h
      split at h
      · have hk := of_decide_eq_true h
        subst hk
        obtain ⟨m, rfl, _, hwf⟩ := DataW.trod_int hu hx
        refine ⟨m, hwf, rfl, fun j a u ha hu => ?_⟩
        match j with
        | 0 => simp [Ty.cells] at ha hu; subst ha; subst hu; exact .int _ _
        | j + 1 => simp [Ty.cells] at ha
      · cases h
    · rename_i hu
      unfold boolB at h
      split at h
      · obtain ⟨m, rfl, _⟩ := DataW.trod_bool hu hx
        refine ⟨m, trivial, rfl, fun j a u ha hu => ?_⟩
        match j with
        | 0 => simp [Ty.cells] at ha hu; subst ha; subst hu; exact .bool _
        | j + 1 => simp [Ty.cells] at ha
      · cases h
    · rename_i hu
      unfold strB at h
      split at h
      · obtain ⟨s, rfl, _, hs⟩ := DataW.trod_string hu hx
        refine ⟨s.data.toList, by rw [Ty.wf, Array.length_toList]; exact hs, rfl, fun j a u ha hu => ?_⟩
        match j with
        | 0 => simp [Ty.cells] at ha hu; subst ha; subst hu; exact .str _
        | j + 1 => simp [Ty.cells] at ha
      · cases h
    · rename_i e hu
      unfold sliceB at h
      split at h
      · rename_i _ t' _
        rw [Bool.and_eq_true] at h
        have hpos : 0 < t'.size := Nat.le_of_ble_eq_true h.2
        obtain ⟨v, rfl⟩ := one_cell hl
        obtain ⟨xs, hw, hr⟩ := ro_slice (t'.cells false) t'.wf hu (tyB_size h.1) hpos (fun m cs x hl hx => reads_ty f e t' m cs x h.1 hl hx) hx
        refine ⟨xs, ⟨?_, hw⟩, rfl, fun j a u ha hu => ?_⟩
        · have := ro_len hr
          rw [List.length_map] at this
          exact this
        match j with
        | 0 => simp [Ty.cells] at ha hu; subst ha; subst hu; exact hr
        | j + 1 => simp [Ty.cells] at ha
      · cases h
    · rename_i fs hu
      obtain ⟨xs, m, _, _, _, hxl, hat⟩ := DataW.trod_struct hu hx
      have := fs_reads (cs := cs) (fun tid t n cs x h1 h2 h3 => reads_ty f tid t n cs x h1 h2 h3) (fun tid t h => tyB_size h) fs 0 t h (fun a ha => by
        obtain ⟨i, hi⟩ := List.mem_iff_getElem?.1 ha
        have hi' : i < xs.length := by rw [hxl]; exact (List.getElem?_eq_some_iff.1 hi).1
        exact ⟨m, _, by rw [hat i a (by simpa using hi), List.getElem?_eq_getElem hi']⟩) (by omega)
      rw [List.drop_zero, List.take_of_length_le (by omega)] at this
      exact this
    · rename_i k e hu
      obtain ⟨xs, m, _, _, _, hxl, hat⟩ := DataW.trod_array hu hx
      have := ar_reads (cs := cs) (e := e) (fun t n cs x h1 h2 h3 => reads_ty f e t n cs x h1 h2 h3) (fun t h => tyB_size h) k 0 t h (fun i hi => by
        have hi' : i < xs.length := by rw [hxl]; exact hi
        exact ⟨m, _, by rw [Nat.zero_add, hat i hi, List.getElem?_eq_getElem hi']⟩) (by omega)
      rw [List.drop_zero, List.take_of_length_le (by omega)] at this
      exact this
    · cases h
/-! ### Arguments -/
def aggP (P : Program) (tid : TypeId) : Bool := match P.underlying tid with
  | some (.struct _) => true
  | some (.array _ _) => true
  | _ => false
def cellP (P : Program) (tid : TypeId) : Bool := match P.underlying tid with
  | some (.int _) => true
  | some .bool => true
  | some .string => true
  | some (.slice _) => true
  | _ => false
def argB (P : Program) (tid : TypeId) (a : Ty) : Bool := match a with
  | .agg t => tyB P 9 tid t && aggP P tid
  | .int k => tyB P 9 tid (.int k) && cellP P tid
  | .bool => tyB P 9 tid .bool && cellP P tid
  | .str => tyB P 9 tid .str && cellP P tid
  | .list t => tyB P 9 tid (.list t) && cellP P tid
  | _ => false
def argsB (P : Program) : List TypeId → Ty → Bool
  | [], t => unB t
  | tid :: l, t => prB t fun a b => argB P tid a && argsB P l b
theorem okWide_arr {n b : Nat} {r : Go.Reach} {t e : TypeId} {v : Value} (ht : P.underlying t = some (.array n e)) (h : Value.okWide P w r b t v) : ∃ cs, v = .agg cs ∧ cs.size = P.cellsOf t := by
  simp only [Value.okWide, ht] at h
  obtain ⟨cs, h1, h2, _⟩ := h
  exact ⟨cs, h1, h2⟩
theorem arg_agg {tid : TypeId} {t : Ty} {v : Value} {d : DataW H} {p : List MemPlace} {b : Nat} (h : tyB P 9 tid t = true) (ha : aggP P tid = true) (hv : Value.okWide P w .any b tid v) (hd : DataW.Trod enc P w base spare held tid v d p) : ∃ x : t.den, t.wf x ∧ RelV w (Gh.none w.heap.size) (.agg (t.cells false x)) v := by
  obtain ⟨cs, rfl, hs⟩ : ∃ cs, v = .agg cs ∧ cs.size = P.cellsOf tid := by
    unfold aggP at ha
    split at ha
    · rename_i h1; exact okWide_struct h1 hv
    · rename_i h1; exact okWide_arr h1 hv
    · cases ha
  obtain ⟨n, hd⟩ := hd
  have hl : cs.toList.length = t.size := by rw [← tyB_size h, ← hs]; simp
  obtain ⟨x, x1, x2, x3⟩ := reads_ty 9 tid t n cs.toList _ h hl hd
  exact ⟨x, x1, .agg _ _ (by rw [x2, ← hl]; simp) fun i a u ha hu => .dat (x3 i a u ha (by simpa using hu))⟩
theorem arg_cell {tid : TypeId} {t : Ty} {v : Value} {d : DataW H} {p : List MemPlace} {b : Nat} (h : tyB P 9 tid t = true) (hc : cellP P tid = true) (h1 : t.size = 1) (hv : Value.okWide P w .any b tid v) (hd : DataW.Trod enc P w base spare held tid v d p) : ∃ x : t.den, t.wf x ∧ ∀ a, (t.cells false x)[0]? = some a → RelV w (Gh.none w.heap.size) a v := by
  have hd : ∃ n, DataW.trod enc P w base spare held n tid [v] = some (d, p) := by
    unfold cellP at hc
    split at hc
    · rename_i hu
      obtain ⟨m, rfl⟩ := okWide_int hu hv
      exact hd
    · rename_i hu
      obtain ⟨m, rfl⟩ := okWide_bool hu hv
      exact hd
    · rename_i hu
      obtain ⟨m, rfl⟩ := okWide_string hu hv
      exact hd
    · rename_i hu
      obtain ⟨a, n, c, rfl⟩ := okWide_slice hu hv
      exact hd
    · cases hc
  obtain ⟨n, hd⟩ := hd
  obtain ⟨x, x1, x2, x3⟩ := reads_ty 9 tid t n [v] _ h (by rw [h1]; rfl) hd
  exact ⟨x, x1, fun a ha => .dat (x3 0 a v ha rfl)⟩
theorem arg_ty {tid : TypeId} {v : Value} {d : DataW H} {p : List MemPlace} {b : Nat} : ∀ {a : Ty}, argB P tid a = true → Value.okWide P w .any b tid v → DataW.Trod enc P w base spare held tid v d p → ∃ x : a.den, a.wf x ∧ RelV w (Gh.none w.heap.size) (a.av false x) v
  | .agg t, h, hv, hd => by
    rw [argB, Bool.and_eq_true] at h
    obtain ⟨x, h1, h2⟩ := arg_agg h.1 h.2 hv hd
    exact ⟨x, h1, by rw [Ty.av]; exact h2⟩
  | .int k, h, hv, hd => by
    rw [argB, Bool.and_eq_true] at h
    obtain ⟨x, h1, h2⟩ := arg_cell h.1 h.2 rfl hv hd
    exact ⟨x, h1, h2 _ rfl⟩
  | .bool, h, hv, hd => by
    rw [argB, Bool.and_eq_true] at h
    obtain ⟨x, h1, h2⟩ := arg_cell h.1 h.2 rfl hv hd
    exact ⟨x, h1, h2 _ rfl⟩
  | .str, h, hv, hd => by
    rw [argB, Bool.and_eq_true] at h
    obtain ⟨x, h1, h2⟩ := arg_cell h.1 h.2 rfl hv hd
    exact ⟨x, h1, h2 _ rfl⟩
  | .list t, h, hv, hd => by
    rw [argB, Bool.and_eq_true] at h
    obtain ⟨x, h1, h2⟩ := arg_cell h.1 h.2 rfl hv hd
    exact ⟨x, h1, h2 _ rfl⟩
  | .unit, h, _, _ => by cases h
  | .pair _ _, h, _, _ => by cases h
  | .ptr _, h, _, _ => by cases h
/-- values one by one -/
inductive RelsV (w : World) (G : Gh) : List AV → List Value → Prop
  | nil : RelsV w G [] []
  | cons {a : AV} {v : Value} {l : List AV} {m : List Value} (h : RelV w G a v) (k : RelsV w G l m) : RelsV w G (a :: l) (v :: m)
theorem RelsV.args {G : Gh} {l : List AV} {m : List Value} (h : RelsV w G l m) : ArgsV w G l m.toArray := by
  induction h with
  | nil => exact ⟨rfl, fun i a v ha hv => by simp at ha⟩
  | cons h k ih =>
    refine ⟨by have := ih.size; simp at this ⊢; exact this, fun i a v ha hv => ?_⟩
    cases i with
    | zero => simp at ha hv; subst ha; subst hv; exact h
    | succ i => exact ih.rel i a v (by simpa using ha) (by simpa using hv)
end
theorem fu_le : 18446744073709551616 ≤ FU := Nat.le_refl _
end Go.Proofs.Ytdfocbeejgcglaa
/- Spot inks: arguments. -/
namespace Go.Proofs.Ytdfocbeejgcglaa
open Go Go.RowKit
theorem wf_len {n : Nat} (h : n ≤ maxLen) : (n : Int) ≤ 9223372036854775807 := by unfold maxLen at h; omega
theorem allS_of {l : List SpotT} (h : l.length ≤ maxLen) (h' : ∀ s ∈ l, s.2.2.2.2.length ≤ maxLen) : AllS l := ⟨wf_len h, fun s hs => wf_len (h' s hs)⟩
end Go.Proofs.Ytdfocbeejgcglaa
/- Spot inks: SpotSearches. -/
namespace Go.Proofs.Ytdfocbeejgcglaa
open Go Go.RowKit
set_option linter.unusedSimpArgs false
set_option linter.unusedSectionVars false
set_option linter.unusedVariables false
section
variable {fu : Nat} {p c : LabT} (hp : labR p = 0) (hc : labR c = 0)
include hp hc
end
section
variable {fu : Nat} (hf : 18446744073709551616 ≤ fu) {l : List SpotT} (hl : AllS l)
include hf hl
end
end Go.Proofs.Ytdfocbeejgcglaa
/- Spot inks: SpotMerges. -/
namespace Go.Proofs.Ytdfocbeejgcglaa
open Go Go.RowKit
set_option linter.unusedSimpArgs false
set_option linter.unusedSectionVars false
set_option linter.unusedVariables false
def LibG (l : List SpotT) : Prop := ∀ i, i < l.length → SpotOk (spAt l i) ∧ ∀ k, k < i → (spAt l k).1 ≠ (spAt l i).1
theorem LibG.uniq {l : List SpotT} (h : LibG l) {i k : Nat} (hi : i < l.length) (hk : k < l.length) (e : (spAt l i).1 = (spAt l k).1) : i = k := by
  rcases Nat.lt_trichotomy i k with g | g | g
  · exact absurd e ((h k hk).2 i g)
  · exact g
  · exact absurd e.symm ((h i hi).2 k g)
section
variable {fu : Nat} (hf : 18446744073709551616 ≤ fu)
include hf
end
end Go.Proofs.Ytdfocbeejgcglaa
/- Spot inks: SpotExpansions. -/
namespace Go.Proofs.Ytdfocbeejgcglaa
open Go Go.RowKit
set_option linter.unusedSimpArgs false
set_option linter.unusedSectionVars false
set_option linter.unusedVariables false
open Classical in
/-- where a name stands -/
noncomputable def ix (l : List SpotT) (nm : List UInt8) : Nat := if h : ∃ k, k < l.length ∧ (spAt l k).1 = nm then h.choose else l.length
theorem ix_hit {l : List SpotT} (hl : LibG l) {nm : List UInt8} {k : Nat} (hk : k < l.length) (e : (spAt l k).1 = nm) : ix l nm = k := by
  have h : ∃ k, k < l.length ∧ (spAt l k).1 = nm := ⟨k, hk, e⟩
  unfold ix
  rw [dif_pos h]
  exact hl.uniq h.choose_spec.1 hk (h.choose_spec.2.trans e.symm)
theorem ix_miss {l : List SpotT} {nm : List UInt8} (h : ∀ k, k < l.length → (spAt l k).1 ≠ nm) : ix l nm = l.length := by
  unfold ix
  rw [dif_neg (fun ⟨k, hk, e⟩ => h k hk e)]
def nmAt (ns : List (List UInt8)) (i : Nat) : List UInt8 := ns.getD i []
section
variable (l : List SpotT) (p : List Int) (ns : List (List UInt8)) (ts : List Int)
/-- the error of name i -/
noncomputable def xpnE (i : Nat) : Int := if ix l (nmAt ns i) < l.length then (if (spAt l (ix l (nmAt ns i))).2.2.2.2.length = p.length then 0 else 4) else 6
noncomputable def xpnV (i : Nat) (o : Int) : Int := (quick (spAt l (ix l (nmAt ns i))) (ts.getD i 0)).getD o.toNat 0
/-- the sums after i names -/
noncomputable def xpnG : Nat → Int → Int
  | 0, o => p.getD o.toNat 0
  | i + 1, o => xpnG i o + xpnV l ns ts i o
noncomputable def xpnA (i : Nat) : List Int := tabL p.length (xpnG l p ns ts i)
noncomputable def xpnB (i : Nat) : List Int := tabL p.length fun o => min 255 (xpnG l p ns ts i o)
end
section
variable {fu : Nat} (hf : 18446744073709551616 ≤ fu) {l : List SpotT} {p : List Int} {ns : List (List UInt8)} {ts : List Int} (hl : LibG l) (l40 : l.length ≤ 40) (hp8 : p.length ≤ 8) (hn8 : ns.length ≤ 8)
  (hp : ∀ i, i < p.length → 0 ≤ p.getD i 0 ∧ p.getD i 0 ≤ 255) (hts : (ts.length : Int) = ns.length) (ht : ∀ i, i < ts.length → 0 ≤ ts.getD i 0 ∧ ts.getD i 0 ≤ 255)
include hl hts ht in
theorem xpnV_bd {i : Nat} (hi : i < ns.length) (hE : xpnE l p ns i = 0) {o : Nat} (ho : o < p.length) : 0 ≤ xpnV l ns ts i o ∧ xpnV l ns ts i o ≤ 255 := by
  unfold xpnE at hE
  split at hE
  · rename_i c
    split at hE
    · rename_i c2
      have t := ht i (by omega)
      have ok := (hl _ c).1
      unfold xpnV
      rw [Int.toNat_natCast]
      unfold quick
      rw [tabL_getDN (by omega), Int.toNat_natCast]
      exact (quick_bd ok t.1 t.2 (by omega)).2
    · omega
  · omega
include hl hts ht hp in
theorem xpnG_bd : ∀ (i : Nat), i ≤ ns.length → (∀ k, k < i → xpnE l p ns k = 0) → ∀ o : Nat, o < p.length → 0 ≤ xpnG l p ns ts i o ∧ xpnG l p ns ts i o ≤ 255 * (i + 1)
  | 0, _, _, o, ho => by
    unfold xpnG
    rw [Int.toNat_natCast]
    have := hp o ho
    omega
  | i + 1, h, hE, o, ho => by
    have h1 := xpnG_bd i (by omega) (fun k hk => hE k (by omega)) o ho
    have h2 := xpnV_bd hl hts ht (by omega) (hE i (by omega)) ho
    unfold xpnG
    omega
include hf hl l40 hp8 hn8 hp hts ht
theorem expHit {j7 : Int × List Int → Option (List Int × Int × Unit)} {j10 : Int → Option (List Int × Int × Unit)} {i k : Nat} (hi : i < ns.length) (hE : ∀ q, q < i → xpnE l p ns q = 0) (hk : k < l.length) (e : (spAt l k).1 = nmAt ns i) :
    spot_Expand_j4 fu (l, (p, (ns, (ts, ())))) ((i : Int), xpnA l p ns ts i) (i : Int) (k : Int) j7 j10 false = if xpnE l p ns i = 0 then j7 ((i : Int) + 1, xpnA l p ns ts (i + 1)) else some ([], (xpnE l p ns i, ())) := by
  have hx := ix_hit hl hk e
  have t := ht i (by omega)
  have ok := (hl k hk).1
  have hG := xpnG_bd hl hp hts ht i (by omega) hE
  unfold spot_Expand_j4
  simp (disch := omega) only [joinF_eq, bindO_some, s_wr, s_td, s_tm, s_pos, s_neg, cond_true, cond_false, Bool.not_true, Bool.not_false, Bool.true_and, Bool.and_true, Bool.false_and, Bool.and_false, bne_self_eq_false, decide_true, decide_false, Int.toNat_natCast, spAt_fold]
  show (bif decide (((spAt l k).2.2.2.2.length : Int) ≠ ((xpnA l p ns ts i).length : Int)) then _ else _) = _
  rw [show (xpnA l p ns ts i).length = p.length from tabL_length _ _]
  by_cases c : (spAt l k).2.2.2.2.length = p.length
  · have e0 : xpnE l p ns i = 0 := by unfold xpnE; rw [hx, if_pos hk, if_pos c]
    have hV := fun (o : Nat) (ho : o < p.length) => xpnV_bd hl hts ht hi e0 ho
    rw [if_pos e0]
    simp (disch := omega) only [joinF_eq, bindO_some, s_wr, s_td, s_tm, s_pos, s_neg, cond_true, cond_false, Bool.not_true, Bool.not_false, Bool.true_and, Bool.and_true, Bool.false_and, Bool.and_false, bne_self_eq_false, decide_true, decide_false, Int.toNat_natCast]
    show bindO (spot_Quick_r fu (spAt l k, (ts.getD i 0, ()))) _ = _
    rw [quick_r hf ok t.1 t.2]
    simp (disch := omega) only [joinF_eq, bindO_some, s_wr, s_td, s_tm, s_pos, s_neg, cond_true, cond_false, Bool.not_true, Bool.not_false, Bool.true_and, Bool.and_true, Bool.false_and, Bool.and_false, bne_self_eq_false, decide_true, decide_false, Int.toNat_natCast]
    have hq : ∀ o : Nat, (quick (spAt l k) (ts.getD i 0)).getD o 0 = xpnV l ns ts i o := fun o => by unfold xpnV; rw [hx, Int.toNat_natCast]
    have hql : (quick (spAt l k) (ts.getD i 0)).length = p.length := by unfold quick; rw [tabL_length, c]
    generalize quick (spAt l k) (ts.getD i 0) = q at hq hql ⊢
    unfold xpnA
    refine (foldLoop (f := spot_Expand_l5 fu ((i : Int), tabL p.length (xpnG l p ns ts i)) (q, ()) j7) (n := p.length) (fu := fu) (by omega) (fun m r => r = tabL p.length fun o => if o < m then xpnG l p ns ts (i + 1) o else xpnG l p ns ts i o) (fin := fun r => j7 ((i : Int) + 1, r))
      (s0 := tabL p.length (xpnG l p ns ts i)) (tabL_congr fun o g0 g1 => (if_neg (by omega)).symm) ?_ ?_).elim fun s' ⟨g1, g2⟩ => ?_
    · rintro j m r hm rfl
      refine ⟨_, rfl, ?_⟩
      have b1 := hG m hm
      have b2 := hV m hm
      unfold spot_Expand_l5
      simp (disch := omega) only [joinF_eq, bindO_some, s_wr, s_td, s_tm, s_pos, s_neg, cond_true, cond_false, Bool.not_true, Bool.not_false, Bool.true_and, Bool.and_true, Bool.false_and, Bool.and_false, bne_self_eq_false, decide_true, decide_false, Int.toNat_natCast, hql, hq, tabL_length, tabL_getDN, if_neg]
      refine congrArg (fun r => j ((m : Int) + 1, r)) (tabL_set (k := (m : Int)) (by omega) ((if_pos (by omega)).trans ?_) fun o g0 g1 g2 => ?_)
      · rfl
      · by_cases z : o < m
        · rw [if_pos (by omega), if_pos (by omega)]
        · rw [if_neg (by omega), if_neg (by omega)]
    · rintro j r rfl
      unfold spot_Expand_l5
      simp (disch := omega) only [joinF_eq, bindO_some, s_wr, s_td, s_tm, s_pos, s_neg, cond_true, cond_false, Bool.not_true, Bool.not_false, Bool.true_and, Bool.and_true, Bool.false_and, Bool.and_false, bne_self_eq_false, decide_true, decide_false, Int.toNat_natCast, hql]
    · rw [g2, g1]
      rw [tabL_congr fun o g0 g1 => if_pos (by omega)]
  · have e4 : xpnE l p ns i = 4 := by unfold xpnE; rw [hx, if_pos hk, if_neg c]
    rw [e4]
    simp (disch := omega) only [joinF_eq, bindO_some, s_wr, s_td, s_tm, s_pos, s_neg, cond_true, cond_false, Bool.not_true, Bool.not_false, Bool.true_and, Bool.and_true, Bool.false_and, Bool.and_false, bne_self_eq_false, decide_true, decide_false, Int.toNat_natCast]
    rfl
theorem expand_r : loopF (spot_Expand_l2 fu (l, (p, (ns, (ts, ()))))) fu (0, p) = if firstE (xpnE l p ns) ns.length 0 = 0 then some (tabL p.length fun o => min (xpnG l p ns ts ns.length o) 255, (0, ())) else some ([], (firstE (xpnE l p ns) ns.length 0, ())) := by
  have h0 : xpnA l p ns ts 0 = p := tabL_self p
  have key := errFold (f := spot_Expand_l2 fu (l, (p, (ns, (ts, ()))))) (n := ns.length) (fu := fu) (by omega) (A := xpnA l p ns ts) (E := xpnE l p ns) (out := fun e => some ([], (e, ()))) (fin := some (tabL p.length fun o => min (xpnG l p ns ts ns.length o) 255, (0, ()))) ?_ ?_
  · rw [h0] at key; exact key
  · intro j i hi hE
    unfold spot_Expand_l2
    simp (disch := omega) only [joinF_eq, bindO_some, s_wr, s_td, s_tm, s_pos, s_neg, cond_true, cond_false, Bool.not_true, Bool.not_false, Bool.true_and, Bool.and_true, Bool.false_and, Bool.and_false, bne_self_eq_false, decide_true, decide_false, Int.toNat_natCast]
    rcases findLoop (f := spot_Expand_l3 fu (l, (p, (ns, (ts, ())))) ((i : Int), xpnA l p ns ts i) (nmAt ns i) (i : Int) j) (n := l.length) (fu := fu) (by omega) (p := fun k => (spAt l k).1 = nmAt ns i) (hit := fun _ => if xpnE l p ns i = 0 then j ((i : Int) + 1, xpnA l p ns ts (i + 1)) else some ([], (xpnE l p ns i, ()))) (miss := some ([], (6, ())))
      (fun j' k hk hp' => by
        have hh := expHit hf hl l40 hp8 hn8 hp hts ht (j7 := j) (j10 := j') hi hE hk hp'
        unfold spot_Expand_l3
        simp (disch := omega) only [joinF_eq, bindO_some, s_wr, s_td, s_tm, s_pos, s_neg, cond_true, cond_false, Bool.not_true, Bool.not_false, Bool.true_and, Bool.and_true, Bool.false_and, Bool.and_false, bne_self_eq_false, decide_true, decide_false, Int.toNat_natCast, spAt_fold]
        rw [← hh]
        exact congrArg (spot_Expand_j4 fu (l, (p, (ns, (ts, ())))) ((i : Int), xpnA l p ns ts i) (i : Int) (k : Int) j j') (show (!decide ((spAt l k).1 = nmAt ns i)) = false by rw [decide_eq_true hp']; rfl))
      (fun j' k hk hp' => by
        unfold spot_Expand_l3
        simp (disch := omega) only [joinF_eq, bindO_some, s_wr, s_td, s_tm, s_pos, s_neg, cond_true, cond_false, Bool.not_true, Bool.not_false, Bool.true_and, Bool.and_true, Bool.false_and, Bool.and_false, bne_self_eq_false, decide_true, decide_false, Int.toNat_natCast, spAt_fold]
        refine (congrArg (spot_Expand_j4 fu (l, (p, (ns, (ts, ())))) ((i : Int), xpnA l p ns ts i) (i : Int) (k : Int) j j') (show (!decide ((spAt l k).1 = nmAt ns i)) = true by rw [decide_eq_false hp']; rfl)).trans ?_
        unfold spot_Expand_j4
        simp (disch := omega) only [joinF_eq, bindO_some, s_wr, s_td, s_tm, s_pos, s_neg, cond_true, cond_false, Bool.not_true, Bool.not_false, Bool.true_and, Bool.and_true, Bool.false_and, Bool.and_false, bne_self_eq_false, decide_true, decide_false, Int.toNat_natCast])
      (fun j' => by
        unfold spot_Expand_l3 spot_Expand_j4
        simp (disch := omega) only [joinF_eq, bindO_some, s_wr, s_td, s_tm, s_pos, s_neg, cond_true, cond_false, Bool.not_true, Bool.not_false, Bool.true_and, Bool.and_true, Bool.false_and, Bool.and_false, bne_self_eq_false, decide_true, decide_false, Int.toNat_natCast]) with ⟨k, hk, hp', _, h⟩ | ⟨hp', h⟩
    · exact h
    · have hx := ix_miss hp'
      have e6 : xpnE l p ns i = 6 := by unfold xpnE; rw [hx, if_neg (by omega)]
      rw [e6]
      exact h
  · intro hE j
    have hG := xpnG_bd hl hp hts ht ns.length (Nat.le_refl _) hE
    unfold spot_Expand_l2 xpnA
    simp (disch := omega) only [joinF_eq, bindO_some, s_wr, s_td, s_tm, s_pos, s_neg, cond_true, cond_false, Bool.not_true, Bool.not_false, Bool.true_and, Bool.and_true, Bool.false_and, Bool.and_false, bne_self_eq_false, decide_true, decide_false, Int.toNat_natCast]
    refine (foldLoop (f := spot_Expand_l6 fu ((ns.length : Int), tabL p.length (xpnG l p ns ts ns.length))) (n := p.length) (fu := fu) (by omega) (fun m r => r = tabL p.length fun o => if o < m then min (xpnG l p ns ts ns.length o) 255 else xpnG l p ns ts ns.length o) (fin := fun r => some (r, (0, ())))
      (s0 := tabL p.length (xpnG l p ns ts ns.length)) (tabL_congr fun o g0 g1 => (if_neg (by omega)).symm) ?_ ?_).elim fun s' ⟨g1, g2⟩ => ?_
    · rintro j m r hm rfl
      refine ⟨_, rfl, ?_⟩
      unfold spot_Expand_l6
      simp (disch := omega) only [joinF_eq, bindO_some, s_wr, s_td, s_tm, s_pos, s_neg, cond_true, cond_false, Bool.not_true, Bool.not_false, Bool.true_and, Bool.and_true, Bool.false_and, Bool.and_false, bne_self_eq_false, decide_true, decide_false, Int.toNat_natCast, tabL_length, tabL_getDN, if_neg]
      refine congrArg (fun r => j ((m : Int) + 1, r)) (tabL_set (k := (m : Int)) (by omega) (if_pos (by omega)) fun o g0 g1 g2 => ?_)
      by_cases z : o < m
      · rw [if_pos (by omega), if_pos (by omega)]
      · rw [if_neg (by omega), if_neg (by omega)]
    · rintro j r rfl
      unfold spot_Expand_l6
      simp (disch := omega) only [joinF_eq, bindO_some, s_wr, s_td, s_tm, s_pos, s_neg, cond_true, cond_false, Bool.not_true, Bool.not_false, Bool.true_and, Bool.and_true, Bool.false_and, Bool.and_false, bne_self_eq_false, decide_true, decide_false, Int.toNat_natCast, tabL_length]
    · rw [g2, g1]
      rw [tabL_congr fun o g0 g1 => if_pos (by omega)]
theorem expLaw {v2 : List Int} {v3 : Int} (h0 : firstE (xpnE l p ns) ns.length 0 = 0 → v2 = tabL p.length (fun o => min (xpnG l p ns ts ns.length o) 255) ∧ v3 = 0) (h1 : firstE (xpnE l p ns) ns.length 0 ≠ 0 → v2 = [] ∧ v3 = firstE (xpnE l p ns) ns.length 0) :
    loopF (law_SpotExpansions_l4 fu (l, (p, (ns, (ts, ())))) v2 v3) fu (0, (0, p)) = some (true, ()) := by
  have hB0 : xpnB l p ns ts 0 = p := by
    refine Eq.trans (tabL_congr fun o g0 g1 => ?_) (tabL_self p)
    have := hp o.toNat (by omega)
    show min 255 (p.getD o.toNat 0) = _
    omega
  refine postLoop (f := law_SpotExpansions_l4 fu (l, (p, (ns, (ts, ())))) v2 v3) (fun x : Int × Int × List Int => ((ns.length : Int) - x.2.1).toNat)
    (fun x => (∃ i : Nat, x = (0, ((i : Int), xpnB l p ns ts i)) ∧ i ≤ ns.length ∧ ∀ k, k < i → xpnE l p ns k = 0) ∨ (∃ (i : Nat) (s : List Int), x = (xpnE l p ns i, ((i : Int) + 1, s)) ∧ i < ns.length ∧ (∀ k, k < i → xpnE l p ns k = 0) ∧ xpnE l p ns i ≠ 0))
    (fun r => r = some (true, ())) ?_ fu (0, (0, p)) (.inl ⟨0, by rw [hB0]; rfl, by omega, by omega⟩) (by simp only; omega)
  rintro j _ (⟨i, rfl, k1, k2⟩ | ⟨i, s, rfl, k1, k2, k3⟩)
  · unfold law_SpotExpansions_l4
    by_cases hi : i < ns.length
    · refine .inl ?_
      have t := ht i (by omega)
      have hG := xpnG_bd hl hp hts ht i (by omega) k2
      unfold law_SpotExpansions_j5 law_SpotExpansions_j6
      simp (disch := omega) only [joinF_eq, bindO_some, s_wr, s_td, s_tm, s_pos, s_neg, cond_true, cond_false, Bool.not_true, Bool.not_false, Bool.true_and, Bool.and_true, Bool.false_and, Bool.and_false, bne_self_eq_false, decide_true, decide_false, Int.toNat_natCast]
      show ∃ x', _ ∧ _ ∧ bindO (R_SpotAt_r fu (l, (nmAt ns i, ()))) _ = _
      rcases spotAt_r hf (l := l) (by omega) (nmAt ns i) with ⟨k, hk, hp', _, h⟩ | ⟨hp', h⟩
      · have hx := ix_hit hl hk hp'
        have ok := (hl k hk).1
        rw [h]
        simp (disch := omega) only [joinF_eq, bindO_some, s_wr, s_td, s_tm, s_pos, s_neg, cond_true, cond_false, Bool.not_true, Bool.not_false, Bool.true_and, Bool.and_true, Bool.false_and, Bool.and_false, bne_self_eq_false, decide_true, decide_false, Int.toNat_natCast, spAt_fold]
        by_cases c : (spAt l k).2.2.2.2.length = p.length
        · have e0 : xpnE l p ns i = 0 := by unfold xpnE; rw [hx, if_pos hk, if_pos c]
          have hV := fun (o : Nat) (ho : o < p.length) => xpnV_bd hl hts ht hi e0 ho
          refine ⟨(0, ((i : Int) + 1, xpnB l p ns ts (i + 1))), .inl ⟨i + 1, rfl, by omega, fun q hq => ?_⟩, by simp only; omega, ?_⟩
          · by_cases z : q = i
            · rw [z]; exact e0
            · exact k2 q (by omega)
          refine (bif_neg (p := ((spAt l k).2.2.2.2.length : Int) ≠ (p.length : Int)) (by omega)).trans ?_
          show bindO (R_SpotProcess_r fu (spAt l k, (ts.getD i 0, ()))) _ = _
          rw [process_r hf ok t.1 t.2]
          simp (disch := omega) only [joinF_eq, bindO_some, s_wr, s_td, s_tm, s_pos, s_neg, cond_true, cond_false, Bool.not_true, Bool.not_false, Bool.true_and, Bool.and_true, Bool.false_and, Bool.and_false, bne_self_eq_false, decide_true, decide_false, Int.toNat_natCast]
          have hq : ∀ o : Nat, (quick (spAt l k) (ts.getD i 0)).getD o 0 = xpnV l ns ts i o := fun o => by unfold xpnV; rw [hx, Int.toNat_natCast]
          have hql : (quick (spAt l k) (ts.getD i 0)).length = p.length := by unfold quick; rw [tabL_length, c]
          generalize quick (spAt l k) (ts.getD i 0) = q at hq hql ⊢
          unfold xpnB
          refine (foldLoop (f := law_SpotExpansions_l7 fu (0, ((i : Int), tabL p.length fun o => min 255 (xpnG l p ns ts i o))) (q, ()) fun v11 => j (v11.2.1, (IntKind.i64.wrap (v11.1 + 1), v11.2.2))) (n := p.length) (fu := fu) (by omega) (fun m r => r = tabL p.length fun o => if o < m then min 255 (xpnG l p ns ts (i + 1) o) else min 255 (xpnG l p ns ts i o)) (fin := fun r => j (0, ((i : Int) + 1, r)))
            (s0 := tabL p.length fun o => min 255 (xpnG l p ns ts i o)) (tabL_congr fun o g0 g1 => (if_neg (by omega)).symm) ?_ ?_).elim fun s' ⟨g1, g2⟩ => ?_
          · rintro j' m r hm rfl
            refine ⟨_, rfl, ?_⟩
            have b1 := hG m hm
            have b2 := hV m hm
            unfold law_SpotExpansions_l7
            simp (disch := omega) only [joinF_eq, bindO_some, s_wr, s_td, s_tm, s_pos, s_neg, cond_true, cond_false, Bool.not_true, Bool.not_false, Bool.true_and, Bool.and_true, Bool.false_and, Bool.and_false, bne_self_eq_false, decide_true, decide_false, Int.toNat_natCast, hql, hq, tabL_length, tabL_getDN, if_neg]
            refine congrArg (fun r => j' ((m : Int) + 1, r)) (tabL_set (k := (m : Int)) (by omega) ((if_pos (by omega)).trans ?_) fun o g0 g1 g2 => ?_)
            · show min 255 (xpnG l p ns ts i m + xpnV l ns ts i m) = _
              omega
            · by_cases z : o < m
              · rw [if_pos (by omega), if_pos (by omega)]
              · rw [if_neg (by omega), if_neg (by omega)]
          · rintro j' r rfl
            unfold law_SpotExpansions_l7
            simp (disch := omega) only [joinF_eq, bindO_some, s_wr, s_td, s_tm, s_pos, s_neg, cond_true, cond_false, Bool.not_true, Bool.not_false, Bool.true_and, Bool.and_true, Bool.false_and, Bool.and_false, bne_self_eq_false, decide_true, decide_false, Int.toNat_natCast, hql]
          · rw [g2, g1]
            rw [tabL_congr fun o g0 g1 => if_pos (by omega)]
        · have e4 : xpnE l p ns i = 4 := by unfold xpnE; rw [hx, if_pos hk, if_neg c]
          refine ⟨(4, ((i : Int) + 1, xpnB l p ns ts i)), .inr ⟨i, _, by rw [e4], hi, k2, by rw [e4]; decide⟩, by simp only; omega, ?_⟩
          exact bif_pos (p := ((spAt l k).2.2.2.2.length : Int) ≠ (p.length : Int)) (by omega)
      · have hx := ix_miss hp'
        have e6 : xpnE l p ns i = 6 := by unfold xpnE; rw [hx, if_neg (by omega)]
        rw [h]
        refine ⟨(6, ((i : Int) + 1, xpnB l p ns ts i)), .inr ⟨i, _, by rw [e6], hi, k2, by rw [e6]; decide⟩, by simp only; omega, ?_⟩
        simp (disch := omega) only [joinF_eq, bindO_some, s_wr, s_td, s_tm, s_pos, s_neg, cond_true, cond_false, Bool.not_true, Bool.not_false, Bool.true_and, Bool.and_true, Bool.false_and, Bool.and_false, bne_self_eq_false, decide_true, decide_false, Int.toNat_natCast]
    · refine .inr ?_
      have : i = ns.length := by omega
      subst this
      obtain ⟨r1, r2⟩ := h0 (firstE_all _ 0 fun k _ hk => k2 k (by omega))
      subst r1 r2
      unfold law_SpotExpansions_j5 xpnB
      simp (disch := omega) only [joinF_eq, bindO_some, s_wr, s_td, s_tm, s_pos, s_neg, cond_true, cond_false, Bool.not_true, Bool.not_false, Bool.true_and, Bool.and_true, Bool.false_and, Bool.and_false, bne_self_eq_false, decide_true, decide_false, Int.toNat_natCast, ne_eq, not_true_eq_false]
      rw [show (tabL p.length fun o => min (xpnG l p ns ts ns.length o) 255) = tabL p.length fun o => min 255 (xpnG l p ns ts ns.length o) from tabL_congr fun o _ _ => Int.min_comm _ _]
      rw [sameI_r hf (by rw [tabL_length]; omega)]
      rfl
  · refine .inr ?_
    have hE := firstE_at k3 ns.length 0 (by omega) (by omega) fun k _ hk => k2 k hk
    obtain ⟨r1, r2⟩ := h1 (by rw [hE]; exact k3)
    rw [hE] at r2
    subst r1 r2
    unfold law_SpotExpansions_l4 law_SpotExpansions_j5
    by_cases c : (i : Int) + 1 < ns.length
    · simp (disch := omega) only [joinF_eq, bindO_some, s_wr, s_td, s_tm, s_pos, s_neg, cond_true, cond_false, Bool.not_true, Bool.not_false, Bool.true_and, Bool.and_true, Bool.false_and, Bool.and_false, bne_self_eq_false, decide_true, decide_false, Int.toNat_natCast, none_s]
      rfl
    · simp (disch := omega) only [joinF_eq, bindO_some, s_wr, s_td, s_tm, s_pos, s_neg, cond_true, cond_false, Bool.not_true, Bool.not_false, Bool.true_and, Bool.and_true, Bool.false_and, Bool.and_false, bne_self_eq_false, decide_true, decide_false, Int.toNat_natCast, none_s]
      rfl
end
section
variable {fu : Nat} (hf : 18446744073709551616 ≤ fu)
include hf
theorem spotExpansions_r (hW : law_spotWorks_r fu () = some (true, ())) {l : List SpotT} (hl : AllS l) {p ts : List Int} {ns : List (List UInt8)} (hp : p.length * 8 ≤ 140737488351232) (hn : (ns.length : Int) ≤ 9223372036854775807) (hts : (ts.length : Int) ≤ 9223372036854775807) : law_SpotExpansions_r fu (l, (p, (ns, (ts, ())))) = some (true, ()) := by
  have hl1 := hl.1
  have hE : ∀ e, e ≠ 0 → law_SpotExpansions_j3 fu (l, (p, (ns, (ts, ())))) [] e e = some (true, ()) := by
    intro e he
    unfold law_SpotExpansions_j3
    simp (disch := omega) only [joinF_eq, bindO_some, s_wr, s_td, s_tm, s_pos, s_neg, cond_true, cond_false, Bool.not_true, Bool.not_false, Bool.true_and, Bool.and_true, Bool.false_and, Bool.and_false, bne_self_eq_false, decide_true, decide_false, Int.toNat_natCast, List.length_nil, List.nil_append]
    refine postLoop (f := law_SpotExpansions_l4 fu (l, (p, (ns, (ts, ())))) [] e) (fun _ => 0) (fun x => x = (e, (0, p))) (fun r => r = some (true, ())) ?_ fu _ rfl (by omega)
    rintro j _ rfl
    refine .inr ?_
    unfold law_SpotExpansions_l4 law_SpotExpansions_j5
    by_cases c : (0 : Int) < ns.length
    · simp (disch := omega) only [joinF_eq, bindO_some, s_wr, s_td, s_tm, s_pos, s_neg, cond_true, cond_false, Bool.not_true, Bool.not_false, Bool.true_and, Bool.and_true, Bool.false_and, Bool.and_false, bne_self_eq_false, decide_true, decide_false, Int.toNat_natCast, none_s]
      rfl
    · simp (disch := omega) only [joinF_eq, bindO_some, s_wr, s_td, s_tm, s_pos, s_neg, cond_true, cond_false, Bool.not_true, Bool.not_false, Bool.true_and, Bool.and_true, Bool.false_and, Bool.and_false, bne_self_eq_false, decide_true, decide_false, Int.toNat_natCast, none_s]
      rfl
  unfold law_SpotExpansions_r spot_Expand_r
  simp (disch := omega) only [joinF_eq, bindO_some, s_wr, s_td, s_tm, s_pos, s_neg, cond_true, cond_false, Bool.not_true, Bool.not_false, Bool.true_and, Bool.and_true, Bool.false_and, Bool.and_false, bne_self_eq_false, decide_true, decide_false, Int.toNat_natCast, hW, libCheck_r hf hl, libErr_r hf hl]
  by_cases el : libE l = 0
  · obtain ⟨l40, hg⟩ := libE_ok el
    simp (disch := omega) only [joinF_eq, bindO_some, s_wr, s_td, s_tm, s_pos, s_neg, cond_true, cond_false, Bool.not_true, Bool.not_false, Bool.true_and, Bool.and_true, Bool.false_and, Bool.and_false, bne_self_eq_false, decide_true, decide_false, Int.toNat_natCast, libErr_r hf hl]
    by_cases c8 : p.length ≤ 8 ∧ ns.length ≤ 8
    · obtain ⟨p8, n8⟩ := c8
      unfold spot_Expand_j1 law_SpotExpansions_j8 law_SpotExpansions_j1 law_SpotExpansions_j2
      simp (disch := omega) only [joinF_eq, bindO_some, s_wr, s_td, s_tm, s_pos, s_neg, cond_true, cond_false, Bool.not_true, Bool.not_false, Bool.true_and, Bool.and_true, Bool.false_and, Bool.and_false, bne_self_eq_false, decide_true, decide_false, Int.toNat_natCast, libErr_r hf hl, tones_r hf, tonesErr_r hf]
      by_cases ep : tonesE p p.length 255 = 0
      · simp (disch := omega) only [joinF_eq, bindO_some, s_wr, s_td, s_tm, s_pos, s_neg, cond_true, cond_false, Bool.not_true, Bool.not_false, Bool.true_and, Bool.and_true, Bool.false_and, Bool.and_false, bne_self_eq_false, decide_true, decide_false, Int.toNat_natCast, libErr_r hf hl, tones_r hf, tonesErr_r hf]
        by_cases et : tonesE ts ns.length 255 = 0
        · obtain ⟨q1, q2⟩ := tonesE_ok ep
          obtain ⟨q3, q4⟩ := tonesE_ok et
          simp (disch := omega) only [joinF_eq, bindO_some, s_wr, s_td, s_tm, s_pos, s_neg, cond_true, cond_false, Bool.not_true, Bool.not_false, Bool.true_and, Bool.and_true, Bool.false_and, Bool.and_false, bne_self_eq_false, decide_true, decide_false, Int.toNat_natCast, libErr_r hf hl, tones_r hf, tonesErr_r hf, expand_r hf hg l40 p8 n8 q2 q3 q4]
          rw [et]
          unfold law_SpotExpansions_j3
          by_cases z : firstE (xpnE l p ns) ns.length 0 = 0
          · rw [if_pos z]
            simp (disch := omega) only [joinF_eq, bindO_some, s_wr, s_td, s_tm, s_pos, s_neg, cond_true, cond_false, Bool.not_true, Bool.not_false, Bool.true_and, Bool.and_true, Bool.false_and, Bool.and_false, bne_self_eq_false, decide_true, decide_false, Int.toNat_natCast, libErr_r hf hl, tonesErr_r hf, List.length_nil, List.nil_append]
            exact expLaw hf hg l40 p8 n8 q2 q3 q4 (fun _ => ⟨rfl, rfl⟩) (fun h => absurd z h)
          · rw [if_neg z]
            simp (disch := omega) only [joinF_eq, bindO_some, s_wr, s_td, s_tm, s_pos, s_neg, cond_true, cond_false, Bool.not_true, Bool.not_false, Bool.true_and, Bool.and_true, Bool.false_and, Bool.and_false, bne_self_eq_false, decide_true, decide_false, Int.toNat_natCast, libErr_r hf hl, tonesErr_r hf, List.length_nil, List.nil_append]
            exact expLaw hf hg l40 p8 n8 q2 q3 q4 (fun h => absurd h z) (fun _ => ⟨rfl, rfl⟩)
        · simp (disch := omega) only [joinF_eq, bindO_some, s_wr, s_td, s_tm, s_pos, s_neg, cond_true, cond_false, Bool.not_true, Bool.not_false, Bool.true_and, Bool.and_true, Bool.false_and, Bool.and_false, bne_self_eq_false, decide_true, decide_false, Int.toNat_natCast, libErr_r hf hl, tones_r hf, tonesErr_r hf]
          exact hE _ et
      · simp (disch := omega) only [joinF_eq, bindO_some, s_wr, s_td, s_tm, s_pos, s_neg, cond_true, cond_false, Bool.not_true, Bool.not_false, Bool.true_and, Bool.and_true, Bool.false_and, Bool.and_false, bne_self_eq_false, decide_true, decide_false, Int.toNat_natCast, libErr_r hf hl, tones_r hf, tonesErr_r hf]
        exact hE _ ep
    · unfold spot_Expand_j1 law_SpotExpansions_j8 law_SpotExpansions_j1 law_SpotExpansions_j2
      by_cases c1 : 8 < p.length
      · simp (disch := omega) only [joinF_eq, bindO_some, s_wr, s_td, s_tm, s_pos, s_neg, cond_true, cond_false, Bool.not_true, Bool.not_false, Bool.true_and, Bool.and_true, Bool.false_and, Bool.and_false, bne_self_eq_false, decide_true, decide_false, Int.toNat_natCast, libErr_r hf hl]
        exact hE 2 (by decide)
      · simp (disch := omega) only [joinF_eq, bindO_some, s_wr, s_td, s_tm, s_pos, s_neg, cond_true, cond_false, Bool.not_true, Bool.not_false, Bool.true_and, Bool.and_true, Bool.false_and, Bool.and_false, bne_self_eq_false, decide_true, decide_false, Int.toNat_natCast, libErr_r hf hl]
        exact hE 2 (by decide)
  · unfold law_SpotExpansions_j8 law_SpotExpansions_j1 law_SpotExpansions_j2
    simp (disch := omega) only [joinF_eq, bindO_some, s_wr, s_td, s_tm, s_pos, s_neg, cond_true, cond_false, Bool.not_true, Bool.not_false, Bool.true_and, Bool.and_true, Bool.false_and, Bool.and_false, bne_self_eq_false, decide_true, decide_false, Int.toNat_natCast, libErr_r hf hl]
    exact hE _ el
end
end Go.Proofs.Ytdfocbeejgcglaa
/- Arguments opened, with the sizes of those that are slices. -/
set_option maxRecDepth 100000
namespace Go.Proofs.Ytdfocbeejgcglaa
open Go Go.RowKit Go.ChangeShapes Go.WideShapes Go.ChangeAt Go.Deep
set_option linter.unusedSimpArgs false
set_option linter.unusedSectionVars false
set_option linter.unusedVariables false
def Ty.len : (a : Ty) → a.den → Nat
  | .list _, xs => List.length xs
  | _, _ => 0
/-- each argument that is a slice fits into the memory -/
def Ty.fit (P : Program) : List TypeId → (σ : Ty) → σ.den → Prop
  | tid :: l, .pair a b, x => (∀ e, P.underlying tid = some (.slice e) → a.len x.1 * P.bytesOf e ≤ reachBytes) ∧ Ty.fit P l b x.2
  | _, _, _ => True
section
variable {H : Type} {enc : TypeId × Value → H} {P : Program} {w : World} {base : Nat} {spare : Nat → Bool} {held : Bool}
theorem trod_len {tid e : TypeId} {A : Option Addr} {n c : Nat} {d : DataW H} {p : List MemPlace} (hu : P.underlying tid = some (.slice e)) (hd : DataW.Trod enc P w base spare held tid (.slice A n c) d p)
    (hs : ∀ elems rest, d = .slice elems rest → (elems.length + rest.length) * P.bytesOf e ≤ reachBytes) : n * P.bytesOf e ≤ reachBytes := by
  obtain ⟨k, hd⟩ := hd
  have hd : DataW.trod enc P w base spare held k tid [.slice A n c] = some (d, p) := hd
  rcases open_slice hu hd with ⟨h0, _⟩ | ⟨a, len, cap, m, n', D, Pl, hcs, _, hl, hm, hmm, hx, hi⟩
  · simp only [List.cons.injEq, and_true, Value.slice.injEq] at h0
    rw [h0.2.1, Nat.zero_mul]
    exact Nat.zero_le _
  · simp only [List.cons.injEq, and_true, Value.slice.injEq] at hcs
    rw [Prod.mk.injEq] at hx
    have := hs _ _ hx.1
    rw [List.length_map, List.length_range, List.length_map, List.length_range] at this
    rw [hcs.2.1]
    exact Nat.le_trans (Nat.mul_le_mul_right _ (Nat.le_add_right _ _)) this
theorem arg_fit {tid e : TypeId} {v : Value} {d : DataW H} {p : List MemPlace} {G : Gh} (hu : P.underlying tid = some (.slice e)) (hd : DataW.Trod enc P w base spare held tid v d p)
    (hs : ∀ elems rest, d = .slice elems rest → (elems.length + rest.length) * P.bytesOf e ≤ reachBytes) : ∀ {a : Ty} (x : a.den), RelV w G (a.av false x) v → a.len x * P.bytesOf e ≤ reachBytes
  | .list t, x, h => by
    rw [Ty.av] at h
    cases h with
    | dat h =>
      cases h with
      | ro fr sz rows A c f hc hm h0 h1 h2 =>
        rw [List.length_map] at hd
        exact trod_len hu hd hs
  | .int _, _, _ => by show 0 * _ ≤ _; rw [Nat.zero_mul]; exact Nat.zero_le _
  | .bool, _, _ => by show 0 * _ ≤ _; rw [Nat.zero_mul]; exact Nat.zero_le _
  | .str, _, _ => by show 0 * _ ≤ _; rw [Nat.zero_mul]; exact Nat.zero_le _
  | .agg _, _, _ => by show 0 * _ ≤ _; rw [Nat.zero_mul]; exact Nat.zero_le _
  | .ptr _, _, _ => by show 0 * _ ≤ _; rw [Nat.zero_mul]; exact Nat.zero_le _
  | .unit, _, _ => by show 0 * _ ≤ _; rw [Nat.zero_mul]; exact Nat.zero_le _
  | .pair _ _, _, _ => by show 0 * _ ≤ _; rw [Nat.zero_mul]; exact Nat.zero_le _
theorem args_tyS {b : Nat} : ∀ {ts : List TypeId} {σ : Ty} {vs : List Value} {ds : List (DataW H)} {ps : List MemPlace}, argsB P ts σ = true → (∀ (j : Nat) t v, ts[j]? = some t → vs[j]? = some v → Value.okWide P w .any b t v) → DataW.TrodAll enc P w base spare held ts vs ds ps →
    (∀ (j : Nat) (t e : TypeId) (elems rest : List (DataW H)), ts[j]? = some t → ds[j]? = some (.slice elems rest) → P.underlying t = some (.slice e) → (elems.length + rest.length) * P.bytesOf e ≤ reachBytes) → ∃ x : σ.den, σ.wf x ∧ Ty.fit P ts σ x ∧ RelsV w (Gh.none w.heap.size) (σ.avs false x) vs
  | [], σ, vs, ds, ps, h, _, hA, _ => by
    obtain ⟨rfl, rfl, rfl⟩ := trodAll_nil hA
    have e := unB_ok h
    subst e
    exact ⟨(), trivial, trivial, .nil⟩
  | tid :: l, σ, vs, ds, ps, h, hv, hA, hs => by
    obtain ⟨v, vs, d, ds, p, q, rfl, rfl, rfl, h0, r0⟩ := trodAll_cons hA
    obtain ⟨a, c, rfl, h'⟩ := prB_ok h
    clear h
    have h := h'
    clear h'
    rw [Bool.and_eq_true] at h
    obtain ⟨x, x1, x2⟩ := arg_ty h.1 (hv 0 tid v rfl rfl) h0
    obtain ⟨y, y1, y2, y3⟩ := args_tyS h.2 (fun j t u ht hu => hv (j + 1) t u (by simpa using ht) (by simpa using hu)) r0 (fun j t e elems rest ht hd hu => hs (j + 1) t e elems rest (by simpa using ht) (by simpa using hd) hu)
    exact ⟨(x, y), ⟨x1, y1⟩, ⟨fun e he => arg_fit he h0 (fun elems rest hd => hs 0 tid e elems rest rfl (by rw [hd]; rfl) he) x x2, y2⟩, by rw [Ty.avs]; exact .cons x2 y3⟩
end
/-- a law whose residual program answers true at all data that fit into the memory -/
theorem law_anyS {H : Type} {enc : TypeId × Value → H} {F : Nat} {ts : List TypeId} {σ : Ty} {f : Nat → σ.den → Option (Bool × Unit)} {nm : Nat} (hc : CtrOk Try.prog F ⟨σ, .pair .bool .unit, f, nm⟩) (hB : argsB Try.prog ts σ = true) (hp : ∀ x : σ.den, σ.wf x → Ty.fit Try.prog ts σ x → f FU x = some (true, ())) {W : World} {b : Nat} {args : List Value} {ds : List (DataW H)} {ps : List MemPlace}
    (hv : ∀ (j : Nat) t v, ts[j]? = some t → args[j]? = some v → Value.okWide Try.prog W .any b t v) (hA : DataW.TrodAll enc Try.prog W 0 (fun _ => true) true ts args ds ps) (hsz : (DataW.weightsEach Try.prog ts ds).all (· ≤ reachBytes) = true) :
    Calls Try.prog F args.toArray W fun e W' => e = .returned (.bool true) ∧ Below W.heap.size W W' := by
  obtain ⟨x, hx, hf, hr⟩ := args_tyS hB hv hA (fun j t e elems rest ht hd hu => sized_slice (P := Try.prog) (ts := ts) (ds := ds) hsz ht hd hu)
  exact AF.yes (hc FU x (true, ()) (hp x hx hf)) hr.args
end Go.Proofs.Ytdfocbeejgcglaa
/- SpotExpansions: for every input this law returns true and leaves its arguments as they were. -/
namespace Go.Proofs.Ytdfocbeejgcglaa
open Go.ChangeShapes Go.WideShapes Go.ChangeAt Go.RowKit

set_option maxRecDepth 100000 in
theorem spotExpansions_lifted (os : Os) (started : os.Started) (H : Type) (enc : TypeId × Value → H) :
    ReturnsInHanded {} Try.checked os 7 .any (Rows.spotExpansionsSpec.pre6 enc Try.prog Try.f7 Rows.spotExpansionsRow.domain false) (Rows.spotExpansionsSpec.post enc Try.prog Try.f7 false true false false) := by
  refine law_lifted started (by kernel_rfl) Try.func7
    (ChangeSpec.witness6 (enc := enc) (C := Try.checked) false ⟨#[], #[.slice none 0 0, .slice none 0 0, .slice none 0 0, .slice none 0 0], []⟩ 8 (by kernel_rfl) (by kernel_rfl) (by kernel_rfl) (by kernel_rfl)) rfl rfl (by kernel_rfl)
    (fun ds h => by rw [Try.params7] at h; match ds, h with | [_, _, _, _], _ => rfl) ?_
  intro W base args ds ps hval hA hsz hlt
  rw [Try.params7] at hA hval hsz
  exact law_anyS law_SpotExpansions_ok (by kernel_rfl) (fun x hx hfit => spotExpansions_r fu_le spotWorks_true (allS_of hx.1.1 fun s hs => (hx.1.2 s hs).2.2.2.2.1) (by have h := hfit.2.1 _ Try.underlying54; rw [show Try.prog.bytesOf 3 = 8 from by kernel_rfl] at h; exact h) (wf_len hx.2.2.1.1) (wf_len hx.2.2.2.1.1)) (fun j t v ht hv => hval j t v (by simpa using ht) hv) hA hsz

theorem spotExpansions_holds : Rows.SpotExpansionsSaid :=
  OpenClaim.holds_of_wide 7 Try.f7 rfl rfl rfl rfl rfl rfl rfl ⟨rfl, rfl, rfl, rfl, rfl⟩ rfl rfl rfl rfl rfl (by kernel_rfl) Try.func7 (by kernel_rfl)
    (of_decide_eq_true (by kernel_rfl)) (by unfold Func.isWrapper; first | (rw [if_pos (by decide +kernel)]; kernel_rfl) | (rw [if_neg (by decide +kernel)]; exact ⟨rfl, rfl⟩))
    (fun os started H enc _ => spotExpansions_lifted os started H enc)
end Go.Proofs.Ytdfocbeejgcglaa
