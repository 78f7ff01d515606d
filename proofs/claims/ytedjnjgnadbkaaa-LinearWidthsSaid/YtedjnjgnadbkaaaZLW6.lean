/- LinearWidths: for every input this law returns true and leaves its arguments as they were. -/
import Derived.Test.YtedjnjgnadbkaaaZLW5
import Derived.Test.YtedjnjgnadbkaaaRows
import Derived.WalkKit
import Derived.ProofKit
import Derived.SizedLaws
import Derived.BigQuiet
import Derived.Deep.QuietTactic
import Derived.Deep.Slices
import Derived.OpenShut
/- Bar codes: the picture of the bars. -/
set_option maxRecDepth 100000
namespace Go.Proofs.Ytedjnjgnadbkaaa
open Go Go.RowKit
set_option linter.unusedSimpArgs false
set_option linter.unusedSectionVars false
set_option linter.unusedVariables false
/-- the sum of the first widths -/
def ps (w : List Int) (k : Nat) : Int := (w.take k).sum
theorem ps_succ {w : List Int} {k : Nat} (h : k < w.length) : ps w (k + 1) = ps w k + w.getD k 0 := by
  unfold ps
  rw [take_snoc h, List.sum_append]; simp
/-- widths of bars -/
structure okB (w : List Int) : Prop where
  len : w.length ≤ 85
  bd : ∀ x ∈ w, 0 ≤ x ∧ x ≤ 4
theorem okB.at {w : List Int} (h : okB w) {i : Nat} (hi : i < w.length) : 0 ≤ w.getD i 0 ∧ w.getD i 0 ≤ 4 := h.bd _ (getD_mem hi)
theorem ps_bd {w : List Int} (h : okB w) : ∀ k, k ≤ w.length → 0 ≤ ps w k ∧ ps w k ≤ 4 * k
  | 0, _ => by simp [ps]
  | k + 1, hk => by
    have ih := ps_bd h k (by omega)
    have := h.at (i := k) (by omega)
    rw [ps_succ (by omega)]
    omega
theorem ps_mono {w : List Int} (h : okB w) {k : Nat} : ∀ l, k + l ≤ w.length → ps w k ≤ ps w (k + l)
  | 0, _ => Int.le_refl _
  | l + 1, hl => by
    have ih := ps_mono h (k := k) l (by omega)
    have := h.at (i := k + l) (by omega)
    rw [← Nat.add_assoc, ps_succ (by omega)]
    omega
theorem mul_sc {n sc a : Int} (h0 : 0 ≤ n) (h1 : n ≤ a) (s0 : 1 ≤ sc) (s1 : sc ≤ 8) (ha : 0 ≤ a) : n ≤ n * sc ∧ n * sc ≤ a * 8 :=
  ⟨by have := Int.mul_le_mul_of_nonneg_left s0 h0; omega, Int.mul_le_mul h1 s1 (by omega) ha⟩
/-- a row of pixels: bars and spaces in turn -/
def rowL (sc : Int) : List Int → Nat → List Bool
  | [], _ => []
  | n :: l, k => List.replicate (n * sc).toNat (decide ((k : Int) % 2 = 0)) ++ rowL sc l (k + 1)
theorem rowL_append (sc : Int) : ∀ (l m : List Int) (k : Nat), rowL sc (l ++ m) k = rowL sc l k ++ rowL sc m (k + l.length)
  | [], m, k => rfl
  | n :: l, m, k => by
    rw [List.cons_append, rowL, rowL, rowL_append sc l m (k + 1), List.append_assoc, List.length_cons, show k + 1 + l.length = k + (l.length + 1) by omega]
def rowP (sc : Int) (w : List Int) (k : Nat) : List Bool := rowL sc (w.take k) 0
theorem rowP_succ {sc : Int} {w : List Int} {k : Nat} (h : k < w.length) : rowP sc w (k + 1) = rowP sc w k ++ List.replicate (w.getD k 0 * sc).toNat (decide ((k : Int) % 2 = 0)) := by
  unfold rowP
  rw [take_snoc h, rowL_append, List.length_take, Nat.min_eq_left (by omega), Nat.zero_add, rowL, rowL, List.append_nil]
section
variable {sc : Int} (s0 : 1 ≤ sc) (s1 : sc ≤ 8) {w : List Int} (hw : okB w)
include s0 s1 hw
theorem rowP_len : ∀ k, k ≤ w.length → ((rowP sc w k).length : Int) = ps w k * sc
  | 0, _ => by simp [rowP, rowL, ps]
  | k + 1, hk => by
    have := hw.at (i := k) (by omega)
    have hm := mul_sc this.1 this.2 s0 s1 (by omega)
    rw [rowP_succ (by omega), List.length_append, List.length_replicate, ps_succ (by omega), Int.add_mul, Int.natCast_add, rowP_len k (by omega), Int.toNat_of_nonneg (by omega)]
theorem rowP_full {k : Nat} (hk : k ≤ w.length) : ∃ r, rowP sc w w.length = rowP sc w k ++ r := by
  refine ⟨rowL sc (w.drop k) k, ?_⟩
  unfold rowP
  have e : w.take w.length = w.take k ++ w.drop k := by rw [List.take_length, List.take_append_drop]
  rw [e, rowL_append, List.length_take, Nat.min_eq_left hk, Nat.zero_add]
theorem row_at {i : Nat} (hi : i < w.length) {a : Int} (h0 : ps w i * sc ≤ a) (h1 : a < ps w (i + 1) * sc) : (rowP sc w w.length).getD a.toNat false = decide ((i : Int) % 2 = 0) := by
  obtain ⟨r, hr⟩ := rowP_full s0 s1 hw (k := i + 1) (by omega)
  have l0 := rowP_len s0 s1 hw i (by omega)
  have l1 := rowP_len s0 s1 hw (i + 1) (by omega)
  have b := ps_bd hw i (by omega)
  have b2 := mul_sc b.1 b.2 s0 s1 (by omega)
  rw [hr, List.getD_eq_getElem?_getD, List.getElem?_append_left (by omega), rowP_succ hi, List.getElem?_append_right (by omega), List.getElem?_replicate]
  rw [rowP_succ hi, List.length_append, List.length_replicate] at l1
  rw [if_pos (by omega), Option.getD_some]
end
/-- the picture -/
def barP (sc : Int) (w : List Int) (x : Int) : Bool := (rowP sc w w.length).getD x.toNat false
section
variable {fu : Nat} (hf : 18446744073709551616 ≤ fu)
include hf
theorem totalW_s {w : List Int} (hw : okB w) : R_Total_r fu (w, ()) = some (ps w w.length, ()) := by
  unfold R_Total_r
  have hl := hw.len
  refine stL3 (n := w.length) (by omega) (st := fun i : Nat => (ps w i, (i : Int))) rfl (fun j i hi => ?_) (fun j => ?_)
  · unfold R_Total_l1
    have := ps_bd hw i (by omega)
    have := hw.at hi
    simp (disch := omega) only [joinF_eq, bindO_some, s_wr, s_td, s_tm, s_pos, s_neg, cond_true, cond_false, Bool.not_true, Bool.not_false, Bool.true_and, Bool.and_true, Bool.false_and, Bool.and_false, bne_self_eq_false, decide_true, decide_false, Int.toNat_natCast]
    rw [ps_succ hi]
    rfl
  · unfold R_Total_l1
    have := ps_bd hw w.length (by omega)
    simp (disch := omega) only [joinF_eq, bindO_some, s_wr, s_td, s_tm, s_pos, s_neg, cond_true, cond_false, Bool.not_true, Bool.not_false, Bool.true_and, Bool.and_true, Bool.false_and, Bool.and_false, bne_self_eq_false, decide_true, decide_false, Int.toNat_natCast]
/-- one column of the picture -/
theorem col_s {W h x : Int} {P : Int → Int → Bool} (h0 : 1 ≤ h) (h1 : h ≤ 1024) (hx0 : 0 ≤ x) (hx1 : x < W) (hW : W ≤ 1024) {S : List UInt8} {sc i j0 : Int} (hi : 0 ≤ i) (hj : 0 ≤ j0) (hj1 : j0 ≤ 1000000) {J : Int × Int × List Int → Option ((Int × Int × List Int) × (Int × Unit))} {ds : List Int} :
    loopF (linear_Bits_l5 fu (S, (sc, (h, ()))) (W, 0) i (x, (j0, ds)) J) fu (0, canon W h P) = J (x + 1, (j0 + 1, canon W h (fun a b => P a b || (decide (a = x) && decide (i % 2 = 0))))) := by
  by_cases c : i % 2 = 0
  · refine stL3 (n := h.toNat) (by omega) (st := fun y : Nat => ((y : Int), canon W h (fun a b => P a b || (decide (a = x) && decide (b < (y : Int)))))) ?_ (fun j y hy => ?_) (fun j => ?_)
    · refine Prod.ext rfl ?_
      refine canon_congr (by omega) fun a b _ _ hb _ => ?_
      rw [decide_eq_false (show ¬ b < ((0 : Nat) : Int) by omega), Bool.and_false, Bool.or_false]
    · have key := markF_eq fu (w := W) (h := h) (x := x) (y := (y : Int)) (P := fun a b => P a b || (decide (a = x) && decide (b < (y : Int)))) (k := fun d => j ((IntKind.i64.wrap ((y : Int) + 1)), d)) hx0 hx1 hW (by omega) (by omega) h1
      unfold markF at key
      unfold linear_Bits_l5 linear_Bits_j6
      simp only [joinF_eq]
      rw [s_tm hi, bif_pos c, s_pos (show (y : Int) < h by omega), cond_true]
      refine key.trans ?_
      · rw [s_wr (by omega) (by omega)]
        congr 1
        refine Prod.ext (by simp) ?_
        refine canon_congr (by omega) fun a b _ _ hb _ => ?_
        by_cases e : a = x
        · subst e
          by_cases e2 : b < (y : Int)
          · simp [e2]; omega
          · by_cases e3 : b = (y : Int)
            · simp [e3]
              exact .inr (by omega)
            · have : ¬ b < (y : Int) + 1 := by omega
              simp [e2, e3, this]
        · simp [e]
    · unfold linear_Bits_l5 linear_Bits_j6
      simp (disch := omega) only [joinF_eq, bindO_some, s_wr, s_td, s_tm, s_pos, s_neg, cond_true, cond_false, Bool.not_true, Bool.not_false, Bool.true_and, Bool.and_true, Bool.false_and, Bool.and_false, bne_self_eq_false, decide_true, decide_false, Int.toNat_natCast]
      congr 1
      refine Prod.ext rfl (Prod.ext rfl ?_)
      refine canon_congr (by omega) fun a b _ _ hb hb1 => ?_
      rw [decide_eq_true (show b < ((h.toNat : Nat) : Int) by omega), Bool.and_true]
  · refine stL3 (n := 0) (by omega) (st := fun _ : Nat => ((0 : Int), canon W h P)) rfl (fun j y hy => absurd hy (Nat.not_lt_zero _)) (fun j => ?_)
    unfold linear_Bits_l5 linear_Bits_j6
    simp (disch := omega) only [joinF_eq, bindO_some, s_wr, s_td, s_tm, s_pos, s_neg, cond_true, cond_false, Bool.not_true, Bool.not_false, Bool.true_and, Bool.and_true, Bool.false_and, Bool.and_false, bne_self_eq_false, decide_true, decide_false, Int.toNat_natCast]
    congr 1
    refine Prod.ext rfl (Prod.ext rfl ?_)
    refine canon_congr (by omega) fun a b _ _ hb hb1 => ?_
    simp
theorem pic_s {h sc W : Int} {w : List Int} (hw : okB w) (h0 : 1 ≤ h) (h1 : h ≤ 1024) (s0 : 1 ≤ sc) (s1 : sc ≤ 8) (hW : W = ps w w.length * sc) (hW0 : 0 < W) (hW1 : W ≤ 1024) {S : List UInt8} :
    loopF (linear_Bits_l3 fu (S, (sc, (h, ()))) w (W, 0)) fu (0, (0, canon W h (fun _ _ => false))) = some ((W, (h, canon W h (fun a _ => barP sc w a))), (0, ())) := by
  have hl := hw.len
  refine stL3 (n := w.length) (by omega) (st := fun i : Nat => ((i : Int), (ps w i * sc, canon W h (fun a _ => decide (a < ps w i * sc) && barP sc w a)))) ?_ (fun j i hi => ?_) (fun j => ?_)
  · refine Prod.ext rfl (Prod.ext (by simp [ps]) ?_)
    refine canon_congr (by omega) fun a b ha _ _ _ => ?_
    rw [decide_eq_false (show ¬ a < ps w 0 * sc by simp [ps]; omega), Bool.false_and]
  · have b := hw.at hi
    have b2 := mul_sc b.1 b.2 s0 s1 (by omega)
    have c := ps_bd hw i (by omega)
    have c2 := mul_sc c.1 c.2 s0 s1 (by omega)
    have hs : ps w (i + 1) * sc = ps w i * sc + w.getD i 0 * sc := by rw [ps_succ hi, Int.add_mul]
    have hmon : ps w (i + 1) * sc ≤ W := by
      rw [hW]
      have := ps_mono hw (k := i + 1) (w.length - (i + 1)) (by omega)
      rw [show i + 1 + (w.length - (i + 1)) = w.length by omega] at this
      exact Int.mul_le_mul_of_nonneg_right this (by omega)
    unfold linear_Bits_l3
    simp (disch := omega) only [joinF_eq, bindO_some, s_wr, s_td, s_tm, s_pos, s_neg, cond_true, cond_false, Bool.not_true, Bool.not_false, Bool.true_and, Bool.and_true, Bool.false_and, Bool.and_false, bne_self_eq_false, decide_true, decide_false, Int.toNat_natCast]
    generalize hX : ps w i * sc = X at c2 hs hmon ⊢
    generalize hN : w.getD i 0 * sc = N at b2 hs ⊢
    refine stL3 (n := N.toNat) (by omega) (st := fun q : Nat => (X + (q : Int), ((q : Int), canon W h (fun a _ => decide (a < X + (q : Int)) && barP sc w a)))) ?_ (fun j2 q hq => ?_) (fun j2 => ?_)
    · refine Prod.ext (by simp) (Prod.ext rfl ?_)
      refine canon_congr (by omega) fun a b _ _ _ _ => ?_
      rw [show X + ((0 : Nat) : Int) = X by omega]
    · unfold linear_Bits_l4
      simp only [hN]
      rw [s_wr (by omega) (by omega), s_pos (show (q : Int) < N by omega), cond_true]
      refine (col_s hf h0 h1 (x := X + (q : Int)) (by omega) (by omega) hW1 (by omega) (by omega) (by omega)).trans ?_
      congr 1
      refine Prod.ext (by simp only; omega) (Prod.ext (by simp) ?_)
      refine canon_congr (by omega) fun a b ha _ _ _ => ?_
      by_cases e : a = X + (q : Int)
      · have hr := row_at s0 s1 hw hi (a := a) (by omega) (by omega)
        have : barP sc w a = decide ((i : Int) % 2 = 0) := hr
        rw [decide_eq_false (show ¬ a < X + (q : Int) by omega), decide_eq_true e, decide_eq_true (show a < X + ((q + 1 : Nat) : Int) by omega), this]
        simp
      · by_cases e2 : a < X + (q : Int)
        · rw [decide_eq_true e2, decide_eq_true (show a < X + ((q + 1 : Nat) : Int) by omega), decide_eq_false e]; simp
        · rw [decide_eq_false e2, decide_eq_false (show ¬ a < X + ((q + 1 : Nat) : Int) by omega), decide_eq_false e]; simp
    · unfold linear_Bits_l4
      simp only [hN]
      rw [s_wr (x := N) (by omega) (by omega), s_neg (show ¬ ((N.toNat : Nat) : Int) < N by omega), cond_false, s_wr (by omega) (by omega)]
      congr 1
      refine Prod.ext (by simp) (Prod.ext (by simp only; omega) ?_)
      refine canon_congr (by omega) fun a b ha _ _ _ => ?_
      rw [show X + ((N.toNat : Nat) : Int) = ps w (i + 1) * sc by omega]
  · unfold linear_Bits_l3
    simp (disch := omega) only [joinF_eq, bindO_some, s_wr, s_td, s_tm, s_pos, s_neg, cond_true, cond_false, Bool.not_true, Bool.not_false, Bool.true_and, Bool.and_true, Bool.false_and, Bool.and_false, bne_self_eq_false, decide_true, decide_false, Int.toNat_natCast]
    congr 4
    refine canon_congr (by omega) fun a b ha hb _ _ => ?_
    rw [← hW, decide_eq_true hb, Bool.true_and]
end
end Go.Proofs.Ytedjnjgnadbkaaa
/- Bar codes: reading, by the program and by the reference. -/
set_option maxRecDepth 100000
namespace Go.Proofs.Ytedjnjgnadbkaaa
open Go Go.RowKit
set_option linter.unusedSimpArgs false
set_option linter.unusedSectionVars false
set_option linter.unusedVariables false

theorem getD_drop (l : List Int) (k i : Nat) : (l.drop k).getD i 0 = l.getD (k + i) 0 := by
  rw [List.getD_eq_getElem?_getD, List.getElem?_drop, ← List.getD_eq_getElem?_getD]
/-- widths that may be read -/
structure WOk (w : List Int) (m : Nat) : Prop where
  len : w.length = 6 * m + 1
  m0 : 4 ≤ m
  m1 : m ≤ 14
  bd : ∀ i, i < w.length → 1 ≤ w.getD i 0 ∧ w.getD i 0 ≤ 1024
section
variable {w : List Int} {m : Nat} (hw : WOk w m)
include hw
theorem WOk.part {i : Nat} (hi : i < m) : okW (w.drop (6 * i)) := by
  have h1 := hw.len
  refine ⟨by rw [List.length_drop]; omega, fun k hk => ?_⟩
  rw [List.length_drop] at hk
  rw [getD_drop]
  exact hw.bd _ (by omega)
end
section
variable {w : List Int} {m : Nat} (hw : WOk w m)
include hw
end
end Go.Proofs.Ytedjnjgnadbkaaa
/- Bar codes: the law. -/
set_option maxRecDepth 100000
namespace Go.Proofs.Ytedjnjgnadbkaaa
open Go Go.RowKit
set_option linter.unusedSimpArgs false
set_option linter.unusedSectionVars false
set_option linter.unusedVariables false

theorem linearWorks_s : law_linearWorks_r FU () = some (true, ()) := by kernel_rfl
end Go.Proofs.Ytedjnjgnadbkaaa
/- Bar codes: Bits, and what the law LinearWidths computes. -/
set_option maxRecDepth 100000
namespace Go.Proofs.Ytedjnjgnadbkaaa
open Go Go.RowKit
set_option linter.unusedSimpArgs false
set_option linter.unusedSectionVars false
set_option linter.unusedVariables false
theorem barsS_ok {T : List (List Int)} {Q : List (Int × (Int × (Int × (Int × (Int × Int)))))} (hT : okPQ T Q) {s : List UInt8} (h : okD s) : okB (barsS T s) := ⟨barsS_len hT h, barsS_mem hT h⟩
theorem sum_nn : ∀ {l : List Int}, (∀ x ∈ l, 0 ≤ x ∧ x ≤ 4) → 0 ≤ l.sum
  | [], _ => Int.le_refl _
  | x :: l, h => by
    have h1 := h x (List.mem_cons_self ..)
    have h2 := sum_nn (l := l) fun y hy => h y (List.mem_cons_of_mem _ hy)
    rw [List.sum_cons]; omega
theorem barsS_pos {T : List (List Int)} {Q : List (Int × (Int × (Int × (Int × (Int × Int)))))} (hT : okPQ T Q) {s : List UInt8} (h : okD s) : 2 ≤ ps (barsS T s) (barsS T s).length := by
  have hm := barsS_mem hT h
  unfold ps
  rw [List.take_length]
  unfold barsS at hm ⊢
  rw [List.sum_append]
  have := sum_nn (l := T.getD 101 [] ++ barsL T (allV s ++ [102])) fun x hx => hm x (List.mem_append_left _ hx)
  have e : ([2] : List Int).sum = 2 := rfl
  omega
/-- the scale and the height are in their bounds -/
def okSH (sc h : Int) : Prop := 1 ≤ sc ∧ sc ≤ 8 ∧ 1 ≤ h ∧ h ≤ 1024
instance (sc h : Int) : Decidable (okSH sc h) := by unfold okSH; infer_instance
def wideS (T : List (List Int)) (s : List UInt8) (sc : Int) : Int := ps (barsS T s) (barsS T s).length * sc
def bitsV (T : List (List Int)) (s : List UInt8) (sc h : Int) : (Int × Int × List Int) × (Int × Unit) :=
  if wantW s ≠ 0 then ((0, (0, [])), (wantW s, ())) else if ¬ okSH sc h then ((0, (0, [])), (3, ())) else if 1024 < wideS T s sc then ((0, (0, [])), (19, ()))
  else ((wideS T s sc, (h, canon (wideS T s sc) h (fun a _ => barP sc (barsS T s) a))), (0, ()))
section
variable {fu : Nat} (hf : 18446744073709551616 ≤ fu) (hS : ∀ {l : List Int}, okV l → linear_sum_r fu (l, ()) = some (sumW l l.length % 101, ()))
  {T : List (List Int)} {Q : List (Int × (Int × (Int × (Int × (Int × Int)))))} (hT : okPQ T Q) (hQ : linear_patterns_r fu () = some (Q, ()))
include hf hS hT hQ
theorem bits_s (s : List UInt8) (sc h : Int) : linear_Bits_r fu (s, (sc, (h, ()))) = some (bitsV T s sc h) := by
  unfold linear_Bits_r
  simp only []
  rw [enc_s hf hS hT hQ]
  by_cases c0 : wantW s = 0
  · have hd := wantW_ok c0
    have hw := barsS_ok hT hd
    have hl := hw.len
    rw [if_pos c0]
    simp (disch := omega) only [joinF_eq, bindO_some, s_wr, s_td, s_tm, s_pos, s_neg, cond_true, cond_false, Bool.not_true, Bool.not_false, Bool.true_and, Bool.and_true, Bool.false_and, Bool.and_false, bne_self_eq_false, decide_true, decide_false, Int.toNat_natCast]
    by_cases c1 : okSH sc h
    · have c1' := c1
      unfold okSH at c1'
      unfold linear_Bits_j1
      simp (disch := omega) only [joinF_eq, bindO_some, s_wr, s_td, s_tm, s_pos, s_neg, cond_true, cond_false, Bool.not_true, Bool.not_false, Bool.true_and, Bool.and_true, Bool.false_and, Bool.and_false, bne_self_eq_false, decide_true, decide_false, Int.toNat_natCast]
      refine stL3 (n := (barsS T s).length) (by omega) (st := fun i : Nat => (ps (barsS T s) i * sc, (i : Int))) (by simp [ps]) (fun j i hi => ?_) (fun j => ?_)
      · unfold linear_Bits_l2
        have b := hw.at hi
        have b2 := mul_sc b.1 b.2 c1'.1 c1'.2.1 (by omega)
        have c := ps_bd hw i (by omega)
        have c2 := mul_sc c.1 c.2 c1'.1 c1'.2.1 (by omega)
        simp (disch := omega) only [joinF_eq, bindO_some, s_wr, s_td, s_tm, s_pos, s_neg, cond_true, cond_false, Bool.not_true, Bool.not_false, Bool.true_and, Bool.and_true, Bool.false_and, Bool.and_false, bne_self_eq_false, decide_true, decide_false, Int.toNat_natCast]
        rw [ps_succ hi, Int.add_mul]
        rfl
      · unfold linear_Bits_l2
        have c := ps_bd hw (barsS T s).length (by omega)
        have c2 := mul_sc c.1 c.2 c1'.1 c1'.2.1 (by omega)
        have hp := barsS_pos hT hd
        simp (disch := omega) only [joinF_eq, bindO_some, s_wr, s_td, s_tm, s_pos, s_neg, cond_true, cond_false, Bool.not_true, Bool.not_false, Bool.true_and, Bool.and_true, Bool.false_and, Bool.and_false, bne_self_eq_false, decide_true, decide_false, Int.toNat_natCast]
        by_cases c3 : 1024 < wideS T s sc
        · have hv : bitsV T s sc h = ((0, (0, [])), (19, ())) := by
            unfold bitsV
            rw [if_neg (by omega), if_neg (by simp [c1]), if_pos c3]
          rw [hv]
          unfold wideS at c3
          simp (disch := omega) only [joinF_eq, bindO_some, s_wr, s_td, s_tm, s_pos, s_neg, cond_true, cond_false, Bool.not_true, Bool.not_false, Bool.true_and, Bool.and_true, Bool.false_and, Bool.and_false, bne_self_eq_false, decide_true, decide_false, Int.toNat_natCast]
        · have hv : bitsV T s sc h = ((wideS T s sc, (h, canon (wideS T s sc) h (fun a _ => barP sc (barsS T s) a))), (0, ())) := by
            unfold bitsV
            rw [if_neg (by omega), if_neg (by simp [c1]), if_neg c3]
          rw [hv]
          have hW : wideS T s sc = ps (barsS T s) (barsS T s).length * sc := rfl
          rw [← hW] at c2 ⊢
          obtain ⟨e1, e2, e3, e4⟩ := strd_bd (w := wideS T s sc) (h := h) (by omega) (by omega) (by omega) (by omega)
          simp (disch := omega) only [joinF_eq, bindO_some, s_wr, s_td, s_tm, s_pos, s_neg, cond_true, cond_false, Bool.not_true, Bool.not_false, Bool.true_and, Bool.and_true, Bool.false_and, Bool.and_false, bne_self_eq_false, decide_true, decide_false, Int.toNat_natCast]
          rw [stride_r fu (by omega) (by omega)]
          simp (disch := omega) only [joinF_eq, bindO_some, s_wr, s_td, s_tm, s_pos, s_neg, cond_true, cond_false, Bool.not_true, Bool.not_false, Bool.true_and, Bool.and_true, Bool.false_and, Bool.and_false, bne_self_eq_false, decide_true, decide_false, Int.toNat_natCast]
          rw [← canon_zero (wideS T s sc) h (P := fun _ _ => false) (fun _ _ => rfl)]
          exact pic_s hf hw c1'.2.2.1 c1'.2.2.2 c1'.1 c1'.2.1 hW (by omega) (by omega)
    · have hv : bitsV T s sc h = ((0, (0, [])), (3, ())) := by
        unfold bitsV
        rw [if_neg (by omega), if_pos c1]
      rw [hv]
      unfold okSH at c1
      unfold linear_Bits_j1
      by_cases d1 : sc < 1
      · simp (disch := omega) only [joinF_eq, bindO_some, s_wr, s_td, s_tm, s_pos, s_neg, cond_true, cond_false, Bool.not_true, Bool.not_false, Bool.true_and, Bool.and_true, Bool.false_and, Bool.and_false, bne_self_eq_false, decide_true, decide_false, Int.toNat_natCast]
      · by_cases d2 : 8 < sc
        · simp (disch := omega) only [joinF_eq, bindO_some, s_wr, s_td, s_tm, s_pos, s_neg, cond_true, cond_false, Bool.not_true, Bool.not_false, Bool.true_and, Bool.and_true, Bool.false_and, Bool.and_false, bne_self_eq_false, decide_true, decide_false, Int.toNat_natCast]
        · by_cases d3 : h < 1
          · simp (disch := omega) only [joinF_eq, bindO_some, s_wr, s_td, s_tm, s_pos, s_neg, cond_true, cond_false, Bool.not_true, Bool.not_false, Bool.true_and, Bool.and_true, Bool.false_and, Bool.and_false, bne_self_eq_false, decide_true, decide_false, Int.toNat_natCast]
          · simp (disch := omega) only [joinF_eq, bindO_some, s_wr, s_td, s_tm, s_pos, s_neg, cond_true, cond_false, Bool.not_true, Bool.not_false, Bool.true_and, Bool.and_true, Bool.false_and, Bool.and_false, bne_self_eq_false, decide_true, decide_false, Int.toNat_natCast]
  · have hv : bitsV T s sc h = ((0, (0, [])), (wantW s, ())) := by
      unfold bitsV
      rw [if_pos c0]
    rw [hv, if_neg c0]
    simp (disch := omega) only [joinF_eq, bindO_some, s_wr, s_td, s_tm, s_pos, s_neg, cond_true, cond_false, Bool.not_true, Bool.not_false, Bool.true_and, Bool.and_true, Bool.false_and, Bool.and_false, bne_self_eq_false, decide_true, decide_false, Int.toNat_natCast]
omit hS hT hQ
theorem want_s (s : List UInt8) (hl : s.length ≤ 20) (b : Int × Int × Int × Unit) (J : Int → Option (Bool × Unit)) :
    loopF (law_LinearWidths_l8 fu (s, b) J) fu (0, 0) = J (if ∀ i, i < s.length → isDg s i then 0 else 5) := by
  refine stL3 (n := s.length) (by omega) (st := fun i : Nat => ((if ∀ k, k < i → isDg s k then 0 else 5), (i : Int))) (by simp) (fun j i hi => ?_) (fun j => ?_)
  · unfold law_LinearWidths_l8 law_LinearWidths_j9 law_LinearWidths_j10
    by_cases d : isDg s i
    · have e : (if ∀ k, k < i + 1 → isDg s k then (0 : Int) else 5) = if ∀ k, k < i → isDg s k then 0 else 5 := by
        by_cases c : ∀ k, k < i → isDg s k
        · rw [if_pos c, if_pos]
          intro k hk
          by_cases q : k = i
          · rw [q]; exact d
          · exact c k (by omega)
        · rw [if_neg c, if_neg fun c' => c fun k hk => c' k (by omega)]
      rw [e]
      unfold isDg at d
      simp (disch := omega) only [joinF_eq, bindO_some, s_wr, s_td, s_tm, s_pos, s_neg, cond_true, cond_false, Bool.not_true, Bool.not_false, Bool.true_and, Bool.and_true, Bool.false_and, Bool.and_false, bne_self_eq_false, decide_true, decide_false, Int.toNat_natCast]
      rfl
    · have e : (if ∀ k, k < i + 1 → isDg s k then (0 : Int) else 5) = 5 := if_neg fun c => d (c i (by omega))
      rw [e]
      unfold isDg at d
      by_cases q : ((s.getD i 0).toNat : Int) < 48
      · simp (disch := omega) only [joinF_eq, bindO_some, s_wr, s_td, s_tm, s_pos, s_neg, cond_true, cond_false, Bool.not_true, Bool.not_false, Bool.true_and, Bool.and_true, Bool.false_and, Bool.and_false, bne_self_eq_false, decide_true, decide_false, Int.toNat_natCast]
        rfl
      · simp (disch := omega) only [joinF_eq, bindO_some, s_wr, s_td, s_tm, s_pos, s_neg, cond_true, cond_false, Bool.not_true, Bool.not_false, Bool.true_and, Bool.and_true, Bool.false_and, Bool.and_false, bne_self_eq_false, decide_true, decide_false, Int.toNat_natCast]
        rfl
  · unfold law_LinearWidths_l8
    simp (disch := omega) only [joinF_eq, bindO_some, s_wr, s_td, s_tm, s_pos, s_neg, cond_true, cond_false, Bool.not_true, Bool.not_false, Bool.true_and, Bool.and_true, Bool.false_and, Bool.and_false, bne_self_eq_false, decide_true, decide_false, Int.toNat_natCast]
/-! ### rows of pixels, one below the other -/
def rep (R : List Bool) : Nat → List Bool
  | 0 => []
  | r + 1 => rep R r ++ R
omit hf
theorem rep_len (R : List Bool) : ∀ r, (rep R r).length = r * R.length
  | 0 => by simp [rep]
  | r + 1 => by rw [rep, List.length_append, rep_len R r, Nat.add_mul, Nat.one_mul]
theorem rep_get {R : List Bool} {x : Nat} (hx : x < R.length) : ∀ {r y : Nat}, y < r → (rep R r).getD (y * R.length + x) false = R.getD x false
  | r + 1, y, hy => by
    rw [rep, List.getD_eq_getElem?_getD]
    by_cases e : y = r
    · subst e
      rw [List.getElem?_append_right (by rw [rep_len]; omega), rep_len, Nat.add_sub_cancel_left, ← List.getD_eq_getElem?_getD]
    · have h1 : (y + 1) * R.length ≤ r * R.length := Nat.mul_le_mul_right _ (by omega)
      rw [Nat.add_mul, Nat.one_mul] at h1
      rw [List.getElem?_append_left (by rw [rep_len]; omega), ← List.getD_eq_getElem?_getD, rep_get hx (by omega)]
include hf
theorem rows_s {s : List UInt8} {sc h W v : Int} {w : List Int} (hw : okB w) (h0 : 1 ≤ h) (h1 : h ≤ 3) (s0 : 1 ≤ sc) (s1 : sc ≤ 8) (hW : W = ps w w.length * sc) (hW0 : 0 < W) (hW1 : W ≤ 1024) :
    loopF (law_LinearWidths_l5 fu (s, (v, (sc, (h, ())))) ((W, (h, canon W h (fun a _ => barP sc w a))), (0, ())) 0 w W) fu (0, []) = some (true, ()) := by
  have hl := hw.len
  generalize hR : rowP sc w w.length = R
  have hRl : (R.length : Int) = W := by rw [← hR, hW]; exact rowP_len s0 s1 hw w.length (by omega)
  refine stL3 (n := h.toNat) (by omega) (st := fun r : Nat => ((r : Int), rep R r)) rfl (fun j r hr => ?_) (fun j => ?_)
  · have hrl := rep_len R r
    have hrl2 : (rep R r).length ≤ 3 * 1024 := by rw [hrl]; exact Nat.mul_le_mul (by omega) (by omega)
    unfold law_LinearWidths_l5
    rw [s_pos (show (r : Int) < h by omega), cond_true]
    refine stL3 (n := w.length) (by omega) (st := fun i : Nat => ((i : Int), rep R r ++ rowP sc w i)) (by simp [rowP, rowL]) (fun j2 i hi => ?_) (fun j2 => ?_)
    · have b := hw.at hi
      have b2 := mul_sc b.1 b.2 s0 s1 (by omega)
      have c := ps_bd hw i (by omega)
      have c2 := mul_sc c.1 c.2 s0 s1 (by omega)
      have hs : ps w (i + 1) * sc = ps w i * sc + w.getD i 0 * sc := by rw [ps_succ hi, Int.add_mul]
      have hpl := rowP_len s0 s1 hw i (by omega)
      have hps := rowP_succ (sc := sc) hi
      unfold law_LinearWidths_l6
      simp (disch := omega) only [joinF_eq, bindO_some, s_wr, s_td, s_tm, s_pos, s_neg, cond_true, cond_false, Bool.not_true, Bool.not_false, Bool.true_and, Bool.and_true, Bool.false_and, Bool.and_false, bne_self_eq_false, decide_true, decide_false, Int.toNat_natCast]
      generalize hN : w.getD i 0 * sc = N at b2 hs hps ⊢
      refine stL3 (n := N.toNat) (by omega) (st := fun q : Nat => ((q : Int), rep R r ++ rowP sc w i ++ List.replicate q (decide ((i : Int) % 2 = 0)))) (by simp) (fun j3 q hq => ?_) (fun j3 => ?_)
      · unfold law_LinearWidths_l7
        simp only [hN, List.length_append, List.length_replicate]
        simp (disch := omega) only [joinF_eq, bindO_some, s_wr, s_td, s_tm, s_pos, s_neg, cond_true, cond_false, Bool.not_true, Bool.not_false, Bool.true_and, Bool.and_true, Bool.false_and, Bool.and_false, bne_self_eq_false, decide_true, decide_false, Int.toNat_natCast, List.length_cons, List.length_nil]
        congr 1
        refine Prod.ext (by simp) ?_
        simp only
        rw [List.append_assoc, List.append_assoc, List.append_assoc, List.replicate_succ']
      · unfold law_LinearWidths_l7
        simp only [hN]
        simp (disch := omega) only [joinF_eq, bindO_some, s_wr, s_td, s_tm, s_pos, s_neg, cond_true, cond_false, Bool.not_true, Bool.not_false, Bool.true_and, Bool.and_true, Bool.false_and, Bool.and_false, bne_self_eq_false, decide_true, decide_false, Int.toNat_natCast]
        congr 1
        refine Prod.ext (by simp) ?_
        simp only
        rw [hps, List.append_assoc]
    · unfold law_LinearWidths_l6
      simp (disch := omega) only [joinF_eq, bindO_some, s_wr, s_td, s_tm, s_pos, s_neg, cond_true, cond_false, Bool.not_true, Bool.not_false, Bool.true_and, Bool.and_true, Bool.false_and, Bool.and_false, bne_self_eq_false, decide_true, decide_false, Int.toNat_natCast]
      congr 1
      refine Prod.ext (by simp) ?_
      simp only
      rw [hR, rep]
  · unfold law_LinearWidths_l5
    have hrl := rep_len R h.toNat
    have e : ((rep R h.toNat).length : Int) = W * h := by rw [hrl, Int.natCast_mul, hRl, Int.toNat_of_nonneg (by omega), Int.mul_comm]
    simp (disch := omega) only [joinF_eq, bindO_some, s_wr, s_td, s_tm, s_pos, s_neg, cond_true, cond_false, Bool.not_true, Bool.not_false, Bool.true_and, Bool.and_true, Bool.false_and, Bool.and_false, bne_self_eq_false, decide_true, decide_false, Int.toNat_natCast]
    rw [drawn_r hf hW0 hW1 (by omega) (by omega) e]
    simp (disch := omega) only [joinF_eq, bindO_some, s_wr, s_td, s_tm, s_pos, s_neg, cond_true, cond_false, Bool.not_true, Bool.not_false, Bool.true_and, Bool.and_true, Bool.false_and, Bool.and_false, bne_self_eq_false, decide_true, decide_false, Int.toNat_natCast]
    have ec : canon W h (fun x y => (rep R h.toNat).getD (y * W + x).toNat false) = canon W h (fun a _ => barP sc w a) := by
      refine canon_congr hW0 fun x y hx hx1 hy hy1 => ?_
      have e1 := Int.mul_nonneg hy (by omega : 0 ≤ W)
      have e2 : (y * W + x).toNat = y.toNat * R.length + x.toNat := by
        have : ((y.toNat * R.length + x.toNat : Nat) : Int) = y * W + x := by
          rw [Int.natCast_add, Int.natCast_mul, hRl, Int.toNat_of_nonneg hy, Int.toNat_of_nonneg hx]
        omega
      rw [e2, rep_get (by omega) (by omega)]
      unfold barP
      rw [hR]
    rw [ec, same_r]
    simp (disch := omega) only [joinF_eq, bindO_some, s_wr, s_td, s_tm, s_pos, s_neg, cond_true, cond_false, Bool.not_true, Bool.not_false, Bool.true_and, Bool.and_true, Bool.false_and, Bool.and_false, bne_self_eq_false, decide_true, decide_false, Int.toNat_natCast]
include hS hT hQ
theorem widths_j1 (hR : R_Patterns_r fu () = some (T, ())) (s : List UInt8) (v sc h : Int) : law_LinearWidths_j1 fu (s, (v, (sc, (h, ())))) () = some (true, ()) := by
  unfold law_LinearWidths_j1
  simp only []
  rw [enc_s hf hS hT hQ, bits_s hf hS hT hQ]
  have key : ∀ e : List Int × Int × Unit, (if wantW s = 0 then some (barsS T s, ((0 : Int), ())) else some ([], (wantW s, ()))) = some e → law_LinearWidths_j2 fu (s, (v, (sc, (h, ())))) e.1 e.2.1 (bitsV T s sc h) (bitsV T s sc h).2.1 (wantW s) = some (true, ()) := by
    intro e he
    unfold law_LinearWidths_j2
    by_cases c0 : wantW s = 0
    · have hd := wantW_ok c0
      have hw := barsS_ok hT hd
      have hl := hw.len
      have hp := barsS_pos hT hd
      rw [if_pos c0] at he
      injection he with he
      subst he
      simp only [c0]
      simp (disch := omega) only [joinF_eq, bindO_some, s_wr, s_td, s_tm, s_pos, s_neg, cond_true, cond_false, Bool.not_true, Bool.not_false, Bool.true_and, Bool.and_true, Bool.false_and, Bool.and_false, bne_self_eq_false, decide_true, decide_false, Int.toNat_natCast]
      rw [values_s hf hd]
      simp (disch := omega) only [joinF_eq, bindO_some, s_wr, s_td, s_tm, s_pos, s_neg, cond_true, cond_false, Bool.not_true, Bool.not_false, Bool.true_and, Bool.and_true, Bool.false_and, Bool.and_false, bne_self_eq_false, decide_true, decide_false, Int.toNat_natCast]
      rw [bars_s hf hT hR hd]
      simp (disch := omega) only [joinF_eq, bindO_some, s_wr, s_td, s_tm, s_pos, s_neg, cond_true, cond_false, Bool.not_true, Bool.not_false, Bool.true_and, Bool.and_true, Bool.false_and, Bool.and_false, bne_self_eq_false, decide_true, decide_false, Int.toNat_natCast]
      rw [sameInts_s hf (by omega)]
      simp (disch := omega) only [joinF_eq, bindO_some, s_wr, s_td, s_tm, s_pos, s_neg, cond_true, cond_false, Bool.not_true, Bool.not_false, Bool.true_and, Bool.and_true, Bool.false_and, Bool.and_false, bne_self_eq_false, decide_true, decide_false, Int.toNat_natCast]
      unfold law_LinearWidths_j3
      simp (disch := omega) only [joinF_eq, bindO_some, s_wr, s_td, s_tm, s_pos, s_neg, cond_true, cond_false, Bool.not_true, Bool.not_false, Bool.true_and, Bool.and_true, Bool.false_and, Bool.and_false, bne_self_eq_false, decide_true, decide_false, Int.toNat_natCast]
      rw [within_r, within_r]
      have fin : ∀ b : Bool, (b = true ↔ ¬ okSH sc h) → law_LinearWidths_j4 fu (s, (v, (sc, (h, ())))) (bitsV T s sc h) (bitsV T s sc h).2.1 (barsS T s) b = some (true, ()) := by
        intro b hb
        unfold law_LinearWidths_j4
        by_cases c1 : okSH sc h
        · have c1' := c1
          unfold okSH at c1'
          have c := ps_bd hw (barsS T s).length (by omega)
          have c2 := mul_sc c.1 c.2 c1'.1 c1'.2.1 (by omega)
          rw [show b = false by rw [← Bool.not_eq_true]; exact fun h => hb.1 h c1, cond_false, totalW_s hf hw]
          have hW : sc * ps (barsS T s) (barsS T s).length = wideS T s sc := Int.mul_comm _ _
          have hW' : wideS T s sc = ps (barsS T s) (barsS T s).length * sc := rfl
          rw [← hW'] at c2
          simp only [bindO_some, hW]
          simp (disch := omega) only [joinF_eq, bindO_some, s_wr, s_td, s_tm, s_pos, s_neg, cond_true, cond_false, Bool.not_true, Bool.not_false, Bool.true_and, Bool.and_true, Bool.false_and, Bool.and_false, bne_self_eq_false, decide_true, decide_false, Int.toNat_natCast]
          by_cases c3 : 1024 < wideS T s sc
          · have hv : bitsV T s sc h = ((0, (0, [])), (19, ())) := by
              unfold bitsV
              rw [if_neg (by omega), if_neg (by simp [c1]), if_pos c3]
            rw [hv]
            simp (disch := omega) only [joinF_eq, bindO_some, s_wr, s_td, s_tm, s_pos, s_neg, cond_true, cond_false, Bool.not_true, Bool.not_false, Bool.true_and, Bool.and_true, Bool.false_and, Bool.and_false, bne_self_eq_false, decide_true, decide_false, Int.toNat_natCast]
            rw [refused_r]
            simp (disch := omega) only [joinF_eq, bindO_some, s_wr, s_td, s_tm, s_pos, s_neg, cond_true, cond_false, Bool.not_true, Bool.not_false, Bool.true_and, Bool.and_true, Bool.false_and, Bool.and_false, bne_self_eq_false, decide_true, decide_false, Int.toNat_natCast]
          · have hv : bitsV T s sc h = ((wideS T s sc, (h, canon (wideS T s sc) h (fun a _ => barP sc (barsS T s) a))), (0, ())) := by
              unfold bitsV
              rw [if_neg (by omega), if_neg (by simp [c1]), if_neg c3]
            rw [hv]
            by_cases c4 : 3 < h
            · simp (disch := omega) only [joinF_eq, bindO_some, s_wr, s_td, s_tm, s_pos, s_neg, cond_true, cond_false, Bool.not_true, Bool.not_false, Bool.true_and, Bool.and_true, Bool.false_and, Bool.and_false, bne_self_eq_false, decide_true, decide_false, Int.toNat_natCast]
            · simp (disch := omega) only [joinF_eq, bindO_some, s_wr, s_td, s_tm, s_pos, s_neg, cond_true, cond_false, Bool.not_true, Bool.not_false, Bool.true_and, Bool.and_true, Bool.false_and, Bool.and_false, bne_self_eq_false, decide_true, decide_false, Int.toNat_natCast]
              exact rows_s hf hw c1'.2.2.1 (by omega) c1'.1 c1'.2.1 hW' (by omega) (by omega)
        · have hv : bitsV T s sc h = ((0, (0, [])), (3, ())) := by
            unfold bitsV
            rw [if_neg (by omega), if_pos c1]
          rw [hv, hb.2 c1, cond_true]
          simp (disch := omega) only [joinF_eq, bindO_some, s_wr, s_td, s_tm, s_pos, s_neg, cond_true, cond_false, Bool.not_true, Bool.not_false, Bool.true_and, Bool.and_true, Bool.false_and, Bool.and_false, bne_self_eq_false, decide_true, decide_false, Int.toNat_natCast]
          rw [refused_r]
          simp (disch := omega) only [joinF_eq, bindO_some, s_wr, s_td, s_tm, s_pos, s_neg, cond_true, cond_false, Bool.not_true, Bool.not_false, Bool.true_and, Bool.and_true, Bool.false_and, Bool.and_false, bne_self_eq_false, decide_true, decide_false, Int.toNat_natCast]
      by_cases d1 : 1 ≤ sc ∧ sc ≤ 8
      · rw [and_true_iff d1]
        simp (disch := omega) only [joinF_eq, bindO_some, s_wr, s_td, s_tm, s_pos, s_neg, cond_true, cond_false, Bool.not_true, Bool.not_false, Bool.true_and, Bool.and_true, Bool.false_and, Bool.and_false, bne_self_eq_false, decide_true, decide_false, Int.toNat_natCast]
        by_cases d2 : 1 ≤ h ∧ h ≤ 1024
        · rw [and_true_iff d2]
          exact fin _ ⟨fun h => (nomatch h), fun h => absurd ⟨d1.1, d1.2, d2.1, d2.2⟩ h⟩
        · rw [and_false_iff d2]
          exact fin _ ⟨fun _ h => d2 ⟨h.2.2.1, h.2.2.2⟩, fun _ => rfl⟩
      · rw [and_false_iff d1]
        simp (disch := omega) only [joinF_eq, bindO_some, s_wr, s_td, s_tm, s_pos, s_neg, cond_true, cond_false, Bool.not_true, Bool.not_false, Bool.true_and, Bool.and_true, Bool.false_and, Bool.and_false, bne_self_eq_false, decide_true, decide_false, Int.toNat_natCast]
        exact fin _ ⟨fun _ h => d1 ⟨h.1, h.2.1⟩, fun _ => rfl⟩
    · have hv : bitsV T s sc h = ((0, (0, [])), (wantW s, ())) := by
        unfold bitsV
        rw [if_pos c0]
      rw [if_neg c0] at he
      injection he with he
      subst he
      rw [hv]
      simp (disch := omega) only [joinF_eq, bindO_some, s_wr, s_td, s_tm, s_pos, s_neg, cond_true, cond_false, Bool.not_true, Bool.not_false, Bool.true_and, Bool.and_true, Bool.false_and, Bool.and_false, bne_self_eq_false, decide_true, decide_false, Int.toNat_natCast]
      rw [none_r]
      simp (disch := omega) only [joinF_eq, bindO_some, s_wr, s_td, s_tm, s_pos, s_neg, cond_true, cond_false, Bool.not_true, Bool.not_false, Bool.true_and, Bool.and_true, Bool.false_and, Bool.and_false, bne_self_eq_false, decide_true, decide_false, Int.toNat_natCast, List.length_nil]
      rw [refused_r]
      rfl
  generalize hE : (if wantW s = 0 then some (barsS T s, ((0 : Int), ())) else some ([], (wantW s, ()))) = E at key ⊢
  have hE' : ∃ e, E = some e := by rw [← hE]; split <;> exact ⟨_, rfl⟩
  obtain ⟨e, rfl⟩ := hE'
  have key := key e rfl
  simp (disch := omega) only [joinF_eq, bindO_some, s_wr, s_td, s_tm, s_pos, s_neg, cond_true, cond_false, Bool.not_true, Bool.not_false, Bool.true_and, Bool.and_true, Bool.false_and, Bool.and_false, bne_self_eq_false, decide_true, decide_false, Int.toNat_natCast]
  by_cases c1 : s.length = 0
  · have hw : wantW s = 1 := by unfold wantW; rw [if_pos c1]
    rw [hw] at key
    simp (disch := omega) only [joinF_eq, bindO_some, s_wr, s_td, s_tm, s_pos, s_neg, cond_true, cond_false, Bool.not_true, Bool.not_false, Bool.true_and, Bool.and_true, Bool.false_and, Bool.and_false, bne_self_eq_false, decide_true, decide_false, Int.toNat_natCast]
    exact key
  · by_cases c2 : 20 < s.length
    · have hw : wantW s = 2 := by unfold wantW; rw [if_neg c1, if_pos c2]
      rw [hw] at key
      simp (disch := omega) only [joinF_eq, bindO_some, s_wr, s_td, s_tm, s_pos, s_neg, cond_true, cond_false, Bool.not_true, Bool.not_false, Bool.true_and, Bool.and_true, Bool.false_and, Bool.and_false, bne_self_eq_false, decide_true, decide_false, Int.toNat_natCast]
      exact key
    · have hw : wantW s = if ∀ i, i < s.length → isDg s i then 0 else 5 := by unfold wantW; rw [if_neg c1, if_neg c2]
      simp (disch := omega) only [joinF_eq, bindO_some, s_wr, s_td, s_tm, s_pos, s_neg, cond_true, cond_false, Bool.not_true, Bool.not_false, Bool.true_and, Bool.and_true, Bool.false_and, Bool.and_false, bne_self_eq_false, decide_true, decide_false, Int.toNat_natCast]
      rw [want_s hf s (by omega), ← hw]
      exact key
theorem widths_s (hk : law_linearWorks_r fu () = some (true, ())) (hR : R_Patterns_r fu () = some (T, ())) (s : List UInt8) (v sc h : Int) : law_LinearWidths_r fu (s, (v, (sc, (h, ())))) = some (true, ()) := by
  unfold law_LinearWidths_r
  rw [hk]
  simp (disch := omega) only [joinF_eq, bindO_some, s_wr, s_td, s_tm, s_pos, s_neg, cond_true, cond_false, Bool.not_true, Bool.not_false, Bool.true_and, Bool.and_true, Bool.false_and, Bool.and_false, bne_self_eq_false, decide_true, decide_false, Int.toNat_natCast]
  rw [pattern_s hf hT hQ]
  have hj := widths_j1 hf hS hT hQ hR s v sc h
  rw [within_r]
  by_cases c : 0 ≤ v ∧ v ≤ 102
  · rw [if_pos c, and_true_iff c, hR]
    have h6 := hT.six v.toNat (by omega)
    have htl := hT.tlen
    simp (disch := omega) only [joinF_eq, bindO_some, s_wr, s_td, s_tm, s_pos, s_neg, cond_true, cond_false, Bool.not_true, Bool.not_false, Bool.true_and, Bool.and_true, Bool.false_and, Bool.and_false, bne_self_eq_false, decide_true, decide_false, Int.toNat_natCast]
    rw [sameInts_s hf (by omega)]
    simp (disch := omega) only [joinF_eq, bindO_some, s_wr, s_td, s_tm, s_pos, s_neg, cond_true, cond_false, Bool.not_true, Bool.not_false, Bool.true_and, Bool.and_true, Bool.false_and, Bool.and_false, bne_self_eq_false, decide_true, decide_false, Int.toNat_natCast]
    unfold law_LinearWidths_j11
    simp (disch := omega) only [joinF_eq, bindO_some, s_wr, s_td, s_tm, s_pos, s_neg, cond_true, cond_false, Bool.not_true, Bool.not_false, Bool.true_and, Bool.and_true, Bool.false_and, Bool.and_false, bne_self_eq_false, decide_true, decide_false, Int.toNat_natCast]
    exact hj
  · rw [if_neg c, and_false_iff c]
    simp (disch := omega) only [joinF_eq, bindO_some, s_wr, s_td, s_tm, s_pos, s_neg, cond_true, cond_false, Bool.not_true, Bool.not_false, Bool.true_and, Bool.and_true, Bool.false_and, Bool.and_false, bne_self_eq_false, decide_true, decide_false, Int.toNat_natCast]
    rw [none_r]
    exact hj
end
theorem linearWidths_s (x : List UInt8 × (Int × (Int × (Int × Unit)))) : law_LinearWidths_r FU x = some (true, ()) := by
  obtain ⟨s, v, sc, h, _⟩ := x
  exact widths_s (Nat.le_of_eq FU_val.symm) sum_s okPQ_r rfl linearWorks_s rpats_ok s v sc h
end Go.Proofs.Ytedjnjgnadbkaaa
/- The step from a walk to a law's row, once for all laws of the seat: a law that returns true and leaves all that was there as it was. -/
namespace Go.Proofs.Ytedjnjgnadbkaaa
open Go.ChangeShapes Go.WideShapes Go.ChangeAt Go.RowKit

theorem own : ownKnob Try.prog.godebug = none := by kernel_rfl
theorem laidOut : laidOutB Try.prog = true := by kernel_rfl
theorem boolT : Try.prog.underlying 4 = some .bool := Try.underlying4

theorem trodAll_stays {H : Type} {enc : TypeId × Value → H} {P : Program} (hl : laidOutB P = true) {W W' : World} (hb : Below W.heap.size W W') :
    ∀ {ts : List TypeId} {vs : List Value} {ds : List (DataW H)} {ps : List MemPlace}, (∀ t ∈ ts, P.readableRec t = true ∧ t < P.types.size) → DataW.TrodAll enc P W 0 (fun _ => true) true ts vs ds ps →
      (∀ x ∈ ps, x.block < W.heap.size) → DataW.TrodAll enc P W' 0 (fun b => decide (b < W.heap.size)) true ts vs ds ps
  | [], [], [], _, _, h, _ => h
  | t :: ts, v :: vs, d :: ds, _, hr, ⟨p, q, h1, h2, e⟩, hlt =>
    ⟨p, q, Below.trod hl (hr t (by simp)).1 (hr t (by simp)).2 h1 hb (fun x hx => hlt x (by rw [e]; simp [hx])),
      trodAll_stays hl hb (fun t' ht => hr t' (by simp [ht])) h2 (fun x hx => hlt x (by rw [e]; simp [hx])), e⟩
  | [], [], _ :: _, _, _, h, _ => h.elim
  | [], _ :: _, _, _, _, h, _ => h.elim
  | _ :: _, [], _, _, _, h, _ => h.elim
  | _ :: _, _ :: _, [], _, _, h, _ => h.elim

/-- what a law's row asks of the readable types among its parameters -/
def readsAll (P : Program) (ts : List TypeId) : Bool := ts.all fun t => P.readableRec t && decide (t < P.types.size)
theorem readsAll_all {P : Program} {ts : List TypeId} (h : readsAll P ts = true) : ∀ t ∈ ts, P.readableRec t = true ∧ t < P.types.size := by
  intro t ht
  have := List.all_eq_true.1 h t ht
  simpa using this

theorem trodAll_length {H : Type} {enc : TypeId × Value → H} {P : Program} {W : World} {base : Nat} {spare : Nat → Bool} {held : Bool} :
    ∀ {ts : List TypeId} {vs : List Value} {ds : List (DataW H)} {ps : List MemPlace}, DataW.TrodAll enc P W base spare held ts vs ds ps → ds.length = ts.length
  | [], [], [], _, _ => rfl
  | _ :: _, _ :: _, _ :: _, _, ⟨_, _, _, h2, _⟩ => by simp [trodAll_length h2]
  | [], [], _ :: _, _, h => h.elim
  | [], _ :: _, _, _, h => h.elim
  | _ :: _, [], _, _, h => h.elim
  | _ :: _, _ :: _, [], _, h => h.elim

set_option maxRecDepth 100000 in
theorem law_lifted {os : Os} (started : os.Started) {H : Type} {enc : TypeId × Value → H} {f : FuncId} {fn : Func} {s : ChangeSpec}
    (noInit : Try.checked.prog.inits.idxOf? f = none) (hfn : Try.checked.prog.funcs[f]? = some fn)
    (witness : ∃ (w : World) (tape : Tape) (i : Input), w.os = os ∧ (w.forCall tape i).Shaped Try.checked.prog ∧ i.vars = [] ∧ Input.okWide Try.checked.prog (w.forCall tape i) .any w.heap.size f i ∧
      s.pre6 enc Try.checked.prog fn [] false (w.forCall tape i).memory i.args ∧ ({} : Assume).holds Try.checked.prog (lone (Frame.enter Try.checked.prog f i.args .normal) [] (w.forCall tape i)))
    (hvars : s.vars = []) (hres : fn.resultTypes = #[4]) (hread : readsAll Try.prog fn.params.toList = true)
    (hspec : ∀ ds : List (DataW H), ds.length = fn.params.toList.length → s.fn H ds = { results := [.lit (.bool true)], args := ds })
    (walk : ∀ (W : World) (base : Nat) (args : List Value) (ds : List (DataW H)) (ps : List MemPlace),
      (∀ (j : Nat) t v, fn.params[j]? = some t → args[j]? = some v → Value.okWide Try.prog W .any base t v) → DataW.TrodAll enc Try.prog W 0 (fun _ => true) true fn.params.toList args ds ps →
      (DataW.weightsEach Try.prog fn.params.toList ds).all (· ≤ reachBytes) = true → (∀ x ∈ ps, x.block < W.heap.size) →
      Calls Try.prog f args.toArray W fun e W' => e = .returned (.bool true) ∧ Below W.heap.size W W') :
    ReturnsInHanded {} Try.checked os f .any (s.pre6 enc Try.checked.prog fn [] false) (s.post enc Try.checked.prog fn false true false false) := by
  refine returnsInHanded_of_change_sized (C := Try.checked) own started noInit hfn witness ?_
  intro W base args ds gs before hval hW _ hsz _
  have hW' := hW
  obtain ⟨p, q, hA0, hV, rfl, hfz, hnd⟩ := hW
  rw [hvars] at hV
  obtain ⟨rfl, rfl⟩ := trodVars_none hV
  have hA : DataW.TrodAll enc Try.prog W 0 (fun _ => true) true fn.params.toList args.toList ds p := hA0
  have hlen : ds.length = fn.params.toList.length := trodAll_length hA
  have hlt : ∀ x ∈ p, x.block < W.heap.size := fun x hx => hW'.lt x (by simpa using hx)
  have hargs : args.toList.toArray = args := by simp
  have hsz' : (DataW.weightsEach Try.prog fn.params.toList ds).all (· ≤ reachBytes) = true := by
    have h := hsz
    have hvt : s.plain.varTypes Try.checked.prog = [] := by simp [DataSpec.varTypes, ChangeSpec.plain, hvars]
    rw [hvt] at h
    simp only [List.append_nil] at h
    exact h
  have hw := walk W base args.toList ds p (fun j t v ht hv => hval j t v ht (by simpa using hv)) hA hsz' hlt
  rw [hargs] at hw
  refine hw.mono fun e W' ⟨he, hb⟩ => ⟨.bool true, he, ?_⟩
  have hsf : s.fn H (ds ++ []) = { results := [.lit (.bool true)], args := ds } := by rw [List.append_nil]; exact hspec ds hlen
  refine ⟨ds, [], p ++ [], [], p, [], hW', ?_, ?_, ?_, hb.frame _, fun h => by cases h⟩
  · rw [hsf, hres]
    exact trodAll_mk1 (shut_bool boolT true)
  · rw [hsf]
    exact trodAll_stays laidOut hb (readsAll_all hread) hA hlt
  · rw [hsf, hvars]
    rfl
end Go.Proofs.Ytedjnjgnadbkaaa
/- Arguments opened: what slices and structs of numbers read as. -/
set_option maxRecDepth 100000
namespace Go.Proofs.Ytedjnjgnadbkaaa
open Go.ChangeShapes Go.WideShapes Go.ChangeAt Go.RowKit Go.Deep

theorem choose_list {α : Type} {n : Nat} {Q : Nat → α → Prop} (h : ∀ i, i < n → ∃ p, Q i p) : ∃ l : List α, l.length = n ∧ ∀ i p, l[i]? = some p → Q i p := by
  induction n with
  | zero => exact ⟨[], rfl, by intro i p hi; simp at hi⟩
  | succ n ih =>
    obtain ⟨l, hl, hq⟩ := ih (fun i hi => h i (by omega))
    obtain ⟨p, hp⟩ := h n (by omega)
    refine ⟨l ++ [p], by simp [hl], fun i q hi => ?_⟩
    rcases Nat.lt_trichotomy i n with hlt | rfl | hgt
    · rw [List.getElem?_append_left (by omega)] at hi
      exact hq i q hi
    · rw [List.getElem?_append_right (by omega), hl] at hi
      simp at hi
      subst hi; exact hp
    · rw [List.getElem?_eq_none (by simp; omega)] at hi
      cases hi

section
variable {H : Type} {enc : TypeId × Value → H} {P : Program} {w : World} {base : Nat} {spare : Nat → Bool} {held : Bool}
/-- a slice, whatever its elements: of each element its cells and its reading -/
theorem rd_slice {t e : TypeId} {fuel : Nat} {v : Value} {x : DataW H × List MemPlace} (ht : P.underlying t = some (.slice e)) (hc : 0 < P.cellsOf e) (h : DataW.trod enc P w base spare held fuel t [v] = some x) :
    ∃ A n c, v = .slice A n c ∧ n ≤ c ∧ c ≤ maxLen ∧ ∀ i, i < n → ∃ b o cs n' x', A = some ⟨b, o, none⟩ ∧ cs.length = P.cellsOf e ∧ (∀ j u, cs[j]? = some u → w.cell? ⟨b, o + i * P.cellsOf e + j, none⟩ = some u) ∧
      DataW.trod enc P w base spare held n' e cs = some x' := by
  rcases open_slice ht h with ⟨h0, _⟩ | ⟨a, len, cap, m, n', D, Pl, hcs, _, hl, hm, hmm, _, hi⟩
  · simp at h0
    subst h0
    exact ⟨none, 0, 0, rfl, by omega, by unfold maxLen; omega, by intro i hi; omega⟩
  · simp at hcs
    subst hcs
    refine ⟨some a, len, cap, rfl, hl, hm, fun i hil => ?_⟩
    have hlm : len ≤ m := by rw [hmm]; split <;> omega
    obtain ⟨cs, h1, h2⟩ := hi i (by omega)
    obtain ⟨hb, hlen, hat⟩ := World.cells?_some h1
    obtain ⟨b, o, spot⟩ := a
    have h00 := hat 0 (by omega)
    have hsp : spot = none := by
      obtain ⟨cs0, g1, _⟩ := hi 0 (by omega)
      obtain ⟨_, gl, gat⟩ := World.cells?_some g1
      have hx := gat 0 (by omega)
      rw [List.getElem?_eq_getElem (by omega)] at hx
      simpa [Addr.add] using World.cell?_spot hx
    subst hsp
    refine ⟨b, o, cs, n', _, rfl, hlen, ?_, h2⟩
    intro j u hu
    have hjl : j < P.cellsOf e := by rw [← hlen]; exact (List.getElem?_eq_some_iff.1 hu).1
    have := hat j hjl
    rw [hu, Addr.add_lit, Addr.add_lit] at this
    exact this
end

end Go.Proofs.Ytedjnjgnadbkaaa
/- Arguments opened, as abstract values. -/
set_option maxRecDepth 100000
namespace Go.Proofs.Ytedjnjgnadbkaaa
open Go Go.ChangeShapes Go.WideShapes Go.ChangeAt Go.RowKit Go.Deep

section
variable {H : Type} {enc : TypeId × Value → H} {P : Program} {w : World} {base : Nat} {spare : Nat → Bool} {held : Bool}
/-- data of the caller's -/
abbrev RelC (w : World) : AV → Value → Prop := RelD w (fun _ => False) w.heap.size
/-- one element's cells, read as enc p -/
def Reads {α : Type} (w : World) (sz : Nat) (ec : α → List AV) (Q : α → Prop) (cs : List Value) : Prop :=
  ∃ p, Q p ∧ (ec p).length = sz ∧ ∀ (j : Nat) (a : AV) (u : Value), (ec p)[j]? = some a → cs[j]? = some u → RelC w a u
theorem ro_slice {α : Type} (ec : α → List AV) (Q : α → Prop) {t e : TypeId} {sz fuel : Nat} {v : Value} {x : DataW H × List MemPlace} (ht : P.underlying t = some (.slice e)) (hz : P.cellsOf e = sz) (hc : 0 < sz)
    (hel : ∀ (fuel : Nat) (cs : List Value) (x : DataW H × List MemPlace), cs.length = sz → DataW.trod enc P w base spare held fuel e cs = some x → Reads w sz ec Q cs) (h : DataW.trod enc P w base spare held fuel t [v] = some x) :
    ∃ xs : List α, (∀ p ∈ xs, Q p) ∧ RelC w (.ro false sz (xs.map ec)) v := by
  subst hz
  obtain ⟨A, n, c, rfl, hn, hm, hi⟩ := rd_slice ht hc h
  obtain ⟨xs, hl, hq⟩ := choose_list (Q := fun i (p : α) => Q p ∧ ∃ (b o : Nat) (cs : List Value), A = some ⟨b, o, none⟩ ∧ cs.length = P.cellsOf e ∧ (∀ (j : Nat) (u : Value), cs[j]? = some u → w.cell? ⟨b, o + i * P.cellsOf e + j, none⟩ = some u) ∧ (ec p).length = P.cellsOf e ∧ ∀ (j : Nat) (a : AV) (u : Value), (ec p)[j]? = some a → cs[j]? = some u → RelC w a u) (n := n) (by
    intro i hil
    obtain ⟨b, o, cs, n', x', hA, hlen, hat, htr⟩ := hi i hil
    obtain ⟨p, h1, h2, h3⟩ := hel n' cs x' hlen htr
    exact ⟨p, h1, b, o, cs, hA, hlen, hat, h2, h3⟩)
  subst hl
  refine ⟨xs, fun p hp => ?_, ?_⟩
  · obtain ⟨i, hi⟩ := List.mem_iff_getElem?.1 hp
    exact (hq i p hi).1
  have key : ∀ (i : Nat) (row : List AV) (j : Nat) (a : AV), (xs.map ec)[i]? = some row → row[j]? = some a → ∃ b o u, A = some ⟨b, o, none⟩ ∧ w.cell? ⟨b, o + i * P.cellsOf e + j, none⟩ = some u ∧ RelC w a u := by
    intro i row j a hr ha
    rw [List.getElem?_map] at hr
    obtain ⟨p, hp, rfl⟩ := Option.map_eq_some_iff.1 hr
    obtain ⟨_, b, o, cs, hA, hlen, hat, hel, hrel⟩ := hq i p hp
    have hj : j < cs.length := by rw [hlen, ← hel]; exact (List.getElem?_eq_some_iff.1 ha).1
    have hu : cs[j]? = some cs[j] := List.getElem?_eq_getElem hj
    exact ⟨b, o, cs[j], hA, hat j _ hu, hrel j a _ ha hu⟩
  have hcon := RelD.ro (w := w) (own := fun _ => False) (bs := w.heap.size) false (P.cellsOf e) (xs.map ec) A c (fun i j => match A with
    | some ⟨b, o, _⟩ => (w.cell? ⟨b, o + i * P.cellsOf e + j, none⟩).getD undef
    | none => undef) (by simpa using hn) hm (fun i hi hA => by
      have hi : i < xs.length := by simpa using hi
      obtain ⟨_, b, o, _, h1, _⟩ := hq i xs[i] (List.getElem?_eq_getElem hi)
      rw [hA] at h1; cases h1) (fun i row j a hr ha => by
      obtain ⟨b, o, u, hA, hu, _⟩ := key i row j a hr ha
      subst hA
      exact ⟨b, o, rfl, fun h => h.elim, (fun h => by cases h), by simp [hu]⟩) (fun i row j a hr ha => by
      obtain ⟨b, o, u, hA, hu, hr⟩ := key i row j a hr ha
      subst hA
      simpa [hu] using hr)
  rw [List.length_map] at hcon
  exact hcon
end
/-- a law that answers true -/
theorem AF.yes {P : Program} {F : FuncId} {xs : List AV} {vs : Array Value} {w : World} (h : AF P F xs (.bool true)) (ha : ArgsV w (Gh.none w.heap.size) xs vs) : Calls P F vs w fun e w' => e = .returned (.bool true) ∧ Below w.heap.size w w' :=
  (h.out w vs ha).mono fun e w' ⟨v, he, hb, hv⟩ => ⟨by rw [he, hv.bool'], hb⟩
end Go.Proofs.Ytedjnjgnadbkaaa
/- Arguments of any type, opened by one theorem; the last step of a law that a residual program answers. -/
set_option maxRecDepth 100000
namespace Go.Proofs.Ytedjnjgnadbkaaa
open Go Go.ChangeShapes Go.WideShapes Go.ChangeAt Go.RowKit Go.Deep

/-- what every argument of a type meets -/
def Ty.wf : (t : Ty) → t.den → Prop
  | .int k, n => (Lit.int k n).wf = true
  | .bool, _ => True
  | .str, s => List.length s ≤ maxLen
  | .list t, xs => List.length xs ≤ maxLen ∧ ∀ x ∈ (xs : List t.den), t.wf x
  | .unit, _ => True
  | .pair a b, x => a.wf x.1 ∧ b.wf x.2
  | .agg t, x => t.wf x
  | .ptr _, _ => False
def prB (t : Ty) (f : Ty → Ty → Bool) : Bool := match t with
  | .pair x y => f x y
  | _ => false
def unB (t : Ty) : Bool := match t with
  | .unit => true
  | _ => false
theorem prB_ok {t : Ty} {f : Ty → Ty → Bool} (h : prB t f = true) : ∃ x y, t = .pair x y ∧ f x y = true := by
  unfold prB at h
  split at h
  · exact ⟨_, _, rfl, h⟩
  · cases h
theorem unB_ok {t : Ty} (h : unB t = true) : t = .unit := by
  unfold unB at h
  split at h
  · rfl
  · cases h
def fsB (g : TypeId → Ty → Bool) : List Field → Nat → Ty → Bool
  | [], _, t => unB t
  | [a], o, t => Nat.beq a.offset o && g a.type t
  | a :: b :: l, o, t => prB t fun x y => Nat.beq a.offset o && g a.type x && fsB g (b :: l) (o + x.size) y
def arB (g : Ty → Bool) : Nat → Ty → Bool
  | 0, t => unB t
  | 1, t => g t
  | n + 2, t => prB t fun x y => g x && arB g (n + 1) y
def intB (k : IntKind) (t : Ty) : Bool := match t with
  | .int k' => decide (k' = k)
  | _ => false
def boolB (t : Ty) : Bool := match t with
  | .bool => true
  | _ => false
def strB (t : Ty) : Bool := match t with
  | .str => true
  | _ => false
def sliceB (g : Ty → Bool) (t : Ty) : Bool := match t with
  | .list t' => g t' && Nat.blt 0 t'.size
  | _ => false
/-- a type as the program has it -/
def tyB (P : Program) : Nat → TypeId → Ty → Bool
  | 0, _, _ => false
  | f + 1, tid, t => Nat.beq (P.cellsOf tid) t.size && (match P.underlying tid with
    | some (.int k) => intB k t
    | some .bool => boolB t
    | some .string => strB t
    | some (.slice e) => sliceB (tyB P f e) t
    | some (.struct ⟨fs⟩) => fsB (tyB P f) fs 0 t
    | some (.array n e) => arB (tyB P f e) n t
    | _ => false)
section
variable {H : Type} {enc : TypeId × Value → H} {P : Program} {w : World} {base : Nat} {spare : Nat → Bool} {held : Bool}
abbrev ReadsT (w : World) (t : Ty) (cs : List Value) : Prop := Reads w t.size (t.cells false) t.wf cs
theorem tyB_size {f : Nat} {tid : TypeId} {t : Ty} (h : tyB P f tid t = true) : P.cellsOf tid = t.size := by
  cases f with
  | zero => cases h
  | succ f => rw [tyB, Bool.and_eq_true] at h; exact Nat.eq_of_beq_eq_true h.1
theorem ReadsT.pair {a b : Ty} {c d : List Value} (h : ReadsT w a c) (k : ReadsT w b d) (hl : c.length = a.size) : ReadsT w (.pair a b) (c ++ d) := by
  obtain ⟨x, x1, x2, x3⟩ := h
  obtain ⟨y, y1, y2, y3⟩ := k
  refine ⟨(x, y), ⟨x1, y1⟩, Ty.cells_length _ _ _, fun j v u hv hu => ?_⟩
  rw [Ty.cells] at hv
  by_cases hj : j < a.size
  · rw [List.getElem?_append_left (by rw [x2]; exact hj)] at hv
    rw [List.getElem?_append_left (by omega)] at hu
    exact x3 j v u hv hu
  · rw [List.getElem?_append_right (by rw [x2]; omega), x2] at hv
    rw [List.getElem?_append_right (by omega), hl] at hu
    exact y3 _ v u hv hu
theorem ReadsT.unit : ReadsT w .unit [] := ⟨(), trivial, rfl, fun j a u h _ => by simp [Ty.cells] at h⟩
theorem fs_reads {g : TypeId → Ty → Bool} (hg : ∀ (tid : TypeId) (t : Ty) (n : Nat) (cs : List Value) (x : DataW H × List MemPlace), g tid t = true → cs.length = t.size → DataW.trod enc P w base spare held n tid cs = some x → ReadsT w t cs) (hsz : ∀ tid t, g tid t = true → P.cellsOf tid = t.size) {cs : List Value} :
    ∀ (l : List Field) (o : Nat) (t : Ty), fsB g l o t = true → (∀ a ∈ l, ∃ n y, DataW.trod enc P w base spare held n a.type ((cs.drop a.offset).take (P.cellsOf a.type)) = some y) → o + t.size ≤ cs.length → ReadsT w t ((cs.drop o).take t.size)
  | [], o, t, h, _, _ => by
    rw [unB_ok h, show Ty.unit.size = 0 from rfl, List.take_zero]; exact .unit
  | [a], o, t, h, hr, hl => by
    rw [fsB, Bool.and_eq_true] at h
    obtain ⟨n, y, hy⟩ := hr a (by simp)
    rw [Nat.eq_of_beq_eq_true h.1, hsz _ _ h.2] at hy
    exact hg _ _ n _ y h.2 (by rw [List.length_take, List.length_drop]; omega) hy
  | a :: b :: l, o, t, h, hr, hl => by
    obtain ⟨x, y, rfl, h'⟩ := prB_ok h
    clear h
    have h := h'
    clear h'
    rw [Bool.and_eq_true, Bool.and_eq_true] at h
    obtain ⟨n, z, hz⟩ := hr a (by simp)
    rw [Nat.eq_of_beq_eq_true h.1.1, hsz _ _ h.1.2] at hz
    have hs : (Ty.pair x y).size = x.size + y.size := rfl
    rw [hs] at hl
    have h1 := hg _ _ n _ z h.1.2 (by rw [List.length_take, List.length_drop]; omega) hz
    have h2 := fs_reads hg hsz (b :: l) (o + x.size) y h.2 (fun a ha => hr a (List.mem_cons_of_mem _ ha)) (by omega)
    rw [hs, List.take_add, List.drop_drop]
    exact h1.pair h2 (by rw [List.length_take, List.length_drop]; omega)
theorem ar_reads {g : Ty → Bool} {e : TypeId} (hg : ∀ (t : Ty) (n : Nat) (cs : List Value) (x : DataW H × List MemPlace), g t = true → cs.length = t.size → DataW.trod enc P w base spare held n e cs = some x → ReadsT w t cs) (hsz : ∀ t, g t = true → P.cellsOf e = t.size) {cs : List Value} :
    ∀ (k o : Nat) (t : Ty), arB g k t = true → (∀ i, i < k → ∃ n y, DataW.trod enc P w base spare held n e ((cs.drop (o + i * P.cellsOf e)).take (P.cellsOf e)) = some y) → o + t.size ≤ cs.length → ReadsT w t ((cs.drop o).take t.size)
  | 0, o, t, h, _, _ => by
    rw [unB_ok h, show Ty.unit.size = 0 from rfl, List.take_zero]; exact .unit
  | 1, o, t, h, hr, hl => by
    rw [arB] at h
    obtain ⟨n, y, hy⟩ := hr 0 (by omega)
    rw [hsz _ h, Nat.zero_mul, Nat.add_zero] at hy
    exact hg _ n _ y h (by rw [List.length_take, List.length_drop]; omega) hy
  | k + 2, o, t, h, hr, hl => by
    obtain ⟨x, y, rfl, h'⟩ := prB_ok h
    clear h
    have h := h'
    clear h'
    rw [Bool.and_eq_true] at h
    obtain ⟨n, z, hz⟩ := hr 0 (by omega)
    rw [hsz _ h.1, Nat.zero_mul, Nat.add_zero] at hz
    have hs : (Ty.pair x y).size = x.size + y.size := rfl
    rw [hs] at hl
    have h1 := hg _ n _ z h.1 (by rw [List.length_take, List.length_drop]; omega) hz
    have h2 := ar_reads hg hsz (k + 1) (o + x.size) y h.2 (fun i hi => by
      obtain ⟨n, z, hz⟩ := hr (i + 1) (by omega)
      refine ⟨n, z, ?_⟩
      rw [← hz, ← hsz _ h.1, Nat.add_mul, Nat.one_mul, Nat.add_assoc, Nat.add_comm (P.cellsOf e)]) (by omega)
    rw [hs, List.take_add, List.drop_drop]
    exact h1.pair h2 (by rw [List.length_take, List.length_drop]; omega)
theorem ro_len {own : Nat → Prop} {bs sz : Nat} {fr : Bool} {rows : List (List AV)} {v : Value} (h : RelD w own bs (.ro fr sz rows) v) : rows.length ≤ maxLen := by
  cases h with
  | ro fr sz rows A c f hc hm h0 h1 h2 => omega
theorem one_cell {cs : List Value} (h : cs.length = 1) : ∃ u, cs = [u] := by match cs, h with | [u], _ => exact ⟨u, rfl⟩
theorem reads_ty : ∀ (f : Nat) (tid : TypeId) (t : Ty) (n : Nat) (cs : List Value) (x : DataW H × List MemPlace), tyB P f tid t = true → cs.length = t.size → DataW.trod enc P w base spare held n tid cs = some x → ReadsT w t cs
  | 0, _, _, _, _, _, h, _, _ => by cases h
  | f + 1, tid, t, n, cs, x, h, hl, hx => by
    have hsize := tyB_size h
    rw [tyB, Bool.and_eq_true] at h
    obtain ⟨_, h⟩ := h
    split at h
    · rename_i k hu
      unfold intB at h
      split at h
      · have hk := of_decide_eq_true h
        subst hk
        obtain ⟨m, rfl, _, hwf⟩ := DataW.trod_int hu hx
        refine ⟨m, hwf, rfl, fun j a u ha hu => ?_⟩
        match j with
        | 0 => simp [Ty.cells] at ha hu; subst ha; subst hu; exact .int _ _
        | j + 1 => simp [Ty.cells] at ha
      · cases h
    · rename_i hu
      unfold boolB at h
      split at h
      · obtain ⟨m, rfl, _⟩ := DataW.trod_bool hu hx
        refine ⟨m, trivial, rfl, fun j a u ha hu => ?_⟩
        match j with
        | 0 => simp [Ty.cells] at ha hu; subst ha; subst hu; exact .bool _
        | j + 1 => simp [Ty.cells] at ha
      · cases h
    · rename_i hu
      unfold strB at h
      split at h
      · obtain ⟨s, rfl, _, hs⟩ := DataW.trod_string hu hx
        refine ⟨s.data.toList, by rw [Ty.wf, Array.length_toList]; exact hs, rfl, fun j a u ha hu => ?_⟩
        match j with
        | 0 => simp [Ty.cells] at ha hu; subst ha; subst hu; exact .str _
        | j + 1 => simp [Ty.cells] at ha
      · cases h
    · rename_i e hu
      unfold sliceB at h
      split at h
      · rename_i _ t' _
        rw [Bool.and_eq_true] at h
        have hpos : 0 < t'.size := Nat.le_of_ble_eq_true h.2
        obtain ⟨v, rfl⟩ := one_cell hl
        obtain ⟨xs, hw, hr⟩ := ro_slice (t'.cells false) t'.wf hu (tyB_size h.1) hpos (fun m cs x hl hx => reads_ty f e t' m cs x h.1 hl hx) hx
        refine ⟨xs, ⟨?_, hw⟩, rfl, fun j a u ha hu => ?_⟩
        · have := ro_len hr
          rw [List.length_map] at this
          exact this
        match j with
        | 0 => simp [Ty.cells] at ha hu; subst ha; subst hu; exact hr
        | j + 1 => simp [Ty.cells] at ha
      · cases h
    · rename_i fs hu
      obtain ⟨xs, m, _, _, _, hxl, hat⟩ := DataW.trod_struct hu hx
      have := fs_reads (cs := cs) (fun tid t n cs x h1 h2 h3 => reads_ty f tid t n cs x h1 h2 h3) (fun tid t h => tyB_size h) fs 0 t h (fun a ha => by
        obtain ⟨i, hi⟩ := List.mem_iff_getElem?.1 ha
        have hi' : i < xs.length := by rw [hxl]; exact (List.getElem?_eq_some_iff.1 hi).1
        exact ⟨m, _, by rw [hat i a (by simpa using hi), List.getElem?_eq_getElem hi']⟩) (by omega)
      rw [List.drop_zero, List.take_of_length_le (by omega)] at this
      exact this
    · rename_i k e hu
      obtain ⟨xs, m, _, _, _, hxl, hat⟩ := DataW.trod_array hu hx
      have := ar_reads (cs := cs) (e := e) (fun t n cs x h1 h2 h3 => reads_ty f e t n cs x h1 h2 h3) (fun t h => tyB_size h) k 0 t h (fun i hi => by
        have hi' : i < xs.length := by rw [hxl]; exact hi
        exact ⟨m, _, by rw [Nat.zero_add, hat i hi, List.getElem?_eq_getElem hi']⟩) (by omega)
      rw [List.drop_zero, List.take_of_length_le (by omega)] at this
      exact this
    · cases h
/-! ### Arguments -/
def aggP (P : Program) (tid : TypeId) : Bool := match P.underlying tid with
  | some (.struct _) => true
  | some (.array _ _) => true
  | _ => false
def cellP (P : Program) (tid : TypeId) : Bool := match P.underlying tid with
  | some (.int _) => true
  | some .bool => true
  | some .string => true
  | some (.slice _) => true
  | _ => false
def argB (P : Program) (tid : TypeId) (a : Ty) : Bool := match a with
  | .agg t => tyB P 9 tid t && aggP P tid
  | .int k => tyB P 9 tid (.int k) && cellP P tid
  | .bool => tyB P 9 tid .bool && cellP P tid
  | .str => tyB P 9 tid .str && cellP P tid
  | .list t => tyB P 9 tid (.list t) && cellP P tid
  | _ => false
def argsB (P : Program) : List TypeId → Ty → Bool
  | [], t => unB t
  | tid :: l, t => prB t fun a b => argB P tid a && argsB P l b
theorem okWide_arr {n b : Nat} {r : Go.Reach} {t e : TypeId} {v : Value} (ht : P.underlying t = some (.array n e)) (h : Value.okWide P w r b t v) : ∃ cs, v = .agg cs ∧ cs.size = P.cellsOf t := by
  simp only [Value.okWide, ht] at h
  obtain ⟨cs, h1, h2, _⟩ := h
  exact ⟨cs, h1, h2⟩
theorem arg_agg {tid : TypeId} {t : Ty} {v : Value} {d : DataW H} {p : List MemPlace} {b : Nat} (h : tyB P 9 tid t = true) (ha : aggP P tid = true) (hv : Value.okWide P w .any b tid v) (hd : DataW.Trod enc P w base spare held tid v d p) : ∃ x : t.den, t.wf x ∧ RelV w (Gh.none w.heap.size) (.agg (t.cells false x)) v := by
  obtain ⟨cs, rfl, hs⟩ : ∃ cs, v = .agg cs ∧ cs.size = P.cellsOf tid := by
    unfold aggP at ha
    split at ha
    · rename_i h1; exact okWide_struct h1 hv
    · rename_i h1; exact okWide_arr h1 hv
    · cases ha
  obtain ⟨n, hd⟩ := hd
  have hl : cs.toList.length = t.size := by rw [← tyB_size h, ← hs]; simp
  obtain ⟨x, x1, x2, x3⟩ := reads_ty 9 tid t n cs.toList _ h hl hd
  exact ⟨x, x1, .agg _ _ (by rw [x2, ← hl]; simp) fun i a u ha hu => .dat (x3 i a u ha (by simpa using hu))⟩
theorem arg_cell {tid : TypeId} {t : Ty} {v : Value} {d : DataW H} {p : List MemPlace} {b : Nat} (h : tyB P 9 tid t = true) (hc : cellP P tid = true) (h1 : t.size = 1) (hv : Value.okWide P w .any b tid v) (hd : DataW.Trod enc P w base spare held tid v d p) : ∃ x : t.den, t.wf x ∧ ∀ a, (t.cells false x)[0]? = some a → RelV w (Gh.none w.heap.size) a v := by
  have hd : ∃ n, DataW.trod enc P w base spare held n tid [v] = some (d, p) := by
    unfold cellP at hc
    split at hc
    · rename_i hu
      obtain ⟨m, rfl⟩ := okWide_int hu hv
      exact hd
    · rename_i hu
      obtain ⟨m, rfl⟩ := okWide_bool hu hv
      exact hd
    · rename_i hu
      obtain ⟨m, rfl⟩ := okWide_string hu hv
      exact hd
    · rename_i hu
      obtain ⟨a, n, c, rfl⟩ := okWide_slice hu hv
      exact hd
    · cases hc
  obtain ⟨n, hd⟩ := hd
  obtain ⟨x, x1, x2, x3⟩ := reads_ty 9 tid t n [v] _ h (by rw [h1]; rfl) hd
  exact ⟨x, x1, fun a ha => .dat (x3 0 a v ha rfl)⟩
theorem arg_ty {tid : TypeId} {v : Value} {d : DataW H} {p : List MemPlace} {b : Nat} : ∀ {a : Ty}, argB P tid a = true → Value.okWide P w .any b tid v → DataW.Trod enc P w base spare held tid v d p → ∃ x : a.den, a.wf x ∧ RelV w (Gh.none w.heap.size) (a.av false x) v
  | .agg t, h, hv, hd => by
    rw [argB, Bool.and_eq_true] at h
    obtain ⟨x, h1, h2⟩ := arg_agg h.1 h.2 hv hd
    exact ⟨x, h1, by rw [Ty.av]; exact h2⟩
  | .int k, h, hv, hd => by
    rw [argB, Bool.and_eq_true] at h
    obtain ⟨x, h1, h2⟩ := arg_cell h.1 h.2 rfl hv hd
    exact ⟨x, h1, h2 _ rfl⟩
  | .bool, h, hv, hd => by
    rw [argB, Bool.and_eq_true] at h
    obtain ⟨x, h1, h2⟩ := arg_cell h.1 h.2 rfl hv hd
    exact ⟨x, h1, h2 _ rfl⟩
  | .str, h, hv, hd => by
    rw [argB, Bool.and_eq_true] at h
    obtain ⟨x, h1, h2⟩ := arg_cell h.1 h.2 rfl hv hd
    exact ⟨x, h1, h2 _ rfl⟩
  | .list t, h, hv, hd => by
    rw [argB, Bool.and_eq_true] at h
    obtain ⟨x, h1, h2⟩ := arg_cell h.1 h.2 rfl hv hd
    exact ⟨x, h1, h2 _ rfl⟩
  | .unit, h, _, _ => by cases h
  | .pair _ _, h, _, _ => by cases h
  | .ptr _, h, _, _ => by cases h
/-- values one by one -/
inductive RelsV (w : World) (G : Gh) : List AV → List Value → Prop
  | nil : RelsV w G [] []
  | cons {a : AV} {v : Value} {l : List AV} {m : List Value} (h : RelV w G a v) (k : RelsV w G l m) : RelsV w G (a :: l) (v :: m)
theorem RelsV.args {G : Gh} {l : List AV} {m : List Value} (h : RelsV w G l m) : ArgsV w G l m.toArray := by
  induction h with
  | nil => exact ⟨rfl, fun i a v ha hv => by simp at ha⟩
  | cons h k ih =>
    refine ⟨by have := ih.size; simp at this ⊢; exact this, fun i a v ha hv => ?_⟩
    cases i with
    | zero => simp at ha hv; subst ha; subst hv; exact h
    | succ i => exact ih.rel i a v (by simpa using ha) (by simpa using hv)
theorem args_ty {b : Nat} : ∀ {ts : List TypeId} {σ : Ty} {vs : List Value} {ds : List (DataW H)} {ps : List MemPlace}, argsB P ts σ = true → (∀ (j : Nat) t v, ts[j]? = some t → vs[j]? = some v → Value.okWide P w .any b t v) → DataW.TrodAll enc P w base spare held ts vs ds ps → ∃ x : σ.den, σ.wf x ∧ RelsV w (Gh.none w.heap.size) (σ.avs false x) vs
  | [], σ, vs, ds, ps, h, _, hA => by
    obtain ⟨rfl, rfl, rfl⟩ := trodAll_nil hA
    have e := unB_ok h
    subst e
    exact ⟨(), trivial, .nil⟩
  | tid :: l, σ, vs, ds, ps, h, hv, hA => by
    obtain ⟨v, vs, d, ds, p, q, rfl, rfl, rfl, h0, r0⟩ := trodAll_cons hA
    obtain ⟨a, c, rfl, h'⟩ := prB_ok h
    clear h
    have h := h'
    clear h'
    rw [Bool.and_eq_true] at h
    obtain ⟨x, x1, x2⟩ := arg_ty h.1 (hv 0 tid v rfl rfl) h0
    obtain ⟨y, y1, y2⟩ := args_ty h.2 (fun j t u ht hu => hv (j + 1) t u (by simpa using ht) (by simpa using hu)) r0
    exact ⟨(x, y), ⟨x1, y1⟩, by rw [Ty.avs]; exact .cons x2 y2⟩
end
/-- a law whose residual program answers true at all data -/
theorem law_any {H : Type} {enc : TypeId × Value → H} {F : Nat} {ts : List TypeId} {σ : Ty} {f : Nat → σ.den → Option (Bool × Unit)} {nm : Nat} (hc : CtrOk Try.prog F ⟨σ, .pair .bool .unit, f, nm⟩) (hB : argsB Try.prog ts σ = true) (hp : ∀ x : σ.den, σ.wf x → f FU x = some (true, ())) {W : World} {b : Nat} {args : List Value} {ds : List (DataW H)} {ps : List MemPlace}
    (hv : ∀ (j : Nat) t v, ts[j]? = some t → args[j]? = some v → Value.okWide Try.prog W .any b t v) (hA : DataW.TrodAll enc Try.prog W 0 (fun _ => true) true ts args ds ps) :
    Calls Try.prog F args.toArray W fun e W' => e = .returned (.bool true) ∧ Below W.heap.size W W' := by
  obtain ⟨x, hx, hr⟩ := args_ty hB hv hA
  exact AF.yes (hc FU x (true, ()) (hp x hx)) hr.args
end Go.Proofs.Ytedjnjgnadbkaaa
/- LinearWidths: for every input this law returns true and leaves its arguments as they were. -/
namespace Go.Proofs.Ytedjnjgnadbkaaa
open Go.ChangeShapes Go.WideShapes Go.ChangeAt Go.RowKit

set_option maxRecDepth 100000 in
theorem linearWidths_lifted (os : Os) (started : os.Started) (H : Type) (enc : TypeId × Value → H) :
    ReturnsInHanded {} Try.checked os 7 .any (Rows.linearWidthsSpec.pre6 enc Try.prog Try.f7 Rows.linearWidthsRow.domain false) (Rows.linearWidthsSpec.post enc Try.prog Try.f7 false true false false) := by
  refine law_lifted started (by kernel_rfl) Try.func7
    (ChangeSpec.witness6 (enc := enc) (C := Try.checked) false ⟨#[], #[.string ByteArray.empty, .int .i64 0, .int .i64 0, .int .i64 0], []⟩ 8 (by kernel_rfl) (by kernel_rfl) (by kernel_rfl) (by kernel_rfl)) rfl rfl (by kernel_rfl)
    (fun ds h => by rw [Try.params7] at h; match ds, h with | [_, _, _, _], _ => rfl) ?_
  intro W base args ds ps hval hA hsz hlt
  rw [Try.params7] at hA hval
  exact law_any law_LinearWidths_ok (by kernel_rfl) (fun x _ => linearWidths_s x) (fun j t v ht hv => hval j t v (by simpa using ht) hv) hA

theorem linearWidths_holds : Rows.LinearWidthsSaid :=
  OpenClaim.holds_of_wide 7 Try.f7 rfl rfl rfl rfl rfl rfl rfl ⟨rfl, rfl, rfl, rfl, rfl⟩ rfl rfl rfl rfl rfl (by kernel_rfl) Try.func7 (by kernel_rfl)
    (of_decide_eq_true (by kernel_rfl)) (by unfold Func.isWrapper; first | (rw [if_pos (by decide +kernel)]; kernel_rfl) | (rw [if_neg (by decide +kernel)]; exact ⟨rfl, rfl⟩))
    (fun os started H enc _ => linearWidths_lifted os started H enc)
end Go.Proofs.Ytedjnjgnadbkaaa
