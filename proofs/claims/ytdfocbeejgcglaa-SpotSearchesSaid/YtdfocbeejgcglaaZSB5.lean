/- SpotSearches: for every input this law returns true and leaves its arguments as they were. -/
import Derived.Test.YtdfocbeejgcglaaZSB4
/- Spot inks: arguments. -/
namespace Go.Proofs.Ytdfocbeejgcglaa
open Go Go.RowKit
theorem wf_len {n : Nat} (h : n ≤ maxLen) : (n : Int) ≤ 9223372036854775807 := by unfold maxLen at h; omega
theorem allS_of {l : List SpotT} (h : l.length ≤ maxLen) (h' : ∀ s ∈ l, s.2.2.2.2.length ≤ maxLen) : AllS l := ⟨wf_len h, fun s hs => wf_len (h' s hs)⟩
end Go.Proofs.Ytdfocbeejgcglaa
/- Spot inks: SpotSearches. -/
namespace Go.Proofs.Ytdfocbeejgcglaa
open Go Go.RowKit
set_option linter.unusedSimpArgs false
set_option linter.unusedSectionVars false
set_option linter.unusedVariables false
theorem sq_bd {a : Int} (h1 : -25600 ≤ a) (h2 : a ≤ 25600) : 0 ≤ a * a ∧ a * a ≤ 655360000 := by
  rcases Int.le_total 0 a with h | h
  · exact ⟨Int.mul_nonneg h h, by have := Int.mul_le_mul h2 h2 h (by omega); omega⟩
  · have e : a * a = (-a) * (-a) := by rw [Int.neg_mul_neg]
    rw [e]
    exact ⟨Int.mul_nonneg (by omega) (by omega), by have := Int.mul_le_mul (show -a ≤ 25600 by omega) (show -a ≤ 25600 by omega) (by omega) (by omega); omega⟩
def farV (p c : LabT) : Int := (p.1 - c.1) * (p.1 - c.1) + (p.2.1 - c.2.1) * (p.2.1 - c.2.1) + (p.2.2 - c.2.2) * (p.2.2 - c.2.2)
section
variable {fu : Nat} {p c : LabT} (hp : labR p = 0) (hc : labR c = 0)
include hp hc
theorem far_r : R_Far_r fu (p, (c, ())) = some (farV p c, ()) ∧ refspace_Far_r fu (p, (c, ())) = some (farV p c, ()) := by
  rcases labR_or p with ⟨_, p1⟩ | p1
  · rcases labR_or c with ⟨_, q1⟩ | q1
    · have m1 := sq_bd (a := p.1 - c.1) (by omega) (by omega)
      have m2 := sq_bd (a := p.2.1 - c.2.1) (by omega) (by omega)
      have m3 := sq_bd (a := p.2.2 - c.2.2) (by omega) (by omega)
      unfold R_Far_r refspace_Far_r farV
      constructor <;> simp (disch := omega) only [joinF_eq, bindO_some, s_wr, s_td, s_tm, s_pos, s_neg, cond_true, cond_false, Bool.not_true, Bool.not_false, Bool.true_and, Bool.and_true, Bool.false_and, Bool.and_false, bne_self_eq_false, decide_true, decide_false, Int.toNat_natCast]
    · omega
  · omega
end
section
variable {fu : Nat} (hf : 18446744073709551616 ≤ fu) {l : List SpotT} (hl : AllS l)
include hf hl
theorem find_r (nm : List UInt8) : spot_Find_r fu (l, (nm, ())) = some (0, (libE l, ())) ∧ libE l ≠ 0 ∨ libE l = 0 ∧
    ((∃ k : Nat, k < l.length ∧ R_SpotAt_r fu (l, (nm, ())) = some ((k : Int), ()) ∧ spot_Find_r fu (l, (nm, ())) = some ((k : Int), (0, ()))) ∨ (R_SpotAt_r fu (l, (nm, ())) = some (-1, ()) ∧ spot_Find_r fu (l, (nm, ())) = some (0, (6, ())))) := by
  have hl1 := hl.1
  unfold spot_Find_r
  rw [libCheck_r hf hl]
  simp (disch := omega) only [joinF_eq, bindO_some, s_wr, s_td, s_tm, s_pos, s_neg, cond_true, cond_false, Bool.not_true, Bool.not_false, Bool.true_and, Bool.and_true, Bool.false_and, Bool.and_false, bne_self_eq_false, decide_true, decide_false, Int.toNat_natCast]
  by_cases e : libE l = 0
  · refine .inr ⟨e, ?_⟩
    simp (disch := omega) only [joinF_eq, bindO_some, s_wr, s_td, s_tm, s_pos, s_neg, cond_true, cond_false, Bool.not_true, Bool.not_false, Bool.true_and, Bool.and_true, Bool.false_and, Bool.and_false, bne_self_eq_false, decide_true, decide_false, Int.toNat_natCast]
    obtain ⟨h40, hok⟩ := libE_ok e
    have hF := findLoop (f := spot_Find_l1 fu (l, (nm, ()))) (n := l.length) (fu := fu) (by omega) (p := fun k => (spAt l k).1 = nm) (hit := fun k => some ((k : Int), (0, ()))) (miss := some (0, (6, ())))
        (fun j' k hk hp => by
          unfold spot_Find_l1
          simp (disch := omega) only [joinF_eq, bindO_some, s_wr, s_td, s_tm, s_pos, s_neg, cond_true, cond_false, Bool.not_true, Bool.not_false, Bool.true_and, Bool.and_true, Bool.false_and, Bool.and_false, bne_self_eq_false, decide_true, decide_false, Int.toNat_natCast, spAt_fold]
          exact bif_pos hp)
        (fun j' k hk hp => by
          unfold spot_Find_l1
          simp (disch := omega) only [joinF_eq, bindO_some, s_wr, s_td, s_tm, s_pos, s_neg, cond_true, cond_false, Bool.not_true, Bool.not_false, Bool.true_and, Bool.and_true, Bool.false_and, Bool.and_false, bne_self_eq_false, decide_true, decide_false, Int.toNat_natCast, spAt_fold]
          exact bif_neg hp)
        (fun j' => by
          unfold spot_Find_l1
          simp (disch := omega) only [joinF_eq, bindO_some, s_wr, s_td, s_tm, s_pos, s_neg, cond_true, cond_false, Bool.not_true, Bool.not_false, Bool.true_and, Bool.and_true, Bool.false_and, Bool.and_false, bne_self_eq_false, decide_true, decide_false, Int.toNat_natCast])
    rcases spotAt_r hf hl1 nm with ⟨k, hk, hp, hn, h⟩ | ⟨hn, h⟩
    · rcases hF with ⟨k', hk', hp', hn', h'⟩ | ⟨hn', h'⟩
      · have : k = k' := by
          rcases Nat.lt_trichotomy k k' with g | g | g
          · exact absurd hp (hn' k g)
          · exact g
          · exact absurd (hp'.trans hp.symm) ((hok k hk).2 k' g)
        subst this
        exact .inl ⟨k, hk, h, h'⟩
      · exact absurd hp (hn' k hk)
    · rcases hF with ⟨k', hk', hp', hn', h'⟩ | ⟨hn', h'⟩
      · exact absurd hp' (hn k' hk')
      · exact .inr ⟨h, h'⟩
  · refine .inl ⟨?_, e⟩
    simp (disch := omega) only [joinF_eq, bindO_some, s_wr, s_td, s_tm, s_pos, s_neg, cond_true, cond_false, Bool.not_true, Bool.not_false, Bool.true_and, Bool.and_true, Bool.false_and, Bool.and_false, bne_self_eq_false, decide_true, decide_false, Int.toNat_natCast]
/-- what Nearest answers -/
theorem near_r (c : LabT) : spot_Nearest_r fu (l, (c, ())) = (if libE l = 0 then (if labR c = 0 then (if l.length = 0 then some (0, (0, (8, ()))) else spot_Nearest_r fu (l, (c, ()))) else some (0, (0, (3, ())))) else some (0, (0, (libE l, ())))) ∧
    (libE l = 0 → labR c = 0 → l.length ≠ 0 → ∃ k : Nat, k < l.length ∧ spot_Nearest_r fu (l, (c, ())) = some ((k : Int), (farV (spAt l k).2.2.1 c, (0, ()))) ∧ ∀ i, i < l.length → farV (spAt l k).2.2.1 c ≤ farV (spAt l i).2.2.1 c ∧ (farV (spAt l i).2.2.1 c = farV (spAt l k).2.2.1 c → k ≤ i)) := by
  have hl1 := hl.1
  constructor
  · by_cases e : libE l = 0
    · rw [if_pos e]
      rcases labR_or c with ⟨e1, _⟩ | e1
      · rw [if_pos e1]
        by_cases g : l.length = 0
        · rw [if_pos g]
          unfold spot_Nearest_r
          rw [libCheck_r hf hl]
          simp (disch := omega) only [joinF_eq, bindO_some, s_wr, s_td, s_tm, s_pos, s_neg, cond_true, cond_false, Bool.not_true, Bool.not_false, Bool.true_and, Bool.and_true, Bool.false_and, Bool.and_false, bne_self_eq_false, decide_true, decide_false, Int.toNat_natCast, refChk_s]
        · rw [if_neg g]
      · rw [if_neg (by omega)]
        unfold spot_Nearest_r
        rw [libCheck_r hf hl]
        simp (disch := omega) only [joinF_eq, bindO_some, s_wr, s_td, s_tm, s_pos, s_neg, cond_true, cond_false, Bool.not_true, Bool.not_false, Bool.true_and, Bool.and_true, Bool.false_and, Bool.and_false, bne_self_eq_false, decide_true, decide_false, Int.toNat_natCast, refChk_s, e1]
    · rw [if_neg e]
      unfold spot_Nearest_r
      rw [libCheck_r hf hl]
      simp (disch := omega) only [joinF_eq, bindO_some, s_wr, s_td, s_tm, s_pos, s_neg, cond_true, cond_false, Bool.not_true, Bool.not_false, Bool.true_and, Bool.and_true, Bool.false_and, Bool.and_false, bne_self_eq_false, decide_true, decide_false, Int.toNat_natCast]
  · intro e e1 g
    obtain ⟨h40, hok⟩ := libE_ok e
    have hfar : ∀ k, k < l.length → refspace_Far_r fu ((spAt l k).2.2.1, (c, ())) = some (farV (spAt l k).2.2.1 c, ()) := fun k hk => (far_r (hok k hk).1.q e1).2
    unfold spot_Nearest_r
    rw [libCheck_r hf hl]
    simp (disch := omega) only [joinF_eq, bindO_some, s_wr, s_td, s_tm, s_pos, s_neg, cond_true, cond_false, Bool.not_true, Bool.not_false, Bool.true_and, Bool.and_true, Bool.false_and, Bool.and_false, bne_self_eq_false, decide_true, decide_false, Int.toNat_natCast, refChk_s]
    show ∃ k : Nat, k < l.length ∧ bindO (refspace_Far_r fu ((spAt l 0).2.2.1, (c, ()))) _ = _ ∧ _
    rw [hfar 0 (by omega)]
    simp (disch := omega) only [joinF_eq, bindO_some, s_wr, s_td, s_tm, s_pos, s_neg, cond_true, cond_false, Bool.not_true, Bool.not_false, Bool.true_and, Bool.and_true, Bool.false_and, Bool.and_false, bne_self_eq_false, decide_true, decide_false, Int.toNat_natCast]
    have key := postLoop (f := spot_Nearest_l1 fu (l, (c, ()))) (fun s : Int × Int × Int => ((l.length : Int) - s.2.2).toNat)
      (fun s => ∃ b i : Nat, s = (farV (spAt l b).2.2.1 c, ((b : Int), (i : Int))) ∧ b < l.length ∧ i ≤ l.length ∧ b ≤ i ∧ ∀ k, k < i → farV (spAt l b).2.2.1 c ≤ farV (spAt l k).2.2.1 c ∧ (farV (spAt l k).2.2.1 c = farV (spAt l b).2.2.1 c → b ≤ k))
      (fun r => ∃ k : Nat, k < l.length ∧ r = some ((k : Int), (farV (spAt l k).2.2.1 c, (0, ()))) ∧ ∀ i, i < l.length → farV (spAt l k).2.2.1 c ≤ farV (spAt l i).2.2.1 c ∧ (farV (spAt l i).2.2.1 c = farV (spAt l k).2.2.1 c → k ≤ i)) ?_ fu (farV (spAt l 0).2.2.1 c, (0, 0)) ⟨0, 0, rfl, by omega, by omega, by omega, fun k hk => absurd hk (by omega)⟩ (by simp only; omega)
    · exact key
    rintro j _ ⟨b, i, rfl, k1, k2, k3, k4⟩
    unfold spot_Nearest_l1 spot_Nearest_j2
    by_cases hi : i < l.length
    · refine .inl ?_
      simp (disch := omega) only [joinF_eq, bindO_some, s_wr, s_td, s_tm, s_pos, s_neg, cond_true, cond_false, Bool.not_true, Bool.not_false, Bool.true_and, Bool.and_true, Bool.false_and, Bool.and_false, bne_self_eq_false, decide_true, decide_false, Int.toNat_natCast]
      show ∃ x', _ ∧ _ ∧ bindO (refspace_Far_r fu ((spAt l i).2.2.1, (c, ()))) _ = _
      rw [hfar i hi]
      simp (disch := omega) only [joinF_eq, bindO_some, s_wr, s_td, s_tm, s_pos, s_neg, cond_true, cond_false, Bool.not_true, Bool.not_false, Bool.true_and, Bool.and_true, Bool.false_and, Bool.and_false, bne_self_eq_false, decide_true, decide_false, Int.toNat_natCast]
      by_cases d : farV (spAt l i).2.2.1 c < farV (spAt l b).2.2.1 c
      · refine ⟨(farV (spAt l i).2.2.1 c, ((i : Int), (i : Int) + 1)), ⟨i, i + 1, rfl, hi, by omega, by omega, fun k hk => ?_⟩, by simp only; omega, by simp (disch := omega) only [joinF_eq, bindO_some, s_wr, s_td, s_tm, s_pos, s_neg, cond_true, cond_false, Bool.not_true, Bool.not_false, Bool.true_and, Bool.and_true, Bool.false_and, Bool.and_false, bne_self_eq_false, decide_true, decide_false, Int.toNat_natCast]⟩
        by_cases q : k = i
        · subst q; exact ⟨Int.le_refl _, fun _ => Nat.le_refl _⟩
        · have := (k4 k (by omega)).1
          exact ⟨by omega, fun h => by omega⟩
      · refine ⟨(farV (spAt l b).2.2.1 c, ((b : Int), (i : Int) + 1)), ⟨b, i + 1, rfl, k1, by omega, by omega, fun k hk => ?_⟩, by simp only; omega, by simp (disch := omega) only [joinF_eq, bindO_some, s_wr, s_td, s_tm, s_pos, s_neg, cond_true, cond_false, Bool.not_true, Bool.not_false, Bool.true_and, Bool.and_true, Bool.false_and, Bool.and_false, bne_self_eq_false, decide_true, decide_false, Int.toNat_natCast]⟩
        by_cases q : k = i
        · subst q; exact ⟨by omega, fun _ => k3⟩
        · exact k4 k (by omega)
    · refine .inr ⟨b, k1, ?_, fun k hk => k4 k (by omega)⟩
      simp (disch := omega) only [joinF_eq, bindO_some, s_wr, s_td, s_tm, s_pos, s_neg, cond_true, cond_false, Bool.not_true, Bool.not_false, Bool.true_and, Bool.and_true, Bool.false_and, Bool.and_false, bne_self_eq_false, decide_true, decide_false, Int.toNat_natCast]
theorem spotSearches_r (hW : law_spotWorks_r fu () = some (true, ())) (nm : List UInt8) (c : LabT) : law_SpotSearches_r fu (l, (nm, (c, ()))) = some (true, ()) := by
  have hl1 := hl.1
  unfold law_SpotSearches_r
  obtain ⟨n1, n2⟩ := near_r hf hl c
  rcases find_r hf hl nm with ⟨h1, e⟩ | ⟨e, hF⟩
  · rw [if_neg e] at n1
    simp (disch := omega) only [joinF_eq, bindO_some, s_wr, s_td, s_tm, s_pos, s_neg, cond_true, cond_false, Bool.not_true, Bool.not_false, Bool.true_and, Bool.and_true, Bool.false_and, Bool.and_false, bne_self_eq_false, decide_true, decide_false, Int.toNat_natCast, hW, h1]
    show bindO (spot_Nearest_r fu (l, (c, ()))) _ = _
    simp (disch := omega) only [joinF_eq, bindO_some, s_wr, s_td, s_tm, s_pos, s_neg, cond_true, cond_false, Bool.not_true, Bool.not_false, Bool.true_and, Bool.and_true, Bool.false_and, Bool.and_false, bne_self_eq_false, decide_true, decide_false, Int.toNat_natCast, n1, libErr_r hf hl, none_s]
  · obtain ⟨h40, hok⟩ := libE_ok e
    have hJ : ∀ v5 v6 v7, spot_Nearest_r fu (l, (c, ())) = some (v5, (v6, (v7, ()))) → law_SpotSearches_j1 fu (l, (nm, (c, ()))) v5 v6 v7 false = some (true, ()) := by
      intro v5 v6 v7 hv
      unfold law_SpotSearches_j1
      simp (disch := omega) only [joinF_eq, bindO_some, s_wr, s_td, s_tm, s_pos, s_neg, cond_true, cond_false, Bool.not_true, Bool.not_false, Bool.true_and, Bool.and_true, Bool.false_and, Bool.and_false, bne_self_eq_false, decide_true, decide_false, Int.toNat_natCast]
      show bindO (R_LabErr_r fu (c, ())) _ = _
      rw [labErr_s]
      simp (disch := omega) only [joinF_eq, bindO_some, s_wr, s_td, s_tm, s_pos, s_neg, cond_true, cond_false, Bool.not_true, Bool.not_false, Bool.true_and, Bool.and_true, Bool.false_and, Bool.and_false, bne_self_eq_false, decide_true, decide_false, Int.toNat_natCast]
      rcases labR_or c with ⟨e1, _⟩ | e1
      · by_cases g : l.length = 0
        · rw [n1, if_pos e, if_pos e1, if_pos g] at hv
          simp only [Option.some.injEq, Prod.mk.injEq, and_true] at hv
          obtain ⟨rfl, rfl, rfl⟩ := hv
          simp (disch := omega) only [joinF_eq, bindO_some, s_wr, s_td, s_tm, s_pos, s_neg, cond_true, cond_false, Bool.not_true, Bool.not_false, Bool.true_and, Bool.and_true, Bool.false_and, Bool.and_false, bne_self_eq_false, decide_true, decide_false, Int.toNat_natCast, none_s]
        · obtain ⟨k, hk, hr, hm⟩ := n2 e e1 g
          rw [hr] at hv
          simp only [Option.some.injEq, Prod.mk.injEq, and_true] at hv
          obtain ⟨rfl, rfl, rfl⟩ := hv
          have hfar : ∀ i, i < l.length → R_Far_r fu ((spAt l i).2.2.1, (c, ())) = some (farV (spAt l i).2.2.1 c, ()) := fun i hi => (far_r (hok i hi).1.q e1).1
          simp (disch := omega) only [joinF_eq, bindO_some, s_wr, s_td, s_tm, s_pos, s_neg, cond_true, cond_false, Bool.not_true, Bool.not_false, Bool.true_and, Bool.and_true, Bool.false_and, Bool.and_false, bne_self_eq_false, decide_true, decide_false, Int.toNat_natCast, e1]
          show bindO (R_Far_r fu ((spAt l k).2.2.1, (c, ()))) _ = _
          rw [hfar k hk]
          simp (disch := omega) only [joinF_eq, bindO_some, s_wr, s_td, s_tm, s_pos, s_neg, cond_true, cond_false, Bool.not_true, Bool.not_false, Bool.true_and, Bool.and_true, Bool.false_and, Bool.and_false, bne_self_eq_false, decide_true, decide_false, Int.toNat_natCast, law_SpotSearches_j2, ne_eq, not_true_eq_false]
          rw [errLoop (n := l.length) (E := fun _ => 0) (out := fun e => some (true, ())) (fin := some (true, ())) (by omega)]
          · split <;> rfl
          · intro j i hi
            have hmi := hm i hi
            unfold law_SpotSearches_l3 law_SpotSearches_j4
            simp (disch := omega) only [joinF_eq, bindO_some, s_wr, s_td, s_tm, s_pos, s_neg, cond_true, cond_false, Bool.not_true, Bool.not_false, Bool.true_and, Bool.and_true, Bool.false_and, Bool.and_false, bne_self_eq_false, decide_true, decide_false, Int.toNat_natCast]
            show bindO (R_Far_r fu ((spAt l i).2.2.1, (c, ()))) _ = _
            rw [hfar i hi]
            simp (disch := omega) only [joinF_eq, bindO_some, s_wr, s_td, s_tm, s_pos, s_neg, cond_true, cond_false, Bool.not_true, Bool.not_false, Bool.true_and, Bool.and_true, Bool.false_and, Bool.and_false, bne_self_eq_false, decide_true, decide_false, Int.toNat_natCast]
            by_cases q : farV (spAt l i).2.2.1 c = farV (spAt l k).2.2.1 c
            · have := hmi.2 q
              simp (disch := omega) only [joinF_eq, bindO_some, s_wr, s_td, s_tm, s_pos, s_neg, cond_true, cond_false, Bool.not_true, Bool.not_false, Bool.true_and, Bool.and_true, Bool.false_and, Bool.and_false, bne_self_eq_false, decide_true, decide_false, Int.toNat_natCast]; rfl
            · simp (disch := omega) only [joinF_eq, bindO_some, s_wr, s_td, s_tm, s_pos, s_neg, cond_true, cond_false, Bool.not_true, Bool.not_false, Bool.true_and, Bool.and_true, Bool.false_and, Bool.and_false, bne_self_eq_false, decide_true, decide_false, Int.toNat_natCast]; rfl
          · intro j
            unfold law_SpotSearches_l3
            simp (disch := omega) only [joinF_eq, bindO_some, s_wr, s_td, s_tm, s_pos, s_neg, cond_true, cond_false, Bool.not_true, Bool.not_false, Bool.true_and, Bool.and_true, Bool.false_and, Bool.and_false, bne_self_eq_false, decide_true, decide_false, Int.toNat_natCast]
      · rw [n1, if_pos e, if_neg (by omega)] at hv
        simp only [Option.some.injEq, Prod.mk.injEq, and_true] at hv
        obtain ⟨rfl, rfl, rfl⟩ := hv
        simp (disch := omega) only [joinF_eq, bindO_some, s_wr, s_td, s_tm, s_pos, s_neg, cond_true, cond_false, Bool.not_true, Bool.not_false, Bool.true_and, Bool.and_true, Bool.false_and, Bool.and_false, bne_self_eq_false, decide_true, decide_false, Int.toNat_natCast, none_s, e1]
    obtain ⟨v5, v6, v7, hv⟩ : ∃ v5 v6 v7, spot_Nearest_r fu (l, (c, ())) = some (v5, (v6, (v7, ()))) := by
      rcases labR_or c with ⟨e1, _⟩ | e1
      · by_cases g : l.length = 0
        · rw [if_pos e, if_pos e1, if_pos g] at n1; exact ⟨_, _, _, n1⟩
        · obtain ⟨k, hk, hr, hm⟩ := n2 e e1 g
          exact ⟨_, _, _, hr⟩
      · rw [if_pos e, if_neg (by omega)] at n1; exact ⟨_, _, _, n1⟩
    have hJ := hJ _ _ _ hv
    rcases hF with ⟨k, hk, h1, h2⟩ | ⟨h1, h2⟩
    · simp (disch := omega) only [joinF_eq, bindO_some, s_wr, s_td, s_tm, s_pos, s_neg, cond_true, cond_false, Bool.not_true, Bool.not_false, Bool.true_and, Bool.and_true, Bool.false_and, Bool.and_false, bne_self_eq_false, decide_true, decide_false, Int.toNat_natCast, hW, h2]
      show bindO (spot_Nearest_r fu (l, (c, ()))) _ = _
      rw [hv]
      simp (disch := omega) only [joinF_eq, bindO_some, s_wr, s_td, s_tm, s_pos, s_neg, cond_true, cond_false, Bool.not_true, Bool.not_false, Bool.true_and, Bool.and_true, Bool.false_and, Bool.and_false, bne_self_eq_false, decide_true, decide_false, Int.toNat_natCast, libErr_r hf hl, h1, ne_eq, not_true_eq_false]
      exact hJ
    · simp (disch := omega) only [joinF_eq, bindO_some, s_wr, s_td, s_tm, s_pos, s_neg, cond_true, cond_false, Bool.not_true, Bool.not_false, Bool.true_and, Bool.and_true, Bool.false_and, Bool.and_false, bne_self_eq_false, decide_true, decide_false, Int.toNat_natCast, hW, h2]
      show bindO (spot_Nearest_r fu (l, (c, ()))) _ = _
      rw [hv]
      simp (disch := omega) only [joinF_eq, bindO_some, s_wr, s_td, s_tm, s_pos, s_neg, cond_true, cond_false, Bool.not_true, Bool.not_false, Bool.true_and, Bool.and_true, Bool.false_and, Bool.and_false, bne_self_eq_false, decide_true, decide_false, Int.toNat_natCast, libErr_r hf hl, h1, none_s]
      exact hJ
end
end Go.Proofs.Ytdfocbeejgcglaa
/- SpotSearches: for every input this law returns true and leaves its arguments as they were. -/
namespace Go.Proofs.Ytdfocbeejgcglaa
open Go.ChangeShapes Go.WideShapes Go.ChangeAt Go.RowKit

set_option maxRecDepth 100000 in
theorem spotSearches_lifted (os : Os) (started : os.Started) (H : Type) (enc : TypeId × Value → H) :
    ReturnsInHanded {} Try.checked os 9 .any (Rows.spotSearchesSpec.pre6 enc Try.prog Try.f9 Rows.spotSearchesRow.domain false) (Rows.spotSearchesSpec.post enc Try.prog Try.f9 false true false false) := by
  refine law_lifted started (by kernel_rfl) Try.func9
    (ChangeSpec.witness6 (enc := enc) (C := Try.checked) false ⟨#[], #[.slice none 0 0, .string ByteArray.empty, .agg #[.int .i64 0, .int .i64 0, .int .i64 0]], []⟩ 8 (by kernel_rfl) (by kernel_rfl) (by kernel_rfl) (by kernel_rfl)) rfl rfl (by kernel_rfl)
    (fun ds h => by rw [Try.params9] at h; match ds, h with | [_, _, _], _ => rfl) ?_
  intro W base args ds ps hval hA hsz hlt
  rw [Try.params9] at hA hval
  exact law_any law_SpotSearches_ok (by kernel_rfl) (fun x hx => spotSearches_r fu_le (allS_of hx.1.1 fun s hs => (hx.1.2 s hs).2.2.2.2.1) spotWorks_true x.2.1 x.2.2.1) (fun j t v ht hv => hval j t v (by simpa using ht) hv) hA

theorem spotSearches_holds : Rows.SpotSearchesSaid :=
  OpenClaim.holds_of_wide 9 Try.f9 rfl rfl rfl rfl rfl rfl rfl ⟨rfl, rfl, rfl, rfl, rfl⟩ rfl rfl rfl rfl rfl (by kernel_rfl) Try.func9 (by kernel_rfl)
    (of_decide_eq_true (by kernel_rfl)) (by unfold Func.isWrapper; first | (rw [if_pos (by decide +kernel)]; kernel_rfl) | (rw [if_neg (by decide +kernel)]; exact ⟨rfl, rfl⟩))
    (fun os started H enc _ => spotSearches_lifted os started H enc)
end Go.Proofs.Ytdfocbeejgcglaa
