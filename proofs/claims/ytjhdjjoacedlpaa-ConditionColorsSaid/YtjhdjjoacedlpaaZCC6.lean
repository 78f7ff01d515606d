/- ConditionColors: for every input this law returns true and leaves its arguments as they were. -/
import Derived.Test.YtjhdjjoacedlpaaZCC5
import Derived.Test.YtjhdjjoacedlpaaRows
import Derived.WalkKit
import Derived.ProofKit
import Derived.SizedLaws
import Derived.BigQuiet
import Derived.Deep.QuietTactic
import Derived.Deep.Slices
import Derived.OpenShut
/- Device links (DlP without its law). -/
namespace Go.Proofs.Ytjhdjjoacedlpaa
open Go Go.RowKit
set_option linter.unusedSimpArgs false
set_option linter.unusedSectionVars false
set_option linter.unusedVariables false
theorem wf_len {n : Nat} (h : n ≤ maxLen) : (n : Int) ≤ 9223372036854775807 := by unfold maxLen at h; omega
theorem dl_raw (fu : Nat) (a : (Int × (Int × (Int × List Int))) × (List Int × Unit)) (v0 : Int × List Int) (v1 v2 : Int) : devicelink_Quick_l2 fu a v0 v1 v2 = raw_l1 (devicelink_Quick_j5 fu a) fu (a.1, (v0.2, ())) v1 v2 := rfl
theorem dl_sc (fu : Nat) (a : (Int × (Int × (Int × List Int))) × (List Int × Unit)) (v0 : Int × List Int) (v1 : Int) : R_Linked_l2 fu a v0 v1 = sc_l2 (fun v2 => loopF (R_Linked_l7 fu a v2) fu (((0 : Int), v2.2))) fu (a.1, (v0.2, ())) v1 := rfl
def fineL (l : List Int) : List Int := tabL l.length fun q => 256 * l.getD q.toNat 0
theorem fineL_len (l : List Int) : (fineL l).length = l.length := tabL_length _ _
theorem fineL_at {l : List Int} {k : Nat} (hk : k < l.length) : (fineL l).getD k 0 = 256 * l.getD k 0 := by
  unfold fineL; rw [tabL_getDN hk, Int.toNat_natCast]
section
variable {n o s : Nat} {vs l : List Int} {t : Int} (h : InOk n o s vs (fineL l) t) {fu : Nat} (hf : 18446744073709551616 ≤ fu) (hb : ∀ k, k < l.length → 0 ≤ l.getD k 0 ∧ l.getD k 0 ≤ 255)
include h
theorem dl_bd {q : Nat} (hq : q < o) : -1000000000000 ≤ smF n t (inP (fineL l) t) (inC (fineL l) t) s (inV o vs) (2 ^ n) q ∧ smF n t (inP (fineL l) t) (inC (fineL l) t) s (inV o vs) (2 ^ n) q ≤ 1000000000000 := by
  have a := sm_bd h hq (2 ^ n); have : 2 ^ n ≤ 16 := Nat.pow_le_pow_right (by decide) h.n4; generalize 2 ^ n = N at *
  omega
include hf hb
theorem dquick_r : devicelink_Quick_r fu (((n : Int), ((o : Int), ((s : Int), vs))), (l, ())) = some (tabL o (fun q => rnd (smF n t (inP (fineL l) t) (inC (fineL l) t) s (inV o vs) (2 ^ n) q) (256 * t)), ()) := by
  have h' := h; obtain ⟨n1, n4, o1, o8, s2, s9, sz, hv, vb, hl, bl, t1, t2, tt⟩ := h'; rw [fineL_len] at hl; have ht : (65280 : Int) / ((s : Int) - 1) = t := Int.ediv_eq_of_eq_mul_left (by omega) tt.symm; unfold devicelink_Quick_r; simp only; rw [bif_and (by omega) (by omega), Int.toNat_natCast]; refine stLoop (n := l.length) (st := fun k : Nat => ((k : Int), tabL l.length (fun q => if q < (k : Int) then 256 * l.getD q.toNat 0 else 0))) (by omega) ?_ (fun j k hk => ?_) (fun j => ?_)
  · refine Prod.ext rfl ?_; show (tabL l.length fun q => if q < ((0 : Nat) : Int) then 256 * l.getD q.toNat 0 else 0) = List.replicate l.length 0; exact tabL_rep fun q h0 h1 => by rw [if_neg (by omega)]
  · have := hb k hk; unfold devicelink_Quick_l1; simp only [Int.toNat_natCast, tabL_length]; rw [bif_pos (by omega), bif_and (by omega) (by omega), bif_and (by omega) (by omega), s_wr (by omega) (by omega), s_wr (by omega) (by omega), tabP_set (A := fun q => 256 * l.getD q.toNat 0) (B := fun _ => 0) hk (by simp only [Int.toNat_natCast])]; rfl
  · have e1 : (tabL l.length fun q => if q < ((l.length : Nat) : Int) then 256 * l.getD q.toNat 0 else 0) = fineL l := tabL_congr fun i h0 h1 => by rw [if_pos h1]
    unfold devicelink_Quick_l1; simp only [e1]; rw [bif_neg (by omega), s_wr (by omega) (by omega), bif_pos (by omega), s_td (by omega), ht, s_wr (by omega) (by omega), dl_raw]; simp only; rw [raw_all h hf]; unfold devicelink_Quick_j5; have sb : ∀ q, q < o → _ := fun q hq => dl_bd h (q := q) hq
    generalize hS : smF n t (inP (fineL l) t) (inC (fineL l) t) s (inV o vs) (2 ^ n) = S at *
    refine stLoop (n := o) (st := fun q => ((q : Int), tabL o (fun k => if k < (q : Int) then rnd (S k) (256 * t) else S k))) (by omega) ?_ (fun j' q hq => ?_) (fun j' => ?_)
    · exact Prod.ext rfl (tabP_zero (A := fun k => rnd (S k) (256 * t)) (B := S))
    · have := sb q hq; unfold devicelink_Quick_l6; simp only [Int.toNat_natCast, tabL_length, tabP_get hq]; rw [bif_pos (by omega), bif_and (by omega) (by omega), s_wr (x := (s : Int) - 1) (by omega) (by omega), bif_pos (by omega), s_td (by omega), ht, s_wr (x := t) (by omega) (by omega), s_wr (x := 256 * t) (by omega) (by omega), nearest_s fu (by omega) (by omega) (by omega) (by omega)]; simp only [bindO_some]; rw [bif_and (by omega) (by omega), s_wr (by omega) (by omega), tabP_set hq rfl]; rfl
    · unfold devicelink_Quick_l6; simp only [tabL_length]; rw [bif_neg (by omega)]; have e1 : (tabL o fun k => if k < ((o : Nat) : Int) then rnd (S k) (256 * t) else S k) = tabL o (fun k => rnd (S k) (256 * t)) := tabL_congr fun i h0 h1 => by rw [if_pos h1]
      rw [e1]
theorem linked_r : R_Linked_r fu (((n : Int), ((o : Int), ((s : Int), vs))), (l, ())) = some (tabL o (fun q => rnd (smF n t (inP (fineL l) t) (inC (fineL l) t) s (inV o vs) (2 ^ n) q) (256 * t)), ()) := by
  have h' := h; obtain ⟨n1, n4, o1, o8, s2, s9, sz, hv, vb, hl, bl, t1, t2, tt⟩ := h'; rw [fineL_len] at hl; have ht : (65280 : Int) / ((s : Int) - 1) = t := Int.ediv_eq_of_eq_mul_left (by omega) tt.symm; unfold R_Linked_r; simp only; rw [bif_and (by omega) (by omega), Int.toNat_natCast]; refine stLoop (n := l.length) (st := fun k : Nat => ((k : Int), tabL l.length (fun q => if q < (k : Int) then 256 * l.getD q.toNat 0 else 0))) (by omega) ?_ (fun j k hk => ?_) (fun j => ?_)
  · refine Prod.ext rfl ?_; show (tabL l.length fun q => if q < ((0 : Nat) : Int) then 256 * l.getD q.toNat 0 else 0) = List.replicate l.length 0; exact tabL_rep fun q h0 h1 => by rw [if_neg (by omega)]
  · have := hb k hk; unfold R_Linked_l1; simp only [Int.toNat_natCast, tabL_length]; rw [bif_pos (by omega), bif_and (by omega) (by omega), bif_and (by omega) (by omega), s_wr (by omega) (by omega), s_wr (by omega) (by omega), tabP_set (A := fun q => 256 * l.getD q.toNat 0) (B := fun _ => 0) hk (by simp only [Int.toNat_natCast])]; rfl
  · have e1 : (tabL l.length fun q => if q < ((l.length : Nat) : Int) then 256 * l.getD q.toNat 0 else 0) = fineL l := tabL_congr fun i h0 h1 => by rw [if_pos h1]
    unfold R_Linked_l1; simp only [e1]; rw [bif_neg (by omega), s_wr (by omega) (by omega), bif_pos (by omega), s_td (by omega), ht, s_wr (by omega) (by omega), bif_and (by omega) (by omega), bif_and (by omega) (by omega), Int.toNat_natCast, dl_sc]; simp only; rw [sc_all h hf]; have sb : ∀ q, q < o → _ := fun q hq => dl_bd h (q := q) hq
    generalize hS : smF n t (inP (fineL l) t) (inC (fineL l) t) s (inV o vs) (2 ^ n) = S at *
    refine stLoop (n := o) (st := fun q => ((q : Int), tabL o (fun k => if k < (q : Int) then rnd (S k) (256 * t) else S k))) (by omega) ?_ (fun j' q hq => ?_) (fun j' => ?_)
    · exact Prod.ext rfl (tabP_zero (A := fun k => rnd (S k) (256 * t)) (B := S))
    · have := sb q hq; unfold R_Linked_l7; simp only [Int.toNat_natCast, tabL_length, tabP_get hq]; rw [bif_pos (by omega), bif_and (by omega) (by omega), s_wr (x := (s : Int) - 1) (by omega) (by omega), bif_pos (by omega), s_td (by omega), ht, s_wr (x := t) (by omega) (by omega), s_wr (x := 256 * t) (by omega) (by omega), round_s fu (by omega) (by omega) (by omega) (by omega)]; simp only [bindO_some]; rw [bif_and (by omega) (by omega), s_wr (by omega) (by omega), tabP_set hq rfl]; rfl
    · unfold R_Linked_l7; simp only [tabL_length]; rw [bif_neg (by omega)]; have e1 : (tabL o fun k => if k < ((o : Nat) : Int) then rnd (S k) (256 * t) else S k) = tabL o (fun k => rnd (S k) (256 * t)) := tabL_congr fun i h0 h1 => by rw [if_pos h1]
      rw [e1]
end
def inE (g : GrT) (l : List Int) : Int := if grE g = 0 then tonesE l g.1 65280 else grE g
def lkE (g : GrT) : Int := if grE g = 0 then tonesE g.2.2.2 g.2.2.2.length 65280 else grE g
section
variable {fu : Nat} (hf : 18446744073709551616 ≤ fu) {i o s : Int} {vs l : List Int} (hv : (vs.length : Int) ≤ 9223372036854775807) (hl : (l.length : Int) ≤ 9223372036854775807)
theorem in_ok (h : inE (i, (o, (s, vs))) l = 0) : ∃ n' o' s' : Nat, i = n' ∧ o = o' ∧ s = s' ∧ InOk n' o' s' vs l (65280 / ((s' : Int) - 1)) := by
  unfold inE at h; by_cases c : grE (i, (o, (s, vs))) = 0
  · rw [if_pos c] at h; obtain ⟨ok, ok2, ok3, ok4⟩ := grE_ok c; obtain ⟨l1, l2⟩ := tones_ok h; unfold shOk at ok; obtain ⟨n, rfl⟩ := Int.eq_ofNat_of_zero_le (show 0 ≤ i by omega); obtain ⟨o, rfl⟩ := Int.eq_ofNat_of_zero_le (show 0 ≤ o by omega); obtain ⟨s, rfl⟩ := Int.eq_ofNat_of_zero_le (show 0 ≤ s by omega); have e : (s : Int) ^ ((n : Int)).toNat * (o : Int) = ((s ^ n * o : Nat) : Int) := by rw [Int.toNat_natCast, Int.natCast_mul, Int.natCast_pow]
    rw [e] at ok2 ok3; have ts : s = 2 ∨ s = 3 ∨ s = 4 ∨ s = 5 ∨ s = 6 ∨ s = 7 ∨ s = 9 := by omega
    refine ⟨n, o, s, rfl, rfl, rfl, ⟨by omega, by omega, by omega, by omega, by omega, by omega, by omega, by omega, ok4, by omega, fun k hk => l2 k (by omega), ?_, ?_, ?_⟩⟩
    · rcases ts with h | h | h | h | h | h | h <;> subst h <;> decide
    · rcases ts with h | h | h | h | h | h | h <;> subst h <;> decide
    · rcases ts with h | h | h | h | h | h | h <;> subst h <;> decide
  · rw [if_neg c] at h; omega
theorem fine_ok {n : Int} (h : tonesE l n 255 = 0) : tonesE (fineL l) n 65280 = 0 := by
  obtain ⟨h1, h2⟩ := tones_ok h; unfold tonesE; rw [fineL_len, if_pos h1]; refine firstE_all _ _ fun k _ hk => ?_
  unfold tnE; rw [fineL_at (by omega)]; have := h2 k (by omega); rw [if_pos (by omega)]
include hf
include hv
theorem dcheck_r : devicelink_Check_r fu ((i, (o, (s, vs))), ()) = some (lkE (i, (o, (s, vs))), ()) := by
  unfold devicelink_Check_r lkE; simp only; rw [check_r hf hv]; simp only [bindO_some]; by_cases c : grE (i, (o, (s, vs))) = 0
  · rw [bif_neg (fun g => g c), if_pos c]; unfold tonesE; rw [if_pos rfl, errLoop (n := vs.length) (E := tnE vs 65280) (out := fun e => some (e, ())) (fin := some (0, ())) (by omega)]
    · split
      · rename_i e; rw [e]
      · rfl
    · intro j k hk; unfold devicelink_Check_l1 devicelink_Check_j2 tnE; simp only [joinF_eq, Int.toNat_natCast]; rw [bif_pos (by omega), bif_and (by omega) (by omega)]; by_cases g1 : vs.getD k 0 < 0
      · have e : (if 0 ≤ vs.getD k 0 ∧ vs.getD k 0 ≤ 65280 then (0 : Int) else 3) = 3 := if_neg (by omega); rw [bif_pos g1, e]; rfl
      · rw [bif_neg g1]; by_cases g2 : 65280 < vs.getD k 0
        · have e : (if 0 ≤ vs.getD k 0 ∧ vs.getD k 0 ≤ 65280 then (0 : Int) else 3) = 3 := if_neg (by omega); rw [s_pos g2, e]; rfl
        · have e : (if 0 ≤ vs.getD k 0 ∧ vs.getD k 0 ≤ 65280 then (0 : Int) else 3) = 0 := if_pos (by omega); rw [s_neg g2, e, if_pos rfl]; simp only [cond_false]; rw [s_wr (by omega) (by omega)]
    · intro j; unfold devicelink_Check_l1; rw [bif_neg (by simp only; omega)]
  · rw [bif_pos c, if_neg c]
theorem linkErr_r : R_LinkErr_r fu ((i, (o, (s, vs))), ()) = some (lkE (i, (o, (s, vs))), ()) := by
  unfold R_LinkErr_r lkE; simp only; rw [gridErr_r hf hv]; simp only [bindO_some]; by_cases c : grE (i, (o, (s, vs))) = 0
  · rw [bif_neg (fun g => g c), if_pos c, tonesErr_r hf hv]; rfl
  · rw [bif_pos c, if_neg c]
end
end Go.Proofs.Ytjhdjjoacedlpaa
/- Conditions: Check and ConditionErr. -/
namespace Go.Proofs.Ytjhdjjoacedlpaa
open Go Go.RowKit
set_option linter.unusedSimpArgs false
set_option linter.unusedSectionVars false
set_option linter.unusedVariables false
namespace Co
abbrev CondT := List (List UInt8) × (List Int × (List Int × (GrT × (GrT × (List Sp.SpotT × Int)))))
def orE (a b : Int) : Int := if a = 0 then b else a
theorem or_r (a b : Int) : (bif decide (a ≠ 0) then some (a, ()) else some (b, ())) = some (orE a b, ()) := by
  unfold orE; by_cases h : a = 0
  · rw [if_pos h, bif_neg (fun g => g h)]
  · rw [if_neg h, bif_pos h]
theorem orE_zero (a : Int) : orE a 0 = a := by unfold orE; split <;> omega
theorem orE_eq {a b : Int} (h : orE a b = 0) : a = 0 ∧ b = 0 := by
  unfold orE at h; split at h
  · exact ⟨by omega, h⟩
  · omega
theorem errLoopO {f : (Int → Option (Int × Unit)) → Int → Option (Int × Unit)} {n fu : Nat} (hn : n < fu) {E : Nat → Int} {F : Int}
    (step : ∀ j (i : Nat), i < n → f j i = if E i = 0 then j ((i : Int) + 1) else some (E i, ())) (last : ∀ j, f j n = some (F, ())) :
    loopF f fu 0 = some (orE (firstE E n 0) F, ()) := by
  rw [errLoop hn (out := fun e => some (e, ())) step last]; unfold orE; by_cases h : firstE E n 0 = 0
  · rw [if_pos h, if_pos h]
  · rw [if_neg h, if_neg h]
def nmTwin (l : List (List UInt8)) (i : Nat) : Prop := ∃ k, k < i ∧ l.getD k [] = l.getD i []
open Classical in
noncomputable def nmE (l : List (List UInt8)) (i : Nat) : Int := if Sp.nameB (l.getD i []) = true then (if nmTwin l i then 7 else 0) else 6
def dsTwin (l : List Int) (i : Nat) : Prop := ∃ k, k < i ∧ l.getD k 0 = l.getD i 0
open Classical in
noncomputable def dsE (n : Int) (l : List Int) (i : Nat) : Int := if 0 ≤ l.getD i 0 ∧ l.getD i 0 < n then (if dsTwin l i then 7 else 0) else 3
theorem take_at {α : Type} {l : List α} {d : α} {i k : Nat} (hk : k < i) : (List.drop (Int.toNat (0 : Int)) (List.take i l)).getD k d = l.getD k d := by
  rw [show (Int.toNat (0 : Int)) = 0 from rfl, List.drop_zero, List.getD_eq_getElem?_getD, List.getD_eq_getElem?_getD, List.getElem?_take_of_lt hk]
theorem take_ln {α : Type} {l : List α} {i : Nat} (hi : i < l.length) : (List.drop (Int.toNat (0 : Int)) (List.take i l)).length = i := by
  rw [show (Int.toNat (0 : Int)) = 0 from rfl, List.drop_zero, List.length_take]; omega
section
variable {fu : Nat} (hf : 18446744073709551616 ≤ fu)
include hf
theorem names_r {l : List (List UInt8)} (hl : (l.length : Int) ≤ 9223372036854775807) : profile_Names_r fu (l, ()) = some (orE (firstE (nmE l) l.length 0) 0, ()) := by
  unfold profile_Names_r; refine errLoopO (by omega) (fun j i hi => ?_) (fun j => ?_)
  · unfold profile_Names_l1; simp only [Int.toNat_natCast]; rw [bif_pos (by omega), bif_and (by omega) (by omega), Sp.isName_r hf]; simp only [bindO_some]; by_cases c : Sp.nameB (l.getD i []) = true
    · rw [c, Bool.not_true, cond_false, bif_and (by omega) (by omega)]
      rcases findLoop (f := profile_Names_l2 fu (l, ()) i (l.getD i []) j) (n := i) (fu := fu) (by omega) (p := fun k => l.getD k [] = l.getD i []) (hit := fun _ => some (7, ())) (miss := j ((i : Int) + 1))
        (fun j' k hk hp => by
          unfold profile_Names_l2; simp only [Int.toNat_natCast, take_at hk, take_ln hi]
          rw [bif_pos (by omega), bif_and (by omega) (by omega), bif_pos hp.symm])
        (fun j' k hk hp => by
          unfold profile_Names_l2; simp only [Int.toNat_natCast, take_at hk, take_ln hi]
          rw [bif_pos (by omega), bif_and (by omega) (by omega), bif_neg (fun g => hp g.symm), s_wr (by omega) (by omega)])
        (fun j' => by
          unfold profile_Names_l2; simp only [Int.toNat_natCast, take_ln hi]
          rw [bif_neg (by omega), s_wr (by omega) (by omega)]) with ⟨k, hk, hp, _, h⟩ | ⟨hp, h⟩
      · have e : nmE l i = 7 := by unfold nmE; rw [if_pos c, if_pos ⟨k, hk, hp⟩]
        rw [h, e]; rfl
      · have e : nmE l i = 0 := by unfold nmE; rw [if_pos c, if_neg (fun ⟨k, hk, q⟩ => hp k hk q)]
        rw [h, e]; rfl
    · have e : nmE l i = 6 := by unfold nmE; rw [if_neg c]
      rw [Bool.eq_false_iff.2 c, Bool.not_false, cond_true, e]; rfl
  · unfold profile_Names_l1; rw [bif_neg (by simp only; omega)]
theorem namesErr_r {l : List (List UInt8)} (hl : (l.length : Int) ≤ 9223372036854775807) : R_NamesErr_r fu (l, ()) = some (orE (firstE (nmE l) l.length 0) 0, ()) := by
  unfold R_NamesErr_r; refine errLoopO (by omega) (fun j i hi => ?_) (fun j => ?_)
  · unfold R_NamesErr_l1; simp only [Int.toNat_natCast]; rw [bif_pos (by omega), bif_and (by omega) (by omega), Sp.name_r hf]; simp only [bindO_some]; by_cases c : Sp.nameB (l.getD i []) = true
    · rw [c, Bool.not_true, cond_false]
      rcases findLoop (f := R_NamesErr_l2 fu (l, ()) i (l.getD i []) j) (n := i) (fu := fu) (by omega) (p := fun k => l.getD k [] = l.getD i []) (hit := fun _ => some (7, ())) (miss := j ((i : Int) + 1))
        (fun j' k hk hp => by
          unfold R_NamesErr_l2; simp only [Int.toNat_natCast]
          rw [bif_pos (by omega), bif_and (by omega) (by omega), bif_pos hp])
        (fun j' k hk hp => by
          unfold R_NamesErr_l2; simp only [Int.toNat_natCast]
          rw [bif_pos (by omega), bif_and (by omega) (by omega), bif_neg hp, s_wr (by omega) (by omega)])
        (fun j' => by
          unfold R_NamesErr_l2; simp only [Int.toNat_natCast]
          rw [bif_neg (by omega), s_wr (by omega) (by omega)]) with ⟨k, hk, hp, _, h⟩ | ⟨hp, h⟩
      · have e : nmE l i = 7 := by unfold nmE; rw [if_pos c, if_pos ⟨k, hk, hp⟩]
        rw [h, e]; rfl
      · have e : nmE l i = 0 := by unfold nmE; rw [if_pos c, if_neg (fun ⟨k, hk, q⟩ => hp k hk q)]
        rw [h, e]; rfl
    · have e : nmE l i = 6 := by unfold nmE; rw [if_neg c]
      rw [Bool.eq_false_iff.2 c, Bool.not_false, cond_true, e]; rfl
  · unfold R_NamesErr_l1; rw [bif_neg (by simp only; omega)]
theorem distinct_r {l : List Int} (hl : (l.length : Int) ≤ 9223372036854775807) (n : Int) : condition_distinct_r fu (l, (n, ())) = some (orE (firstE (dsE n l) l.length 0) 0, ()) := by
  unfold condition_distinct_r; refine errLoopO (by omega) (fun j i hi => ?_) (fun j => ?_)
  · unfold condition_distinct_l1 condition_distinct_j2; simp only [Int.toNat_natCast, joinF_eq]; rw [bif_pos (by omega), bif_and (by omega) (by omega)]; by_cases c1 : l.getD i 0 < 0
    · have e : dsE n l i = 3 := by unfold dsE; rw [if_neg (by omega)]
      rw [bif_pos c1, e]; rfl
    rw [bif_neg c1]; by_cases c2 : n ≤ l.getD i 0
    · have e : dsE n l i = 3 := by unfold dsE; rw [if_neg (by omega)]
      rw [s_pos c2, e]; rfl
    rw [s_neg c2, cond_false, bif_and (by omega) (by omega)]
    rcases findLoop (f := condition_distinct_l3 fu (l, (n, ())) i (l.getD i 0) j) (n := i) (fu := fu) (by omega) (p := fun k => l.getD k 0 = l.getD i 0) (hit := fun _ => some (7, ())) (miss := j ((i : Int) + 1))
      (fun j' k hk hp => by
        unfold condition_distinct_l3; simp only [Int.toNat_natCast, take_at hk, take_ln hi]
        rw [bif_pos (by omega), bif_and (by omega) (by omega), bif_pos hp])
      (fun j' k hk hp => by
        unfold condition_distinct_l3; simp only [Int.toNat_natCast, take_at hk, take_ln hi]
        rw [bif_pos (by omega), bif_and (by omega) (by omega), bif_neg hp, s_wr (by omega) (by omega)])
      (fun j' => by
        unfold condition_distinct_l3; simp only [Int.toNat_natCast, take_ln hi]
        rw [bif_neg (by omega), s_wr (by omega) (by omega)]) with ⟨k, hk, hp, _, h⟩ | ⟨hp, h⟩
    · have e : dsE n l i = 7 := by unfold dsE; rw [if_pos (by omega), if_pos ⟨k, hk, hp⟩]
      rw [h, e]; rfl
    · have e : dsE n l i = 0 := by unfold dsE; rw [if_pos (by omega), if_neg (fun ⟨k, hk, q⟩ => hp k hk q)]
      rw [h, e]; rfl
  · unfold condition_distinct_l1; rw [bif_neg (by simp only; omega)]
theorem rdistinct_r {l : List Int} (hl : (l.length : Int) ≤ 9223372036854775807) {n : Int} (h0 : 0 ≤ n) (h1 : n ≤ 9223372036854775807) (v4 : Int) (J : Int → Option (Int × Unit)) :
    loopF (R_ConditionErr_l3 fu n v4 l J) fu 0 = if firstE (dsE n l) l.length 0 = 0 then J (IntKind.i64.wrap (v4 + 1)) else some (firstE (dsE n l) l.length 0, ()) := by
  refine errLoop (out := fun e => some (e, ())) (by omega) (fun j i hi => ?_) (fun j => ?_)
  · unfold R_ConditionErr_l3; simp only [Int.toNat_natCast]; rw [bif_pos (by omega), bif_and (by omega) (by omega), within_s, s_wr (x := n - 1) (by omega) (by omega)]; simp only [bindO_some]; by_cases c : 0 ≤ l.getD i 0 ∧ l.getD i 0 ≤ n - 1
    · rw [s_pos c, Bool.not_true, cond_false]
      rcases findLoop (f := R_ConditionErr_l4 fu l i (l.getD i 0) j) (n := i) (fu := fu) (by omega) (p := fun k => l.getD k 0 = l.getD i 0) (hit := fun _ => some (7, ())) (miss := j ((i : Int) + 1))
        (fun j' k hk hp => by
          unfold R_ConditionErr_l4; simp only [Int.toNat_natCast]
          rw [bif_pos (by omega), bif_and (by omega) (by omega), bif_pos hp])
        (fun j' k hk hp => by
          unfold R_ConditionErr_l4; simp only [Int.toNat_natCast]
          rw [bif_pos (by omega), bif_and (by omega) (by omega), bif_neg hp, s_wr (by omega) (by omega)])
        (fun j' => by
          unfold R_ConditionErr_l4; simp only
          rw [bif_neg (by omega), s_wr (by omega) (by omega)]) with ⟨k, hk, hp, _, h⟩ | ⟨hp, h⟩
      · have e : dsE n l i = 7 := by unfold dsE; rw [if_pos (by omega), if_pos ⟨k, hk, hp⟩]
        rw [h, e]; rfl
      · have e : dsE n l i = 0 := by unfold dsE; rw [if_pos (by omega), if_neg (fun ⟨k, hk, q⟩ => hp k hk q)]
        rw [h, e]; rfl
    · have e : dsE n l i = 3 := by unfold dsE; rw [if_neg (by omega)]
      rw [s_neg c, Bool.not_false, cond_true, e]; rfl
  · unfold R_ConditionErr_l3; rw [bif_neg (by omega)]
def tabE (g : GrT) (i n : Int) : Int := orE (lkE g) (if g.1 = i ∧ g.2.1 = n then 0 else 4)
theorem table_r {g : GrT} (hv : (g.2.2.2.length : Int) ≤ 9223372036854775807) (i n : Int) : condition_table_r fu ((g.1, (g.2.1, (g.2.2.1, g.2.2.2))), (i, (n, ()))) = some (tabE g i n, ()) := by
  obtain ⟨a, o, s, vs⟩ := g; unfold condition_table_r condition_table_j1 tabE; simp only [joinF_eq]; rw [dcheck_r hf hv]; simp only [bindO_some]; rw [← or_r]; congr 1; by_cases c1 : a = i
  · rw [bif_neg (fun g => g c1)]; by_cases c2 : o = n
    · rw [if_pos ⟨c1, c2⟩, s_neg (fun g => g c2)]; rfl
    · rw [if_neg (fun g => c2 g.2), s_pos c2]; rfl
  · rw [if_neg (fun g => c1 g.1), bif_pos c1]; rfl
end
structure WfC (c : CondT) : Prop where
  inks : (c.1.length : Int) ≤ 9223372036854775807
  pr : (c.2.1.length : Int) ≤ 9223372036854775807
  li : (c.2.2.1.length : Int) ≤ 9223372036854775807
  gy : (c.2.2.2.1.2.2.2.length : Int) ≤ 9223372036854775807
  rgb : (c.2.2.2.2.1.2.2.2.length : Int) ≤ 9223372036854775807
  sp : Sp.AllS c.2.2.2.2.2.1
def scE (p : Int) (l : List Sp.SpotT) (i : Nat) : Int := if ((Sp.spAt l i).2.2.2.2.length : Int) = 4 ∧ p = 4 then 0 else 4
noncomputable def lateE (c : CondT) : Int :=
  orE (firstE (dsE c.1.length c.2.1) c.2.1.length 0) (orE (firstE (dsE c.1.length c.2.2.1) c.2.2.1.length 0) (orE (tabE c.2.2.2.1 1 c.1.length) (orE (tabE c.2.2.2.2.1 3 c.1.length) (orE (Sp.libE c.2.2.2.2.2.1) (orE (firstE (scE c.2.1.length c.2.2.2.2.2.1) c.2.2.2.2.2.1.length 0) (if 0 ≤ c.2.2.2.2.2.2 ∧ c.2.2.2.2.2.2 ≤ 2040 then 0 else 3))))))
noncomputable def cE (c : CondT) : Int :=
  if 8 < (c.1.length : Int) then 2 else if (c.1.length : Int) = 0 then 1 else orE (orE (firstE (nmE c.1) c.1.length 0) 0) (if ((c.2.1.length : Int) = 0 ∨ (c.2.1.length : Int) = 4) ∧ (c.2.2.1.length : Int) = c.1.length then lateE c else 4)
section
variable {fu : Nat} (hf : 18446744073709551616 ≤ fu) {c : CondT} (hc : WfC c)
include hf hc
theorem late_r : condition_Check_j1 fu (c, ()) (c.1.length : Int) false = some (lateE c, ()) := by
  unfold condition_Check_j1 lateE; simp only [cond_false]; rw [distinct_r hf hc.pr, distinct_r hf hc.li, table_r hf hc.gy, table_r hf hc.rgb, Sp.libCheck_r hf hc.sp]; simp only [bindO_some]; have hs := hc.sp.1; rw [errLoopO (n := c.2.2.2.2.2.1.length) (fu := fu) (E := scE c.2.1.length c.2.2.2.2.2.1) (F := if 0 ≤ c.2.2.2.2.2.2 ∧ c.2.2.2.2.2.2 ≤ 2040 then 0 else 3) (by omega) (fun j i hi => ?_) (fun j => ?_)]
  · simp only [or_r, orE_zero]
  · have t0 : ((Sp.spAt c.2.2.2.2.2.1 i).2.2.2.2.length : Int) = 4 → (c.2.1.length : Int) = 4 → scE c.2.1.length c.2.2.2.2.2.1 i = 0 := fun h h' => by unfold scE; rw [if_pos ⟨h, h'⟩]
    have t4 : ¬ (((Sp.spAt c.2.2.2.2.2.1 i).2.2.2.2.length : Int) = 4 ∧ (c.2.1.length : Int) = 4) → scE c.2.1.length c.2.2.2.2.2.1 i = 4 := fun h => by unfold scE; rw [if_neg h]
    show (bif decide ((i : Int) < _) then bif (decide ((0 : Int) ≤ (i : Int)) && decide ((i : Int) < _)) then (bif decide (((Sp.spAt c.2.2.2.2.2.1 i).2.2.2.2.length : Int) ≠ 4) then (bif true then some ((4 : Int), ()) else j (IntKind.i64.wrap ((i : Int) + 1))) else (bif decide ((c.2.1.length : Int) ≠ 4) then some ((4 : Int), ()) else j (IntKind.i64.wrap ((i : Int) + 1)))) else none else _) = _; rw [bif_pos (by simp only; omega), bif_and (by omega) (by simp only; omega)]; generalize Sp.spAt c.2.2.2.2.2.1 i = s at *
    by_cases c1 : (s.2.2.2.2.length : Int) = 4
    · rw [bif_neg (fun g => g c1)]; by_cases c2 : (c.2.1.length : Int) = 4
      · rw [t0 c1 c2, s_neg (fun g => g c2), s_wr (by omega) (by omega)]; rfl
      · rw [t4 (fun g => c2 g.2), s_pos c2]; rfl
    · rw [t4 (fun g => c1 g.1), bif_pos c1]; rfl
  · unfold condition_Check_l2 condition_Check_j4; simp only [joinF_eq]; rw [bif_neg (by omega)]; by_cases c1 : c.2.2.2.2.2.2 < 0
    · rw [bif_pos c1, if_neg (by omega)]; rfl
    · rw [bif_neg c1]; by_cases c2 : 2040 < c.2.2.2.2.2.2
      · rw [s_pos c2, if_neg (by omega)]; rfl
      · rw [s_neg c2, if_pos (by omega)]; rfl
theorem check_r : condition_Check_r fu (c, ()) = some (cE c, ()) := by
  have hi := hc.inks; unfold condition_Check_r cE; simp only; by_cases h8 : 8 < (c.1.length : Int)
  · rw [s_pos h8, if_pos h8]; rfl
  rw [s_neg h8, if_neg h8, cond_false]; by_cases h0 : (c.1.length : Int) = 0
  · rw [s_pos h0, if_pos h0]; rfl
  rw [s_neg h0, if_neg h0, cond_false, names_r hf hi]; simp only [bindO_some]; have h4 : condition_Check_j1 fu (c, ()) (c.1.length : Int) true = some (4, ()) := rfl; refine Eq.trans ?_ (or_r _ _); refine congrArg (fun x => bif decide (orE (firstE (nmE c.1) c.1.length 0) 0 ≠ 0) then some (orE (firstE (nmE c.1) c.1.length 0) 0, ()) else x) ?_; show (bif decide ((c.2.1.length : Int) ≠ 0) then (bif decide ((c.2.1.length : Int) ≠ 4) then condition_Check_j1 fu (c, ()) (c.1.length : Int) true else condition_Check_j1 fu (c, ()) (c.1.length : Int) (decide ((c.2.2.1.length : Int) ≠ (c.1.length : Int)))) else condition_Check_j1 fu (c, ()) (c.1.length : Int) (decide ((c.2.2.1.length : Int) ≠ (c.1.length : Int)))) = _; by_cases p0 : (c.2.1.length : Int) = 0
  · rw [bif_neg (fun g => g p0)]; by_cases l0 : (c.2.2.1.length : Int) = c.1.length
    · rw [s_neg (fun g => g l0), if_pos ⟨.inl p0, l0⟩, late_r hf hc]
    · rw [s_pos l0, if_neg (fun g => l0 g.2), h4]
  · rw [bif_pos p0]; by_cases p4 : (c.2.1.length : Int) = 4
    · rw [bif_neg (fun g => g p4)]; by_cases l0 : (c.2.2.1.length : Int) = c.1.length
      · rw [s_neg (fun g => g l0), if_pos ⟨.inr p4, l0⟩, late_r hf hc]
      · rw [s_pos l0, if_neg (fun g => l0 g.2), h4]
    · rw [bif_pos p4, if_neg (fun g => g.1.elim p0 p4), h4]
omit hf hc in
theorem first2 (E : Nat → Int) : firstE E 2 0 = orE (E 0) (E 1) := by
  simp only [firstE]; unfold orE; by_cases h : E 0 = 0
  · rw [if_pos h, if_pos h]; by_cases g : E 1 = 0
    · rw [if_pos g, g]
    · rw [if_neg g]
  · rw [if_neg h, if_neg h]
omit hf hc in
theorem orE_assoc (a b c : Int) : orE (orE a b) c = orE a (orE b c) := by
  unfold orE; by_cases h : a = 0
  · simp only [if_pos h]
  · simp only [if_neg h]
theorem rlate_r (h8 : (c.1.length : Int) ≤ 8) (hp : (c.2.1.length : Int) = 0 ∨ (c.2.1.length : Int) = 4) : R_ConditionErr_j1 fu (c, ()) (c.1.length : Int) false = some (lateE c, ()) := by
  have hs := hc.sp.1; unfold R_ConditionErr_j1 lateE; simp only [cond_false]
  rw [errLoopO (n := 2) (fu := fu) (E := fun i => if i = 0 then firstE (dsE c.1.length c.2.1) c.2.1.length 0 else firstE (dsE c.1.length c.2.2.1) c.2.2.1.length 0)
    (F := orE (tabE c.2.2.2.1 1 c.1.length) (orE (tabE c.2.2.2.2.1 3 c.1.length) (orE (Sp.libE c.2.2.2.2.2.1) (orE (firstE (scE c.2.1.length c.2.2.2.2.2.1) c.2.2.2.2.2.1.length 0) (if 0 ≤ c.2.2.2.2.2.2 ∧ c.2.2.2.2.2.2 ≤ 2040 then 0 else 3))))) (by omega) (fun j i hi => ?_) (fun j => ?_)]
  · rw [first2]; exact congrArg (fun x => some (x, ())) (orE_assoc _ _ _)
  · unfold R_ConditionErr_l2; rw [bif_pos (by simp only [List.length_cons, List.length_nil]; omega), bif_and (by omega) (by simp only [List.length_cons, List.length_nil]; omega)]; obtain rfl | rfl : i = 0 ∨ i = 1 := by omega
    · exact rdistinct_r hf hc.pr (by omega) (by omega) 0 j
    · exact rdistinct_r hf hc.li (by omega) (by omega) 1 j
  · unfold R_ConditionErr_l2; rw [bif_neg (by simp only [List.length_cons, List.length_nil]; omega)]
    rw [errLoopO (n := 2) (fu := fu) (E := fun i => if i = 0 then tabE c.2.2.2.1 1 c.1.length else tabE c.2.2.2.2.1 3 c.1.length)
      (F := orE (Sp.libE c.2.2.2.2.2.1) (orE (firstE (scE c.2.1.length c.2.2.2.2.2.1) c.2.2.2.2.2.1.length 0) (if 0 ≤ c.2.2.2.2.2.2 ∧ c.2.2.2.2.2.2 ≤ 2040 then 0 else 3))) (by omega) (fun j i hi => ?_) (fun j => ?_)]
    · rw [first2]; exact congrArg (fun x => some (x, ())) (orE_assoc _ _ _)
    · unfold R_ConditionErr_l5; rw [bif_pos (by simp only [List.length_cons, List.length_nil]; omega), bif_and (by omega) (by simp only [List.length_cons, List.length_nil]; omega)]
      have step : ∀ (g : GrT) (k : Int), (g.2.2.2.length : Int) ≤ 9223372036854775807 → (bindO (R_LinkErr_r fu ((g.1, (g.2.1, (g.2.2.1, g.2.2.2))), ())) fun v6 => bif decide (v6.1 ≠ 0) then some (v6.1, ()) else (bif decide (g.1 ≠ k) then R_ConditionErr_j6 fu i j true else R_ConditionErr_j6 fu i j (decide (g.2.1 ≠ (c.1.length : Int))))) = if tabE g k c.1.length = 0 then j ((i : Int) + 1) else some (tabE g k c.1.length, ()) := by
        intro g k hg; obtain ⟨a, o, s, vs⟩ := g; rw [linkErr_r hf hg]; simp only [bindO_some]; by_cases c0 : lkE (a, (o, (s, vs))) = 0
        · have t0 : a = k → o = (c.1.length : Int) → tabE (a, (o, (s, vs))) k c.1.length = 0 := fun h h' => by unfold tabE orE; rw [if_pos c0, if_pos ⟨h, h'⟩]
          have t4 : ¬ (a = k ∧ o = (c.1.length : Int)) → tabE (a, (o, (s, vs))) k c.1.length = 4 := fun h => by unfold tabE orE; rw [if_pos c0, if_neg h]
          rw [bif_neg (fun g => g c0)]; unfold R_ConditionErr_j6; by_cases c1 : a = k
          · rw [bif_neg (fun g => g c1)]; by_cases c2 : o = (c.1.length : Int)
            · rw [t0 c1 c2, s_neg (fun g => g c2), s_wr (by omega) (by omega)]; rfl
            · rw [t4 (fun g => c2 g.2), s_pos c2]; rfl
          · rw [t4 (fun g => c1 g.1), bif_pos c1]; rfl
        · have tE : tabE (a, (o, (s, vs))) k c.1.length = lkE (a, (o, (s, vs))) := by unfold tabE orE; rw [if_neg c0]
          rw [bif_pos c0, tE, if_neg c0]
      obtain rfl | rfl : i = 0 ∨ i = 1 := by omega
      · exact step c.2.2.2.1 1 hc.gy
      · exact step c.2.2.2.2.1 3 hc.rgb
    · unfold R_ConditionErr_l5; rw [bif_neg (by simp only [List.length_cons, List.length_nil]; omega)]; rw [Sp.libErr_r hf hc.sp]; simp only [bindO_some]; rw [← or_r]; by_cases hsp : Sp.libE c.2.2.2.2.2.1 = 0
      · rw [bif_neg (fun g => g hsp), bif_neg (fun g => g hsp)]; refine errLoopO (n := c.2.2.2.2.2.1.length) (fu := fu) (E := scE c.2.1.length c.2.2.2.2.2.1) (F := if 0 ≤ c.2.2.2.2.2.2 ∧ c.2.2.2.2.2.2 ≤ 2040 then 0 else 3) (by omega) (fun j i hi => ?_) (fun j => ?_)
        · have t0 : ((Sp.spAt c.2.2.2.2.2.1 i).2.2.2.2.length : Int) = 4 → (c.2.1.length : Int) = 4 → scE c.2.1.length c.2.2.2.2.2.1 i = 0 := fun h h' => by unfold scE; rw [if_pos ⟨h, h'⟩]
          have t4 : ¬ (((Sp.spAt c.2.2.2.2.2.1 i).2.2.2.2.length : Int) = 4 ∧ (c.2.1.length : Int) = 4) → scE c.2.1.length c.2.2.2.2.2.1 i = 4 := fun h => by unfold scE; rw [if_neg h]
          show (bif decide ((i : Int) < _) then bif (decide ((0 : Int) ≤ (i : Int)) && decide ((i : Int) < _)) then (bif decide (((Sp.spAt c.2.2.2.2.2.1 i).2.2.2.2.length : Int) ≠ 4) then (bif true then some ((4 : Int), ()) else j (IntKind.i64.wrap ((i : Int) + 1))) else (bif decide ((c.2.1.length : Int) = 0) then some ((4 : Int), ()) else j (IntKind.i64.wrap ((i : Int) + 1)))) else none else _) = _; rw [bif_pos (by simp only; omega), bif_and (by omega) (by simp only; omega)]; generalize Sp.spAt c.2.2.2.2.2.1 i = s at *
          by_cases c1 : (s.2.2.2.2.length : Int) = 4
          · rw [bif_neg (fun g => g c1)]; by_cases c2 : (c.2.1.length : Int) = 4
            · rw [t0 c1 c2, bif_neg (by omega), s_wr (by omega) (by omega)]; rfl
            · rw [t4 (fun g => c2 g.2), bif_pos (by omega)]; rfl
          · rw [t4 (fun g => c1 g.1), bif_pos c1]; rfl
        · unfold R_ConditionErr_l7; rw [bif_neg (by simp only; omega), within_s]; simp only [bindO_some]; by_cases c1 : 0 ≤ c.2.2.2.2.2.2 ∧ c.2.2.2.2.2.2 ≤ 2040
          · rw [s_pos c1, if_pos c1]; rfl
          · rw [s_neg c1, if_neg c1]; rfl
      · rw [bif_pos hsp, bif_pos hsp]
theorem cErr_r : R_ConditionErr_r fu (c, ()) = some (cE c, ()) := by
  have hi := hc.inks; unfold R_ConditionErr_r cE; simp only; by_cases h8 : 8 < (c.1.length : Int)
  · rw [bif_pos h8, if_pos h8]
  rw [bif_neg h8, if_neg h8]; by_cases h0 : (c.1.length : Int) = 0
  · rw [bif_pos h0, if_pos h0]
  rw [bif_neg h0, if_neg h0, namesErr_r hf hi]; simp only [bindO_some]; have h4 : R_ConditionErr_j1 fu (c, ()) (c.1.length : Int) true = some (4, ()) := rfl; refine Eq.trans ?_ (or_r _ _); refine congrArg (fun x => bif decide (orE (firstE (nmE c.1) c.1.length 0) 0 ≠ 0) then some (orE (firstE (nmE c.1) c.1.length 0) 0, ()) else x) ?_; show (bif decide ((c.2.1.length : Int) ≠ 0) then (bif decide ((c.2.1.length : Int) ≠ 4) then R_ConditionErr_j1 fu (c, ()) (c.1.length : Int) true else R_ConditionErr_j1 fu (c, ()) (c.1.length : Int) (decide ((c.2.2.1.length : Int) ≠ (c.1.length : Int)))) else R_ConditionErr_j1 fu (c, ()) (c.1.length : Int) (decide ((c.2.2.1.length : Int) ≠ (c.1.length : Int)))) = _; by_cases p0 : (c.2.1.length : Int) = 0
  · rw [bif_neg (fun g => g p0)]; by_cases l0 : (c.2.2.1.length : Int) = c.1.length
    · rw [s_neg (fun g => g l0), if_pos ⟨.inl p0, l0⟩, rlate_r hf hc (by omega) (.inl p0)]
    · rw [s_pos l0, if_neg (fun g => l0 g.2), h4]
  · rw [bif_pos p0]; by_cases p4 : (c.2.1.length : Int) = 4
    · rw [bif_neg (fun g => g p4)]; by_cases l0 : (c.2.2.1.length : Int) = c.1.length
      · rw [s_neg (fun g => g l0), if_pos ⟨.inr p4, l0⟩, rlate_r hf hc (by omega) (.inr p4)]
      · rw [s_pos l0, if_neg (fun g => l0 g.2), h4]
    · rw [bif_pos p4, if_neg (fun g => g.1.elim p0 p4), h4]
end
end Co
end Go.Proofs.Ytjhdjjoacedlpaa
/- Conditions: tones of all inks within the total; the law ConditionColors. -/
namespace Go.Proofs.Ytjhdjjoacedlpaa
open Go Go.RowKit
set_option linter.unusedSimpArgs false
set_option linter.unusedSectionVars false
set_option linter.unusedVariables false
namespace Co
abbrev InkT := Int × (Int × (Int × (Int × (Int × (Int × (Int × Int))))))
def z8 : List Int := [0, 0, 0, 0, 0, 0, 0, 0]
theorem take_sum {l : List Int} {i : Nat} (h : i < l.length) : (l.take (i + 1)).sum = (l.take i).sum + l.getD i 0 := by
  rw [List.take_add_one, List.sum_append, List.getD_eq_getElem?_getD, List.getElem?_eq_getElem h]; simp
def Sml (l : List Int) : Prop := ∀ k, k < l.length → -1000000000000 ≤ l.getD k 0 ∧ l.getD k 0 ≤ 1000000000000
theorem sum_bd {l : List Int} (hs : Sml l) : ∀ k, k ≤ l.length → -((k : Int) * 1000000000000) ≤ (l.take k).sum ∧ (l.take k).sum ≤ (k : Int) * 1000000000000
  | 0, _ => by simp
  | k + 1, h => by
    have := sum_bd hs k (by omega); have := hs k (by omega); rw [take_sum (by omega)]; omega
section
variable {fu : Nat} (hf : 18446744073709551616 ≤ fu)
include hf
theorem total_r {l : List Int} (h8 : l.length ≤ 8) (hs : Sml l) : R_Total_r fu (l, ()) = some (l.sum, ()) := by
  unfold R_Total_r; refine stLoop (n := l.length) (st := fun k : Nat => ((l.take k).sum, (k : Int))) (by omega) rfl (fun j k hk => ?_) (fun j => ?_)
  · have b1 := sum_bd hs k (by omega); have b2 := hs k hk; unfold R_Total_l1; simp only [Int.toNat_natCast]; rw [bif_pos (by omega), bif_and (by omega) (by omega), take_sum hk, s_wr (by omega) (by omega), s_wr (by omega) (by omega)]; rfl
  · unfold R_Total_l1; rw [bif_neg (by simp only; omega), List.take_length]
theorem sum_r {l : List Int} (h8 : l.length ≤ 8) (hs : Sml l) : inklimit_sum_r fu (l, ()) = some (l.sum, ()) := total_r hf h8 hs
theorem lim_r {l : List Int} (h8 : l.length ≤ 8) (hs : Sml l) {b T : Int} (hb : b = -1 ∨ (0 ≤ b ∧ b < (l.length : Int))) (t0 : 0 ≤ T) (t1 : T ≤ 2040) :
    ∃ v : List Int, v.length = l.length ∧ inklimit_Quick_r fu (l, (b, (T, ()))) = some (v, ()) ∧ R_Limited_r fu (l, (b, (T, ()))) = some (v, ()) := by
  have hsum := sum_bd hs l.length (Nat.le_refl _); rw [List.take_length] at hsum; unfold inklimit_Quick_r R_Limited_r; simp only; rw [bif_pos (by omega), bif_pos (by simp only [List.length_nil]; omega), sum_r hf h8 hs, total_r hf h8 hs]; simp only [bindO_some, joinF_eq, List.nil_append]; generalize l.sum = S at *
  by_cases c : S ≤ T
  · exact ⟨l, rfl, bif_pos c, bif_pos c⟩
  rw [bif_neg c, bif_neg c]; obtain ⟨B, hB⟩ : ∃ B : Int → Int, B = fun q => l.getD q.toNat 0 := ⟨_, rfl⟩
  have hl : tabL l.length B = l := by rw [hB]; exact tabL_self l
  rcases hb with hb | ⟨hb0, hb1⟩
  · rw [bif_neg (by omega), bif_pos (by omega)]; obtain ⟨A, hA⟩ : ∃ A : Int → Int, A = fun q => IntKind.i64.wrap (Int.tdiv (IntKind.i64.wrap (l.getD q.toNat 0 * T)) S) := ⟨_, rfl⟩
    have hAk : ∀ k : Nat, A k = IntKind.i64.wrap (Int.tdiv (IntKind.i64.wrap (l.getD k 0 * T)) S) := fun k => by rw [hA]; rfl
    refine ⟨tabL l.length A, tabL_length _ _, ?_, ?_⟩
    · unfold inklimit_Quick_j1; refine stLoop (n := l.length) (st := fun k : Nat => ((k : Int), tabL l.length (fun q => if q < (k : Int) then A q else B q))) (by omega) ?_ (fun j k hk => ?_) (fun j => ?_)
      · exact Prod.ext rfl ((tabP_zero (A := A) (B := B)).trans hl)
      · unfold inklimit_Quick_l2 inklimit_Quick_j3; simp only [joinF_eq, Int.toNat_natCast, tabL_length, List.length_set, List.set_set]; rw [bif_pos (by omega), bif_and (by omega) (by omega), s_neg (by omega), cond_false, bif_and (by omega) (by omega), bif_pos (by omega), bif_pos (by omega), bif_and (by omega) (by omega), s_wr (x := T - 0) (by omega) (by omega), Int.sub_zero, s_wr (x := (k : Int) + 1) (by omega) (by omega), tabP_set (A := A) (B := B) hk (hAk k)]; rfl
      · unfold inklimit_Quick_l2; rw [bif_neg (by simp only; omega)]; exact congrArg (fun x => some (x, ())) (tabL_congr fun i h0 h1 => if_pos h1)
    · refine stLoop (n := l.length) (st := fun k : Nat => ((k : Int), tabL l.length (fun q => if q < (k : Int) then A q else B q))) (by omega) ?_ (fun j k hk => ?_) (fun j => ?_)
      · exact Prod.ext rfl ((tabP_zero (A := A) (B := B)).trans hl)
      · unfold R_Limited_l1; simp only [Int.toNat_natCast, tabL_length]; rw [bif_pos (by omega), bif_and (by omega) (by omega), bif_pos (by omega), bif_and (by omega) (by omega), s_wr (x := (k : Int) + 1) (by omega) (by omega), tabP_set (A := A) (B := B) hk (hAk k)]; rfl
      · unfold R_Limited_l1; rw [bif_neg (by simp only; omega)]; exact congrArg (fun x => some (x, ())) (tabL_congr fun i h0 h1 => if_pos h1)
  · obtain ⟨bn, rfl⟩ := Int.eq_ofNat_of_zero_le hb0; have hk0 := hs bn (by omega); rw [bif_pos (by omega), bif_and (by omega) (by omega), bif_and (by omega) (by omega), bif_neg (by omega), bif_and (by omega) (by omega)]; simp only [Int.toNat_natCast]; generalize hK : l.getD bn 0 = K at *
    have hbd : -9000000000000 ≤ S - K ∧ S - K ≤ 9000000000000 := by omega
    rw [s_wr (x := S - K) (by omega) (by omega)]; obtain ⟨A, hA⟩ : ∃ A : Int → Int, A = fun q => if q = (bn : Int) then min K T else if T ≤ K then 0 else IntKind.i64.wrap (Int.tdiv (IntKind.i64.wrap (l.getD q.toNat 0 * (T - K))) (S - K)) := ⟨_, rfl⟩
    have hA1 : ∀ k : Nat, (k : Int) = (bn : Int) → A k = min K T := fun k h => by rw [hA]; exact if_pos h
    have hA2 : ∀ k : Nat, ¬ (k : Int) = (bn : Int) → T ≤ K → A k = 0 := fun k h h' => by rw [hA]; exact (if_neg h).trans (if_pos h')
    have hA3 : ∀ k : Nat, ¬ (k : Int) = (bn : Int) → ¬ T ≤ K → A k = IntKind.i64.wrap (Int.tdiv (IntKind.i64.wrap (l.getD k 0 * (T - K))) (S - K)) := fun k h h' => by rw [hA]; exact (if_neg h).trans (if_neg h')
    refine ⟨tabL l.length A, tabL_length _ _, ?_, ?_⟩
    · unfold inklimit_Quick_j1; refine stLoop (n := l.length) (st := fun k : Nat => ((k : Int), tabL l.length (fun q => if q < (k : Int) then A q else B q))) (by omega) ?_ (fun j k hk => ?_) (fun j => ?_)
      · exact Prod.ext rfl ((tabP_zero (A := A) (B := B)).trans hl)
      · unfold inklimit_Quick_l2 inklimit_Quick_j3; simp only [joinF_eq, Int.toNat_natCast, tabL_length, List.length_set, List.set_set]; rw [bif_pos (by omega), bif_and (by omega) (by omega), s_wr (x := (k : Int) + 1) (by omega) (by omega)]; by_cases e : (k : Int) = (bn : Int)
        · rw [s_pos e, cond_true, bif_and (by omega) (by omega), tabP_set (A := A) (B := B) hk (hA1 k e)]; rfl
        · rw [s_neg e, cond_false, bif_and (by omega) (by omega)]; by_cases g : 0 < S - K
          · rw [bif_pos g, bif_pos (by omega), bif_and (by omega) (by omega), s_wr (x := T - min K T) (by omega) (by omega)]; by_cases gt : T ≤ K
            · rw [show T - min K T = 0 by omega, Int.mul_zero, s_wr (x := 0) (by omega) (by omega), Int.zero_tdiv, s_wr (x := 0) (by omega) (by omega), tabP_set (A := A) (B := B) hk (hA2 k e gt)]; rfl
            · rw [show T - min K T = T - K by omega, tabP_set (A := A) (B := B) hk (hA3 k e gt)]; rfl
          · rw [bif_neg g, tabP_set (A := A) (B := B) hk (hA2 k e (by omega))]; rfl
      · unfold inklimit_Quick_l2; rw [bif_neg (by simp only; omega)]; exact congrArg (fun x => some (x, ())) (tabL_congr fun i h0 h1 => if_pos h1)
    · refine stLoop (n := l.length) (st := fun k : Nat => ((k : Int), tabL l.length (fun q => if q < (k : Int) then A q else B q))) (by omega) ?_ (fun j k hk => ?_) (fun j => ?_)
      · exact Prod.ext rfl ((tabP_zero (A := A) (B := B)).trans hl)
      · unfold R_Limited_l2 R_Limited_j3; simp only [joinF_eq, Int.toNat_natCast, tabL_length]; rw [bif_pos (by omega), bif_and (by omega) (by omega), s_wr (x := (k : Int) + 1) (by omega) (by omega)]; by_cases e : (k : Int) = (bn : Int)
        · rw [s_pos e, cond_true, bif_and (by omega) (by omega), tabP_set (A := A) (B := B) hk (hA1 k e)]; rfl
        · rw [s_neg e, cond_false]; by_cases gt : T ≤ K
          · rw [s_pos gt, cond_true, bif_and (by omega) (by omega), tabP_set (A := A) (B := B) hk (hA2 k e gt)]; rfl
          · rw [s_neg gt, cond_false, s_wr (x := S - K) (by omega) (by omega), bif_pos (by omega), bif_and (by omega) (by omega), s_wr (x := T - K) (by omega) (by omega), tabP_set (A := A) (B := B) hk (hA3 k e gt)]; rfl
      · unfold R_Limited_l2; rw [bif_neg (by simp only; omega)]; exact congrArg (fun x => some (x, ())) (tabL_congr fun i h0 h1 => if_pos h1)
omit hf in
def vecS (v : List Int) : Nat → List Int
  | 0 => z8
  | k + 1 => (vecS v k).set k (IntKind.u8.wrap (v.getD k 0))
omit hf in
theorem vecS_len (v : List Int) : ∀ k, (vecS v k).length = 8
  | 0 => rfl
  | k + 1 => by rw [vecS, List.length_set, vecS_len v k]
theorem vecL_r {v : List Int} (h8 : v.length ≤ 8) : ∃ x : InkT, loopF (R_Vector_l2 fu (v, ())) fu (((0 : Int), z8)) = some (x, ()) := by
  refine ⟨((vecS v v.length).getD 0 0, ((vecS v v.length).getD 1 0, ((vecS v v.length).getD 2 0, ((vecS v v.length).getD 3 0, ((vecS v v.length).getD 4 0, ((vecS v v.length).getD 5 0, ((vecS v v.length).getD 6 0, (vecS v v.length).getD 7 0))))))), ?_⟩; refine stLoop (n := v.length) (st := fun k : Nat => ((k : Int), vecS v k)) (by omega) rfl (fun j k hk => ?_) (fun j => ?_)
  · unfold R_Vector_l2; simp only [Int.toNat_natCast, vecS_len]; rw [bif_pos (by omega), bif_and (by omega) (by omega), s_wr (by omega) (by omega), decide_eq_true (show (0 : Int) ≤ (k : Int) by omega), decide_eq_true (show (k : Int) < ((8 : Nat) : Int) by omega), decide_eq_true (show (k : Int) < 8 by omega)]; rfl
  · unfold R_Vector_l2; simp only [vecS_len]; rw [bif_neg (by omega)]; rfl
variable {c : CondT}
theorem vec_r {l : List Int} (h8 : l.length ≤ 8) (hs : Sml l) (hp : (c.2.1.length : Int) = 4 → 0 ≤ c.2.1.getD 3 0 ∧ c.2.1.getD 3 0 < (l.length : Int)) (t0 : 0 ≤ c.2.2.2.2.2.2) (t1 : c.2.2.2.2.2.2 ≤ 2040) :
    ∃ x : InkT, R_Vector_r fu (c, (l, ())) = some (x, ()) ∧ condition_limited_r fu (c, (l, ())) = some (x, ()) := by
  have key : ∀ b : Int, (b = -1 ∨ (0 ≤ b ∧ b < (l.length : Int))) → ∃ x : InkT, R_Vector_j1 fu (c, (l, ())) b = some (x, ()) ∧ condition_limited_j1 fu (c, (l, ())) b = some (x, ()) := by
    intro b hb; obtain ⟨v, hv, e1, e2⟩ := lim_r hf h8 hs hb t0 t1; obtain ⟨x, hx⟩ := vecL_r hf (v := v) (by omega); refine ⟨x, ?_, ?_⟩
    · unfold R_Vector_j1; simp only; rw [e2]; exact hx
    · unfold condition_limited_j1; simp only; rw [e1]; exact hx
  unfold R_Vector_r condition_limited_r; simp only [joinF_eq]; by_cases h4 : (c.2.1.length : Int) = 4
  · obtain ⟨x, e1, e2⟩ := key (c.2.1.getD 3 0) (.inr (hp h4)); exact ⟨x, (bif_pos h4).trans ((bif_pos (by omega)).trans e1), (bif_pos h4).trans ((bif_pos (by omega)).trans e2)⟩
  · obtain ⟨x, e1, e2⟩ := key (-1) (.inl rfl); exact ⟨x, (bif_neg h4).trans e1, (bif_neg h4).trans e2⟩
end
end Co
end Go.Proofs.Ytjhdjjoacedlpaa
/- Conditions: grey and colours; the law ConditionColors. -/
namespace Go.Proofs.Ytjhdjjoacedlpaa
open Go Go.RowKit
set_option linter.unusedSimpArgs false
set_option linter.unusedSectionVars false
set_option linter.unusedVariables false
namespace Co
set_option maxRecDepth 20000
def eqs (x y : InkT) : Bool := decide (x.1 = y.1) && (decide (x.2.1 = y.2.1) && (decide (x.2.2.1 = y.2.2.1) && (decide (x.2.2.2.1 = y.2.2.2.1) && (decide (x.2.2.2.2.1 = y.2.2.2.2.1) && (decide (x.2.2.2.2.2.1 = y.2.2.2.2.2.1) && (decide (x.2.2.2.2.2.2.1 = y.2.2.2.2.2.2.1) && decide (x.2.2.2.2.2.2.2 = y.2.2.2.2.2.2.2)))))))
theorem rnd_bd {n d : Int} (hd : 0 < d) (h : -1000000000000 ≤ n ∧ n ≤ 1000000000000) : -1000000000000 ≤ rnd n d ∧ rnd n d ≤ 1000000000000 := by
  unfold rnd; have h1 : (2 * n + d) / (2 * d) < 1000000000001 := Int.ediv_lt_of_lt_mul (by omega) (by omega); have h2 : -1000000000000 ≤ (2 * n + d) / (2 * d) := Int.le_ediv_of_mul_le (by omega) (by omega); omega
structure OkC (c : CondT) : Prop where
  n1 : 1 ≤ c.1.length
  n8 : c.1.length ≤ 8
  nm : firstE (nmE c.1) c.1.length 0 = 0
  p : c.2.1.length = 0 ∨ c.2.1.length = 4
  li : c.2.2.1.length = c.1.length
  pd : firstE (dsE c.1.length c.2.1) c.2.1.length 0 = 0
  gy : tabE c.2.2.2.1 1 c.1.length = 0
  rgb : tabE c.2.2.2.2.1 3 c.1.length = 0
  sp : Sp.libE c.2.2.2.2.2.1 = 0
  s4 : firstE (scE c.2.1.length c.2.2.2.2.2.1) c.2.2.2.2.2.1.length 0 = 0
  t0 : 0 ≤ c.2.2.2.2.2.2
  t1 : c.2.2.2.2.2.2 ≤ 2040
theorem cE_ok {c : CondT} (h : cE c = 0) : OkC c := by
  unfold cE at h; split at h
  · omega
  split at h
  · omega
  obtain ⟨h1, h2⟩ := orE_eq h; rw [orE_zero] at h1; split at h2
  · rename_i a b d; unfold lateE at h2; obtain ⟨e1, h2⟩ := orE_eq h2; obtain ⟨e2, h2⟩ := orE_eq h2; obtain ⟨e3, h2⟩ := orE_eq h2; obtain ⟨e4, h2⟩ := orE_eq h2; obtain ⟨e5, h2⟩ := orE_eq h2; obtain ⟨e6, h2⟩ := orE_eq h2; split at h2
    · rename_i tt; exact ⟨by omega, by omega, h1, by omega, by omega, e1, e3, e4, e5, e6, tt.1, tt.2⟩
    · omega
  · omega
theorem OkC.pr {c : CondT} (h : OkC c) {i : Nat} (hi : i < c.2.1.length) : 0 ≤ c.2.1.getD i 0 ∧ c.2.1.getD i 0 < (c.1.length : Int) := by
  have e := firstE_ok _ 0 h.pd i (by omega) (by omega); unfold dsE at e; split at e
  · rename_i q; exact q
  · omega
theorem OkC.bl {c : CondT} (h : OkC c) {l : List Int} (hl : l.length = c.1.length) : (c.2.1.length : Int) = 4 → 0 ≤ c.2.1.getD 3 0 ∧ c.2.1.getD 3 0 < (l.length : Int) := fun h4 => by
  rw [hl]; exact h.pr (by omega)
section
variable {fu : Nat} (hf : 18446744073709551616 ≤ fu)
include hf
theorem link_r {g : GrT} (hg : lkE g = 0) {l : List Int} (hl : (l.length : Int) = g.1) (hb : ∀ k, k < l.length → 0 ≤ l.getD k 0 ∧ l.getD k 0 ≤ 255) :
    ∃ X : List Int, (X.length : Int) = g.2.1 ∧ Sml X ∧ devicelink_Quick_r fu (g, (l, ())) = some (X, ()) ∧ R_Linked_r fu (g, (l, ())) = some (X, ()) := by
  obtain ⟨i, o, s, vs⟩ := g
  have c2 : tonesE l i 255 = 0 := by
    unfold tonesE; rw [if_pos hl]; refine firstE_all _ _ fun k _ hk => ?_
    unfold tnE; rw [if_pos (hb k (by omega))]
  have cg : grE (i, (o, (s, vs))) = 0 := by
    unfold lkE at hg; by_cases g : grE (i, (o, (s, vs))) = 0
    · exact g
    · rw [if_neg g] at hg; exact absurd hg g
  have hin : inE (i, (o, (s, vs))) (fineL l) = 0 := by
    unfold inE; rw [if_pos cg]; exact fine_ok c2
  obtain ⟨n', o', s', rfl, rfl, rfl, hI⟩ := in_ok hin; have ht1 := hI.t1; refine ⟨_, ?_, ?_, dquick_r hI hf hb, linked_r hI hf hb⟩
  · rw [tabL_length]
  · intro q hq; rw [tabL_length] at hq; rw [tabL_getDN hq]; exact rnd_bd (by omega) (dl_bd hI hq)
variable {c : CondT} (ok : OkC c)
include ok
theorem from_r {g : GrT} (hg : lkE g = 0) {l : List Int} (hl : (l.length : Int) = g.1) (h4 : l.length ≤ 4) (ho : g.2.1 = (c.1.length : Int)) (hb : ∀ k, k < l.length → 0 ≤ l.getD k 0 ∧ l.getD k 0 ≤ 255) :
    ∃ (X : List Int) (x : InkT), R_Linked_r fu (g, (l, ())) = some (X, ()) ∧ R_Vector_r fu (c, (X, ())) = some (x, ()) ∧ condition_from_r fu (c, (g, (l, ()))) = some (x, ()) := by
  have hn := ok.n8; obtain ⟨X, hX, hS, e1, e2⟩ := link_r hf hg hl hb; obtain ⟨x, g1, g2⟩ := vec_r hf (c := c) (l := X) (by omega) hS (ok.bl (by omega)) ok.t0 ok.t1; refine ⟨X, x, e2, g1, ?_⟩; unfold condition_from_r; simp only; rw [bif_and (by omega) (by omega), Int.toNat_natCast]; obtain ⟨A, hA⟩ : ∃ A : Int → Int, A = fun q => l.getD q.toNat 0 := ⟨_, rfl⟩
  have hAl : tabL l.length A = l := by rw [hA]; exact tabL_self l
  refine stLoop (n := l.length) (st := fun k : Nat => ((k : Int), tabL l.length (fun q => if q < (k : Int) then A q else 0))) (by omega) ?_ (fun j k hk => ?_) (fun j => ?_)
  · refine Prod.ext rfl ?_; show (tabL l.length fun q => if q < ((0 : Nat) : Int) then A q else 0) = List.replicate l.length 0; exact tabL_rep fun q h0 h1 => by rw [if_neg (by omega)]
  · have := hb k hk; unfold condition_from_l1; simp only [Int.toNat_natCast, tabL_length]; rw [bif_pos (by omega), bif_and (by omega) (by omega), bif_and (by omega) (by omega), s_wr (x := (k : Int) + 1) (by omega) (by omega), s_wr (x := l.getD k 0) (by omega) (by omega), tabP_set (A := A) (B := fun _ => 0) hk (by rw [hA]; rfl)]; rfl
  · have e : (tabL l.length fun q => if q < ((l.length : Nat) : Int) then A q else 0) = l := (tabL_congr fun i h0 h1 => if_pos h1).trans hAl; unfold condition_from_l1; simp only [e]; rw [bif_neg (by omega), e1]; simp only [bindO_some]; rw [g2]; rfl
end
section
variable {fu : Nat} (hf : 18446744073709551616 ≤ fu) {c : CondT} (hc : WfC c)
include hf hc
theorem tab_ok {g : GrT} {i n : Int} (h : tabE g i n = 0) : lkE g = 0 ∧ g.1 = i ∧ g.2.1 = n := by
  obtain ⟨h1, h2⟩ := orE_eq h; split at h2
  · rename_i q; exact ⟨h1, q⟩
  · omega
theorem gray_r (h0 : cE c = 0) {v : Int} (hv : 0 ≤ v ∧ v ≤ 255) : ∃ (X : List Int) (x : InkT), R_Linked_r fu (c.2.2.2.1, ([v], ())) = some (X, ()) ∧ R_Vector_r fu (c, (X, ())) = some (x, ()) ∧ condition_Gray_r fu (c, (v, ())) = some (x, (0, ())) := by
  have ok := cE_ok h0; obtain ⟨h1, h2, h3⟩ := tab_ok hf hc ok.gy
  obtain ⟨X, x, e1, e2, e3⟩ := from_r hf ok h1 (l := [v]) h2.symm (by simp) h3 (fun k hk => by
    obtain rfl : k = 0 := by simpa using hk
    exact hv)
  refine ⟨X, x, e1, e2, ?_⟩; unfold condition_Gray_r; show bindO (condition_Check_r fu (c, ())) _ = _; rw [check_r hf hc, h0]; simp only [bindO_some]; rw [bif_neg (fun q => q rfl)]; show bindO (condition_from_r fu (c, (c.2.2.2.1, ([v], ())))) _ = _; rw [e3]; rfl
theorem rgb_r (h0 : cE c = 0) {r g b : Int} (hr : 0 ≤ r ∧ r ≤ 255) (hg : 0 ≤ g ∧ g ≤ 255) (hb : 0 ≤ b ∧ b ≤ 255) : ∃ (X : List Int) (x : InkT), R_Linked_r fu (c.2.2.2.2.1, ([r, g, b], ())) = some (X, ()) ∧ R_Vector_r fu (c, (X, ())) = some (x, ()) ∧ condition_RGB_r fu (c, (r, (g, (b, ())))) = some (x, (0, ())) := by
  have ok := cE_ok h0; obtain ⟨h1, h2, h3⟩ := tab_ok hf hc ok.rgb
  obtain ⟨X, x, e1, e2, e3⟩ := from_r hf ok h1 (l := [r, g, b]) h2.symm (by simp) h3 (fun k hk => by
    obtain rfl | rfl | rfl : k = 0 ∨ k = 1 ∨ k = 2 := by simp only [List.length_cons, List.length_nil] at hk; omega
    · exact hr
    · exact hg
    · exact hb)
  refine ⟨X, x, e1, e2, ?_⟩; unfold condition_RGB_r; show bindO (condition_Check_r fu (c, ())) _ = _; rw [check_r hf hc, h0]; simp only [bindO_some]; rw [bif_neg (fun q => q rfl)]; show bindO (condition_from_r fu (c, (c.2.2.2.2.1, ([r, g, b], ())))) _ = _; rw [e3]; rfl
theorem grayE_r (h0 : cE c ≠ 0) (v : Int) : condition_Gray_r fu (c, (v, ())) = some ((0, (0, (0, (0, (0, (0, (0, 0))))))), (cE c, ())) := by
  unfold condition_Gray_r; show bindO (condition_Check_r fu (c, ())) _ = _; rw [check_r hf hc]; exact (bif_pos h0).trans rfl
theorem rgbE_r (h0 : cE c ≠ 0) (r g b : Int) : condition_RGB_r fu (c, (r, (g, (b, ())))) = some ((0, (0, (0, (0, (0, (0, (0, 0))))))), (cE c, ())) := by
  unfold condition_RGB_r; show bindO (condition_Check_r fu (c, ())) _ = _; rw [check_r hf hc]; exact (bif_pos h0).trans rfl
theorem conditionColors_r (hW : law_conditionWorks_r fu () = some (true, ())) {r g b : Int} (hr : 0 ≤ r ∧ r ≤ 255) (hg : 0 ≤ g ∧ g ≤ 255) (hb : 0 ≤ b ∧ b ≤ 255) : law_ConditionColors_r fu (c, (r, (g, (b, ())))) = some (true, ()) := by
  unfold law_ConditionColors_r; simp only; rw [hW]; simp only [bindO_some, Bool.not_true, cond_false]; show bindO (condition_Gray_r fu (c, (r, ()))) _ = _; by_cases h0 : cE c = 0
  · obtain ⟨X, x, a1, a2, a3⟩ := gray_r hf hc h0 hr; obtain ⟨Y, y, b1, b2, b3⟩ := rgb_r hf hc h0 hr hg hb; rw [a3]; show bindO (condition_RGB_r fu (c, (r, (g, (b, ()))))) _ = _; rw [b3]; show bindO (R_ConditionErr_r fu (c, ())) _ = _; rw [cErr_r hf hc]; show bindO (condition_Check_r fu (c, ())) _ = _; rw [check_r hf hc, h0]; show bindO (R_Linked_r fu (c.2.2.2.1, ([IntKind.i64.wrap r], ()))) _ = _; rw [s_wr (x := r) (by omega) (by omega), a1]; show bindO (R_Vector_r fu (c, (X, ()))) _ = _; rw [a2]; simp only [bindO_some]; simp only [decide_true, Bool.and_true, cond_true]; show bindO (R_Linked_r fu (c.2.2.2.2.1, ([r, IntKind.i64.wrap g, IntKind.i64.wrap b], ()))) _ = _; rw [s_wr (x := g) (by omega) (by omega), s_wr (x := b) (by omega) (by omega), b1]; show bindO (R_Vector_r fu (c, (Y, ()))) _ = _; rw [b2]; simp only [bindO_some, decide_true, Bool.and_true]
  · rw [grayE_r hf hc h0]; show bindO (condition_RGB_r fu (c, (r, (g, (b, ()))))) _ = _; rw [rgbE_r hf hc h0]; show bindO (R_ConditionErr_r fu (c, ())) _ = _; rw [cErr_r hf hc]; show bindO (condition_Check_r fu (c, ())) _ = _; rw [check_r hf hc]; simp only [bindO_some]; rw [bif_neg (fun q => q rfl), bif_pos h0]; show bindO (law_none_r fu (true, (cE c, (cE c, ())))) _ = _; rw [none_s, decide_eq_true (rfl : cE c = cE c)]; rw [bindO_some]; refine Eq.trans s_tF ?_; show bindO (law_none_r fu (true, (cE c, (cE c, ())))) _ = _; rw [none_s, decide_eq_true (rfl : cE c = cE c)]; rfl
end
theorem allS_of {l : List Sp.SpotT} (h : l.length ≤ maxLen) (h' : ∀ s ∈ l, s.2.2.2.2.length ≤ maxLen) : Sp.AllS l := ⟨wf_len h, fun s hs => wf_len (h' s hs)⟩
end Co
end Go.Proofs.Ytjhdjjoacedlpaa
/- The step from a walk to a law's row, once for all laws of the seat: a law that returns true and leaves all that was there as it was. -/
namespace Go.Proofs.Ytjhdjjoacedlpaa
open Go.ChangeShapes Go.WideShapes Go.ChangeAt Go.RowKit

theorem own : ownKnob Try.prog.godebug = none := by kernel_rfl
theorem laidOut : laidOutB Try.prog = true := by kernel_rfl
theorem boolT : Try.prog.underlying 4 = some .bool := Try.underlying4

theorem trodAll_stays {H : Type} {enc : TypeId × Value → H} {P : Program} (hl : laidOutB P = true) {W W' : World} (hb : Below W.heap.size W W') :
    ∀ {ts : List TypeId} {vs : List Value} {ds : List (DataW H)} {ps : List MemPlace}, (∀ t ∈ ts, P.readableRec t = true ∧ t < P.types.size) → DataW.TrodAll enc P W 0 (fun _ => true) true ts vs ds ps →
      (∀ x ∈ ps, x.block < W.heap.size) → DataW.TrodAll enc P W' 0 (fun b => decide (b < W.heap.size)) true ts vs ds ps
  | [], [], [], _, _, h, _ => h
  | t :: ts, v :: vs, d :: ds, _, hr, ⟨p, q, h1, h2, e⟩, hlt =>
    ⟨p, q, Below.trod hl (hr t (by simp)).1 (hr t (by simp)).2 h1 hb (fun x hx => hlt x (by rw [e]; simp [hx])),
      trodAll_stays hl hb (fun t' ht => hr t' (by simp [ht])) h2 (fun x hx => hlt x (by rw [e]; simp [hx])), e⟩
  | [], [], _ :: _, _, _, h, _ => h.elim
  | [], _ :: _, _, _, _, h, _ => h.elim
  | _ :: _, [], _, _, _, h, _ => h.elim
  | _ :: _, _ :: _, [], _, _, h, _ => h.elim

def readsAll (P : Program) (ts : List TypeId) : Bool := ts.all fun t => P.readableRec t && decide (t < P.types.size)
theorem readsAll_all {P : Program} {ts : List TypeId} (h : readsAll P ts = true) : ∀ t ∈ ts, P.readableRec t = true ∧ t < P.types.size := by
  intro t ht; have := List.all_eq_true.1 h t ht; simpa using this

theorem trodAll_length {H : Type} {enc : TypeId × Value → H} {P : Program} {W : World} {base : Nat} {spare : Nat → Bool} {held : Bool} :
    ∀ {ts : List TypeId} {vs : List Value} {ds : List (DataW H)} {ps : List MemPlace}, DataW.TrodAll enc P W base spare held ts vs ds ps → ds.length = ts.length
  | [], [], [], _, _ => rfl
  | _ :: _, _ :: _, _ :: _, _, ⟨_, _, _, h2, _⟩ => by simp [trodAll_length h2]
  | [], [], _ :: _, _, h => h.elim
  | [], _ :: _, _, _, h => h.elim
  | _ :: _, [], _, _, h => h.elim
  | _ :: _, _ :: _, [], _, h => h.elim

set_option maxRecDepth 100000 in
theorem law_lifted {os : Os} (started : os.Started) {H : Type} {enc : TypeId × Value → H} {f : FuncId} {fn : Func} {s : ChangeSpec}
    (noInit : Try.checked.prog.inits.idxOf? f = none) (hfn : Try.checked.prog.funcs[f]? = some fn)
    (witness : ∃ (w : World) (tape : Tape) (i : Input), w.os = os ∧ (w.forCall tape i).Shaped Try.checked.prog ∧ i.vars = [] ∧ Input.okWide Try.checked.prog (w.forCall tape i) .any w.heap.size f i ∧
      s.pre6 enc Try.checked.prog fn [] false (w.forCall tape i).memory i.args ∧ ({} : Assume).holds Try.checked.prog (lone (Frame.enter Try.checked.prog f i.args .normal) [] (w.forCall tape i)))
    (hvars : s.vars = []) (hres : fn.resultTypes = #[4]) (hread : readsAll Try.prog fn.params.toList = true)
    (hspec : ∀ ds : List (DataW H), ds.length = fn.params.toList.length → s.fn H ds = { results := [.lit (.bool true)], args := ds })
    (walk : ∀ (W : World) (base : Nat) (args : List Value) (ds : List (DataW H)) (ps : List MemPlace),
      (∀ (j : Nat) t v, fn.params[j]? = some t → args[j]? = some v → Value.okWide Try.prog W .any base t v) → DataW.TrodAll enc Try.prog W 0 (fun _ => true) true fn.params.toList args ds ps →
      (DataW.weightsEach Try.prog fn.params.toList ds).all (· ≤ reachBytes) = true → (∀ x ∈ ps, x.block < W.heap.size) →
      Calls Try.prog f args.toArray W fun e W' => e = .returned (.bool true) ∧ Below W.heap.size W W') :
    ReturnsInHanded {} Try.checked os f .any (s.pre6 enc Try.checked.prog fn [] false) (s.post enc Try.checked.prog fn false true false false) := by
  refine returnsInHanded_of_change_sized (C := Try.checked) own started noInit hfn witness ?_; intro W base args ds gs before hval hW _ hsz _; have hW' := hW; obtain ⟨p, q, hA0, hV, rfl, hfz, hnd⟩ := hW; rw [hvars] at hV; obtain ⟨rfl, rfl⟩ := trodVars_none hV; have hA : DataW.TrodAll enc Try.prog W 0 (fun _ => true) true fn.params.toList args.toList ds p := hA0; have hlen : ds.length = fn.params.toList.length := trodAll_length hA; have hlt : ∀ x ∈ p, x.block < W.heap.size := fun x hx => hW'.lt x (by simpa using hx)
  have hargs : args.toList.toArray = args := by simp
  have hsz' : (DataW.weightsEach Try.prog fn.params.toList ds).all (· ≤ reachBytes) = true := by
    have h := hsz; have hvt : s.plain.varTypes Try.checked.prog = [] := by simp [DataSpec.varTypes, ChangeSpec.plain, hvars]
    rw [hvt] at h; simp only [List.append_nil] at h; exact h
  have hw := walk W base args.toList ds p (fun j t v ht hv => hval j t v ht (by simpa using hv)) hA hsz' hlt; rw [hargs] at hw; refine hw.mono fun e W' ⟨he, hb⟩ => ⟨.bool true, he, ?_⟩
  have hsf : s.fn H (ds ++ []) = { results := [.lit (.bool true)], args := ds } := by rw [List.append_nil]; exact hspec ds hlen
  refine ⟨ds, [], p ++ [], [], p, [], hW', ?_, ?_, ?_, hb.frame _, fun h => by cases h⟩
  · rw [hsf, hres]; exact trodAll_mk1 (shut_bool boolT true)
  · rw [hsf]; exact trodAll_stays laidOut hb (readsAll_all hread) hA hlt
  · rw [hsf, hvars]; rfl
end Go.Proofs.Ytjhdjjoacedlpaa
/- Arguments opened: what slices and structs of numbers read as. -/
set_option maxRecDepth 100000
namespace Go.Proofs.Ytjhdjjoacedlpaa
open Go.ChangeShapes Go.WideShapes Go.ChangeAt Go.RowKit Go.Deep

theorem choose_list {α : Type} {n : Nat} {Q : Nat → α → Prop} (h : ∀ i, i < n → ∃ p, Q i p) : ∃ l : List α, l.length = n ∧ ∀ i p, l[i]? = some p → Q i p := by
  induction n with
  | zero => exact ⟨[], rfl, by intro i p hi; simp at hi⟩
  | succ n ih =>
    obtain ⟨l, hl, hq⟩ := ih (fun i hi => h i (by omega)); obtain ⟨p, hp⟩ := h n (by omega); refine ⟨l ++ [p], by simp [hl], fun i q hi => ?_⟩; rcases Nat.lt_trichotomy i n with hlt | rfl | hgt
    · rw [List.getElem?_append_left (by omega)] at hi; exact hq i q hi
    · rw [List.getElem?_append_right (by omega), hl] at hi; simp at hi; subst hi; exact hp
    · rw [List.getElem?_eq_none (by simp; omega)] at hi; cases hi

section
variable {H : Type} {enc : TypeId × Value → H} {P : Program} {w : World} {base : Nat} {spare : Nat → Bool} {held : Bool}
theorem rd_slice {t e : TypeId} {fuel : Nat} {v : Value} {x : DataW H × List MemPlace} (ht : P.underlying t = some (.slice e)) (hc : 0 < P.cellsOf e) (h : DataW.trod enc P w base spare held fuel t [v] = some x) :
    ∃ A n c, v = .slice A n c ∧ n ≤ c ∧ c ≤ maxLen ∧ ∀ i, i < n → ∃ b o cs n' x', A = some ⟨b, o, none⟩ ∧ cs.length = P.cellsOf e ∧ (∀ j u, cs[j]? = some u → w.cell? ⟨b, o + i * P.cellsOf e + j, none⟩ = some u) ∧
      DataW.trod enc P w base spare held n' e cs = some x' := by
  rcases open_slice ht h with ⟨h0, _⟩ | ⟨a, len, cap, m, n', D, Pl, hcs, _, hl, hm, hmm, _, hi⟩
  · simp at h0; subst h0; exact ⟨none, 0, 0, rfl, by omega, by unfold maxLen; omega, by intro i hi; omega⟩
  · simp at hcs; subst hcs; refine ⟨some a, len, cap, rfl, hl, hm, fun i hil => ?_⟩
    have hlm : len ≤ m := by rw [hmm]; split <;> omega
    obtain ⟨cs, h1, h2⟩ := hi i (by omega); obtain ⟨hb, hlen, hat⟩ := World.cells?_some h1; obtain ⟨b, o, spot⟩ := a; have h00 := hat 0 (by omega)
    have hsp : spot = none := by
      obtain ⟨cs0, g1, _⟩ := hi 0 (by omega); obtain ⟨_, gl, gat⟩ := World.cells?_some g1; have hx := gat 0 (by omega); rw [List.getElem?_eq_getElem (by omega)] at hx; simpa [Addr.add] using World.cell?_spot hx
    subst hsp; refine ⟨b, o, cs, n', _, rfl, hlen, ?_, h2⟩; intro j u hu; have hjl : j < P.cellsOf e := by rw [← hlen]; exact (List.getElem?_eq_some_iff.1 hu).1
    have := hat j hjl; rw [hu, Addr.add_lit, Addr.add_lit] at this; exact this
end

end Go.Proofs.Ytjhdjjoacedlpaa
/- Arguments opened, as abstract values. -/
set_option maxRecDepth 100000
namespace Go.Proofs.Ytjhdjjoacedlpaa
open Go Go.ChangeShapes Go.WideShapes Go.ChangeAt Go.RowKit Go.Deep

section
variable {H : Type} {enc : TypeId × Value → H} {P : Program} {w : World} {base : Nat} {spare : Nat → Bool} {held : Bool}
abbrev RelC (w : World) : AV → Value → Prop := RelD w (fun _ => False) w.heap.size
def Reads {α : Type} (w : World) (sz : Nat) (ec : α → List AV) (Q : α → Prop) (cs : List Value) : Prop :=
  ∃ p, Q p ∧ (ec p).length = sz ∧ ∀ (j : Nat) (a : AV) (u : Value), (ec p)[j]? = some a → cs[j]? = some u → RelC w a u
theorem ro_slice {α : Type} (ec : α → List AV) (Q : α → Prop) {t e : TypeId} {sz fuel : Nat} {v : Value} {x : DataW H × List MemPlace} (ht : P.underlying t = some (.slice e)) (hz : P.cellsOf e = sz) (hc : 0 < sz)
    (hel : ∀ (fuel : Nat) (cs : List Value) (x : DataW H × List MemPlace), cs.length = sz → DataW.trod enc P w base spare held fuel e cs = some x → Reads w sz ec Q cs) (h : DataW.trod enc P w base spare held fuel t [v] = some x) :
    ∃ xs : List α, (∀ p ∈ xs, Q p) ∧ RelC w (.ro false sz (xs.map ec)) v := by
  subst hz; obtain ⟨A, n, c, rfl, hn, hm, hi⟩ := rd_slice ht hc h
  obtain ⟨xs, hl, hq⟩ := choose_list (Q := fun i (p : α) => Q p ∧ ∃ (b o : Nat) (cs : List Value), A = some ⟨b, o, none⟩ ∧ cs.length = P.cellsOf e ∧ (∀ (j : Nat) (u : Value), cs[j]? = some u → w.cell? ⟨b, o + i * P.cellsOf e + j, none⟩ = some u) ∧ (ec p).length = P.cellsOf e ∧ ∀ (j : Nat) (a : AV) (u : Value), (ec p)[j]? = some a → cs[j]? = some u → RelC w a u) (n := n) (by
    intro i hil; obtain ⟨b, o, cs, n', x', hA, hlen, hat, htr⟩ := hi i hil; obtain ⟨p, h1, h2, h3⟩ := hel n' cs x' hlen htr
    exact ⟨p, h1, b, o, cs, hA, hlen, hat, h2, h3⟩)
  subst hl; refine ⟨xs, fun p hp => ?_, ?_⟩
  · obtain ⟨i, hi⟩ := List.mem_iff_getElem?.1 hp; exact (hq i p hi).1
  have key : ∀ (i : Nat) (row : List AV) (j : Nat) (a : AV), (xs.map ec)[i]? = some row → row[j]? = some a → ∃ b o u, A = some ⟨b, o, none⟩ ∧ w.cell? ⟨b, o + i * P.cellsOf e + j, none⟩ = some u ∧ RelC w a u := by
    intro i row j a hr ha; rw [List.getElem?_map] at hr; obtain ⟨p, hp, rfl⟩ := Option.map_eq_some_iff.1 hr; obtain ⟨_, b, o, cs, hA, hlen, hat, hel, hrel⟩ := hq i p hp; have hj : j < cs.length := by rw [hlen, ← hel]; exact (List.getElem?_eq_some_iff.1 ha).1
    have hu : cs[j]? = some cs[j] := List.getElem?_eq_getElem hj; exact ⟨b, o, cs[j], hA, hat j _ hu, hrel j a _ ha hu⟩
  have hcon := RelD.ro (w := w) (own := fun _ => False) (bs := w.heap.size) false (P.cellsOf e) (xs.map ec) A c (fun i j => match A with
    | some ⟨b, o, _⟩ => (w.cell? ⟨b, o + i * P.cellsOf e + j, none⟩).getD undef
    | none => undef) (by simpa using hn) hm (fun i hi hA => by
      have hi : i < xs.length := by simpa using hi
      obtain ⟨_, b, o, _, h1, _⟩ := hq i xs[i] (List.getElem?_eq_getElem hi)
      rw [hA] at h1; cases h1) (fun i row j a hr ha => by
      obtain ⟨b, o, u, hA, hu, _⟩ := key i row j a hr ha; subst hA
      exact ⟨b, o, rfl, fun h => h.elim, (fun h => by cases h), by simp [hu]⟩) (fun i row j a hr ha => by
      obtain ⟨b, o, u, hA, hu, hr⟩ := key i row j a hr ha; subst hA
      simpa [hu] using hr)
  rw [List.length_map] at hcon; exact hcon
end
theorem AF.yes {P : Program} {F : FuncId} {xs : List AV} {vs : Array Value} {w : World} (h : AF P F xs (.bool true)) (ha : ArgsV w (Gh.none w.heap.size) xs vs) : Calls P F vs w fun e w' => e = .returned (.bool true) ∧ Below w.heap.size w w' :=
  (h.out w vs ha).mono fun e w' ⟨v, he, hb, hv⟩ => ⟨by rw [he, hv.bool'], hb⟩
end Go.Proofs.Ytjhdjjoacedlpaa
/- Arguments of any type, opened by one theorem; the last step of a law that a residual program answers. -/
set_option maxRecDepth 100000
namespace Go.Proofs.Ytjhdjjoacedlpaa
open Go Go.ChangeShapes Go.WideShapes Go.ChangeAt Go.RowKit Go.Deep

def Ty.wf : (t : Ty) → t.den → Prop
  | .int k, n => (Lit.int k n).wf = true
  | .bool, _ => True
  | .str, s => List.length s ≤ maxLen
  | .list t, xs => List.length xs ≤ maxLen ∧ ∀ x ∈ (xs : List t.den), t.wf x
  | .unit, _ => True
  | .pair a b, x => a.wf x.1 ∧ b.wf x.2
  | .agg t, x => t.wf x
  | .ptr _, _ => False
def prB (t : Ty) (f : Ty → Ty → Bool) : Bool := match t with
  | .pair x y => f x y
  | _ => false
def unB (t : Ty) : Bool := match t with
  | .unit => true
  | _ => false
theorem prB_ok {t : Ty} {f : Ty → Ty → Bool} (h : prB t f = true) : ∃ x y, t = .pair x y ∧ f x y = true := by
  unfold prB at h; split at h
  · exact ⟨_, _, rfl, h⟩
  · cases h
theorem unB_ok {t : Ty} (h : unB t = true) : t = .unit := by
  unfold unB at h; split at h
  · rfl
  · cases h
def fsB (g : TypeId → Ty → Bool) : List Field → Nat → Ty → Bool
  | [], _, t => unB t
  | [a], o, t => Nat.beq a.offset o && g a.type t
  | a :: b :: l, o, t => prB t fun x y => Nat.beq a.offset o && g a.type x && fsB g (b :: l) (o + x.size) y
def arB (g : Ty → Bool) : Nat → Ty → Bool
  | 0, t => unB t
  | 1, t => g t
  | n + 2, t => prB t fun x y => g x && arB g (n + 1) y
def intB (k : IntKind) (t : Ty) : Bool := match t with
  | .int k' => decide (k' = k)
  | _ => false
def boolB (t : Ty) : Bool := match t with
  | .bool => true
  | _ => false
def strB (t : Ty) : Bool := match t with
  | .str => true
  | _ => false
def sliceB (g : Ty → Bool) (t : Ty) : Bool := match t with
  | .list t' => g t' && Nat.blt 0 t'.size
  | _ => false
def tyB (P : Program) : Nat → TypeId → Ty → Bool
  | 0, _, _ => false
  | f + 1, tid, t => Nat.beq (P.cellsOf tid) t.size && (match P.underlying tid with
    | some (.int k) => intB k t
    | some .bool => boolB t
    | some .string => strB t
    | some (.slice e) => sliceB (tyB P f e) t
    | some (.struct ⟨fs⟩) => fsB (tyB P f) fs 0 t
    | some (.array n e) => arB (tyB P f e) n t
    | _ => false)
section
variable {H : Type} {enc : TypeId × Value → H} {P : Program} {w : World} {base : Nat} {spare : Nat → Bool} {held : Bool}
abbrev ReadsT (w : World) (t : Ty) (cs : List Value) : Prop := Reads w t.size (t.cells false) t.wf cs
theorem tyB_size {f : Nat} {tid : TypeId} {t : Ty} (h : tyB P f tid t = true) : P.cellsOf tid = t.size := by
  cases f with
  | zero => cases h
  | succ f => rw [tyB, Bool.and_eq_true] at h; exact Nat.eq_of_beq_eq_true h.1
theorem ReadsT.pair {a b : Ty} {c d : List Value} (h : ReadsT w a c) (k : ReadsT w b d) (hl : c.length = a.size) : ReadsT w (.pair a b) (c ++ d) := by
  obtain ⟨x, x1, x2, x3⟩ := h; obtain ⟨y, y1, y2, y3⟩ := k; refine ⟨(x, y), ⟨x1, y1⟩, Ty.cells_length _ _ _, fun j v u hv hu => ?_⟩; rw [Ty.cells] at hv; by_cases hj : j < a.size
  · rw [List.getElem?_append_left (by rw [x2]; exact hj)] at hv; rw [List.getElem?_append_left (by omega)] at hu; exact x3 j v u hv hu
  · rw [List.getElem?_append_right (by rw [x2]; omega), x2] at hv; rw [List.getElem?_append_right (by omega), hl] at hu; exact y3 _ v u hv hu
theorem ReadsT.unit : ReadsT w .unit [] := ⟨(), trivial, rfl, fun j a u h _ => by simp [Ty.cells] at h⟩
theorem fs_reads {g : TypeId → Ty → Bool} (hg : ∀ (tid : TypeId) (t : Ty) (n : Nat) (cs : List Value) (x : DataW H × List MemPlace), g tid t = true → cs.length = t.size → DataW.trod enc P w base spare held n tid cs = some x → ReadsT w t cs) (hsz : ∀ tid t, g tid t = true → P.cellsOf tid = t.size) {cs : List Value} :
    ∀ (l : List Field) (o : Nat) (t : Ty), fsB g l o t = true → (∀ a ∈ l, ∃ n y, DataW.trod enc P w base spare held n a.type ((cs.drop a.offset).take (P.cellsOf a.type)) = some y) → o + t.size ≤ cs.length → ReadsT w t ((cs.drop o).take t.size)
  | [], o, t, h, _, _ => by
    rw [unB_ok h, show Ty.unit.size = 0 from rfl, List.take_zero]; exact .unit
  | [a], o, t, h, hr, hl => by
    rw [fsB, Bool.and_eq_true] at h; obtain ⟨n, y, hy⟩ := hr a (by simp); rw [Nat.eq_of_beq_eq_true h.1, hsz _ _ h.2] at hy; exact hg _ _ n _ y h.2 (by rw [List.length_take, List.length_drop]; omega) hy
  | a :: b :: l, o, t, h, hr, hl => by
    obtain ⟨x, y, rfl, h'⟩ := prB_ok h; clear h; have h := h'; clear h'; rw [Bool.and_eq_true, Bool.and_eq_true] at h; obtain ⟨n, z, hz⟩ := hr a (by simp); rw [Nat.eq_of_beq_eq_true h.1.1, hsz _ _ h.1.2] at hz; have hs : (Ty.pair x y).size = x.size + y.size := rfl; rw [hs] at hl; have h1 := hg _ _ n _ z h.1.2 (by rw [List.length_take, List.length_drop]; omega) hz; have h2 := fs_reads hg hsz (b :: l) (o + x.size) y h.2 (fun a ha => hr a (List.mem_cons_of_mem _ ha)) (by omega); rw [hs, List.take_add, List.drop_drop]; exact h1.pair h2 (by rw [List.length_take, List.length_drop]; omega)
theorem ar_reads {g : Ty → Bool} {e : TypeId} (hg : ∀ (t : Ty) (n : Nat) (cs : List Value) (x : DataW H × List MemPlace), g t = true → cs.length = t.size → DataW.trod enc P w base spare held n e cs = some x → ReadsT w t cs) (hsz : ∀ t, g t = true → P.cellsOf e = t.size) {cs : List Value} :
    ∀ (k o : Nat) (t : Ty), arB g k t = true → (∀ i, i < k → ∃ n y, DataW.trod enc P w base spare held n e ((cs.drop (o + i * P.cellsOf e)).take (P.cellsOf e)) = some y) → o + t.size ≤ cs.length → ReadsT w t ((cs.drop o).take t.size)
  | 0, o, t, h, _, _ => by
    rw [unB_ok h, show Ty.unit.size = 0 from rfl, List.take_zero]; exact .unit
  | 1, o, t, h, hr, hl => by
    rw [arB] at h; obtain ⟨n, y, hy⟩ := hr 0 (by omega); rw [hsz _ h, Nat.zero_mul, Nat.add_zero] at hy; exact hg _ n _ y h (by rw [List.length_take, List.length_drop]; omega) hy
  | k + 2, o, t, h, hr, hl => by
    obtain ⟨x, y, rfl, h'⟩ := prB_ok h; clear h; have h := h'; clear h'; rw [Bool.and_eq_true] at h; obtain ⟨n, z, hz⟩ := hr 0 (by omega); rw [hsz _ h.1, Nat.zero_mul, Nat.add_zero] at hz; have hs : (Ty.pair x y).size = x.size + y.size := rfl; rw [hs] at hl; have h1 := hg _ n _ z h.1 (by rw [List.length_take, List.length_drop]; omega) hz
    have h2 := ar_reads hg hsz (k + 1) (o + x.size) y h.2 (fun i hi => by
      obtain ⟨n, z, hz⟩ := hr (i + 1) (by omega); refine ⟨n, z, ?_⟩
      rw [← hz, ← hsz _ h.1, Nat.add_mul, Nat.one_mul, Nat.add_assoc, Nat.add_comm (P.cellsOf e)]) (by omega)
    rw [hs, List.take_add, List.drop_drop]; exact h1.pair h2 (by rw [List.length_take, List.length_drop]; omega)
theorem ro_len {own : Nat → Prop} {bs sz : Nat} {fr : Bool} {rows : List (List AV)} {v : Value} (h : RelD w own bs (.ro fr sz rows) v) : rows.length ≤ maxLen := by
  cases h with
  | ro fr sz rows A c f hc hm h0 h1 h2 => omega
theorem one_cell {cs : List Value} (h : cs.length = 1) : ∃ u, cs = [u] := by match cs, h with | [u], _ => exact ⟨u, rfl⟩
theorem reads_ty : ∀ (f : Nat) (tid : TypeId) (t : Ty) (n : Nat) (cs : List Value) (x : DataW H × List MemPlace), tyB P f tid t = true → cs.length = t.size → DataW.trod enc P w base spare held n tid cs = some x → ReadsT w t cs
  | 0, _, _, _, _, _, h, _, _ => by cases h
  | f + 1, tid, t, n, cs, x, h, hl, hx => by
    have hsize := tyB_size h; rw [tyB, Bool.and_eq_true] at h; obtain ⟨_, h⟩ := h; split at h
    · rename_i k hu; unfold intB at h; split at h
      · have hk := of_decide_eq_true h; subst hk; obtain ⟨m, rfl, _, hwf⟩ := DataW.trod_int hu hx; refine ⟨m, hwf, rfl, fun j a u ha hu => ?_⟩
        match j with
        | 0 => simp [Ty.cells] at ha hu; subst ha; subst hu; exact .int _ _
        | j + 1 => simp [Ty.cells] at ha
      · cases h
    · rename_i hu; unfold boolB at h; split at h
      · obtain ⟨m, rfl, _⟩ := DataW.trod_bool hu hx; refine ⟨m, trivial, rfl, fun j a u ha hu => ?_⟩
        match j with
        | 0 => simp [Ty.cells] at ha hu; subst ha; subst hu; exact .bool _
        | j + 1 => simp [Ty.cells] at ha
      · cases h
    · rename_i hu; unfold strB at h; split at h
      · obtain ⟨s, rfl, _, hs⟩ := DataW.trod_string hu hx; refine ⟨s.data.toList, by rw [Ty.wf, Array.length_toList]; exact hs, rfl, fun j a u ha hu => ?_⟩
        match j with
        | 0 => simp [Ty.cells] at ha hu; subst ha; subst hu; exact .str _
        | j + 1 => simp [Ty.cells] at ha
      · cases h
    · rename_i e hu; unfold sliceB at h; split at h
      · rename_i _ t' _; rw [Bool.and_eq_true] at h; have hpos : 0 < t'.size := Nat.le_of_ble_eq_true h.2; obtain ⟨v, rfl⟩ := one_cell hl; obtain ⟨xs, hw, hr⟩ := ro_slice (t'.cells false) t'.wf hu (tyB_size h.1) hpos (fun m cs x hl hx => reads_ty f e t' m cs x h.1 hl hx) hx; refine ⟨xs, ⟨?_, hw⟩, rfl, fun j a u ha hu => ?_⟩
        · have := ro_len hr; rw [List.length_map] at this; exact this
        match j with
        | 0 => simp [Ty.cells] at ha hu; subst ha; subst hu; exact hr
        | j + 1 => simp [Ty.cells] at ha
      · cases h
    · rename_i fs hu; obtain ⟨xs, m, _, _, _, hxl, hat⟩ := DataW.trod_struct hu hx
      have := fs_reads (cs := cs) (fun tid t n cs x h1 h2 h3 => reads_ty f tid t n cs x h1 h2 h3) (fun tid t h => tyB_size h) fs 0 t h (fun a ha => by
        obtain ⟨i, hi⟩ := List.mem_iff_getElem?.1 ha; have hi' : i < xs.length := by rw [hxl]; exact (List.getElem?_eq_some_iff.1 hi).1
        exact ⟨m, _, by rw [hat i a (by simpa using hi), List.getElem?_eq_getElem hi']⟩) (by omega)
      rw [List.drop_zero, List.take_of_length_le (by omega)] at this; exact this
    · rename_i k e hu; obtain ⟨xs, m, _, _, _, hxl, hat⟩ := DataW.trod_array hu hx
      have := ar_reads (cs := cs) (e := e) (fun t n cs x h1 h2 h3 => reads_ty f e t n cs x h1 h2 h3) (fun t h => tyB_size h) k 0 t h (fun i hi => by
        have hi' : i < xs.length := by rw [hxl]; exact hi
        exact ⟨m, _, by rw [Nat.zero_add, hat i hi, List.getElem?_eq_getElem hi']⟩) (by omega)
      rw [List.drop_zero, List.take_of_length_le (by omega)] at this; exact this
    · cases h
def aggP (P : Program) (tid : TypeId) : Bool := match P.underlying tid with
  | some (.struct _) => true
  | some (.array _ _) => true
  | _ => false
def cellP (P : Program) (tid : TypeId) : Bool := match P.underlying tid with
  | some (.int _) => true
  | some .bool => true
  | some .string => true
  | some (.slice _) => true
  | _ => false
def argB (P : Program) (tid : TypeId) (a : Ty) : Bool := match a with
  | .agg t => tyB P 9 tid t && aggP P tid
  | .int k => tyB P 9 tid (.int k) && cellP P tid
  | .bool => tyB P 9 tid .bool && cellP P tid
  | .str => tyB P 9 tid .str && cellP P tid
  | .list t => tyB P 9 tid (.list t) && cellP P tid
  | _ => false
def argsB (P : Program) : List TypeId → Ty → Bool
  | [], t => unB t
  | tid :: l, t => prB t fun a b => argB P tid a && argsB P l b
theorem okWide_arr {n b : Nat} {r : Go.Reach} {t e : TypeId} {v : Value} (ht : P.underlying t = some (.array n e)) (h : Value.okWide P w r b t v) : ∃ cs, v = .agg cs ∧ cs.size = P.cellsOf t := by
  simp only [Value.okWide, ht] at h; obtain ⟨cs, h1, h2, _⟩ := h; exact ⟨cs, h1, h2⟩
theorem arg_agg {tid : TypeId} {t : Ty} {v : Value} {d : DataW H} {p : List MemPlace} {b : Nat} (h : tyB P 9 tid t = true) (ha : aggP P tid = true) (hv : Value.okWide P w .any b tid v) (hd : DataW.Trod enc P w base spare held tid v d p) : ∃ x : t.den, t.wf x ∧ RelV w (Gh.none w.heap.size) (.agg (t.cells false x)) v := by
  obtain ⟨cs, rfl, hs⟩ : ∃ cs, v = .agg cs ∧ cs.size = P.cellsOf tid := by
    unfold aggP at ha; split at ha
    · rename_i h1; exact okWide_struct h1 hv
    · rename_i h1; exact okWide_arr h1 hv
    · cases ha
  obtain ⟨n, hd⟩ := hd; have hl : cs.toList.length = t.size := by rw [← tyB_size h, ← hs]; simp
  obtain ⟨x, x1, x2, x3⟩ := reads_ty 9 tid t n cs.toList _ h hl hd; exact ⟨x, x1, .agg _ _ (by rw [x2, ← hl]; simp) fun i a u ha hu => .dat (x3 i a u ha (by simpa using hu))⟩
theorem arg_cell {tid : TypeId} {t : Ty} {v : Value} {d : DataW H} {p : List MemPlace} {b : Nat} (h : tyB P 9 tid t = true) (hc : cellP P tid = true) (h1 : t.size = 1) (hv : Value.okWide P w .any b tid v) (hd : DataW.Trod enc P w base spare held tid v d p) : ∃ x : t.den, t.wf x ∧ ∀ a, (t.cells false x)[0]? = some a → RelV w (Gh.none w.heap.size) a v := by
  have hd : ∃ n, DataW.trod enc P w base spare held n tid [v] = some (d, p) := by
    unfold cellP at hc; split at hc
    · rename_i hu; obtain ⟨m, rfl⟩ := okWide_int hu hv; exact hd
    · rename_i hu; obtain ⟨m, rfl⟩ := okWide_bool hu hv; exact hd
    · rename_i hu; obtain ⟨m, rfl⟩ := okWide_string hu hv; exact hd
    · rename_i hu; obtain ⟨a, n, c, rfl⟩ := okWide_slice hu hv; exact hd
    · cases hc
  obtain ⟨n, hd⟩ := hd; obtain ⟨x, x1, x2, x3⟩ := reads_ty 9 tid t n [v] _ h (by rw [h1]; rfl) hd; exact ⟨x, x1, fun a ha => .dat (x3 0 a v ha rfl)⟩
theorem arg_ty {tid : TypeId} {v : Value} {d : DataW H} {p : List MemPlace} {b : Nat} : ∀ {a : Ty}, argB P tid a = true → Value.okWide P w .any b tid v → DataW.Trod enc P w base spare held tid v d p → ∃ x : a.den, a.wf x ∧ RelV w (Gh.none w.heap.size) (a.av false x) v
  | .agg t, h, hv, hd => by
    rw [argB, Bool.and_eq_true] at h; obtain ⟨x, h1, h2⟩ := arg_agg h.1 h.2 hv hd; exact ⟨x, h1, by rw [Ty.av]; exact h2⟩
  | .int k, h, hv, hd => by
    rw [argB, Bool.and_eq_true] at h; obtain ⟨x, h1, h2⟩ := arg_cell h.1 h.2 rfl hv hd; exact ⟨x, h1, h2 _ rfl⟩
  | .bool, h, hv, hd => by
    rw [argB, Bool.and_eq_true] at h; obtain ⟨x, h1, h2⟩ := arg_cell h.1 h.2 rfl hv hd; exact ⟨x, h1, h2 _ rfl⟩
  | .str, h, hv, hd => by
    rw [argB, Bool.and_eq_true] at h; obtain ⟨x, h1, h2⟩ := arg_cell h.1 h.2 rfl hv hd; exact ⟨x, h1, h2 _ rfl⟩
  | .list t, h, hv, hd => by
    rw [argB, Bool.and_eq_true] at h; obtain ⟨x, h1, h2⟩ := arg_cell h.1 h.2 rfl hv hd; exact ⟨x, h1, h2 _ rfl⟩
  | .unit, h, _, _ => by cases h
  | .pair _ _, h, _, _ => by cases h
  | .ptr _, h, _, _ => by cases h
inductive RelsV (w : World) (G : Gh) : List AV → List Value → Prop
  | nil : RelsV w G [] []
  | cons {a : AV} {v : Value} {l : List AV} {m : List Value} (h : RelV w G a v) (k : RelsV w G l m) : RelsV w G (a :: l) (v :: m)
theorem RelsV.args {G : Gh} {l : List AV} {m : List Value} (h : RelsV w G l m) : ArgsV w G l m.toArray := by
  induction h with
  | nil => exact ⟨rfl, fun i a v ha hv => by simp at ha⟩
  | cons h k ih =>
    refine ⟨by have := ih.size; simp at this ⊢; exact this, fun i a v ha hv => ?_⟩
    cases i with
    | zero => simp at ha hv; subst ha; subst hv; exact h
    | succ i => exact ih.rel i a v (by simpa using ha) (by simpa using hv)
theorem args_ty {b : Nat} : ∀ {ts : List TypeId} {σ : Ty} {vs : List Value} {ds : List (DataW H)} {ps : List MemPlace}, argsB P ts σ = true → (∀ (j : Nat) t v, ts[j]? = some t → vs[j]? = some v → Value.okWide P w .any b t v) → DataW.TrodAll enc P w base spare held ts vs ds ps → ∃ x : σ.den, σ.wf x ∧ RelsV w (Gh.none w.heap.size) (σ.avs false x) vs
  | [], σ, vs, ds, ps, h, _, hA => by
    obtain ⟨rfl, rfl, rfl⟩ := trodAll_nil hA; have e := unB_ok h; subst e; exact ⟨(), trivial, .nil⟩
  | tid :: l, σ, vs, ds, ps, h, hv, hA => by
    obtain ⟨v, vs, d, ds, p, q, rfl, rfl, rfl, h0, r0⟩ := trodAll_cons hA; obtain ⟨a, c, rfl, h'⟩ := prB_ok h; clear h; have h := h'; clear h'; rw [Bool.and_eq_true] at h; obtain ⟨x, x1, x2⟩ := arg_ty h.1 (hv 0 tid v rfl rfl) h0; obtain ⟨y, y1, y2⟩ := args_ty h.2 (fun j t u ht hu => hv (j + 1) t u (by simpa using ht) (by simpa using hu)) r0; exact ⟨(x, y), ⟨x1, y1⟩, by rw [Ty.avs]; exact .cons x2 y2⟩
end
theorem law_any {H : Type} {enc : TypeId × Value → H} {F : Nat} {ts : List TypeId} {σ : Ty} {f : Nat → σ.den → Option (Bool × Unit)} {nm : Nat} (hc : CtrOk Try.prog F ⟨σ, .pair .bool .unit, f, nm⟩) (hB : argsB Try.prog ts σ = true) (hp : ∀ x : σ.den, σ.wf x → f FU x = some (true, ())) {W : World} {b : Nat} {args : List Value} {ds : List (DataW H)} {ps : List MemPlace}
    (hv : ∀ (j : Nat) t v, ts[j]? = some t → args[j]? = some v → Value.okWide Try.prog W .any b t v) (hA : DataW.TrodAll enc Try.prog W 0 (fun _ => true) true ts args ds ps) :
    Calls Try.prog F args.toArray W fun e W' => e = .returned (.bool true) ∧ Below W.heap.size W W' := by
  obtain ⟨x, hx, hr⟩ := args_ty hB hv hA; exact AF.yes (hc FU x (true, ()) (hp x hx)) hr.args
theorem wf_u8' {x : Int} (h : (Lit.int .u8 x).wf = true) : 0 ≤ x ∧ x ≤ 255 := by
  simpa [Lit.wf, IntKind.min, IntKind.max, IntKind.signed, IntKind.bits] using h
end Go.Proofs.Ytjhdjjoacedlpaa
/- ConditionColors: for every input this law returns true and leaves its arguments as they were. -/
namespace Go.Proofs.Ytjhdjjoacedlpaa
open Go.ChangeShapes Go.WideShapes Go.ChangeAt Go.RowKit

set_option maxRecDepth 100000 in
theorem conditionColors_lifted (os : Os) (started : os.Started) (H : Type) (enc : TypeId × Value → H) :
    ReturnsInHanded {} Try.checked os 11 .any (Rows.conditionColorsSpec.pre6 enc Try.prog Try.f11 Rows.conditionColorsRow.domain false) (Rows.conditionColorsSpec.post enc Try.prog Try.f11 false true false false) := by
  refine law_lifted started (by kernel_rfl) Try.func11
    (ChangeSpec.witness6 (enc := enc) (C := Try.checked) false ⟨#[], #[.agg #[.slice none 0 0, .slice none 0 0, .slice none 0 0, .int .i64 0, .int .i64 0, .int .i64 0, .slice none 0 0, .int .i64 0, .int .i64 0, .int .i64 0, .slice none 0 0, .slice none 0 0, .int .i64 0], .int .u8 0, .int .u8 0, .int .u8 0], []⟩ 8 (by kernel_rfl) (by kernel_rfl) (by kernel_rfl) (by kernel_rfl)) rfl rfl (by kernel_rfl)
    (fun ds h => by rw [Try.params11] at h; match ds, h with | [_, _, _, _], _ => rfl) ?_
  intro W base args ds ps hval hA hsz hlt; rw [Try.params11] at hA hval; exact law_any law_ConditionColors_ok (by kernel_rfl) ((fun x hx => Co.conditionColors_r (Nat.le_of_eq FU_val.symm) ⟨wf_len hx.1.1.1, wf_len hx.1.2.1.1, wf_len hx.1.2.2.1.1, wf_len hx.1.2.2.2.1.2.2.2.1, wf_len hx.1.2.2.2.2.1.2.2.2.1, Co.allS_of hx.1.2.2.2.2.2.1.1 fun s hs => (hx.1.2.2.2.2.2.1.2 s hs).2.2.2.2.1⟩ rfl (wf_u8' hx.2.1) (wf_u8' hx.2.2.1) (wf_u8' hx.2.2.2.1))) (fun j t v ht hv => hval j t v (by simpa using ht) hv) hA

theorem conditionColors_holds : Rows.ConditionColorsSaid :=
  OpenClaim.holds_of_wide 11 Try.f11 rfl rfl rfl rfl rfl rfl rfl ⟨rfl, rfl, rfl, rfl, rfl⟩ rfl rfl rfl rfl rfl (by kernel_rfl) Try.func11 (by kernel_rfl)
    (of_decide_eq_true (by kernel_rfl)) (by unfold Func.isWrapper; first | (rw [if_pos (by decide +kernel)]; kernel_rfl) | (rw [if_neg (by decide +kernel)]; exact ⟨rfl, rfl⟩))
    (fun os started H enc _ => conditionColors_lifted os started H enc)
end Go.Proofs.Ytjhdjjoacedlpaa
