/- ConditionInks: for every input this law returns true and leaves its arguments as they were. -/
import Derived.Test.YtjhdjjoacedlpaaZCI5
import Derived.Test.YtjhdjjoacedlpaaRows
import Derived.WalkKit
import Derived.ProofKit
import Derived.SizedLaws
import Derived.BigQuiet
import Derived.Deep.QuietTactic
import Derived.Deep.Slices
import Derived.OpenShut
/- Conditions: grey and colours; the law ConditionColors. -/
namespace Go.Proofs.Ytjhdjjoacedlpaa
open Go Go.RowKit
set_option linter.unusedSimpArgs false
set_option linter.unusedSectionVars false
set_option linter.unusedVariables false
namespace Co
set_option maxRecDepth 20000
def eqs (x y : InkT) : Bool := decide (x.1 = y.1) && (decide (x.2.1 = y.2.1) && (decide (x.2.2.1 = y.2.2.1) && (decide (x.2.2.2.1 = y.2.2.2.1) && (decide (x.2.2.2.2.1 = y.2.2.2.2.1) && (decide (x.2.2.2.2.2.1 = y.2.2.2.2.2.1) && (decide (x.2.2.2.2.2.2.1 = y.2.2.2.2.2.2.1) && decide (x.2.2.2.2.2.2.2 = y.2.2.2.2.2.2.2)))))))
theorem eqs_true (x : InkT) : eqs x x = true := by simp [eqs]
structure OkC (c : CondT) : Prop where
  n1 : 1 ≤ c.1.length
  n8 : c.1.length ≤ 8
  nm : firstE (nmE c.1) c.1.length 0 = 0
  p : c.2.1.length = 0 ∨ c.2.1.length = 4
  li : c.2.2.1.length = c.1.length
  pd : firstE (dsE c.1.length c.2.1) c.2.1.length 0 = 0
  gy : tabE c.2.2.2.1 1 c.1.length = 0
  rgb : tabE c.2.2.2.2.1 3 c.1.length = 0
  sp : Sp.libE c.2.2.2.2.2.1 = 0
  s4 : firstE (scE c.2.1.length c.2.2.2.2.2.1) c.2.2.2.2.2.1.length 0 = 0
  t0 : 0 ≤ c.2.2.2.2.2.2
  t1 : c.2.2.2.2.2.2 ≤ 2040
theorem cE_ok {c : CondT} (h : cE c = 0) : OkC c := by
  unfold cE at h; split at h
  · omega
  split at h
  · omega
  obtain ⟨h1, h2⟩ := orE_eq h; rw [orE_zero] at h1; split at h2
  · rename_i a b d; unfold lateE at h2; obtain ⟨e1, h2⟩ := orE_eq h2; obtain ⟨e2, h2⟩ := orE_eq h2; obtain ⟨e3, h2⟩ := orE_eq h2; obtain ⟨e4, h2⟩ := orE_eq h2; obtain ⟨e5, h2⟩ := orE_eq h2; obtain ⟨e6, h2⟩ := orE_eq h2; split at h2
    · rename_i tt; exact ⟨by omega, by omega, h1, by omega, by omega, e1, e3, e4, e5, e6, tt.1, tt.2⟩
    · omega
  · omega
theorem OkC.pr {c : CondT} (h : OkC c) {i : Nat} (hi : i < c.2.1.length) : 0 ≤ c.2.1.getD i 0 ∧ c.2.1.getD i 0 < (c.1.length : Int) := by
  have e := firstE_ok _ 0 h.pd i (by omega) (by omega); unfold dsE at e; split at e
  · rename_i q; exact q
  · omega
theorem OkC.bl {c : CondT} (h : OkC c) {l : List Int} (hl : l.length = c.1.length) : (c.2.1.length : Int) = 4 → 0 ≤ c.2.1.getD 3 0 ∧ c.2.1.getD 3 0 < (l.length : Int) := fun h4 => by
  rw [hl]; exact h.pr (by omega)
section
variable {fu : Nat} (hf : 18446744073709551616 ≤ fu)
include hf
variable {c : CondT} (ok : OkC c)
include ok
end
section
variable {fu : Nat} (hf : 18446744073709551616 ≤ fu) {c : CondT} (hc : WfC c)
include hf hc
end
theorem allS_of {l : List Sp.SpotT} (h : l.length ≤ maxLen) (h' : ∀ s ∈ l, s.2.2.2.2.length ≤ maxLen) : Sp.AllS l := ⟨wf_len h, fun s hs => wf_len (h' s hs)⟩
end Co
end Go.Proofs.Ytjhdjjoacedlpaa
/- Conditions: names, order, process and spot inks; the law ConditionInks. -/
namespace Go.Proofs.Ytjhdjjoacedlpaa
open Go Go.RowKit
set_option linter.unusedSimpArgs false
set_option linter.unusedSectionVars false
set_option linter.unusedVariables false
namespace Co
set_option maxRecDepth 20000
theorem findFold {σ β : Type} {f : (Int × σ → Option β) → Int × σ → Option β} {n fu : Nat} (hn : n < fu) {s : σ} {p : Nat → Prop} {hit : Nat → Option β} {miss : Option β}
    (hit' : ∀ j (i : Nat), i < n → p i → f j (i, s) = hit i) (next : ∀ j (i : Nat), i < n → ¬ p i → f j (i, s) = j ((i : Int) + 1, s)) (last : ∀ j, f j (n, s) = miss) :
    (∃ k, k < n ∧ p k ∧ (∀ l, l < k → ¬ p l) ∧ loopF f fu (0, s) = hit k) ∨ ((∀ l, l < n → ¬ p l) ∧ loopF f fu (0, s) = miss) := by
  refine postLoop (f := f) (fun x : Int × σ => ((n : Int) - x.1).toNat) (fun x => ∃ k : Nat, x = ((k : Int), s) ∧ k ≤ n ∧ ∀ l, l < k → ¬ p l) (fun r => (∃ k, k < n ∧ p k ∧ (∀ l, l < k → ¬ p l) ∧ r = hit k) ∨ ((∀ l, l < n → ¬ p l) ∧ r = miss)) ?_ fu (0, s) ⟨0, rfl, by omega, by omega⟩ (by simp only; omega)
  rintro j _ ⟨i, rfl, k1, k2⟩
  by_cases hi : i < n
  · by_cases hp : p i
    · exact .inr (.inl ⟨i, hi, hp, k2, hit' j i hi hp⟩)
    · refine .inl ⟨((i : Int) + 1, s), ⟨i + 1, rfl, by omega, fun l hl => ?_⟩, by simp only; omega, next j i hi hp⟩; by_cases e : l = i
      · rw [e]; exact hp
      · exact k2 l (by omega)
  · have e : i = n := by omega
    subst e; exact .inr (.inr ⟨k2, last j⟩)
def zs (c : CondT) : List Int := List.replicate c.1.length 0
def plc (pr ts b : List Int) : Nat → List Int
  | 0 => b
  | k + 1 => (plc pr ts b k).set (pr.getD k 0).toNat (ts.getD k 0)
theorem plc_len (pr ts b : List Int) : ∀ k, (plc pr ts b k).length = b.length
  | 0 => rfl
  | k + 1 => by rw [plc, List.length_set, plc_len pr ts b k]
theorem sml_set {l : List Int} (h : Sml l) {i : Nat} {v : Int} (h0 : -1000000000000 ≤ v) (h1 : v ≤ 1000000000000) : Sml (l.set i v) := by
  intro k hk; rw [List.length_set] at hk; rw [List.getD_eq_getElem?_getD, List.getElem?_set]; by_cases e : i = k
  · subst e; rw [if_pos rfl, if_pos hk]; exact ⟨h0, h1⟩
  · rw [if_neg e, ← List.getD_eq_getElem?_getD]; exact h k hk
theorem sml_rep (n : Nat) : Sml (List.replicate n 0) := by
  intro k hk; rw [List.length_replicate] at hk; rw [List.getD_eq_getElem?_getD, List.getElem?_replicate, if_pos hk]; decide
theorem plc_sml {pr ts b : List Int} (hb : Sml b) (ht : Sml ts) : ∀ k, k ≤ ts.length → Sml (plc pr ts b k)
  | 0, _ => hb
  | k + 1, h => by
    have := ht k (by omega); exact sml_set (plc_sml hb ht k (by omega)) this.1 this.2
section
variable {fu : Nat} (hf : 18446744073709551616 ≤ fu) {c : CondT} (ok : OkC c)
include hf ok
theorem bl' {l : List Int} (hl : l.length = c.1.length) (hs : Sml l) : ∃ x : InkT, R_Vector_r fu (c, (l, ())) = some (x, ()) ∧ condition_limited_r fu (c, (l, ())) = some (x, ()) := by
  have := ok.n8; exact vec_r hf (c := c) (l := l) (by omega) hs (ok.bl hl) ok.t0 ok.t1
theorem placed_r {ts : List Int} (hl : ts.length ≤ c.2.1.length) (hs : Sml ts) :
    ∃ x : InkT, R_Vector_r fu (c, (plc c.2.1 ts (zs c) ts.length, ())) = some (x, ()) ∧ condition_placed_r fu (c, (ts, ())) = some (x, ()) := by
  have hn := ok.n8; have hp := ok.p; have hz : (zs c).length = c.1.length := List.length_replicate; obtain ⟨x, e1, e2⟩ := bl' hf ok (l := plc c.2.1 ts (zs c) ts.length) (by rw [plc_len, hz]) (plc_sml (sml_rep _) hs _ (Nat.le_refl _)); refine ⟨x, e1, ?_⟩; unfold condition_placed_r; simp only; rw [bif_and (by omega) (by omega), Int.toNat_natCast]; refine stLoop (n := ts.length) (st := fun k : Nat => ((k : Int), plc c.2.1 ts (zs c) k)) (by omega) rfl (fun j k hk => ?_) (fun j => ?_)
  · have hr := ok.pr (i := k) (by omega); unfold condition_placed_l1; simp only [Int.toNat_natCast, plc_len, hz]; rw [bif_pos (by omega), bif_and (by omega) (by omega), bif_and (by omega) (by omega), bif_and (by omega) (by omega), s_wr (by omega) (by omega)]; rfl
  · unfold condition_placed_l1; simp only; rw [bif_neg (by omega), e2]; rfl
end
section
variable {fu : Nat} (hf : 18446744073709551616 ≤ fu) {c : CondT} (hc : WfC c)
include hf hc
theorem namesOf_r : condition_Names_r fu (c, ()) = some (if cE c = 0 then c.1 else [], (cE c, ())) := by
  unfold condition_Names_r; simp only; rw [check_r hf hc]; simp only [bindO_some]; by_cases h0 : cE c = 0
  · have hn := (cE_ok h0).n8; rw [if_pos h0, bif_neg (fun q => q h0), bif_pos (by omega), h0]
  · rw [if_neg h0, bif_pos h0]
theorem orderOf_r : condition_Order_r fu (c, ()) = some (if cE c = 0 then c.2.2.1 else [], (cE c, ())) := by
  unfold condition_Order_r; simp only; rw [check_r hf hc]; simp only [bindO_some]; by_cases h0 : cE c = 0
  · have hn := (cE_ok h0).n8; have hl := (cE_ok h0).li; rw [if_pos h0, bif_neg (fun q => q h0), bif_pos (by omega), h0]
  · rw [if_neg h0, bif_pos h0]
theorem processE_r (h0 : cE c ≠ 0) (t : Int × (Int × (Int × Int))) : condition_Process_r fu (c, (t, ())) = some ((0, (0, (0, (0, (0, (0, (0, 0))))))), (cE c, ())) := by
  unfold condition_Process_r; simp only; rw [check_r hf hc]; exact (bif_pos h0).trans rfl
theorem spotE_r (h0 : cE c ≠ 0) (nm : List UInt8) (t : Int) : condition_Spot_r fu (c, (nm, (t, ()))) = some ((0, (0, (0, (0, (0, (0, (0, 0))))))), (cE c, ())) := by
  unfold condition_Spot_r; simp only; rw [check_r hf hc]; exact (bif_pos h0).trans rfl
def t4 (t : Int × (Int × (Int × Int))) : List Int := [t.1, t.2.1, t.2.2.1, t.2.2.2]
omit hf hc in
theorem t4_sml {t : Int × (Int × (Int × Int))} (ht : ∀ k, k < 4 → 0 ≤ (t4 t).getD k 0 ∧ (t4 t).getD k 0 ≤ 255) : Sml (t4 t) := fun k hk => by
  have := ht k hk; omega
theorem process0_r (h0 : cE c = 0) (hp : c.2.1.length = 0) (t : Int × (Int × (Int × Int))) : condition_Process_r fu (c, (t, ())) = some ((0, (0, (0, (0, (0, (0, (0, 0))))))), (8, ())) := by
  unfold condition_Process_r; simp only; rw [check_r hf hc, h0]; simp only [bindO_some]; rw [bif_neg (fun q => q rfl), bif_pos (by omega)]
theorem process4_r (h0 : cE c = 0) (hp : c.2.1.length = 4) {t : Int × (Int × (Int × Int))} (ht : ∀ k, k < 4 → 0 ≤ (t4 t).getD k 0 ∧ (t4 t).getD k 0 ≤ 255) :
    ∃ x : InkT, R_Vector_r fu (c, (plc c.2.1 (t4 t) (zs c) 4, ())) = some (x, ()) ∧ condition_Process_r fu (c, (t, ())) = some (x, (0, ())) := by
  have ok := cE_ok h0; obtain ⟨x, e1, e2⟩ := placed_r hf ok (ts := t4 t) (by rw [hp]; exact Nat.le_refl _) (t4_sml ht); refine ⟨x, e1, ?_⟩; unfold condition_Process_r; simp only; rw [check_r hf hc, h0]; simp only [bindO_some]; rw [bif_neg (fun q => q rfl), bif_neg (by omega)]; obtain ⟨A, hA⟩ : ∃ A : Int → Int, A = fun q => (t4 t).getD q.toNat 0 := ⟨_, rfl⟩
  have hAl : tabL 4 A = t4 t := by rw [hA]; exact tabL_self (t4 t)
  refine stLoop (n := 4) (st := fun k : Nat => ((k : Int), tabL 4 (fun q => if q < (k : Int) then A q else 0))) (by omega) ?_ (fun j k hk => ?_) (fun j => ?_)
  · refine Prod.ext rfl ?_; show (tabL 4 fun q => if q < ((0 : Nat) : Int) then A q else 0) = List.replicate 4 0; exact tabL_rep fun q h0 h1 => by rw [if_neg (by omega)]
  · have hb := ht k hk; unfold condition_Process_l1; simp only [Int.toNat_natCast, tabL_length]; rw [bif_pos (by omega), bif_and (by omega) (by omega), bif_and (by omega) (by omega), s_wr (x := (k : Int) + 1) (by omega) (by omega)]; show j ((k : Int) + 1, List.set _ k (IntKind.i64.wrap ((t4 t).getD k 0))) = _; rw [s_wr (x := (t4 t).getD k 0) (by omega) (by omega), tabP_set (A := A) (B := fun _ => 0) hk (by rw [hA]; rfl)]; rfl
  · have e : (tabL 4 fun q => if q < ((4 : Nat) : Int) then A q else 0) = t4 t := (tabL_congr fun i h0 h1 => if_pos h1).trans hAl; unfold condition_Process_l1; simp only [e]; rw [bif_neg (by omega), e2]; rfl
theorem spot_r (h0 : cE c = 0) (nm : List UInt8) {t : Int} (t0 : 0 ≤ t) (t1 : t ≤ 255) :
    (∃ k, k < c.1.length ∧ c.1.getD k [] = nm ∧ (∀ l, l < k → c.1.getD l [] ≠ nm) ∧ ∃ x : InkT, R_Vector_r fu (c, ((zs c).set k t, ())) = some (x, ()) ∧ condition_Spot_r fu (c, (nm, (t, ()))) = some (x, (0, ()))) ∨
    ((∀ l, l < c.1.length → c.1.getD l [] ≠ nm) ∧ ((∃ k, k < c.2.2.2.2.2.1.length ∧ (Sp.spAt c.2.2.2.2.2.1 k).1 = nm ∧ c.2.1.length = 4 ∧ (Sp.quick (Sp.spAt c.2.2.2.2.2.1 k) t).length = 4 ∧ Sp.SpotOk (Sp.spAt c.2.2.2.2.2.1 k) ∧
        ∃ x : InkT, R_Vector_r fu (c, (plc c.2.1 (Sp.quick (Sp.spAt c.2.2.2.2.2.1 k) t) (zs c) 4, ())) = some (x, ()) ∧ condition_Spot_r fu (c, (nm, (t, ()))) = some (x, (0, ()))) ∨
      ((∀ l, l < c.2.2.2.2.2.1.length → (Sp.spAt c.2.2.2.2.2.1 l).1 ≠ nm) ∧ condition_Spot_r fu (c, (nm, (t, ()))) = some ((0, (0, (0, (0, (0, (0, (0, 0))))))), (6, ()))))) := by
  have ok := cE_ok h0; have hn := ok.n8; have hs := hc.sp.1; have hz : (zs c).length = c.1.length := List.length_replicate
  have hst : condition_Spot_r fu (c, (nm, (t, ()))) = loopF (condition_Spot_l1 fu (c, (nm, (t, ())))) fu (0, z8) := by
    unfold condition_Spot_r; simp only; rw [check_r hf hc, h0]; simp only [bindO_some]; rw [bif_neg (fun q => q rfl)]; rfl
  have hsp : ∀ k, k < c.2.2.2.2.2.1.length → ((Sp.spAt c.2.2.2.2.2.1 k).2.2.2.2.length = 4 ∧ c.2.1.length = 4) ∧ Sp.SpotOk (Sp.spAt c.2.2.2.2.2.1 k) := fun k hk => by
    have e := firstE_ok _ 0 ok.s4 k (by omega) (by omega); unfold scE at e; split at e
    · exact ⟨by omega, ((Sp.libE_ok ok.sp).2 k hk).1⟩
    · omega
  have hq : ∀ k, k < c.2.2.2.2.2.1.length → (Sp.quick (Sp.spAt c.2.2.2.2.2.1 k) t).length = 4 ∧ Sml (Sp.quick (Sp.spAt c.2.2.2.2.2.1 k) t) := fun k hk => by
    obtain ⟨⟨a, b⟩, d⟩ := hsp k hk; refine ⟨by unfold Sp.quick; rw [tabL_length, a], fun i hi => ?_⟩; unfold Sp.quick at hi ⊢; rw [tabL_length] at hi; rw [tabL_getDN hi]; have := (Sp.quick_bd d t0 t1 hi).2; simp only [Int.toNat_natCast]; omega
  rw [hst]
  rcases findFold (f := condition_Spot_l1 fu (c, (nm, (t, ())))) (n := c.1.length) (fu := fu) (by omega) (s := z8) (p := fun k => c.1.getD k [] = nm)
    (hit := fun k => bindO (condition_limited_r fu (c, ((zs c).set k t, ()))) fun v5 => some (v5.1, (0, ()))) (miss := loopF (condition_Spot_l2 fu (c, (nm, (t, ())))) fu (0, z8))
    (fun j i hi hp => by
      unfold condition_Spot_l1; simp only [Int.toNat_natCast, List.length_replicate]; rw [bif_pos (by omega), bif_and (by omega) (by omega), bif_pos hp, bif_and (by omega) (by omega), bif_and (by omega) (by omega), s_wr (x := t) (by omega) (by omega)]
      rfl)
    (fun j i hi hp => by
      unfold condition_Spot_l1; simp only [Int.toNat_natCast]
      rw [bif_pos (by omega), bif_and (by omega) (by omega), bif_neg hp, s_wr (by omega) (by omega)])
    (fun j => by
      unfold condition_Spot_l1; simp only
      rw [bif_neg (by omega)]) with ⟨k, hk, hp, hm, h⟩ | ⟨hm, h⟩
  · refine .inl ⟨k, hk, hp, hm, ?_⟩; obtain ⟨x, e1, e2⟩ := bl' hf ok (l := (zs c).set k t) (by rw [List.length_set, hz]) (sml_set (sml_rep _) (by omega) (by omega)); refine ⟨x, e1, ?_⟩; rw [h, e2]; rfl
  · refine .inr ⟨hm, ?_⟩; rw [h]
    rcases findFold (f := condition_Spot_l2 fu (c, (nm, (t, ())))) (n := c.2.2.2.2.2.1.length) (fu := fu) (by omega) (s := z8) (p := fun k => (Sp.spAt c.2.2.2.2.2.1 k).1 = nm)
      (hit := fun k => bindO (spot_Quick_r fu (Sp.spAt c.2.2.2.2.2.1 k, (t, ()))) fun v7 => bindO (condition_placed_r fu (c, (v7.1, ()))) fun v8 => some (v8.1, (0, ()))) (miss := some ((0, (0, (0, (0, (0, (0, (0, 0))))))), (6, ())))
      (fun j i hi hp => by
        unfold Sp.spAt at hp; unfold condition_Spot_l2; simp only [Int.toNat_natCast]; rw [bif_pos (by omega), bif_and (by omega) (by omega), bif_pos hp, bif_and (by omega) (by omega), s_wr (x := t) (by omega) (by omega)]
        rfl)
      (fun j i hi hp => by
        unfold Sp.spAt at hp; unfold condition_Spot_l2; simp only [Int.toNat_natCast]
        rw [bif_pos (by omega), bif_and (by omega) (by omega), bif_neg hp, s_wr (by omega) (by omega)])
      (fun j => by
        unfold condition_Spot_l2; simp only; rw [bif_neg (by omega)]
        rfl) with ⟨k, hk, hp, hm2, h2⟩ | ⟨hm2, h2⟩
    · obtain ⟨⟨a, b⟩, d⟩ := hsp k hk; obtain ⟨q1, q2⟩ := hq k hk; obtain ⟨x, e1, e2⟩ := placed_r hf ok (ts := Sp.quick (Sp.spAt c.2.2.2.2.2.1 k) t) (by omega) q2; rw [q1] at e1; refine .inl ⟨k, hk, hp, b, q1, d, x, e1, ?_⟩; rw [h2, Sp.quick_r hf d t0 t1]; simp only [bindO_some]; rw [e2]; rfl
    · exact .inr ⟨hm2, h2⟩
theorem sameT_r {l : List (List UInt8)} (hl : (l.length : Int) ≤ 9223372036854775807) : R_SameTexts_r fu (l, (l, ())) = some (true, ()) := by
  unfold R_SameTexts_r; rw [bif_neg (fun q => q rfl), errLoop (n := l.length) (fu := fu) (E := fun _ => 0) (out := fun _ => some (true, ())) (fin := some (true, ())) (by omega) (fun j i hi => ?_) (fun j => ?_)]
  · split <;> rfl
  · unfold R_SameTexts_l1; simp only [Int.toNat_natCast]; rw [bif_pos (by omega), bif_and (by omega) (by omega), bif_and (by omega) (by omega), s_wr (by omega) (by omega)]; simp only [decide_true, Bool.not_true, cond_false, if_true]
  · unfold R_SameTexts_l1; rw [bif_neg (by simp only; omega)]
theorem spotAt_one {l : List Sp.SpotT} (hl : Sp.libE l = 0) {k k' : Nat} (hk : k < l.length) (hk' : k' < l.length) {nm : List UInt8} (h : (Sp.spAt l k).1 = nm) (h' : (Sp.spAt l k').1 = nm) : k = k' := by
  have u := (Sp.libE_ok hl).2; rcases Nat.lt_trichotomy k k' with g | g | g
  · exact absurd (h.trans h'.symm) ((u k' hk').2 k g)
  · exact g
  · exact absurd (h'.trans h.symm) ((u k hk).2 k' g)
theorem inks_spot (h0 : cE c = 0) (tt : Int × (Int × (Int × Int))) (nm : List UInt8) {t : Int} (t0 : 0 ≤ t) (t1 : t ≤ 255) {y : InkT} {h : Int} (hy : condition_Spot_r fu (c, (nm, (t, ()))) = some (y, (h, ()))) :
    law_ConditionInks_j3 fu (c, (tt, (nm, (t, ())))) (y, (h, ())) h () = some (true, ()) := by
  have ok := cE_ok h0; have hn := ok.n8; have hs := hc.sp.1; have hz : (zs c).length = c.1.length := List.length_replicate; unfold law_ConditionInks_j3; simp only; rw [bif_and (by omega) (by omega), Int.toNat_natCast]
  have hl := findFold (f := law_ConditionInks_l4 fu (c, (tt, (nm, (t, ())))) (y, (h, ())) h) (n := c.1.length) (fu := fu) (by omega) (s := zs c) (p := fun k => c.1.getD k [] = nm)
    (hit := fun k => bif decide (h = 0) then bindO (R_Vector_r fu (c, ((zs c).set k t, ()))) fun v19 => some (eqs y v19.1, ()) else some (false, ()))
    (miss := bindO (R_SpotAt_r fu (c.2.2.2.2.2.1, (nm, ()))) fun v17 => bif decide (v17.1 < 0) then (bindO (law_none_r fu (eqs y (0, (0, (0, (0, (0, (0, (0, 0))))))), (h, (6, ())))) fun v19 => some (v19.1, ())) else
      bif decide (0 ≤ v17.1) && decide (v17.1 < (c.2.2.2.2.2.1.length : Int)) then bindO (R_SpotProcess_r fu (Sp.spAt c.2.2.2.2.2.1 v17.1.toNat, (IntKind.i64.wrap t, ()))) fun v20 => loopF (law_ConditionInks_l5 fu (c, (tt, (nm, (t, ())))) (y, (h, ())) h v20) fu (0, zs c) else none)
    (fun j i hi hp => by
      unfold law_ConditionInks_l4; simp only [Int.toNat_natCast, hz]; rw [bif_pos (by omega), bif_and (by omega) (by omega), bif_pos hp, bif_and (by omega) (by omega), s_wr (x := t) (by omega) (by omega)]
      rfl)
    (fun j i hi hp => by
      unfold law_ConditionInks_l4; simp only [Int.toNat_natCast]
      rw [bif_pos (by omega), bif_and (by omega) (by omega), bif_neg hp, s_wr (x := (i : Int) + 1) (by omega) (by omega)])
    (fun j => by
      unfold law_ConditionInks_l4; simp only; rw [bif_neg (by omega)]
      rfl)
  show loopF (law_ConditionInks_l4 fu (c, (tt, (nm, (t, ())))) (y, (h, ())) h) fu (0, zs c) = _; rcases spot_r hf hc h0 nm t0 t1 with ⟨k, hk, hp, hm, x, e1, e2⟩ | ⟨hm, e⟩
  · have e3 := hy.symm.trans e2; simp only [Option.some.injEq, Prod.mk.injEq, and_true] at e3; obtain ⟨rfl, rfl⟩ := e3; rcases hl with ⟨k', hk', hp', hm', h'⟩ | ⟨hm', h'⟩
    · obtain rfl : k = k' := by
        rcases Nat.lt_trichotomy k k' with g | g | g
        · exact absurd hp (hm' k g)
        · exact g
        · exact absurd hp' (hm k' g)
      rw [h', bif_pos rfl, e1]; simp only [bindO_some, eqs_true]
    · exact absurd hp (hm' k hk)
  · rcases hl with ⟨k', hk', hp', hm', h'⟩ | ⟨hm', h'⟩
    · exact absurd hp' (hm k' hk')
    rw [h']; rcases e with ⟨k, hk, hp, p4, q4, sk, x, e1, e2⟩ | ⟨hm2, e2⟩
    · have e3 := hy.symm.trans e2; simp only [Option.some.injEq, Prod.mk.injEq, and_true] at e3; obtain ⟨rfl, rfl⟩ := e3; rcases Sp.spotAt_r hf hs nm with ⟨k', hk', hp', _, g⟩ | ⟨hm', g⟩
      · obtain rfl := spotAt_one hf hc ok.sp hk hk' hp hp'; rw [g]; simp only [bindO_some, Int.toNat_natCast]; rw [bif_neg (by omega), bif_and (by omega) (by omega), s_wr (x := t) (by omega) (by omega), Sp.process_r hf sk t0 t1]; simp only [bindO_some]; refine stLoop (n := 4) (st := fun i : Nat => ((i : Int), plc c.2.1 (Sp.quick (Sp.spAt c.2.2.2.2.2.1 k) t) (zs c) i)) (by omega) rfl (fun j i hi => ?_) (fun j => ?_)
        · have hr := ok.pr (i := i) (by omega); unfold law_ConditionInks_l5; simp only [Int.toNat_natCast, plc_len, hz, q4]; rw [bif_pos (by omega), bif_and (by omega) (by omega), bif_and (by omega) (by omega), bif_and (by omega) (by omega), s_wr (by omega) (by omega)]; rfl
        · unfold law_ConditionInks_l5; simp only [q4]; rw [bif_neg (by omega), bif_pos trivial, e1]; simp only [bindO_some]; simp only [decide_true, Bool.and_true]
      · exact absurd hp (hm' k hk)
    · have e3 := Option.some.inj (hy.symm.trans e2); obtain rfl : y = (0, (0, (0, (0, (0, (0, (0, 0))))))) := congrArg Prod.fst e3; obtain rfl : h = 6 := congrArg (fun z => z.2.1) e3; rcases Sp.spotAt_r hf hs nm with ⟨k', hk', hp', _, g⟩ | ⟨hm', g⟩
      · exact absurd hp' (hm2 k' hk')
      · rw [g]; simp only [bindO_some]; rw [bif_pos (by omega), none_s, eqs_true]; rfl
theorem inks_r (hW : law_conditionWorks_r fu () = some (true, ())) {tt : Int × (Int × (Int × Int))} (ht : ∀ k, k < 4 → 0 ≤ (t4 tt).getD k 0 ∧ (t4 tt).getD k 0 ≤ 255) {nm : List UInt8} {t : Int} (t0 : 0 ≤ t) (t1 : t ≤ 255) : law_ConditionInks_r fu (c, (tt, (nm, (t, ())))) = some (true, ()) := by
  unfold law_ConditionInks_r; simp only; rw [hW, namesOf_r hf hc, orderOf_r hf hc, cErr_r hf hc]; simp only [bindO_some, Bool.not_true, cond_false, joinF_eq]; by_cases h0 : cE c = 0
  · have ok := cE_ok h0; have hn := ok.n8; have hz : (zs c).length = c.1.length := List.length_replicate
    obtain ⟨y, h, hy⟩ : ∃ y h, condition_Spot_r fu (c, (nm, (t, ()))) = some (y, (h, ())) := by
      rcases spot_r hf hc h0 nm t0 t1 with ⟨_, _, _, _, x, _, e⟩ | ⟨_, ⟨_, _, _, _, _, _, x, _, e⟩ | ⟨_, e⟩⟩ <;> exact ⟨_, _, e⟩
    have hj3 := inks_spot hf hc h0 tt nm t0 t1 hy; rw [if_pos h0, if_pos h0, h0, hy]; by_cases hp0 : c.2.1.length = 0
    · rw [process0_r hf hc h0 hp0]; simp only [bindO_some]; rw [bif_neg (fun q => q rfl), bif_neg (fun q => q rfl), sameT_r hf hc hc.inks]; simp only [bindO_some, Bool.not_true, cond_false]; rw [bif_neg (fun q => q rfl), sameI_r hf hc.li]; simp only [bindO_some, Bool.not_true]; unfold law_ConditionInks_j1; simp only [cond_false]; rw [bif_and (by omega) (by omega), Int.toNat_natCast]; refine stLoop (n := 0) (st := fun i : Nat => ((i : Int), zs c)) (by omega) rfl (fun j i hi => absurd hi (by omega)) (fun j => ?_); unfold law_ConditionInks_l2; simp only [hp0, joinF_eq]; rw [bif_neg (by omega), bif_pos (by omega)]; show bindO (law_none_r fu (true, (8, (8, ())))) _ = _; rw [none_s]; exact hj3
    · have hp4 : c.2.1.length = 4 := by have := ok.p; omega
      obtain ⟨x, e1, e2⟩ := process4_r hf hc h0 hp4 ht; rw [e2]; simp only [bindO_some]; rw [bif_neg (fun q => q rfl), bif_neg (fun q => q rfl), sameT_r hf hc hc.inks]; simp only [bindO_some, Bool.not_true, cond_false]; rw [bif_neg (fun q => q rfl), sameI_r hf hc.li]; simp only [bindO_some, Bool.not_true]; unfold law_ConditionInks_j1; simp only [cond_false]; rw [bif_and (by omega) (by omega), Int.toNat_natCast]; refine stLoop (n := 4) (st := fun i : Nat => ((i : Int), plc c.2.1 (t4 tt) (zs c) i)) (by omega) rfl (fun j i hi => ?_) (fun j => ?_)
      · have hr := ok.pr (i := i) (by omega); have hb := ht i hi; unfold law_ConditionInks_l2; simp only [Int.toNat_natCast, plc_len, hz, hp4, joinF_eq]; rw [bif_pos (by omega), bif_and (by omega) (by omega), decide_eq_true (show (0 : Int) ≤ (i : Int) by omega), decide_eq_true (show (i : Int) < 4 by omega), decide_eq_true (show (i : Int) < ((List.length ([tt.1, tt.2.1, tt.2.2.1, tt.2.2.2] : List Int) : Nat) : Int) by simp only [List.length_cons, List.length_nil]; omega)]; simp only [Bool.and_true, cond_true]; rw [bif_and (by omega) (by omega), s_wr (x := (i : Int) + 1) (by omega) (by omega)]; show j ((i : Int) + 1, List.set _ _ (IntKind.i64.wrap ((t4 tt).getD i 0))) = _; rw [s_wr (x := (t4 tt).getD i 0) (by omega) (by omega)]; rfl
      · unfold law_ConditionInks_l2 law_ConditionInks_j6; simp only [hp4, joinF_eq]; rw [bif_neg (by omega), bif_neg (by omega), bif_neg (fun q => q rfl), e1]; simp only [bindO_some]; simp only [decide_true, Bool.and_true, Bool.not_true, cond_false]; exact hj3
  · rw [processE_r hf hc h0, spotE_r hf hc h0, if_neg h0, if_neg h0]; simp only [bindO_some]; rw [bif_pos h0]; have hN : law_none_r fu (true, (cE c, (cE c, ()))) = some (true, ()) := by rw [none_s, decide_eq_true (rfl : cE c = cE c)]; rfl
    show bindO (law_none_r fu (true, (cE c, (cE c, ())))) _ = _; rw [hN]; simp only [bindO_some, cond_true]; show bindO (law_none_r fu (true, (cE c, (cE c, ())))) _ = _; rw [hN]; simp only [bindO_some, cond_true]; show bindO (law_none_r fu (true, (cE c, (cE c, ())))) _ = _; rw [hN]; simp only [bindO_some, cond_true]; show bindO (law_none_r fu (true, (cE c, (cE c, ())))) _ = _; rw [hN]; rfl
end
theorem t4_bd {t : Int × (Int × (Int × Int))} (h0 : 0 ≤ t.1 ∧ t.1 ≤ 255) (h1 : 0 ≤ t.2.1 ∧ t.2.1 ≤ 255) (h2 : 0 ≤ t.2.2.1 ∧ t.2.2.1 ≤ 255) (h3 : 0 ≤ t.2.2.2 ∧ t.2.2.2 ≤ 255) : ∀ k, k < 4 → 0 ≤ (t4 t).getD k 0 ∧ (t4 t).getD k 0 ≤ 255 := fun k hk => by
  obtain rfl | rfl | rfl | rfl : k = 0 ∨ k = 1 ∨ k = 2 ∨ k = 3 := by omega
  · exact h0
  · exact h1
  · exact h2
  · exact h3
end Co
end Go.Proofs.Ytjhdjjoacedlpaa
/- The step from a walk to a law's row, once for all laws of the seat: a law that returns true and leaves all that was there as it was. -/
namespace Go.Proofs.Ytjhdjjoacedlpaa
open Go.ChangeShapes Go.WideShapes Go.ChangeAt Go.RowKit

theorem own : ownKnob Try.prog.godebug = none := by kernel_rfl
theorem laidOut : laidOutB Try.prog = true := by kernel_rfl
theorem boolT : Try.prog.underlying 4 = some .bool := Try.underlying4

theorem trodAll_stays {H : Type} {enc : TypeId × Value → H} {P : Program} (hl : laidOutB P = true) {W W' : World} (hb : Below W.heap.size W W') :
    ∀ {ts : List TypeId} {vs : List Value} {ds : List (DataW H)} {ps : List MemPlace}, (∀ t ∈ ts, P.readableRec t = true ∧ t < P.types.size) → DataW.TrodAll enc P W 0 (fun _ => true) true ts vs ds ps →
      (∀ x ∈ ps, x.block < W.heap.size) → DataW.TrodAll enc P W' 0 (fun b => decide (b < W.heap.size)) true ts vs ds ps
  | [], [], [], _, _, h, _ => h
  | t :: ts, v :: vs, d :: ds, _, hr, ⟨p, q, h1, h2, e⟩, hlt =>
    ⟨p, q, Below.trod hl (hr t (by simp)).1 (hr t (by simp)).2 h1 hb (fun x hx => hlt x (by rw [e]; simp [hx])),
      trodAll_stays hl hb (fun t' ht => hr t' (by simp [ht])) h2 (fun x hx => hlt x (by rw [e]; simp [hx])), e⟩
  | [], [], _ :: _, _, _, h, _ => h.elim
  | [], _ :: _, _, _, _, h, _ => h.elim
  | _ :: _, [], _, _, _, h, _ => h.elim
  | _ :: _, _ :: _, [], _, _, h, _ => h.elim

def readsAll (P : Program) (ts : List TypeId) : Bool := ts.all fun t => P.readableRec t && decide (t < P.types.size)
theorem readsAll_all {P : Program} {ts : List TypeId} (h : readsAll P ts = true) : ∀ t ∈ ts, P.readableRec t = true ∧ t < P.types.size := by
  intro t ht; have := List.all_eq_true.1 h t ht; simpa using this

theorem trodAll_length {H : Type} {enc : TypeId × Value → H} {P : Program} {W : World} {base : Nat} {spare : Nat → Bool} {held : Bool} :
    ∀ {ts : List TypeId} {vs : List Value} {ds : List (DataW H)} {ps : List MemPlace}, DataW.TrodAll enc P W base spare held ts vs ds ps → ds.length = ts.length
  | [], [], [], _, _ => rfl
  | _ :: _, _ :: _, _ :: _, _, ⟨_, _, _, h2, _⟩ => by simp [trodAll_length h2]
  | [], [], _ :: _, _, h => h.elim
  | [], _ :: _, _, _, h => h.elim
  | _ :: _, [], _, _, h => h.elim
  | _ :: _, _ :: _, [], _, h => h.elim

set_option maxRecDepth 100000 in
theorem law_lifted {os : Os} (started : os.Started) {H : Type} {enc : TypeId × Value → H} {f : FuncId} {fn : Func} {s : ChangeSpec}
    (noInit : Try.checked.prog.inits.idxOf? f = none) (hfn : Try.checked.prog.funcs[f]? = some fn)
    (witness : ∃ (w : World) (tape : Tape) (i : Input), w.os = os ∧ (w.forCall tape i).Shaped Try.checked.prog ∧ i.vars = [] ∧ Input.okWide Try.checked.prog (w.forCall tape i) .any w.heap.size f i ∧
      s.pre6 enc Try.checked.prog fn [] false (w.forCall tape i).memory i.args ∧ ({} : Assume).holds Try.checked.prog (lone (Frame.enter Try.checked.prog f i.args .normal) [] (w.forCall tape i)))
    (hvars : s.vars = []) (hres : fn.resultTypes = #[4]) (hread : readsAll Try.prog fn.params.toList = true)
    (hspec : ∀ ds : List (DataW H), ds.length = fn.params.toList.length → s.fn H ds = { results := [.lit (.bool true)], args := ds })
    (walk : ∀ (W : World) (base : Nat) (args : List Value) (ds : List (DataW H)) (ps : List MemPlace),
      (∀ (j : Nat) t v, fn.params[j]? = some t → args[j]? = some v → Value.okWide Try.prog W .any base t v) → DataW.TrodAll enc Try.prog W 0 (fun _ => true) true fn.params.toList args ds ps →
      (DataW.weightsEach Try.prog fn.params.toList ds).all (· ≤ reachBytes) = true → (∀ x ∈ ps, x.block < W.heap.size) →
      Calls Try.prog f args.toArray W fun e W' => e = .returned (.bool true) ∧ Below W.heap.size W W') :
    ReturnsInHanded {} Try.checked os f .any (s.pre6 enc Try.checked.prog fn [] false) (s.post enc Try.checked.prog fn false true false false) := by
  refine returnsInHanded_of_change_sized (C := Try.checked) own started noInit hfn witness ?_; intro W base args ds gs before hval hW _ hsz _; have hW' := hW; obtain ⟨p, q, hA0, hV, rfl, hfz, hnd⟩ := hW; rw [hvars] at hV; obtain ⟨rfl, rfl⟩ := trodVars_none hV; have hA : DataW.TrodAll enc Try.prog W 0 (fun _ => true) true fn.params.toList args.toList ds p := hA0; have hlen : ds.length = fn.params.toList.length := trodAll_length hA; have hlt : ∀ x ∈ p, x.block < W.heap.size := fun x hx => hW'.lt x (by simpa using hx)
  have hargs : args.toList.toArray = args := by simp
  have hsz' : (DataW.weightsEach Try.prog fn.params.toList ds).all (· ≤ reachBytes) = true := by
    have h := hsz; have hvt : s.plain.varTypes Try.checked.prog = [] := by simp [DataSpec.varTypes, ChangeSpec.plain, hvars]
    rw [hvt] at h; simp only [List.append_nil] at h; exact h
  have hw := walk W base args.toList ds p (fun j t v ht hv => hval j t v ht (by simpa using hv)) hA hsz' hlt; rw [hargs] at hw; refine hw.mono fun e W' ⟨he, hb⟩ => ⟨.bool true, he, ?_⟩
  have hsf : s.fn H (ds ++ []) = { results := [.lit (.bool true)], args := ds } := by rw [List.append_nil]; exact hspec ds hlen
  refine ⟨ds, [], p ++ [], [], p, [], hW', ?_, ?_, ?_, hb.frame _, fun h => by cases h⟩
  · rw [hsf, hres]; exact trodAll_mk1 (shut_bool boolT true)
  · rw [hsf]; exact trodAll_stays laidOut hb (readsAll_all hread) hA hlt
  · rw [hsf, hvars]; rfl
end Go.Proofs.Ytjhdjjoacedlpaa
/- Arguments opened: what slices and structs of numbers read as. -/
set_option maxRecDepth 100000
namespace Go.Proofs.Ytjhdjjoacedlpaa
open Go.ChangeShapes Go.WideShapes Go.ChangeAt Go.RowKit Go.Deep

theorem choose_list {α : Type} {n : Nat} {Q : Nat → α → Prop} (h : ∀ i, i < n → ∃ p, Q i p) : ∃ l : List α, l.length = n ∧ ∀ i p, l[i]? = some p → Q i p := by
  induction n with
  | zero => exact ⟨[], rfl, by intro i p hi; simp at hi⟩
  | succ n ih =>
    obtain ⟨l, hl, hq⟩ := ih (fun i hi => h i (by omega)); obtain ⟨p, hp⟩ := h n (by omega); refine ⟨l ++ [p], by simp [hl], fun i q hi => ?_⟩; rcases Nat.lt_trichotomy i n with hlt | rfl | hgt
    · rw [List.getElem?_append_left (by omega)] at hi; exact hq i q hi
    · rw [List.getElem?_append_right (by omega), hl] at hi; simp at hi; subst hi; exact hp
    · rw [List.getElem?_eq_none (by simp; omega)] at hi; cases hi

section
variable {H : Type} {enc : TypeId × Value → H} {P : Program} {w : World} {base : Nat} {spare : Nat → Bool} {held : Bool}
theorem rd_slice {t e : TypeId} {fuel : Nat} {v : Value} {x : DataW H × List MemPlace} (ht : P.underlying t = some (.slice e)) (hc : 0 < P.cellsOf e) (h : DataW.trod enc P w base spare held fuel t [v] = some x) :
    ∃ A n c, v = .slice A n c ∧ n ≤ c ∧ c ≤ maxLen ∧ ∀ i, i < n → ∃ b o cs n' x', A = some ⟨b, o, none⟩ ∧ cs.length = P.cellsOf e ∧ (∀ j u, cs[j]? = some u → w.cell? ⟨b, o + i * P.cellsOf e + j, none⟩ = some u) ∧
      DataW.trod enc P w base spare held n' e cs = some x' := by
  rcases open_slice ht h with ⟨h0, _⟩ | ⟨a, len, cap, m, n', D, Pl, hcs, _, hl, hm, hmm, _, hi⟩
  · simp at h0; subst h0; exact ⟨none, 0, 0, rfl, by omega, by unfold maxLen; omega, by intro i hi; omega⟩
  · simp at hcs; subst hcs; refine ⟨some a, len, cap, rfl, hl, hm, fun i hil => ?_⟩
    have hlm : len ≤ m := by rw [hmm]; split <;> omega
    obtain ⟨cs, h1, h2⟩ := hi i (by omega); obtain ⟨hb, hlen, hat⟩ := World.cells?_some h1; obtain ⟨b, o, spot⟩ := a; have h00 := hat 0 (by omega)
    have hsp : spot = none := by
      obtain ⟨cs0, g1, _⟩ := hi 0 (by omega); obtain ⟨_, gl, gat⟩ := World.cells?_some g1; have hx := gat 0 (by omega); rw [List.getElem?_eq_getElem (by omega)] at hx; simpa [Addr.add] using World.cell?_spot hx
    subst hsp; refine ⟨b, o, cs, n', _, rfl, hlen, ?_, h2⟩; intro j u hu; have hjl : j < P.cellsOf e := by rw [← hlen]; exact (List.getElem?_eq_some_iff.1 hu).1
    have := hat j hjl; rw [hu, Addr.add_lit, Addr.add_lit] at this; exact this
end

end Go.Proofs.Ytjhdjjoacedlpaa
/- Arguments opened, as abstract values. -/
set_option maxRecDepth 100000
namespace Go.Proofs.Ytjhdjjoacedlpaa
open Go Go.ChangeShapes Go.WideShapes Go.ChangeAt Go.RowKit Go.Deep

section
variable {H : Type} {enc : TypeId × Value → H} {P : Program} {w : World} {base : Nat} {spare : Nat → Bool} {held : Bool}
abbrev RelC (w : World) : AV → Value → Prop := RelD w (fun _ => False) w.heap.size
def Reads {α : Type} (w : World) (sz : Nat) (ec : α → List AV) (Q : α → Prop) (cs : List Value) : Prop :=
  ∃ p, Q p ∧ (ec p).length = sz ∧ ∀ (j : Nat) (a : AV) (u : Value), (ec p)[j]? = some a → cs[j]? = some u → RelC w a u
theorem ro_slice {α : Type} (ec : α → List AV) (Q : α → Prop) {t e : TypeId} {sz fuel : Nat} {v : Value} {x : DataW H × List MemPlace} (ht : P.underlying t = some (.slice e)) (hz : P.cellsOf e = sz) (hc : 0 < sz)
    (hel : ∀ (fuel : Nat) (cs : List Value) (x : DataW H × List MemPlace), cs.length = sz → DataW.trod enc P w base spare held fuel e cs = some x → Reads w sz ec Q cs) (h : DataW.trod enc P w base spare held fuel t [v] = some x) :
    ∃ xs : List α, (∀ p ∈ xs, Q p) ∧ RelC w (.ro false sz (xs.map ec)) v := by
  subst hz; obtain ⟨A, n, c, rfl, hn, hm, hi⟩ := rd_slice ht hc h
  obtain ⟨xs, hl, hq⟩ := choose_list (Q := fun i (p : α) => Q p ∧ ∃ (b o : Nat) (cs : List Value), A = some ⟨b, o, none⟩ ∧ cs.length = P.cellsOf e ∧ (∀ (j : Nat) (u : Value), cs[j]? = some u → w.cell? ⟨b, o + i * P.cellsOf e + j, none⟩ = some u) ∧ (ec p).length = P.cellsOf e ∧ ∀ (j : Nat) (a : AV) (u : Value), (ec p)[j]? = some a → cs[j]? = some u → RelC w a u) (n := n) (by
    intro i hil; obtain ⟨b, o, cs, n', x', hA, hlen, hat, htr⟩ := hi i hil; obtain ⟨p, h1, h2, h3⟩ := hel n' cs x' hlen htr
    exact ⟨p, h1, b, o, cs, hA, hlen, hat, h2, h3⟩)
  subst hl; refine ⟨xs, fun p hp => ?_, ?_⟩
  · obtain ⟨i, hi⟩ := List.mem_iff_getElem?.1 hp; exact (hq i p hi).1
  have key : ∀ (i : Nat) (row : List AV) (j : Nat) (a : AV), (xs.map ec)[i]? = some row → row[j]? = some a → ∃ b o u, A = some ⟨b, o, none⟩ ∧ w.cell? ⟨b, o + i * P.cellsOf e + j, none⟩ = some u ∧ RelC w a u := by
    intro i row j a hr ha; rw [List.getElem?_map] at hr; obtain ⟨p, hp, rfl⟩ := Option.map_eq_some_iff.1 hr; obtain ⟨_, b, o, cs, hA, hlen, hat, hel, hrel⟩ := hq i p hp; have hj : j < cs.length := by rw [hlen, ← hel]; exact (List.getElem?_eq_some_iff.1 ha).1
    have hu : cs[j]? = some cs[j] := List.getElem?_eq_getElem hj; exact ⟨b, o, cs[j], hA, hat j _ hu, hrel j a _ ha hu⟩
  have hcon := RelD.ro (w := w) (own := fun _ => False) (bs := w.heap.size) false (P.cellsOf e) (xs.map ec) A c (fun i j => match A with
    | some ⟨b, o, _⟩ => (w.cell? ⟨b, o + i * P.cellsOf e + j, none⟩).getD undef
    | none => undef) (by simpa using hn) hm (fun i hi hA => by
      have hi : i < xs.length := by simpa using hi
      obtain ⟨_, b, o, _, h1, _⟩ := hq i xs[i] (List.getElem?_eq_getElem hi)
      rw [hA] at h1; cases h1) (fun i row j a hr ha => by
      obtain ⟨b, o, u, hA, hu, _⟩ := key i row j a hr ha; subst hA
      exact ⟨b, o, rfl, fun h => h.elim, (fun h => by cases h), by simp [hu]⟩) (fun i row j a hr ha => by
      obtain ⟨b, o, u, hA, hu, hr⟩ := key i row j a hr ha; subst hA
      simpa [hu] using hr)
  rw [List.length_map] at hcon; exact hcon
end
theorem AF.yes {P : Program} {F : FuncId} {xs : List AV} {vs : Array Value} {w : World} (h : AF P F xs (.bool true)) (ha : ArgsV w (Gh.none w.heap.size) xs vs) : Calls P F vs w fun e w' => e = .returned (.bool true) ∧ Below w.heap.size w w' :=
  (h.out w vs ha).mono fun e w' ⟨v, he, hb, hv⟩ => ⟨by rw [he, hv.bool'], hb⟩
end Go.Proofs.Ytjhdjjoacedlpaa
/- Arguments of any type, opened by one theorem; the last step of a law that a residual program answers. -/
set_option maxRecDepth 100000
namespace Go.Proofs.Ytjhdjjoacedlpaa
open Go Go.ChangeShapes Go.WideShapes Go.ChangeAt Go.RowKit Go.Deep

def Ty.wf : (t : Ty) → t.den → Prop
  | .int k, n => (Lit.int k n).wf = true
  | .bool, _ => True
  | .str, s => List.length s ≤ maxLen
  | .list t, xs => List.length xs ≤ maxLen ∧ ∀ x ∈ (xs : List t.den), t.wf x
  | .unit, _ => True
  | .pair a b, x => a.wf x.1 ∧ b.wf x.2
  | .agg t, x => t.wf x
  | .ptr _, _ => False
def prB (t : Ty) (f : Ty → Ty → Bool) : Bool := match t with
  | .pair x y => f x y
  | _ => false
def unB (t : Ty) : Bool := match t with
  | .unit => true
  | _ => false
theorem prB_ok {t : Ty} {f : Ty → Ty → Bool} (h : prB t f = true) : ∃ x y, t = .pair x y ∧ f x y = true := by
  unfold prB at h; split at h
  · exact ⟨_, _, rfl, h⟩
  · cases h
theorem unB_ok {t : Ty} (h : unB t = true) : t = .unit := by
  unfold unB at h; split at h
  · rfl
  · cases h
def fsB (g : TypeId → Ty → Bool) : List Field → Nat → Ty → Bool
  | [], _, t => unB t
  | [a], o, t => Nat.beq a.offset o && g a.type t
  | a :: b :: l, o, t => prB t fun x y => Nat.beq a.offset o && g a.type x && fsB g (b :: l) (o + x.size) y
def arB (g : Ty → Bool) : Nat → Ty → Bool
  | 0, t => unB t
  | 1, t => g t
  | n + 2, t => prB t fun x y => g x && arB g (n + 1) y
def intB (k : IntKind) (t : Ty) : Bool := match t with
  | .int k' => decide (k' = k)
  | _ => false
def boolB (t : Ty) : Bool := match t with
  | .bool => true
  | _ => false
def strB (t : Ty) : Bool := match t with
  | .str => true
  | _ => false
def sliceB (g : Ty → Bool) (t : Ty) : Bool := match t with
  | .list t' => g t' && Nat.blt 0 t'.size
  | _ => false
def tyB (P : Program) : Nat → TypeId → Ty → Bool
  | 0, _, _ => false
  | f + 1, tid, t => Nat.beq (P.cellsOf tid) t.size && (match P.underlying tid with
    | some (.int k) => intB k t
    | some .bool => boolB t
    | some .string => strB t
    | some (.slice e) => sliceB (tyB P f e) t
    | some (.struct ⟨fs⟩) => fsB (tyB P f) fs 0 t
    | some (.array n e) => arB (tyB P f e) n t
    | _ => false)
section
variable {H : Type} {enc : TypeId × Value → H} {P : Program} {w : World} {base : Nat} {spare : Nat → Bool} {held : Bool}
abbrev ReadsT (w : World) (t : Ty) (cs : List Value) : Prop := Reads w t.size (t.cells false) t.wf cs
theorem tyB_size {f : Nat} {tid : TypeId} {t : Ty} (h : tyB P f tid t = true) : P.cellsOf tid = t.size := by
  cases f with
  | zero => cases h
  | succ f => rw [tyB, Bool.and_eq_true] at h; exact Nat.eq_of_beq_eq_true h.1
theorem ReadsT.pair {a b : Ty} {c d : List Value} (h : ReadsT w a c) (k : ReadsT w b d) (hl : c.length = a.size) : ReadsT w (.pair a b) (c ++ d) := by
  obtain ⟨x, x1, x2, x3⟩ := h; obtain ⟨y, y1, y2, y3⟩ := k; refine ⟨(x, y), ⟨x1, y1⟩, Ty.cells_length _ _ _, fun j v u hv hu => ?_⟩; rw [Ty.cells] at hv; by_cases hj : j < a.size
  · rw [List.getElem?_append_left (by rw [x2]; exact hj)] at hv; rw [List.getElem?_append_left (by omega)] at hu; exact x3 j v u hv hu
  · rw [List.getElem?_append_right (by rw [x2]; omega), x2] at hv; rw [List.getElem?_append_right (by omega), hl] at hu; exact y3 _ v u hv hu
theorem ReadsT.unit : ReadsT w .unit [] := ⟨(), trivial, rfl, fun j a u h _ => by simp [Ty.cells] at h⟩
theorem fs_reads {g : TypeId → Ty → Bool} (hg : ∀ (tid : TypeId) (t : Ty) (n : Nat) (cs : List Value) (x : DataW H × List MemPlace), g tid t = true → cs.length = t.size → DataW.trod enc P w base spare held n tid cs = some x → ReadsT w t cs) (hsz : ∀ tid t, g tid t = true → P.cellsOf tid = t.size) {cs : List Value} :
    ∀ (l : List Field) (o : Nat) (t : Ty), fsB g l o t = true → (∀ a ∈ l, ∃ n y, DataW.trod enc P w base spare held n a.type ((cs.drop a.offset).take (P.cellsOf a.type)) = some y) → o + t.size ≤ cs.length → ReadsT w t ((cs.drop o).take t.size)
  | [], o, t, h, _, _ => by
    rw [unB_ok h, show Ty.unit.size = 0 from rfl, List.take_zero]; exact .unit
  | [a], o, t, h, hr, hl => by
    rw [fsB, Bool.and_eq_true] at h; obtain ⟨n, y, hy⟩ := hr a (by simp); rw [Nat.eq_of_beq_eq_true h.1, hsz _ _ h.2] at hy; exact hg _ _ n _ y h.2 (by rw [List.length_take, List.length_drop]; omega) hy
  | a :: b :: l, o, t, h, hr, hl => by
    obtain ⟨x, y, rfl, h'⟩ := prB_ok h; clear h; have h := h'; clear h'; rw [Bool.and_eq_true, Bool.and_eq_true] at h; obtain ⟨n, z, hz⟩ := hr a (by simp); rw [Nat.eq_of_beq_eq_true h.1.1, hsz _ _ h.1.2] at hz; have hs : (Ty.pair x y).size = x.size + y.size := rfl; rw [hs] at hl; have h1 := hg _ _ n _ z h.1.2 (by rw [List.length_take, List.length_drop]; omega) hz; have h2 := fs_reads hg hsz (b :: l) (o + x.size) y h.2 (fun a ha => hr a (List.mem_cons_of_mem _ ha)) (by omega); rw [hs, List.take_add, List.drop_drop]; exact h1.pair h2 (by rw [List.length_take, List.length_drop]; omega)
theorem ar_reads {g : Ty → Bool} {e : TypeId} (hg : ∀ (t : Ty) (n : Nat) (cs : List Value) (x : DataW H × List MemPlace), g t = true → cs.length = t.size → DataW.trod enc P w base spare held n e cs = some x → ReadsT w t cs) (hsz : ∀ t, g t = true → P.cellsOf e = t.size) {cs : List Value} :
    ∀ (k o : Nat) (t : Ty), arB g k t = true → (∀ i, i < k → ∃ n y, DataW.trod enc P w base spare held n e ((cs.drop (o + i * P.cellsOf e)).take (P.cellsOf e)) = some y) → o + t.size ≤ cs.length → ReadsT w t ((cs.drop o).take t.size)
  | 0, o, t, h, _, _ => by
    rw [unB_ok h, show Ty.unit.size = 0 from rfl, List.take_zero]; exact .unit
  | 1, o, t, h, hr, hl => by
    rw [arB] at h; obtain ⟨n, y, hy⟩ := hr 0 (by omega); rw [hsz _ h, Nat.zero_mul, Nat.add_zero] at hy; exact hg _ n _ y h (by rw [List.length_take, List.length_drop]; omega) hy
  | k + 2, o, t, h, hr, hl => by
    obtain ⟨x, y, rfl, h'⟩ := prB_ok h; clear h; have h := h'; clear h'; rw [Bool.and_eq_true] at h; obtain ⟨n, z, hz⟩ := hr 0 (by omega); rw [hsz _ h.1, Nat.zero_mul, Nat.add_zero] at hz; have hs : (Ty.pair x y).size = x.size + y.size := rfl; rw [hs] at hl; have h1 := hg _ n _ z h.1 (by rw [List.length_take, List.length_drop]; omega) hz
    have h2 := ar_reads hg hsz (k + 1) (o + x.size) y h.2 (fun i hi => by
      obtain ⟨n, z, hz⟩ := hr (i + 1) (by omega); refine ⟨n, z, ?_⟩
      rw [← hz, ← hsz _ h.1, Nat.add_mul, Nat.one_mul, Nat.add_assoc, Nat.add_comm (P.cellsOf e)]) (by omega)
    rw [hs, List.take_add, List.drop_drop]; exact h1.pair h2 (by rw [List.length_take, List.length_drop]; omega)
theorem ro_len {own : Nat → Prop} {bs sz : Nat} {fr : Bool} {rows : List (List AV)} {v : Value} (h : RelD w own bs (.ro fr sz rows) v) : rows.length ≤ maxLen := by
  cases h with
  | ro fr sz rows A c f hc hm h0 h1 h2 => omega
theorem one_cell {cs : List Value} (h : cs.length = 1) : ∃ u, cs = [u] := by match cs, h with | [u], _ => exact ⟨u, rfl⟩
theorem reads_ty : ∀ (f : Nat) (tid : TypeId) (t : Ty) (n : Nat) (cs : List Value) (x : DataW H × List MemPlace), tyB P f tid t = true → cs.length = t.size → DataW.trod enc P w base spare held n tid cs = some x → ReadsT w t cs
  | 0, _, _, _, _, _, h, _, _ => by cases h
  | f + 1, tid, t, n, cs, x, h, hl, hx => by
    have hsize := tyB_size h; rw [tyB, Bool.and_eq_true] at h; obtain ⟨_, h⟩ := h; split at h
    · rename_i k hu; unfold intB at h; split at h
      · have hk := of_decide_eq_true h; subst hk; obtain ⟨m, rfl, _, hwf⟩ := DataW.trod_int hu hx; refine ⟨m, hwf, rfl, fun j a u ha hu => ?_⟩
        match j with
        | 0 => simp [Ty.cells] at ha hu; subst ha; subst hu; exact .int _ _
        | j + 1 => simp [Ty.cells] at ha
      · cases h
    · rename_i hu; unfold boolB at h; split at h
      · obtain ⟨m, rfl, _⟩ := DataW.trod_bool hu hx; refine ⟨m, trivial, rfl, fun j a u ha hu => ?_⟩
        match j with
        | 0 => simp [Ty.cells] at ha hu; subst ha; subst hu; exact .bool _
        | j + 1 => simp [Ty.cells] at ha
      · cases h
    · rename_i hu; unfold strB at h; split at h
      · obtain ⟨s, rfl, _, hs⟩ := DataW.trod_string hu hx; refine ⟨s.data.toList, by rw [Ty.wf, Array.length_toList]; exact hs, rfl, fun j a u ha hu => ?_⟩
        match j with
        | 0 => simp [Ty.cells] at ha hu; subst ha; subst hu; exact .str _
        | j + 1 => simp [Ty.cells] at ha
      · cases h
    · rename_i e hu; unfold sliceB at h; split at h
      · rename_i _ t' _; rw [Bool.and_eq_true] at h; have hpos : 0 < t'.size := Nat.le_of_ble_eq_true h.2; obtain ⟨v, rfl⟩ := one_cell hl; obtain ⟨xs, hw, hr⟩ := ro_slice (t'.cells false) t'.wf hu (tyB_size h.1) hpos (fun m cs x hl hx => reads_ty f e t' m cs x h.1 hl hx) hx; refine ⟨xs, ⟨?_, hw⟩, rfl, fun j a u ha hu => ?_⟩
        · have := ro_len hr; rw [List.length_map] at this; exact this
        match j with
        | 0 => simp [Ty.cells] at ha hu; subst ha; subst hu; exact hr
        | j + 1 => simp [Ty.cells] at ha
      · cases h
    · rename_i fs hu; obtain ⟨xs, m, _, _, _, hxl, hat⟩ := DataW.trod_struct hu hx
      have := fs_reads (cs := cs) (fun tid t n cs x h1 h2 h3 => reads_ty f tid t n cs x h1 h2 h3) (fun tid t h => tyB_size h) fs 0 t h (fun a ha => by
        obtain ⟨i, hi⟩ := List.mem_iff_getElem?.1 ha; have hi' : i < xs.length := by rw [hxl]; exact (List.getElem?_eq_some_iff.1 hi).1
        exact ⟨m, _, by rw [hat i a (by simpa using hi), List.getElem?_eq_getElem hi']⟩) (by omega)
      rw [List.drop_zero, List.take_of_length_le (by omega)] at this; exact this
    · rename_i k e hu; obtain ⟨xs, m, _, _, _, hxl, hat⟩ := DataW.trod_array hu hx
      have := ar_reads (cs := cs) (e := e) (fun t n cs x h1 h2 h3 => reads_ty f e t n cs x h1 h2 h3) (fun t h => tyB_size h) k 0 t h (fun i hi => by
        have hi' : i < xs.length := by rw [hxl]; exact hi
        exact ⟨m, _, by rw [Nat.zero_add, hat i hi, List.getElem?_eq_getElem hi']⟩) (by omega)
      rw [List.drop_zero, List.take_of_length_le (by omega)] at this; exact this
    · cases h
def aggP (P : Program) (tid : TypeId) : Bool := match P.underlying tid with
  | some (.struct _) => true
  | some (.array _ _) => true
  | _ => false
def cellP (P : Program) (tid : TypeId) : Bool := match P.underlying tid with
  | some (.int _) => true
  | some .bool => true
  | some .string => true
  | some (.slice _) => true
  | _ => false
def argB (P : Program) (tid : TypeId) (a : Ty) : Bool := match a with
  | .agg t => tyB P 9 tid t && aggP P tid
  | .int k => tyB P 9 tid (.int k) && cellP P tid
  | .bool => tyB P 9 tid .bool && cellP P tid
  | .str => tyB P 9 tid .str && cellP P tid
  | .list t => tyB P 9 tid (.list t) && cellP P tid
  | _ => false
def argsB (P : Program) : List TypeId → Ty → Bool
  | [], t => unB t
  | tid :: l, t => prB t fun a b => argB P tid a && argsB P l b
theorem okWide_arr {n b : Nat} {r : Go.Reach} {t e : TypeId} {v : Value} (ht : P.underlying t = some (.array n e)) (h : Value.okWide P w r b t v) : ∃ cs, v = .agg cs ∧ cs.size = P.cellsOf t := by
  simp only [Value.okWide, ht] at h; obtain ⟨cs, h1, h2, _⟩ := h; exact ⟨cs, h1, h2⟩
theorem arg_agg {tid : TypeId} {t : Ty} {v : Value} {d : DataW H} {p : List MemPlace} {b : Nat} (h : tyB P 9 tid t = true) (ha : aggP P tid = true) (hv : Value.okWide P w .any b tid v) (hd : DataW.Trod enc P w base spare held tid v d p) : ∃ x : t.den, t.wf x ∧ RelV w (Gh.none w.heap.size) (.agg (t.cells false x)) v := by
  obtain ⟨cs, rfl, hs⟩ : ∃ cs, v = .agg cs ∧ cs.size = P.cellsOf tid := by
    unfold aggP at ha; split at ha
    · rename_i h1; exact okWide_struct h1 hv
    · rename_i h1; exact okWide_arr h1 hv
    · cases ha
  obtain ⟨n, hd⟩ := hd; have hl : cs.toList.length = t.size := by rw [← tyB_size h, ← hs]; simp
  obtain ⟨x, x1, x2, x3⟩ := reads_ty 9 tid t n cs.toList _ h hl hd; exact ⟨x, x1, .agg _ _ (by rw [x2, ← hl]; simp) fun i a u ha hu => .dat (x3 i a u ha (by simpa using hu))⟩
theorem arg_cell {tid : TypeId} {t : Ty} {v : Value} {d : DataW H} {p : List MemPlace} {b : Nat} (h : tyB P 9 tid t = true) (hc : cellP P tid = true) (h1 : t.size = 1) (hv : Value.okWide P w .any b tid v) (hd : DataW.Trod enc P w base spare held tid v d p) : ∃ x : t.den, t.wf x ∧ ∀ a, (t.cells false x)[0]? = some a → RelV w (Gh.none w.heap.size) a v := by
  have hd : ∃ n, DataW.trod enc P w base spare held n tid [v] = some (d, p) := by
    unfold cellP at hc; split at hc
    · rename_i hu; obtain ⟨m, rfl⟩ := okWide_int hu hv; exact hd
    · rename_i hu; obtain ⟨m, rfl⟩ := okWide_bool hu hv; exact hd
    · rename_i hu; obtain ⟨m, rfl⟩ := okWide_string hu hv; exact hd
    · rename_i hu; obtain ⟨a, n, c, rfl⟩ := okWide_slice hu hv; exact hd
    · cases hc
  obtain ⟨n, hd⟩ := hd; obtain ⟨x, x1, x2, x3⟩ := reads_ty 9 tid t n [v] _ h (by rw [h1]; rfl) hd; exact ⟨x, x1, fun a ha => .dat (x3 0 a v ha rfl)⟩
theorem arg_ty {tid : TypeId} {v : Value} {d : DataW H} {p : List MemPlace} {b : Nat} : ∀ {a : Ty}, argB P tid a = true → Value.okWide P w .any b tid v → DataW.Trod enc P w base spare held tid v d p → ∃ x : a.den, a.wf x ∧ RelV w (Gh.none w.heap.size) (a.av false x) v
  | .agg t, h, hv, hd => by
    rw [argB, Bool.and_eq_true] at h; obtain ⟨x, h1, h2⟩ := arg_agg h.1 h.2 hv hd; exact ⟨x, h1, by rw [Ty.av]; exact h2⟩
  | .int k, h, hv, hd => by
    rw [argB, Bool.and_eq_true] at h; obtain ⟨x, h1, h2⟩ := arg_cell h.1 h.2 rfl hv hd; exact ⟨x, h1, h2 _ rfl⟩
  | .bool, h, hv, hd => by
    rw [argB, Bool.and_eq_true] at h; obtain ⟨x, h1, h2⟩ := arg_cell h.1 h.2 rfl hv hd; exact ⟨x, h1, h2 _ rfl⟩
  | .str, h, hv, hd => by
    rw [argB, Bool.and_eq_true] at h; obtain ⟨x, h1, h2⟩ := arg_cell h.1 h.2 rfl hv hd; exact ⟨x, h1, h2 _ rfl⟩
  | .list t, h, hv, hd => by
    rw [argB, Bool.and_eq_true] at h; obtain ⟨x, h1, h2⟩ := arg_cell h.1 h.2 rfl hv hd; exact ⟨x, h1, h2 _ rfl⟩
  | .unit, h, _, _ => by cases h
  | .pair _ _, h, _, _ => by cases h
  | .ptr _, h, _, _ => by cases h
inductive RelsV (w : World) (G : Gh) : List AV → List Value → Prop
  | nil : RelsV w G [] []
  | cons {a : AV} {v : Value} {l : List AV} {m : List Value} (h : RelV w G a v) (k : RelsV w G l m) : RelsV w G (a :: l) (v :: m)
theorem RelsV.args {G : Gh} {l : List AV} {m : List Value} (h : RelsV w G l m) : ArgsV w G l m.toArray := by
  induction h with
  | nil => exact ⟨rfl, fun i a v ha hv => by simp at ha⟩
  | cons h k ih =>
    refine ⟨by have := ih.size; simp at this ⊢; exact this, fun i a v ha hv => ?_⟩
    cases i with
    | zero => simp at ha hv; subst ha; subst hv; exact h
    | succ i => exact ih.rel i a v (by simpa using ha) (by simpa using hv)
theorem args_ty {b : Nat} : ∀ {ts : List TypeId} {σ : Ty} {vs : List Value} {ds : List (DataW H)} {ps : List MemPlace}, argsB P ts σ = true → (∀ (j : Nat) t v, ts[j]? = some t → vs[j]? = some v → Value.okWide P w .any b t v) → DataW.TrodAll enc P w base spare held ts vs ds ps → ∃ x : σ.den, σ.wf x ∧ RelsV w (Gh.none w.heap.size) (σ.avs false x) vs
  | [], σ, vs, ds, ps, h, _, hA => by
    obtain ⟨rfl, rfl, rfl⟩ := trodAll_nil hA; have e := unB_ok h; subst e; exact ⟨(), trivial, .nil⟩
  | tid :: l, σ, vs, ds, ps, h, hv, hA => by
    obtain ⟨v, vs, d, ds, p, q, rfl, rfl, rfl, h0, r0⟩ := trodAll_cons hA; obtain ⟨a, c, rfl, h'⟩ := prB_ok h; clear h; have h := h'; clear h'; rw [Bool.and_eq_true] at h; obtain ⟨x, x1, x2⟩ := arg_ty h.1 (hv 0 tid v rfl rfl) h0; obtain ⟨y, y1, y2⟩ := args_ty h.2 (fun j t u ht hu => hv (j + 1) t u (by simpa using ht) (by simpa using hu)) r0; exact ⟨(x, y), ⟨x1, y1⟩, by rw [Ty.avs]; exact .cons x2 y2⟩
end
theorem law_any {H : Type} {enc : TypeId × Value → H} {F : Nat} {ts : List TypeId} {σ : Ty} {f : Nat → σ.den → Option (Bool × Unit)} {nm : Nat} (hc : CtrOk Try.prog F ⟨σ, .pair .bool .unit, f, nm⟩) (hB : argsB Try.prog ts σ = true) (hp : ∀ x : σ.den, σ.wf x → f FU x = some (true, ())) {W : World} {b : Nat} {args : List Value} {ds : List (DataW H)} {ps : List MemPlace}
    (hv : ∀ (j : Nat) t v, ts[j]? = some t → args[j]? = some v → Value.okWide Try.prog W .any b t v) (hA : DataW.TrodAll enc Try.prog W 0 (fun _ => true) true ts args ds ps) :
    Calls Try.prog F args.toArray W fun e W' => e = .returned (.bool true) ∧ Below W.heap.size W W' := by
  obtain ⟨x, hx, hr⟩ := args_ty hB hv hA; exact AF.yes (hc FU x (true, ()) (hp x hx)) hr.args
theorem wf_u8' {x : Int} (h : (Lit.int .u8 x).wf = true) : 0 ≤ x ∧ x ≤ 255 := by
  simpa [Lit.wf, IntKind.min, IntKind.max, IntKind.signed, IntKind.bits] using h
end Go.Proofs.Ytjhdjjoacedlpaa
/- ConditionInks: for every input this law returns true and leaves its arguments as they were. -/
namespace Go.Proofs.Ytjhdjjoacedlpaa
open Go.ChangeShapes Go.WideShapes Go.ChangeAt Go.RowKit

set_option maxRecDepth 100000 in
theorem conditionInks_lifted (os : Os) (started : os.Started) (H : Type) (enc : TypeId × Value → H) :
    ReturnsInHanded {} Try.checked os 12 .any (Rows.conditionInksSpec.pre6 enc Try.prog Try.f12 Rows.conditionInksRow.domain false) (Rows.conditionInksSpec.post enc Try.prog Try.f12 false true false false) := by
  refine law_lifted started (by kernel_rfl) Try.func12
    (ChangeSpec.witness6 (enc := enc) (C := Try.checked) false ⟨#[], #[.agg #[.slice none 0 0, .slice none 0 0, .slice none 0 0, .int .i64 0, .int .i64 0, .int .i64 0, .slice none 0 0, .int .i64 0, .int .i64 0, .int .i64 0, .slice none 0 0, .slice none 0 0, .int .i64 0], .agg #[.int .u8 0, .int .u8 0, .int .u8 0, .int .u8 0], .string ByteArray.empty, .int .u8 0], []⟩ 8 (by kernel_rfl) (by kernel_rfl) (by kernel_rfl) (by kernel_rfl)) rfl rfl (by kernel_rfl)
    (fun ds h => by rw [Try.params12] at h; match ds, h with | [_, _, _, _], _ => rfl) ?_
  intro W base args ds ps hval hA hsz hlt; rw [Try.params12] at hA hval; exact law_any law_ConditionInks_ok (by kernel_rfl) ((fun x hx => Co.inks_r (Nat.le_of_eq FU_val.symm) ⟨wf_len hx.1.1.1, wf_len hx.1.2.1.1, wf_len hx.1.2.2.1.1, wf_len hx.1.2.2.2.1.2.2.2.1, wf_len hx.1.2.2.2.2.1.2.2.2.1, Co.allS_of hx.1.2.2.2.2.2.1.1 fun s hs => (hx.1.2.2.2.2.2.1.2 s hs).2.2.2.2.1⟩ rfl (Co.t4_bd (wf_u8' hx.2.1.1) (wf_u8' hx.2.1.2.1) (wf_u8' hx.2.1.2.2.1) (wf_u8' hx.2.1.2.2.2)) (wf_u8' hx.2.2.2.1).1 (wf_u8' hx.2.2.2.1).2)) (fun j t v ht hv => hval j t v (by simpa using ht) hv) hA

theorem conditionInks_holds : Rows.ConditionInksSaid :=
  OpenClaim.holds_of_wide 12 Try.f12 rfl rfl rfl rfl rfl rfl rfl ⟨rfl, rfl, rfl, rfl, rfl⟩ rfl rfl rfl rfl rfl (by kernel_rfl) Try.func12 (by kernel_rfl)
    (of_decide_eq_true (by kernel_rfl)) (by unfold Func.isWrapper; first | (rw [if_pos (by decide +kernel)]; kernel_rfl) | (rw [if_neg (by decide +kernel)]; exact ⟨rfl, rfl⟩))
    (fun os started H enc _ => conditionInks_lifted os started H enc)
end Go.Proofs.Ytjhdjjoacedlpaa
