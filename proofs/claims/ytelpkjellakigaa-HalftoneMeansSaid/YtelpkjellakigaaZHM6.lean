/- HalftoneMeans: for every input this law returns true and leaves its arguments as they were. -/
import Derived.Test.YtelpkjellakigaaZHM5
import Derived.Test.YtelpkjellakigaaRows
import Derived.WalkKit
import Derived.ProofKit
import Derived.SizedLaws
import Derived.BigQuiet
import Derived.Deep.QuietTactic
import Derived.Deep.Slices
import Derived.OpenShut
import Derived.Conc.Holds
/- Mean tones of the squares with which a screen repeats; the law HalftoneMeans. -/
namespace Go.Proofs.Ytelpkjellakigaa
open Go Go.RowKit
set_option linter.unusedSimpArgs false
set_option linter.unusedSectionVars false
set_option linter.unusedVariables false
namespace Hm
open Cm
theorem stLoop {X β : Type} {f : (X → Option β) → X → Option β} {n fu : Nat} (hn : n < fu) {st : Nat → X} {x0 : X} {fin : Option β} (h0 : st 0 = x0)
    (step : ∀ j (i : Nat), i < n → f j (st i) = j (st (i + 1))) (last : ∀ j, f j (st n) = fin) : loopF f fu x0 = fin := by
  have key := errGen (f := f) (n := n) (st := st) (E := fun _ => 0) (out := fun _ => none) (fin := fin) (fun j i hi _ => by rw [if_pos rfl]; exact step j i hi) (fun _ => last) fu 0 (by omega) (by omega) (by omega)
  rw [if_pos (firstE_all _ _ fun _ _ _ => rfl), h0] at key
  exact key
theorem sumN_one (g : Nat → Int) (b : Nat) : ∀ n, sumN (fun k => if k = b then g k else 0) n = if b < n then g b else 0
  | 0 => rfl
  | n + 1 => by
    rw [sumN, sumN_one g b n]
    by_cases c : n = b
    · subst c
      rw [if_neg (by omega), if_pos rfl, if_pos (by omega)]; omega
    · rw [if_neg c]
      by_cases d : b < n
      · rw [if_pos d, if_pos (by omega)]; omega
      · rw [if_neg d, if_neg (by omega)]; rfl
/-- what lies in block b of n -/
theorem sumN_block (f : Nat → Int) {n b m : Nat} (hn : 0 < n) (hb : b < m) : sumN (fun x => if x / n = b then f x else 0) (m * n) = sumN (fun i => f (b * n + i)) n := by
  rw [sumN_flat]
  have e : ∀ k, k < m → sumN (fun i => if (k * n + i) / n = b then f (k * n + i) else 0) n = if k = b then sumN (fun i => f (k * n + i)) n else 0 := fun k _ => by
    have hk : ∀ i, i < n → (k * n + i) / n = k := fun i hi => by rw [Nat.mul_comm, Nat.mul_add_div hn, Nat.div_eq_of_lt hi, Nat.add_zero]
    by_cases c : k = b
    · rw [if_pos c]
      exact sumN_congr fun i hi => by rw [hk i hi, if_pos c]
    · rw [if_neg c]
      exact sumN_zero fun i hi => by rw [hk i hi, if_neg c]
  rw [sumN_congr e, sumN_one (fun k => sumN (fun i => f (k * n + i)) n), if_pos hb]
section
variable (w h : Int) (ds : List Int) (n a : Nat)
def pv (x y : Nat) : Int := bif pixB w h ds (x : Int) (y : Int) then 1 else 0
def blkS (bx by' : Nat) : Int := sumN (fun j => sumN (fun i => pv w h ds (bx * n + i) (by' * n + j)) n) n
def toneG (t : Int) : Int := rnd (255 * blkS w h ds n (t.toNat % a) (t.toNat / a)) ((n : Int) * n)
theorem pv_bd (x y : Nat) : 0 ≤ pv w h ds x y ∧ pv w h ds x y ≤ 1 := by
  unfold pv
  cases pixB w h ds (x : Int) (y : Int) <;> decide
theorem blkS_bd (bx by' : Nat) : 0 ≤ blkS w h ds n bx by' ∧ blkS w h ds n bx by' ≤ (n : Int) * (n * 1) := by
  unfold blkS
  exact sumN_bd (Int.mul_nonneg (Int.natCast_nonneg _) (by decide)) fun j _ => sumN_bd (by decide) fun i _ => pv_bd w h ds _ _
end
structure PicOk (w h : Int) (ds : List Int) : Prop where
  w1 : 1 ≤ w
  w2 : w ≤ 1024
  h1 : 1 ≤ h
  h2 : h ≤ 1024
  len : (ds.length : Int) = strd w * h
  by' : Bytes ds
section
variable {fu : Nat} (hf : 18446744073709551616 ≤ fu) {w h : Int} {ds : List Int} (ok : PicOk w h ds) (s : Int × Int × Int) {n : Nat} (hn : 0 < n) (hn4 : n ≤ 400)
include hf ok hn hn4
/-- one square -/
theorem square_r (v6 v7 : Int × List Int) {bx by' : Nat} (e6 : v6.1 = ((by' * n : Nat) : Int)) (e7 : v7.1 = ((bx * n : Nat) : Int)) (b1 : bx * n + n ≤ w.toNat) (b2 : by' * n + n ≤ h.toNat) (hl : (v7.2.length : Int) ≤ 1048576) (j7 : Int × List Int → Option (List Int × Int × Unit)) :
    loopF (halftone_Tones_l3 fu ((w, (h, ds)), (s, ())) (n : Int) v6 v7 j7) fu (((0 : Int), (0 : Int))) = j7 (((bx * n + n : Nat) : Int), v7.2 ++ [rnd (255 * blkS w h ds n bx by') ((n : Int) * n)]) := by
  obtain ⟨w1, w2, h1, h2, hlen, hby⟩ := ok
  have nn : (n : Int) * n ≤ 400 * 400 ∧ (1 : Int) ≤ (n : Int) * n := by
    have q1 : (n : Int) * n ≤ 400 * n := Int.mul_le_mul_of_nonneg_right (by omega) (by omega)
    have q2 : 1 * (n : Int) ≤ (n : Int) * n := Int.mul_le_mul_of_nonneg_right (by omega) (by omega)
    omega
  have rowb : ∀ j m, m ≤ n → 0 ≤ sumN (fun i => pv w h ds (bx * n + i) j) m ∧ sumN (fun i => pv w h ds (bx * n + i) j) m ≤ (m : Int) * 1 := fun j m _ => sumN_bd (by decide) fun i _ => pv_bd w h ds _ _
  have allb : ∀ m, m ≤ n → 0 ≤ sumN (fun j => sumN (fun i => pv w h ds (bx * n + i) (by' * n + j)) n) m ∧ sumN (fun j => sumN (fun i => pv w h ds (bx * n + i) (by' * n + j)) n) m ≤ (m : Int) * (n * 1) := fun m _ => sumN_bd (by omega) fun j _ => rowb _ n (Nat.le_refl _)
  have mono : ∀ m : Nat, m ≤ n → (m : Int) * (n * 1) ≤ 160000 := fun m hm => by
    have q1 : (m : Int) * (n * 1) ≤ 400 * (n * 1) := Int.mul_le_mul_of_nonneg_right (by omega) (by omega)
    omega
  refine stLoop (n := n) (st := fun k => (sumN (fun j => sumN (fun i => pv w h ds (bx * n + i) (by' * n + j)) n) k, (k : Int))) (by omega) rfl (fun j k hk => ?_) (fun j => ?_)
  · unfold halftone_Tones_l3
    simp only
    rw [bif_pos (by omega)]
    have hc := allb k (by omega)
    have hm := mono k (by omega)
    refine stLoop (n := n) (st := fun m => (sumN (fun j => sumN (fun i => pv w h ds (bx * n + i) (by' * n + j)) n) k + sumN (fun i => pv w h ds (bx * n + i) (by' * n + k)) m, (m : Int))) (by omega) (by simp [sumN]) (fun j' m hm' => ?_) (fun j' => ?_)
    · have hr := rowb (by' * n + k) m (by omega)
      unfold halftone_Tones_l4 halftone_Tones_j5
      simp only [joinF_eq]
      rw [bif_pos (by omega), e6, e7, s_wr (by omega) (by omega), s_wr (by omega) (by omega), is_r fu (by omega) w2 h2 hlen hby]
      simp only [bindO_some]
      have ep : pixB w h ds (((bx * n : Nat) : Int) + (m : Int)) (((by' * n : Nat) : Int) + (k : Int)) = pixB w h ds ((bx * n + m : Nat) : Int) ((by' * n + k : Nat) : Int) := by rw [Int.natCast_add, Int.natCast_add]
      have es : sumN (fun i => pv w h ds (bx * n + i) (by' * n + k)) (m + 1) = sumN (fun i => pv w h ds (bx * n + i) (by' * n + k)) m + (bif pixB w h ds ((bx * n + m : Nat) : Int) ((by' * n + k : Nat) : Int) then 1 else 0) := rfl
      rw [ep, es]
      cases pixB w h ds ((bx * n + m : Nat) : Int) ((by' * n + k : Nat) : Int) with
      | true =>
        simp only [cond_true]
        rw [s_wr (by omega) (by omega), s_wr (by omega) (by omega)]
        congr 2
        omega
      | false =>
        simp only [cond_false]
        rw [s_wr (by omega) (by omega)]
        congr 2
        omega
    · unfold halftone_Tones_l4
      simp only
      rw [bif_neg (by omega), s_wr (by omega) (by omega)]
      rfl
  · have hb : 0 ≤ blkS w h ds n bx by' ∧ blkS w h ds n bx by' ≤ 160000 := by
      have := blkS_bd w h ds n bx by'
      have := mono n (Nat.le_refl _)
      omega
    show (bif decide ((n : Int) < (n : Int)) then _ else bindO (curve_Nearest_r fu ((IntKind.i64.wrap (255 * blkS w h ds n bx by')), ((IntKind.i64.wrap ((n : Int) * n)), ()))) fun v9 =>
      (bif decide (((v7.2.length : Int) + ((List.length [v9.1] : Nat) : Int)) * 8 ≤ (140737488355328 : Int)) then j7 ((IntKind.i64.wrap (v7.1 + (n : Int))), (v7.2 ++ [v9.1])) else none)) = _
    have hh : ∀ z : Int, ((v7.2.length : Int) + ((List.length [z] : Nat) : Int)) * 8 ≤ (140737488355328 : Int) := fun z => by
      rw [show List.length [z] = 1 from rfl]
      omega
    have hk : ∀ y : Int × Unit, (bif decide (((v7.2.length : Int) + ((List.length [y.1] : Nat) : Int)) * 8 ≤ (140737488355328 : Int)) then j7 ((IntKind.i64.wrap (v7.1 + (n : Int))), (v7.2 ++ [y.1])) else none) = j7 ((IntKind.i64.wrap (v7.1 + (n : Int))), (v7.2 ++ [y.1])) := fun y => bif_pos (hh y.1)
    rw [bif_neg (by omega), s_wr (x := 255 * blkS w h ds n bx by') (by omega) (by omega), s_wr (x := (n : Int) * n) (by omega) (by omega), nearest_s fu (by omega) (by omega) (by omega) (by omega), bindO_some, hk, e7, s_wr (by omega) (by omega), show ((bx * n : Nat) : Int) + (n : Int) = ((bx * n + n : Nat) : Int) by omega]
theorem tones_r (hE : bitsE w h ds = 0) (hS : screen_Check_r fu (s, ()) = some (0, ())) {S G : Int} (hO : screen_Of_r fu (s, ()) = some (((n : Int), (S, G)), ())) :
    halftone_Tones_r fu ((w, (h, ds)), (s, ())) = some (tabL (w.toNat / n * (h.toNat / n)) (toneG w h ds n (w.toNat / n)), (0, ())) := by
  obtain ⟨w1, w2, h1, h2, hlen, hby⟩ := id ok
  have da : ∀ k : Nat, k < w.toNat / n → k * n + n ≤ w.toNat := fun k hk => by
    have q1 : (k + 1) * n ≤ w.toNat / n * n := Nat.mul_le_mul_right _ hk
    have q2 := Nat.div_mul_le_self w.toNat n
    rw [Nat.succ_mul] at q1; omega
  have da' : ¬ (w.toNat / n * n + n ≤ w.toNat) := fun g => by
    have q1 := Nat.div_add_mod w.toNat n
    have q2 := Nat.mod_lt w.toNat hn
    rw [Nat.mul_comm] at q1; omega
  have db : ∀ k : Nat, k < h.toNat / n → k * n + n ≤ h.toNat := fun k hk => by
    have q1 : (k + 1) * n ≤ h.toNat / n * n := Nat.mul_le_mul_right _ hk
    have q2 := Nat.div_mul_le_self h.toNat n
    rw [Nat.succ_mul] at q1; omega
  have db' : ¬ (h.toNat / n * n + n ≤ h.toNat) := fun g => by
    have q1 := Nat.div_add_mod h.toNat n
    have q2 := Nat.mod_lt h.toNat hn
    rw [Nat.mul_comm] at q1; omega
  have aw : w.toNat / n ≤ 1024 := Nat.le_trans (Nat.div_le_self _ _) (by omega)
  have bh : h.toNat / n ≤ 1024 := Nat.le_trans (Nat.div_le_self _ _) (by omega)
  generalize hA : w.toNat / n = A at *
  generalize hB : h.toNat / n = B at *
  have hAn : A * n ≤ w.toNat := by rw [← hA]; exact Nat.div_mul_le_self _ _
  have hBn : B * n ≤ h.toNat := by rw [← hB]; exact Nat.div_mul_le_self _ _
  unfold halftone_Tones_r
  simp only [check_r hf hby, hE, hS, hO, bindO_some, ne_eq, not_true_eq_false, decide_false, cond_false]
  refine stLoop (n := B) (st := fun k => (((k * n : Nat) : Int), tabL (A * k) (toneG w h ds n A))) (by omega) (by simp [tabL]) (fun j k hk => ?_) (fun j => ?_)
  · have hk2 := db k hk
    unfold halftone_Tones_l1
    simp only
    rw [s_wr (x := ((k * n : Nat) : Int) + (n : Int)) (by omega) (by omega), bif_pos (by omega)]
    refine stLoop (n := A) (st := fun m => (((m * n : Nat) : Int), tabL (A * k + m) (toneG w h ds n A))) (by omega) (by simp) (fun j' m hm => ?_) (fun j' => ?_)
    · have hm2 := da m hm
      have hsz : A * k + m ≤ 1048576 := by
        have : A * k ≤ A * B := Nat.mul_le_mul_left _ (by omega)
        have q : A * (k + 1) ≤ 1024 * 1024 := Nat.mul_le_mul aw (by omega)
        rw [Nat.mul_succ] at q; omega
      unfold halftone_Tones_l2
      simp only
      rw [s_wr (x := ((m * n : Nat) : Int) + (n : Int)) (by omega) (by omega), bif_pos (by omega), square_r hf ok s hn hn4 _ _ rfl rfl hm2 hk2 (by simp only [tabL_length]; omega)]
      congr 1
      refine Prod.ext ?_ ?_
      · show ((m * n + n : Nat) : Int) = (((m + 1) * n : Nat) : Int); rw [Nat.succ_mul]
      · show tabL (A * k + m) (toneG w h ds n A) ++ [rnd (255 * blkS w h ds n m k) ((n : Int) * n)] = tabL (A * k + (m + 1)) (toneG w h ds n A)
        rw [← Nat.add_assoc, tabL_succ]
        have e1 : (A * k + m) % A = m := by rw [Nat.mul_add_mod]; exact Nat.mod_eq_of_lt hm
        have e2 : (A * k + m) / A = k := by rw [Nat.mul_add_div (by omega), Nat.div_eq_of_lt hm, Nat.add_zero]
        unfold toneG
        rw [Int.toNat_natCast, e1, e2]
    · unfold halftone_Tones_l2
      simp only
      rw [s_wr (x := ((A * n : Nat) : Int) + (n : Int)) (by omega) (by omega), bif_neg (by omega), s_wr (by omega) (by omega)]
      congr 1
      refine Prod.ext ?_ ?_
      · show ((k * n : Nat) : Int) + (n : Int) = (((k + 1) * n : Nat) : Int); rw [Nat.succ_mul]; omega
      · show tabL (A * k + A) (toneG w h ds n A) = tabL (A * (k + 1)) (toneG w h ds n A); rw [Nat.mul_succ]
  · unfold halftone_Tones_l1
    simp only
    rw [s_wr (x := ((B * n : Nat) : Int) + (n : Int)) (by omega) (by omega), bif_neg (by omega)]
end
end Hm
end Go.Proofs.Ytelpkjellakigaa
/- Runs that answer some calls by residual programs. No program in sight. -/
namespace Go.Proofs.Ytelpkjellakigaa.Rn
open Go Go.RowKit Go.Proofs.Ytelpkjellakigaa
set_option linter.unusedSimpArgs false
set_option linter.unusedSectionVars false
set_option linter.unusedVariables false
def rowsD {α : Type} (f : List AV → Option (α × List AV)) : List (List AV) → Option (List α)
  | [] => some []
  | row :: l => match f row with
    | some (x, []) => match rowsD f l with
      | some xs => some (x :: xs)
      | none => none
    | _ => none
def kindE (k k' : IntKind) : Bool := decide (k = k')
/-- cells that are data -/
def decC : (t : Ty) → List AV → Option (t.den × List AV)
  | .int k, l => match l with
    | .int k' n :: l => bif kindE k' k then some (n, l) else none
    | _ => none
  | .bool, l => match l with
    | .bool b :: l => some (b, l)
    | _ => none
  | .str, l => match l with
    | .str s :: l => some (s.data.toList, l)
    | _ => none
  | .list t, l => match l with
    | .ro _ sz rows :: l => bif Nat.beq sz t.size then (match rowsD (decC t) rows with
      | some xs => some (xs, l)
      | none => none) else none
    | _ => none
  | .unit, l => some ((), l)
  | .pair a b, l => match decC a l with
    | some (x, l') => match decC b l' with
      | some (y, l'') => some ((x, y), l'')
      | none => none
    | none => none
  | .agg t, l => decC t l
  | .ptr _, _ => none
def allD (l : List (List AV)) : Bool := l.all fun row => row.all isD
/-- cells, as a callee reads them -/
def fzC (hp : List (Nat × AB)) : (t : Ty) → List AV → Option (t.den × List AV)
  | .int k, l => match l with
    | .int k' n :: l => bif kindE k' k then some (n, l) else none
    | _ => none
  | .bool, l => match l with
    | .bool b :: l => some (b, l)
    | _ => none
  | .str, l => match l with
    | .str s :: l => some (s.data.toList, l)
    | _ => none
  | .list t, l => match l with
    | a :: l => (match a with
      | .nils => some ([], l)
      | .ro _ sz rows => bif Nat.beq sz t.size then (match rowsD (decC t) rows with
        | some xs => some (xs, l)
        | none => none) else none
      | .osl id n => (match look .dead hp id with
        | .row sz rows _ => bif Nat.beq sz t.size && Nat.beq n rows.length && t.flat then (match rowsD (fzC hp t) rows with
          | some xs => some (xs, l)
          | none => none) else none
        | _ => none)
      | .vsl id n lo len => (match look .dead hp id with
        | .row sz rows _ => bif Nat.beq sz t.size && Nat.beq n rows.length && allD rows then (match rowsD (decC t) ((rows.drop lo).take len) with
          | some xs => some (xs, l)
          | none => none) else none
        | _ => none)
      | _ => none)
    | [] => none
  | .unit, l => some ((), l)
  | .pair a b, l => match fzC hp a l with
    | some (x, l') => match fzC hp b l' with
      | some (y, l'') => some ((x, y), l'')
      | none => none
    | none => none
  | .agg t, l => fzC hp t l
  | .ptr _, _ => none
/-- an argument -/
def fzV (hp : List (Nat × AB)) : (t : Ty) → AV → Option t.den
  | .agg t, a => match a with
    | .agg cs => match fzC hp t cs with
      | some (x, []) => some x
      | _ => none
    | _ => none
  | .ptr t, a => match a with
    | .box id 0 => match look .dead hp id with
      | .box cs _ => match fzC hp t cs with
        | some (x, []) => bif Nat.blt 0 t.size then some x else none
        | _ => none
      | _ => none
    | _ => none
  | .int k, a => match fzC hp (.int k) [a] with
    | some (x, []) => some x
    | _ => none
  | .bool, a => match fzC hp .bool [a] with
    | some (x, []) => some x
    | _ => none
  | .str, a => match fzC hp .str [a] with
    | some (x, []) => some x
    | _ => none
  | .list t, a => match fzC hp (.list t) [a] with
    | some (x, []) => some x
    | _ => none
  | .unit, _ => none
  | .pair _ _, _ => none
def fzA (hp : List (Nat × AB)) : (t : Ty) → List AV → Option t.den
  | .pair a b, l => match l with
    | x :: l => match fzV hp a x, fzA hp b l with
      | some u, some v => some (u, v)
      | _, _ => none
    | [] => none
  | .unit, l => match l with
    | [] => some ()
    | _ => none
  | _, _ => none
section
variable {hp : List (Nat × AB)}
theorem rowsD_at {α : Type} {f : List AV → Option (α × List AV)} : ∀ {rows : List (List AV)} {xs : List α}, rowsD f rows = some xs → rows.length = xs.length ∧ ∀ (i : Nat) (row : List AV) (x : α), rows[i]? = some row → xs[i]? = some x → f row = some (x, [])
  | [], xs, h => by injection h with h; subst h; exact ⟨rfl, fun i row x h => by simp at h⟩
  | r :: l, xs, h => by
    rw [rowsD] at h
    split at h
    · rename_i x h1
      split at h
      · rename_i ys h2
        injection h with h
        subst h
        obtain ⟨e1, e2⟩ := rowsD_at h2
        refine ⟨by simp [e1], fun i row y hr hy => ?_⟩
        cases i with
        | zero => simp at hr hy; subst hr; subst hy; exact h1
        | succ i => exact e2 i row y (by simpa using hr) (by simpa using hy)
      · cases h
    · cases h
theorem oldR_app (l m : List AV) : oldR (l ++ m) = oldR l ++ oldR m := oldR_append l m
theorem old_rows {t : Ty} {rows : List (List AV)} {xs : List t.den} (hl : rows.length = xs.length) (h : ∀ (i : Nat) (row : List AV) (x : t.den), rows[i]? = some row → xs[i]? = some x → oldR row = t.cells false x) : oldRR rows = xs.map (t.cells false) := by
  rw [oldRR_map]
  apply List.ext_getElem?
  intro i
  rw [List.getElem?_map, List.getElem?_map]
  by_cases hi : i < rows.length
  · have h1 : rows[i]? = some rows[i] := List.getElem?_eq_getElem hi
    have h2 : xs[i]? = some xs[i] := List.getElem?_eq_getElem (by omega)
    rw [h1, h2]
    exact congrArg some (h i _ _ h1 h2)
  · rw [List.getElem?_eq_none (by omega), List.getElem?_eq_none (by omega)]; rfl
theorem decC_ok : ∀ (t : Ty) (l : List AV) (x : t.den) (r : List AV), decC t l = some (x, r) → ∃ pre, l = pre ++ r ∧ oldR pre = t.cells false x ∧ ∀ a ∈ pre, isD a = true
  | .int k, l, x, r, h => by
    rw [decC.eq_def] at h
    simp only at h
    split at h
    · rename_i k' n l'
      cases hc : kindE k' k with
      | false => rw [hc] at h; cases h
      | true =>
        rw [hc] at h
        simp only [cond_true, Option.some.injEq, Prod.mk.injEq] at h
        obtain ⟨rfl, rfl⟩ := h
        have := of_decide_eq_true hc
        subst this
        exact ⟨[.int k' n], rfl, by simp [oldR, AV.old, Ty.cells], by simp [isD]⟩
    · cases h
  | .bool, l, x, r, h => by
    rw [decC.eq_def] at h
    simp only at h
    split at h
    · rename_i b l'
      simp only [Option.some.injEq, Prod.mk.injEq] at h
      obtain ⟨rfl, rfl⟩ := h
      exact ⟨[.bool b], rfl, by simp [oldR, AV.old, Ty.cells], by simp [isD]⟩
    · cases h
  | .str, l, x, r, h => by
    rw [decC.eq_def] at h
    simp only at h
    split at h
    · rename_i b l'
      simp only [Option.some.injEq, Prod.mk.injEq] at h
      obtain ⟨rfl, rfl⟩ := h
      exact ⟨[.str b], rfl, by simp [oldR, AV.old, Ty.cells], by simp [isD]⟩
    · cases h
  | .list t, l, x, r, h => by
    rw [decC.eq_def] at h
    simp only at h
    split at h
    · rename_i fr sz rows l'
      cases hc : Nat.beq sz t.size with
      | false => rw [hc] at h; cases h
      | true =>
        rw [hc] at h
        simp only [cond_true] at h
        split at h
        · rename_i xs h1
          simp only [Option.some.injEq, Prod.mk.injEq] at h
          obtain ⟨rfl, rfl⟩ := h
          obtain ⟨e1, e2⟩ := rowsD_at h1
          refine ⟨[.ro fr sz rows], rfl, ?_, by simp [isD]⟩
          have hr : oldRR rows = xs.map (t.cells false) := old_rows e1 fun i row y hr hy => by
            obtain ⟨pre, g1, g2, _⟩ := decC_ok t row y [] (e2 i row y hr hy)
            rw [g1, List.append_nil]; exact g2
          simp only [oldR, AV.old, Ty.cells, hr, Nat.eq_of_beq_eq_true hc]
        · cases h
    · cases h
  | .unit, l, x, r, h => by
    rw [decC] at h
    simp only [Option.some.injEq, Prod.mk.injEq] at h
    obtain ⟨_, rfl⟩ := h
    exact ⟨[], rfl, by simp [oldR, Ty.cells], by simp⟩
  | .pair a b, l, x, r, h => by
    rw [decC] at h
    split at h
    · rename_i u l1 h1
      split at h
      · rename_i v l2 h2
        simp only [Option.some.injEq, Prod.mk.injEq] at h
        obtain ⟨rfl, rfl⟩ := h
        obtain ⟨p1, q1, q2, q3⟩ := decC_ok a l u l1 h1
        obtain ⟨p2, q4, q5, q6⟩ := decC_ok b l1 v l2 h2
        refine ⟨p1 ++ p2, by rw [q1, q4, List.append_assoc], by rw [oldR_app, q2, q5, Ty.cells], fun c hc => ?_⟩
        rcases List.mem_append.1 hc with hc | hc
        · exact q3 c hc
        · exact q6 c hc
      · cases h
    · cases h
  | .agg t, l, x, r, h => by
    rw [decC] at h
    obtain ⟨pre, g1, g2, g3⟩ := decC_ok t l x r h
    exact ⟨pre, g1, by rw [g2, Ty.cells], g3⟩
  | .ptr _, l, x, r, h => by rw [decC] at h; cases h
theorem one_frz {a b : AV} (h : FrzA hp a b) : FrzL hp [a] [b] := .cons h .nil
theorem fzC_ok : ∀ (t : Ty) (l : List AV) (x : t.den) (r : List AV), fzC hp t l = some (x, r) → ∃ pre, l = pre ++ r ∧ FrzL hp pre (t.cells false x)
  | .int k, l, x, r, h => by
    rw [fzC.eq_def] at h
    simp only at h
    split at h
    · rename_i k' n l'
      cases hc : kindE k' k with
      | false => rw [hc] at h; cases h
      | true =>
        rw [hc] at h
        simp only [cond_true, Option.some.injEq, Prod.mk.injEq] at h
        obtain ⟨rfl, rfl⟩ := h
        have := of_decide_eq_true hc
        subst this
        exact ⟨[.int k' n], rfl, by rw [Ty.cells]; exact one_frz (.dat _ rfl _ (by rw [AV.old]))⟩
    · cases h
  | .bool, l, x, r, h => by
    rw [fzC.eq_def] at h
    simp only at h
    split at h
    · rename_i b l'
      simp only [Option.some.injEq, Prod.mk.injEq] at h
      obtain ⟨rfl, rfl⟩ := h
      exact ⟨[.bool b], rfl, by rw [Ty.cells]; exact one_frz (.dat _ rfl _ (by rw [AV.old]))⟩
    · cases h
  | .str, l, x, r, h => by
    rw [fzC.eq_def] at h
    simp only at h
    split at h
    · rename_i b l'
      simp only [Option.some.injEq, Prod.mk.injEq] at h
      obtain ⟨rfl, rfl⟩ := h
      exact ⟨[.str b], rfl, by rw [Ty.cells]; exact one_frz (.dat _ rfl _ (by rw [AV.old]))⟩
    · cases h
  | .list t, l, x, r, h => by
    rw [fzC.eq_def] at h
    simp only at h
    split at h
    · rename_i a l'
      split at h
      · simp only [Option.some.injEq, Prod.mk.injEq] at h
        obtain ⟨rfl, rfl⟩ := h
        exact ⟨[.nils], rfl, by rw [Ty.cells]; exact one_frz (.nilro _)⟩
      · rename_i fr sz rows
        cases hc : Nat.beq sz t.size with
        | false => rw [hc] at h; cases h
        | true =>
          rw [hc] at h
          simp only [cond_true] at h
          split at h
          · rename_i xs h1
            simp only [Option.some.injEq, Prod.mk.injEq] at h
            obtain ⟨rfl, rfl⟩ := h
            obtain ⟨e1, e2⟩ := rowsD_at h1
            have hr : oldRR rows = xs.map (t.cells false) := old_rows e1 fun i row y hr hy => by
              obtain ⟨pre, g1, g2, _⟩ := decC_ok t row y [] (e2 i row y hr hy)
              rw [g1, List.append_nil]; exact g2
            exact ⟨[.ro fr sz rows], rfl, by rw [Ty.cells]; exact one_frz (.dat _ rfl _ (by rw [AV.old, hr, Nat.eq_of_beq_eq_true hc]))⟩
          · cases h
      · rename_i id n
        split at h
        · rename_i sz rows e hb
          cases hc : (Nat.beq sz t.size && Nat.beq n rows.length && t.flat) with
          | false => rw [hc] at h; cases h
          | true =>
            rw [hc] at h
            simp only [cond_true] at h
            simp only [Bool.and_eq_true] at hc
            split at h
            · rename_i xs h1
              simp only [Option.some.injEq, Prod.mk.injEq] at h
              obtain ⟨rfl, rfl⟩ := h
              obtain ⟨e1, e2⟩ := rowsD_at h1
              have c1 := Nat.eq_of_beq_eq_true hc.1.1
              subst c1
              have key : ∀ (i : Nat) (row row' : List AV), rows[i]? = some row → (xs.map (t.cells false))[i]? = some row' → FrzL hp row row' := fun i row row' hr hr' => by
                rw [List.getElem?_map] at hr'
                obtain ⟨y, hy, rfl⟩ := Option.map_eq_some_iff.1 hr'
                obtain ⟨pre, g1, g2⟩ := fzC_ok t row y [] (e2 i row y hr hy)
                rw [g1, List.append_nil]; exact g2
              refine ⟨[.osl id n], rfl, by
                rw [Ty.cells]
                refine one_frz (.oslN id n t.size rows _ e hb (Nat.eq_of_beq_eq_true hc.1.2) (by simpa using e1) (fun i row row' hr hr' => (key i row row' hr hr').len) (fun i row row' j a a' hr hr' ha ha' => (key i row row' hr hr').at j a a' ha ha') (fun row hr a ha => ?_))
                obtain ⟨y, _, rfl⟩ := List.mem_map.1 hr
                exact t.cells_isD _ _ a ha⟩
            · cases h
        · cases h
      · rename_i id n lo len
        split at h
        · rename_i sz rows e hb
          cases hc : (Nat.beq sz t.size && Nat.beq n rows.length && allD rows) with
          | false => rw [hc] at h; cases h
          | true =>
            rw [hc] at h
            simp only [cond_true] at h
            simp only [Bool.and_eq_true] at hc
            split at h
            · rename_i xs h1
              simp only [Option.some.injEq, Prod.mk.injEq] at h
              obtain ⟨rfl, rfl⟩ := h
              obtain ⟨e1, e2⟩ := rowsD_at h1
              have c1 := Nat.eq_of_beq_eq_true hc.1.1
              subst c1
              have hr : oldRR ((rows.drop lo).take len) = xs.map (t.cells false) := old_rows e1 fun i row y hr hy => by
                obtain ⟨pre, g1, g2, _⟩ := decC_ok t row y [] (e2 i row y hr hy)
                rw [g1, List.append_nil]; exact g2
              exact ⟨[.vsl id n lo len], rfl, by
                rw [Ty.cells]
                exact one_frz (.vsl id n lo len t.size rows _ e hb (Nat.eq_of_beq_eq_true hc.1.2) (fun row hr a ha => List.all_eq_true.1 (List.all_eq_true.1 hc.2 row hr) a ha) hr)⟩
            · cases h
        · cases h
      · cases h
    · cases h
  | .unit, l, x, r, h => by
    rw [fzC] at h
    simp only [Option.some.injEq, Prod.mk.injEq] at h
    obtain ⟨_, rfl⟩ := h
    exact ⟨[], rfl, by rw [Ty.cells]; exact .nil⟩
  | .pair a b, l, x, r, h => by
    rw [fzC] at h
    split at h
    · rename_i u l1 h1
      split at h
      · rename_i v l2 h2
        simp only [Option.some.injEq, Prod.mk.injEq] at h
        obtain ⟨rfl, rfl⟩ := h
        obtain ⟨p1, q1, q2⟩ := fzC_ok a l u l1 h1
        obtain ⟨p2, q4, q5⟩ := fzC_ok b l1 v l2 h2
        exact ⟨p1 ++ p2, by rw [q1, q4, List.append_assoc], by rw [Ty.cells]; exact q2.append q5⟩
      · cases h
    · cases h
  | .agg t, l, x, r, h => by
    rw [fzC] at h
    obtain ⟨pre, g1, g2⟩ := fzC_ok t l x r h
    exact ⟨pre, g1, by rw [Ty.cells]; exact g2⟩
  | .ptr _, l, x, r, h => by rw [fzC] at h; cases h
theorem fzC_one {t : Ty} {a b : AV} {x : t.den} (h : fzC hp t [a] = some (x, [])) (hb : t.cells false x = [b]) : FrzA hp a b := by
  obtain ⟨pre, g1, g2⟩ := fzC_ok t [a] x [] h
  rw [List.append_nil] at g1
  subst g1
  rw [hb] at g2
  exact g2.at 0 a b rfl rfl
theorem fzV_ok (t : Ty) (a : AV) (x : t.den) (h : fzV hp t a = some x) : FrzA hp a (t.av false x) := by
  cases t with
  | agg t =>
    rw [fzV.eq_def] at h
    simp only at h
    split at h
    · rename_i cs
      split at h
      · rename_i y h1
        injection h with h
        subst h
        obtain ⟨pre, g1, g2⟩ := fzC_ok t cs y [] h1
        rw [List.append_nil] at g1
        subst g1
        rw [Ty.av]
        exact .agg _ _ g2.len g2.at
      · cases h
    · cases h
  | ptr t =>
    rw [fzV.eq_def] at h
    simp only at h
    split at h
    · rename_i id
      split at h
      · rename_i cs e hb
        split at h
        · rename_i y h1
          cases hc : Nat.blt 0 t.size with
          | false => rw [hc] at h; cases h
          | true =>
            rw [hc] at h
            injection h with h
            subst h
            obtain ⟨pre, g1, g2⟩ := fzC_ok t cs y [] h1
            rw [List.append_nil] at g1
            subst g1
            rw [Ty.av]
            refine .peekBox id _ _ e hb g2.len g2.at (t.cells_isD _ _) (fun e1 => ?_)
            have := t.cells_length false y
            rw [e1] at this
            simp at hc
            simp at this
            omega
        · cases h
      · cases h
    · cases h
  | int k =>
    rw [fzV.eq_def] at h
    simp only at h
    split at h
    · rename_i y h1
      injection h with h
      subst h
      exact fzC_one h1 (by rw [Ty.cells, Ty.av])
    · cases h
  | bool =>
    rw [fzV.eq_def] at h
    simp only at h
    split at h
    · rename_i y h1
      injection h with h
      subst h
      exact fzC_one h1 (by rw [Ty.cells, Ty.av])
    · cases h
  | str =>
    rw [fzV.eq_def] at h
    simp only at h
    split at h
    · rename_i y h1
      injection h with h
      subst h
      exact fzC_one h1 (by rw [Ty.cells, Ty.av])
    · cases h
  | list t =>
    rw [fzV.eq_def] at h
    simp only at h
    split at h
    · rename_i y h1
      injection h with h
      subst h
      exact fzC_one h1 (by rw [Ty.cells, Ty.av])
    · cases h
  | unit => rw [fzV.eq_def] at h; cases h
  | pair a b => rw [fzV.eq_def] at h; cases h
theorem fzA_ok : ∀ (t : Ty) (l : List AV) (x : t.den), fzA hp t l = some x → FrzL hp l (t.avs false x)
  | .pair a b, l, x, h => by
    rw [fzA.eq_def] at h
    simp only at h
    split at h
    · rename_i c l
      split at h
      · rename_i u v h1 h2
        injection h with h
        subst h
        rw [Ty.avs]
        exact .cons (fzV_ok a c u h1) (fzA_ok b l v h2)
      · cases h
    · cases h
  | .unit, l, x, h => by
    rw [fzA.eq_def] at h
    simp only at h
    split at h
    · rw [Ty.avs]
      · exact .nil
      · simp
    · cases h
  | .int k, l, x, h => by rw [fzA.eq_def] at h; cases h
  | .bool, l, x, h => by rw [fzA.eq_def] at h; cases h
  | .str, l, x, h => by rw [fzA.eq_def] at h; cases h
  | .list t, l, x, h => by rw [fzA.eq_def] at h; cases h
  | .agg t, l, x, h => by rw [fzA.eq_def] at h; cases h
  | .ptr t, l, x, h => by rw [fzA.eq_def] at h; cases h
end
/-- calls answered by residual programs -/
def orc (fu : Nat) (l : List (Nat × Ctr)) : SelfT := fun F xs hp nx => match lk l F with
  | some c => match fzA hp c.a xs with
    | some x => match c.f fu x with
      | some y => some (oneOf (c.r.avs true y), hp, nx)
      | none => none
    | none => none
  | none => none
theorem orc_ok {P : Program} {fu : Nat} {l : List (Nat × Ctr)} (hl : allP (CtrOk P) l) : SelfOk P (orc fu l) := fun F xs hp nx x hp' nx' h => by
  unfold orc at h
  split at h
  · rename_i c h1
    split at h
    · rename_i z h2
      split at h
      · rename_i y h3
        simp only [Option.some.injEq, Prod.mk.injEq] at h
        obtain ⟨rfl, rfl, rfl⟩ := h
        have hz := fzA_ok _ _ _ h2
        exact AC.of_AF (allP_at hl h1 fu z y h3) hz.len hz.at ⟨rfl, rfl, rfl⟩
      · cases h
    · cases h
  · cases h
def runO (C : Ctx) (fl : Nat) (O : SelfT) : Nat → SelfT
  | 0, _, _, _, _ => none
  | f + 1, F, xs, hp, nx => match fL1 xs fun xs => O F xs hp nx with
    | some r => some r
    | none => match lk C.fns F with
      | some fn => match fn.body with
        | some c => bif Nat.ble xs.length fn.ntmps then (match fL1 xs fun xs => outC C fn.results.toList (runC C (runO C fl O f) fl fn.ntmps c ⟨argR 0 xs, hp, nx⟩) with
          | some (x, hp2, nx2) => gcK hp2 nx x fun hp3 => some (x, hp3, nx2)
          | none => none) else none
        | none => none
      | none => none
section
variable {P : Program}
theorem runO_ok {C : Ctx} (hC : C.ok P) (fl : Nat) {O : SelfT} (hO : SelfOk P O) : ∀ f, SelfOk P (runO C fl O f)
  | 0 => fun F xs hp nx x hp' nx' h => by cases h
  | f + 1 => fun F xs hp nx x hp' nx' h => by
    rw [runO] at h
    split at h
    · rename_i r hr
      injection h with h
      subst h
      rw [fL1_eq] at hr
      exact hO F xs hp nx x hp' nx' hr
    · split at h
      · rename_i fn h1
        split at h
        · rename_i c h2
          cases hb : Nat.ble xs.length fn.ntmps with
          | false => rw [hb] at h; cases h
          | true =>
            rw [hb] at h
            simp only [cond_true] at h
            split at h
            · rename_i x2 hp2 nx2 h0
              obtain ⟨hp3, g1, g2⟩ := gcK_eq hp2 nx x2
              rw [g2] at h
              simp only [Option.some.injEq, Prod.mk.injEq] at h
              obtain ⟨rfl, rfl, rfl⟩ := h
              refine AC.lesH (hp1 := hp2) ?_ g1
              rw [fL1_eq] at h0
              exact out_ok hC (runO_ok hC fl hO f) h1 h2 hb h0
            · cases h
        · cases h
      · cases h
def okRunO (C : Ctx) (fl : Nat) (O : SelfT) (f : Nat) (F : Nat) (xs : List AV) : Option AV := match runO C fl O f F xs [] 0 with
  | some (y, hp, _) => frzRC hp 8 y
  | none => none
/-- a closed call; some callees by their residual programs -/
theorem AF.runO {C : Ctx} (hC : C.ok P) (fl fu f : Nat) {l : List (Nat × Ctr)} (hl : allP (CtrOk P) l) {F : Nat} {xs : List AV} {y : AV} (h : okRunO C fl (orc fu l) f F xs = some y) : AF P F xs y := by
  unfold okRunO at h
  split at h
  · rename_i x hp nx h1
    exact AF.of_AC ((runO_ok hC fl (orc_ok hl) f _ _ _ _ _ _ _ h1).mono (by rintro x1 hp1 nx1 ⟨rfl, rfl, rfl⟩; exact frzRC_ok 8 _ _ h))
  · cases h
end
end Go.Proofs.Ytelpkjellakigaa.Rn
/- halftoneWorks, by a run with short tables. -/
set_option maxRecDepth 1000000
namespace Go.Proofs.Ytelpkjellakigaa
open Go Go.RowKit
def halftoneWorks_tab : Tab := {
  und := [(3, .int .i64),
    (118, .pointer 54),
    (25, .slice 3),
    (112, .struct #[fd "N" 3 0 false "" 0, fd "S" 3 1 false "" 8, fd "G" 3 2 false "" 16]),
    (4, .bool),
    (23, .struct #[fd "A" 3 0 false "" 0, fd "B" 3 1 false "" 8, fd "Kind" 3 2 false "" 16]),
    (5, .int .u8),
    (54, .struct #[fd "W" 3 0 false "" 0, fd "H" 3 1 false "" 8, fd "Data" 52 2 false "" 16]),
    (36, .func #[3, 3] #[3] false),
    (52, .slice 5),
    (130, .int .u64),
    (238, .int .i64),
    (271, .int .u64),
    (161, .array 256 3),
    (61, .struct #[fd "W" 3 0 false "" 0, fd "H" 3 1 false "" 8, fd "Pix" 52 2 false "" 16]),
    (26, .int .i64),
    (169, .int .u64),
    (172, .int .u32),
    (274, .pointer 3),
    (120, .pointer 61),
    (9, .string),
    (157, .func #[3] #[3, 3] false)],
  inf := [(3, (some (.int .i64 0), 1, 8)),
    (118, (some (.pointer none), 1, 8)),
    (25, (some (.slice none 0 0), 1, 24)),
    (112, (some (.agg #[.int .i64 0, .int .i64 0, .int .i64 0]), 3, 24)),
    (4, (some (.bool false), 1, 1)),
    (23, (some (.agg #[.int .i64 0, .int .i64 0, .int .i64 0]), 3, 24)),
    (5, (some (.int .u8 0), 1, 1)),
    (54, (some (.agg #[.int .i64 0, .int .i64 0, .slice none 0 0]), 3, 40)),
    (36, (some (.nilFunc), 1, 8)),
    (52, (some (.slice none 0 0), 1, 24)),
    (130, (some (.int .u64 0), 1, 8)),
    (238, (some (.int .i64 0), 1, 8)),
    (271, (some (.int .u64 0), 1, 8)),
    (61, (some (.agg #[.int .i64 0, .int .i64 0, .slice none 0 0]), 3, 40)),
    (161, (some (.agg (Array.replicate 256 (.int .i64 0))), 256, 2048)),
    (26, (some (.int .i64 0), 1, 8)),
    (169, (some (.int .u64 0), 1, 8)),
    (172, (some (.int .u32 0), 1, 4)),
    (274, (some (.pointer none), 1, 8)),
    (120, (some (.pointer none), 1, 8)),
    (9, (some (.string ByteArray.empty), 1, 16)),
    (157, (some (.nilFunc), 1, 8))],
  fld := [(112, [(0, (1, false)), (1, (1, false)), (2, (1, false))]),
    (23, [(0, (1, false)), (1, (1, false)), (2, (1, false))]),
    (54, [(0, (1, false)), (1, (1, false)), (2, (1, false))]),
    (61, [(0, (1, false)), (1, (1, false)), (2, (1, false))])],
  eqs := [(112, 3), (23, 3), (161, 256)] }
theorem halftoneWorks_tab_ok : halftoneWorks_tab.ok Try.prog := ⟨(by unfold halftoneWorks_tab; (repeat (refine alP1 (by kernel_rfl) ?_)); exact trivial),
  (by unfold halftoneWorks_tab; (repeat (refine alP1 (by kernel_rfl) ?_)); exact trivial),
  (by unfold halftoneWorks_tab; (repeat (refine alP1 (by kernel_rfl) ?_)); exact trivial),
  (by unfold halftoneWorks_tab; (repeat (refine alP1 ⟨by kernel_rfl, by kernel_rfl⟩ ?_)); exact trivial)⟩
noncomputable def halftoneWorks_ctx : Ctx := ⟨halftoneWorks_tab, [(32, Try.f32), (37, Try.f37), (83, Try.f83), (88, Try.f88), (29, Try.f29), (84, Try.f84), (115, Try.f115), (85, Try.f85), (75, Try.f75), (76, Try.f76), (77, Try.f77), (71, Try.f71), (110, Try.f110), (111, Try.f111), (112, Try.f112), (80, Try.f80), (114, Try.f114), (113, Try.f113), (146, Try.f146), (185, Try.f185), (186, Try.f186), (145, Try.f145), (177, Try.f177), (178, Try.f178), (204, Try.f204), (179, Try.f179), (205, Try.f205), (206, Try.f206), (180, Try.f180), (207, Try.f207), (208, Try.f208), (214, Try.f214), (181, Try.f181), (182, Try.f182), (183, Try.f183), (184, Try.f184), (72, Try.f72), (116, Try.f116), (33, Try.f33), (81, Try.f81), (82, Try.f82), (43, Try.f43), (50, Try.f50), (19, Try.f19)], [(32, 0), (37, 0), (83, 0), (88, 0), (29, 0), (84, 0), (115, 0), (85, 0), (75, 0), (76, 0), (77, 0), (71, 0), (110, 0), (111, 0), (112, 0), (80, 0), (114, 0), (113, 0), (146, 0), (185, 0), (186, 0), (145, 0), (177, 0), (178, 0), (204, 0), (179, 0), (205, 0), (206, 0), (180, 0), (207, 0), (208, 0), (214, 0), (181, 0), (182, 0), (183, 0), (184, 0), (72, 0), (116, 0), (33, 0), (81, 0), (82, 0), (43, 0), (50, 0), (19, 0)]⟩
def halftoneWorks_cas : List (Nat × Nat) := [(32, 0), (37, 0), (83, 0), (88, 0), (29, 0), (84, 0), (115, 0), (85, 0), (75, 0), (76, 0), (77, 0), (71, 0), (110, 0), (111, 0), (112, 0), (80, 0), (114, 0), (113, 0), (146, 0), (185, 0), (186, 0), (145, 0), (177, 0), (178, 0), (204, 0), (179, 0), (205, 0), (206, 0), (180, 0), (207, 0), (208, 0), (214, 0), (181, 0), (182, 0), (183, 0), (184, 0), (72, 0), (116, 0), (33, 0), (81, 0), (82, 0), (43, 0), (50, 0), (19, 0)]
theorem halftoneWorks_ctx_ok : halftoneWorks_ctx.ok Try.prog := ⟨halftoneWorks_tab_ok, ⟨Try.func32, ⟨Try.func37, ⟨Try.func83, ⟨Try.func88, ⟨Try.func29, ⟨Try.func84, ⟨Try.func115, ⟨Try.func85, ⟨Try.func75, ⟨Try.func76, ⟨Try.func77, ⟨Try.func71, ⟨Try.func110, ⟨Try.func111, ⟨Try.func112, ⟨Try.func80, ⟨Try.func114, ⟨Try.func113, ⟨Try.func146, ⟨Try.func185, ⟨Try.func186, ⟨Try.func145, ⟨Try.func177, ⟨Try.func178, ⟨Try.func204, ⟨Try.func179, ⟨Try.func205, ⟨Try.func206, ⟨Try.func180, ⟨Try.func207, ⟨Try.func208, ⟨Try.func214, ⟨Try.func181, ⟨Try.func182, ⟨Try.func183, ⟨Try.func184, ⟨Try.func72, ⟨Try.func116, ⟨Try.func33, ⟨Try.func81, ⟨Try.func82, ⟨Try.func43, ⟨Try.func50, ⟨Try.func19, trivial⟩⟩⟩⟩⟩⟩⟩⟩⟩⟩⟩⟩⟩⟩⟩⟩⟩⟩⟩⟩⟩⟩⟩⟩⟩⟩⟩⟩⟩⟩⟩⟩⟩⟩⟩⟩⟩⟩⟩⟩⟩⟩⟩⟩, (by unfold halftoneWorks_cas; (repeat (refine alP1 (by kernel_rfl) ?_)); exact trivial : allP (fun k _ => callable Try.prog k = true) halftoneWorks_cas), by kernel_rfl⟩
noncomputable def halftoneWorks_orc : List (Nat × Ctr) := [(curve_Nearest_ctr.nm, curve_Nearest_ctr), (halftone_Tones_ctr.nm, halftone_Tones_ctr), (bitmap_Is_ctr.nm, bitmap_Is_ctr), (screen_Of_ctr.nm, screen_Of_ctr), (screen_Check_ctr.nm, screen_Check_ctr), (_screen_Form__Place_ctr.nm, _screen_Form__Place_ctr), (screen_mod_ctr.nm, screen_mod_ctr)]
theorem halftoneWorks_orc_ok : allP (CtrOk Try.prog) halftoneWorks_orc := ⟨curve_Nearest_ok, ⟨halftone_Tones_ok, ⟨bitmap_Is_ok, ⟨screen_Of_ok, ⟨screen_Check_ok, ⟨_screen_Form__Place_ok, ⟨screen_mod_ok, trivial⟩⟩⟩⟩⟩⟩⟩
theorem halftoneWorks_f : AF Try.prog 32 [] (.bool true) := Rn.AF.runO halftoneWorks_ctx_ok 1000 100000 20 halftoneWorks_orc_ok (by kernel_rfl)
def law_halftoneWorks_r (_ : Nat) (_ : Unit) : Option (Bool × Unit) := some (true, ())
def law_halftoneWorks_ctr : Ctr := ⟨.unit, .pair .bool .unit, law_halftoneWorks_r, 32⟩
theorem law_halftoneWorks_ok : CtrOk Try.prog 32 law_halftoneWorks_ctr := fun _ _ y h => by
  have h : some (true, ()) = some y := h
  injection h with h
  subst h
  exact halftoneWorks_f
end Go.Proofs.Ytelpkjellakigaa
/- Residual programs of functions (printed by a program out of the code), checked by the kernel, and the contracts that follow. -/
namespace Go.Proofs.Ytelpkjellakigaa
open Go Go.RowKit
set_option linter.unusedVariables false
def law_HalftoneMeans_j4 (fu : Nat) (j14 : (Int × List Int) → Option (Bool × Unit)) (v15 : Int × List Int) : Option (Bool × Unit) :=
  j14 (((IntKind.i64.wrap (v15.1 + (1 : Int))), v15.2))
def law_HalftoneMeans_l3 (fu : Nat) (a : (Int × Int × List Int) × (Int × Int × Int) × Unit) (v9 : Int) (v10 : Int) (v12 : Int × List Int) (v13 : Int) (j12 : (Int × List Int) → Option (Bool × Unit)) (j14 : (Int × List Int) → Option (Bool × Unit)) (v14 : Int × List Int) : Option (Bool × Unit) :=
  bif (decide (v14.1 < (IntKind.i64.wrap (v10 * v9)))) then
    joinF (law_HalftoneMeans_j4 fu j14) fun j15 =>
    let v16 : Int := v14.1
    bindO (R_Bit_r fu ((a.1, (v16, (v13, ()))))) fun v17 =>
    bif v17.1 then
      bif (decide (v9 ≠ (0 : Int))) then
      bif (decide (v9 ≠ (0 : Int))) then
      bif ((decide ((0 : Int) ≤ (IntKind.i64.wrap ((IntKind.i64.wrap ((IntKind.i64.wrap (Int.tdiv v13 v9)) * v10)) + (IntKind.i64.wrap (Int.tdiv v16 v9)))))) && (decide ((IntKind.i64.wrap ((IntKind.i64.wrap ((IntKind.i64.wrap (Int.tdiv v13 v9)) * v10)) + (IntKind.i64.wrap (Int.tdiv v16 v9)))) < (List.length v14.2 : Int)))) then
      bif ((decide ((0 : Int) ≤ (IntKind.i64.wrap ((IntKind.i64.wrap ((IntKind.i64.wrap (Int.tdiv v13 v9)) * v10)) + (IntKind.i64.wrap (Int.tdiv v16 v9)))))) && (decide ((IntKind.i64.wrap ((IntKind.i64.wrap ((IntKind.i64.wrap (Int.tdiv v13 v9)) * v10)) + (IntKind.i64.wrap (Int.tdiv v16 v9)))) < (List.length v14.2 : Int)))) then
      j15 ((v14.1, (List.set v14.2 (Int.toNat (IntKind.i64.wrap ((IntKind.i64.wrap ((IntKind.i64.wrap (Int.tdiv v13 v9)) * v10)) + (IntKind.i64.wrap (Int.tdiv v16 v9))))) (IntKind.i64.wrap ((List.getD v14.2 (Int.toNat (IntKind.i64.wrap ((IntKind.i64.wrap ((IntKind.i64.wrap (Int.tdiv v13 v9)) * v10)) + (IntKind.i64.wrap (Int.tdiv v16 v9))))) 0) + (1 : Int))))))
      else none
      else none
      else none
      else none
    else
    j15 (v14)
  else
  j12 (((IntKind.i64.wrap (v12.1 + (1 : Int))), v14.2))
def law_HalftoneMeans_l5 (fu : Nat) (v2 : List Int) (v3 : Int) (v9 : Int) (v12 : Int × List Int) (j13 : (Int × List Int) → Option (Bool × Unit)) (v13 : Int × List Int) : Option (Bool × Unit) :=
  bif (decide (v13.1 < (List.length v12.2 : Int))) then
    let v14 : Int := v13.1
    bif ((decide ((0 : Int) ≤ v14)) && (decide (v14 < (List.length v13.2 : Int)))) then
    bindO (R_Round_r fu (((IntKind.i64.wrap ((255 : Int) * (List.getD v13.2 (Int.toNat v14) 0))), ((IntKind.i64.wrap (v9 * v9)), ())))) fun v15 =>
    bif ((decide ((0 : Int) ≤ v14)) && (decide (v14 < (List.length v13.2 : Int)))) then
    j13 (((IntKind.i64.wrap (v13.1 + (1 : Int))), (List.set v13.2 (Int.toNat v14) v15.1)))
    else none
    else none
  else
  bif (decide (v3 = (0 : Int))) then
    bindO (R_SameInts_r fu ((v2, (v13.2, ())))) fun v14 =>
    let v15 : Bool := v14.1
    some ((v15, ()))
  else
  some ((false, ()))
def law_HalftoneMeans_l2 (fu : Nat) (a : (Int × Int × List Int) × (Int × Int × Int) × Unit) (v2 : List Int) (v3 : Int) (v9 : Int) (v10 : Int) (v11 : Int) (j12 : (Int × List Int) → Option (Bool × Unit)) (v12 : Int × List Int) : Option (Bool × Unit) :=
  bif (decide (v12.1 < (IntKind.i64.wrap (v11 * v9)))) then
    let v13 : Int := v12.1
    loopF (law_HalftoneMeans_l3 fu a v9 v10 v12 v13 j12) fu (((0 : Int), v12.2))
  else
  loopF (law_HalftoneMeans_l5 fu v2 v3 v9 v12) fu (((0 : Int), v12.2))
def law_HalftoneMeans_j1 (fu : Nat) (a : (Int × Int × List Int) × (Int × Int × Int) × Unit) (v2 : List Int) (v3 : Int) (v6 : Int) : Option (Bool × Unit) :=
  bif (decide (v6 ≠ (0 : Int))) then
    bindO (law_none_r fu (((decide ((List.length v2 : Int) = (0 : Int))), (v3, (v6, ()))))) fun v7 =>
    let v8 : Bool := v7.1
    some ((v8, ()))
  else
  bindO (law_big_r fu ((a.1, ()))) fun v7 =>
  bif v7.1 then
    some ((true, ()))
  else
  bindO (R_Gcd_r fu ((a.2.1.1, (a.2.1.2.1, ())))) fun v8 =>
  bif (decide (v8.1 ≠ (0 : Int))) then
  let v9 : Int := (IntKind.i64.wrap (Int.tdiv (IntKind.i64.wrap ((IntKind.i64.wrap (a.2.1.1 * a.2.1.1)) + (IntKind.i64.wrap (a.2.1.2.1 * a.2.1.2.1)))) v8.1))
  bif (decide (v9 ≠ (0 : Int))) then
  bif (decide (v9 ≠ (0 : Int))) then
  let v10 : Int := (IntKind.i64.wrap (Int.tdiv a.1.1 v9))
  let v11 : Int := (IntKind.i64.wrap (Int.tdiv a.1.2.1 v9))
  bif ((decide ((0 : Int) ≤ (IntKind.i64.wrap (v10 * v11)))) && (decide (((8 : Int) * (IntKind.i64.wrap (v10 * v11))) ≤ (281474976710656 : Int)))) then
  loopF (law_HalftoneMeans_l2 fu a v2 v3 v9 v10 v11) fu (((0 : Int), (List.replicate (Int.toNat (IntKind.i64.wrap (v10 * v11))) (0 : Int))))
  else none
  else none
  else none
  else none
def law_HalftoneMeans_r (fu : Nat) (a : (Int × Int × List Int) × (Int × Int × Int) × Unit) : Option (Bool × Unit) :=
  bindO (law_halftoneWorks_r fu (())) fun v0 =>
  bif (!v0.1) then
    some ((false, ()))
  else
  bindO (halftone_Tones_r fu ((a.1, (a.2.1, ())))) fun v1 =>
  let v2 : List Int := v1.1
  let v3 : Int := v1.2.1
  bindO (R_BitsErr_r fu ((a.1, ()))) fun v4 =>
  let v5 : Int := v4.1
  joinF (law_HalftoneMeans_j1 fu a v2 v3) fun j6 =>
  bif (decide (v5 = (0 : Int))) then
    bindO (R_ScreenErr_r fu ((a.2.1, ()))) fun v7 =>
    let v8 : Int := v7.1
    j6 (v8)
  else
  j6 (v5)
def law_HalftoneMeans_an : An := (.n none .z (.n none (.n none .z (.n none (.n none .z .z) .z)) (.n none .z (.n none .z (.n (some ⟨[3, 6, 5, 2], [0, 1], [], [.reg 7 (.int .i64)], 0, []⟩) (.n none .z (.n none .z .z)) (.n none (.n none .z (.n none (.n none .z .z) .z)) (.n none (.n none .z (.n none (.n none .z .z) .z)) (.n none (.dr [] []) (.n none (.dr [] []) (.n none .z (.n none (.n none .z (.n none (.n (some ⟨[8, 11, 9, 70], [], [], [.reg 71 (.int .i64), .row 2 true (.int .i64) 3 0], 0, []⟩) (.n none .z (.n none .z (.n none (.n none (.n none .z (.n none .z (.n none (.n (some ⟨[71, 12, 76], [], [], [.reg 77 (.int .i64), .row 2 true (.int .i64) 3 0], 0, []⟩) (.n none .z (.n none .z (.n (some ⟨[], [], [], [.reg 77 (.int .i64), .row 2 true (.int .i64) 3 0], 0, []⟩) (.n none (.n none .z (.n none .z (.n none (.dr [] []) .z))) .z) .z))) .z) .z))) .z) .z))) .z) .z)) (.n none (.n none .z (.n none (.n (some ⟨[11, 8, 101], [], [], [.reg 102 (.int .i64), .row 2 true (.int .i64) 3 0], 0, []⟩) (.n none .z (.n none .z (.n none (.n none (.n none .z .z) .z) .z))) .z) .z)) (.n none .z .z)))))))))))))
noncomputable def law_HalftoneMeans_dc : List (Nat × Ctr) := [(17, R_ScreenErr_ctr), (18, law_none_ctr), (19, R_SameInts_ctr), (22, R_Round_ctr), (30, R_Gcd_ctr), (32, law_halftoneWorks_ctr), (33, halftone_Tones_ctr), (34, R_BitsErr_ctr), (35, law_big_ctr), (36, R_Bit_ctr)]
def law_HalftoneMeans_ctr : Ctr := ⟨(.pair (.agg (.pair (.int .i64) (.pair (.int .i64) (.list (.int .u8))))) (.pair (.agg (.pair (.int .i64) (.pair (.int .i64) (.int .i64)))) .unit)), (.pair .bool .unit), law_HalftoneMeans_r, 6⟩
theorem law_HalftoneMeans_ok : CtrOk Try.prog 6 law_HalftoneMeans_ctr := ctr_ok (l := law_HalftoneMeans_dc) (f := 12) (an := law_HalftoneMeans_an) ⟨R_ScreenErr_ok, ⟨law_none_ok, ⟨R_SameInts_ok, ⟨R_Round_ok, ⟨R_Gcd_ok, ⟨law_halftoneWorks_ok, ⟨halftone_Tones_ok, ⟨R_BitsErr_ok, ⟨law_big_ok, ⟨R_Bit_ok, trivial⟩⟩⟩⟩⟩⟩⟩⟩⟩⟩ fun fu x => by kernel_rfl
end Go.Proofs.Ytelpkjellakigaa
/- The document's mean tones; the law HalftoneMeans. -/
namespace Go.Proofs.Ytelpkjellakigaa
open Go Go.RowKit
set_option linter.unusedSimpArgs false
set_option linter.unusedSectionVars false
set_option linter.unusedVariables false
namespace Hm
open Cm
theorem wrN {m : Nat} (h : m ≤ 4000000000) : IntKind.i64.wrap (m : Int) = m := s_wr (by omega) (by omega)
theorem bitsE_dim {w h : Int} {ds : List Int} (h0 : bitsE w h ds = 0) : 1 ≤ w ∧ w ≤ 1024 ∧ 1 ≤ h ∧ h ≤ 1024 ∧ (ds.length : Int) = strd w * h := by
  unfold bitsE at h0
  split at h0
  · rename_i hr
    split at h0
    · rename_i hl
      refine ⟨hr.1, hr.2.1, hr.2.2.1, hr.2.2.2, ?_⟩
      rw [hl, strd_N (by omega), Int.natCast_mul, Int.toNat_of_nonneg (by omega : 0 ≤ h)]
    · omega
  · omega
section
variable {fu : Nat} (hf : 18446744073709551616 ≤ fu)
include hf
theorem sameI_r {l : List Int} (hl : (l.length : Int) ≤ 9223372036854775807) : R_SameInts_r fu (l, (l, ())) = some (true, ()) := by
  unfold R_SameInts_r
  simp (disch := omega) only [joinF_eq, bindO_some, s_wr, s_td, s_tm, s_pos, s_neg, Int.toNat_natCast, cond_true, cond_false, decide_true, decide_false, bne_self_eq_false, ne_eq, not_true_eq_false]
  rw [errLoop (n := l.length) (E := fun _ => 0) (out := fun e => some (true, ())) (fin := some (true, ())) (by omega)]
  · split <;> rfl
  · intro j i hi
    unfold R_SameInts_l1
    simp (disch := omega) only [joinF_eq, bindO_some, s_wr, s_td, s_tm, s_pos, s_neg, Int.toNat_natCast, cond_true, cond_false, decide_true, decide_false, bne_self_eq_false, ne_eq, not_true_eq_false]
    rfl
  · intro j
    unfold R_SameInts_l1
    simp (disch := omega) only [joinF_eq, bindO_some, s_wr, s_td, s_tm, s_pos, s_neg, Int.toNat_natCast, cond_true, cond_false, decide_true, decide_false, bne_self_eq_false, ne_eq, not_true_eq_false]
end
section
variable (w h : Int) (ds : List Int) (n A : Nat)
/-- what of row y up to x lies in square t -/
def rowP (y x t : Nat) : Int := if y / n = t / A then sumN (fun x' => if x' / n = t % A then pv w h ds x' y else 0) x else 0
def cntG (y x : Nat) (t : Int) : Int := sumN (fun y' => rowP w h ds n A y' (A * n) t.toNat) y + rowP w h ds n A y x t.toNat
theorem cntG_next (y x : Nat) (t : Int) : cntG w h ds n A y (x + 1) t = cntG w h ds n A y x t + (if y / n = t.toNat / A ∧ x / n = t.toNat % A then pv w h ds x y else 0) := by
  unfold cntG rowP
  by_cases c : y / n = t.toNat / A
  · rw [if_pos c, if_pos c, sumN]
    by_cases d : x / n = t.toNat % A
    · rw [if_pos d, if_pos ⟨c, d⟩]; omega
    · rw [if_neg d, if_neg (fun g => d g.2)]; omega
  · rw [if_neg c, if_neg c, if_neg (fun g => c g.1)]; omega
theorem cntG_row (y : Nat) (t : Int) : cntG w h ds n A (y + 1) 0 t = cntG w h ds n A y (A * n) t := by
  have e : rowP w h ds n A (y + 1) 0 t.toNat = 0 := by unfold rowP; split <;> rfl
  unfold cntG
  rw [e, sumN]; omega
theorem cntG_zero (t : Int) : cntG w h ds n A 0 0 t = 0 := by
  have e : rowP w h ds n A 0 0 t.toNat = 0 := by unfold rowP; split <;> rfl
  unfold cntG
  rw [e]; rfl
theorem cntG_all {B : Nat} (hn : 0 < n) (hA : 0 < A) {t : Nat} (ht : t < A * B) : cntG w h ds n A (B * n) 0 t = blkS w h ds n (t % A) (t / A) := by
  have hb : t / A < B := Nat.div_lt_of_lt_mul ht
  have e : rowP w h ds n A (B * n) 0 (t : Int).toNat = 0 := by unfold rowP; split <;> rfl
  unfold cntG
  rw [e, Int.toNat_natCast, Int.add_zero]
  have e1 : ∀ y, rowP w h ds n A y (A * n) t = if y / n = t / A then sumN (fun i => pv w h ds (t % A * n + i) y) n else 0 := fun y => by
    unfold rowP
    rw [sumN_block (fun x' => pv w h ds x' y) hn (Nat.mod_lt _ hA)]
  rw [sumN_congr fun y _ => e1 y, sumN_block (fun y => sumN (fun i => pv w h ds (t % A * n + i) y) n) hn hb]
  rfl
theorem rowP_bd (y x t : Nat) : 0 ≤ rowP w h ds n A y x t ∧ rowP w h ds n A y x t ≤ (x : Int) * 1 := by
  unfold rowP
  split
  · refine sumN_bd (by decide) fun i _ => ?_
    split
    · exact pv_bd w h ds _ _
    · decide
  · omega
theorem cntG_bd (y x : Nat) (t : Int) : 0 ≤ cntG w h ds n A y x t ∧ cntG w h ds n A y x t ≤ (y : Int) * ((A * n : Nat) : Int) + x := by
  have a := sumN_bd (f := fun y' => rowP w h ds n A y' (A * n) t.toNat) (b := ((A * n : Nat) : Int)) (Int.natCast_nonneg _) (n := y) fun i _ => by
    have := rowP_bd w h ds n A i (A * n) t.toNat
    omega
  have b := rowP_bd w h ds n A y x t.toNat
  unfold cntG
  omega
end
section
variable {fu : Nat} (hf : 18446744073709551616 ≤ fu) {w h : Int} {ds : List Int} (ok : PicOk w h ds) (s : Int × Int × Int) {n : Nat} (hn : 0 < n) (hn4 : n ≤ 400) (hw : w ≤ 48) (hh : h ≤ 24)
include hf ok hn hn4 hw hh
theorem row_r {A B : Nat} (hA : 0 < A) (hAn : A * n ≤ w.toNat) (hBn : B * n ≤ h.toNat) {y : Nat} (hy : y < B * n) (j12 : Int × List Int → Option (Bool × Unit)) (L : List Int) (hL : L = tabL (A * B) (cntG w h ds n A y 0)) :
    loopF (law_HalftoneMeans_l3 fu ((w, (h, ds)), (s, ())) (n : Int) (A : Int) (((y : Nat) : Int), L) (y : Int) j12) fu (((0 : Int), L)) = j12 (((y + 1 : Nat) : Int), tabL (A * B) (cntG w h ds n A (y + 1) 0)) := by
  obtain ⟨w1, w2, h1, h2, hlen, hby⟩ := ok
  subst hL
  have hyB : y / n < B := Nat.div_lt_of_lt_mul (by rw [Nat.mul_comm]; exact hy)
  have hAw : A ≤ 48 := by
    have : A * 1 ≤ A * n := Nat.mul_le_mul_left _ hn
    omega
  have hBw : B ≤ 24 := by
    have : B * 1 ≤ B * n := Nat.mul_le_mul_left _ hn
    omega
  refine stLoop (n := A * n) (st := fun x => ((x : Int), tabL (A * B) (cntG w h ds n A y x))) (by omega) rfl (fun j x hx => ?_) (fun j => ?_)
  · have hxA : x / n < A := Nat.div_lt_of_lt_mul (by rw [Nat.mul_comm]; exact hx)
    have hq : y / n * A + x / n < A * B := by
      have : y / n * A + A ≤ B * A := by
        have q : (y / n + 1) * A ≤ B * A := Nat.mul_le_mul_right _ hyB
        rw [Nat.succ_mul] at q; exact q
      rw [Nat.mul_comm A B]; omega
    have hq4 : y / n * A ≤ 24 * 48 := Nat.mul_le_mul (by omega) hAw
    have d1 : (y / n * A + x / n) / A = y / n := by rw [Nat.mul_comm, Nat.mul_add_div hA, Nat.div_eq_of_lt hxA, Nat.add_zero]
    have d2 : (y / n * A + x / n) % A = x / n := by rw [Nat.mul_comm, Nat.mul_add_mod]; exact Nat.mod_eq_of_lt hxA
    have c1 : ((y : Int).tdiv (n : Int)) = ((y / n : Nat) : Int) := by rw [s_td (by omega)]; omega
    have c2 : ((x : Int).tdiv (n : Int)) = ((x / n : Nat) : Int) := by rw [s_td (by omega)]; omega
    have hbd := cntG_bd w h ds n A y x ((y / n * A + x / n : Nat) : Int)
    have hbd2 : (y : Int) * ((A * n : Nat) : Int) ≤ 24 * 48 := by
      have q1 : (y : Int) * ((A * n : Nat) : Int) ≤ 24 * ((A * n : Nat) : Int) := Int.mul_le_mul_of_nonneg_right (by omega) (by omega)
      omega
    unfold law_HalftoneMeans_l3 law_HalftoneMeans_j4
    simp only [joinF_eq]
    have eAn : IntKind.i64.wrap ((A : Int) * (n : Int)) = ((A * n : Nat) : Int) := by rw [← Int.natCast_mul, s_wr (by omega) (by omega)]
    rw [eAn, bif_pos (by omega), bit_r fu (by omega) (by omega) (by omega) (by omega) hlen hby]
    simp only [bindO_some]
    have hpv : pv w h ds x y = bif pixB w h ds (x : Int) (y : Int) then 1 else 0 := rfl
    cases hp : pixB w h ds (x : Int) (y : Int) with
    | true =>
      rw [hp] at hpv
      simp only [cond_true] at hpv ⊢
      have e1 : IntKind.i64.wrap (IntKind.i64.wrap (IntKind.i64.wrap (((y / n : Nat) : Int)) * (A : Int)) + IntKind.i64.wrap ((x / n : Nat) : Int)) = ((y / n * A + x / n : Nat) : Int) := by
        have g1 : ((y / n : Nat) : Int) * (A : Int) = ((y / n * A : Nat) : Int) := by rw [Int.natCast_mul]
        have g2 : ((y / n * A : Nat) : Int) + ((x / n : Nat) : Int) = ((y / n * A + x / n : Nat) : Int) := by rw [Int.natCast_add]
        rw [wrN (m := y / n) (Nat.le_trans (Nat.div_le_self _ _) (by omega)), g1, wrN (m := y / n * A) (Nat.le_trans hq4 (by decide)), wrN (m := x / n) (Nat.le_trans (Nat.div_le_self _ _) (by omega)), g2, wrN (Nat.le_trans (Nat.le_of_lt hq) (Nat.le_trans (Nat.mul_le_mul hAw hBw) (by decide)))]
      rw [bif_pos (by omega), bif_pos (by omega), c1, c2, e1]
      simp only [tabL_length]
      rw [bif_and (by omega) (by omega), bif_and (by omega) (by omega), Int.toNat_natCast, tabL_getDN hq]
      rw [s_wr (x := cntG w h ds n A y x ((y / n * A + x / n : Nat) : Int) + 1) (by omega) (by omega), s_wr (x := (x : Int) + 1) (by omega) (by omega)]
      congr 1
      refine Prod.ext rfl ?_
      have := tabL_set (n := A * B) (G := cntG w h ds n A y x) (G' := cntG w h ds n A y (x + 1)) (k := ((y / n * A + x / n : Nat) : Int)) (v := cntG w h ds n A y x ((y / n * A + x / n : Nat) : Int) + 1) (by omega)
        (by rw [cntG_next, Int.toNat_natCast, d1, d2, if_pos ⟨rfl, rfl⟩, hpv])
        (fun i i0 i1 hne => by
          rw [cntG_next, if_neg (fun g => hne ?_)]
          · omega
          · have := Nat.div_add_mod i.toNat A
            rw [← g.1, ← g.2, Nat.mul_comm] at this
            omega)
      rw [Int.toNat_natCast] at this
      exact this
    | false =>
      rw [hp] at hpv
      simp only [cond_false] at hpv ⊢
      rw [s_wr (x := (x : Int) + 1) (by omega) (by omega)]
      congr 1
      refine Prod.ext rfl ?_
      refine tabL_congr fun i i0 i1 => ?_
      rw [cntG_next, hpv]
      split <;> omega
  · have eAn : IntKind.i64.wrap ((A : Int) * (n : Int)) = ((A * n : Nat) : Int) := by rw [← Int.natCast_mul, s_wr (by omega) (by omega)]
    unfold law_HalftoneMeans_l3
    simp only [joinF_eq]
    rw [eAn, bif_neg (by omega), s_wr (by omega) (by omega)]
    congr 1
    refine Prod.ext (by simp) ?_
    exact tabL_congr fun i _ _ => (cntG_row w h ds n A y i).symm
end
theorem halftoneMeans_r {fu : Nat} (hf : 18446744073709551616 ≤ fu) {w h : Int} {ds : List Int} (hb : Bytes ds) (A B K : Int) (hW : law_halftoneWorks_r fu () = some (true, ())) : law_HalftoneMeans_r fu ((w, (h, ds)), ((A, (B, K)), ())) = some (true, ()) := by
  unfold law_HalftoneMeans_r
  simp only [hW, bindO_some, Bool.not_true, cond_false, bitsErr_r hf hb, Sc.err_r, joinF_eq]
  by_cases c : bitsE w h ds = 0
  · obtain ⟨w1, w2, h1, h2, hlen⟩ := bitsE_dim c
    have ok : PicOk w h ds := ⟨w1, w2, h1, h2, hlen, hb⟩
    by_cases c2 : Sc.scE A B K = 0
    · have oks := Sc.scE_ok c2
      obtain ⟨N, S, G, k1, f, hN, hG⟩ := Sc.form_r hf oks K
      have hn0 := f.n0
      have hg0 := f.g0
      obtain ⟨a0, a1, b0, b1, n0, n1⟩ := id oks
      have sq1 := Sc.sq_bd a0 a1
      have sq2 := Sc.sq_bd b0 b1
      have hNd : (A * A + B * B) / G = N := by rw [← f.mul]; exact Int.mul_ediv_cancel_left _ (by omega)
      obtain ⟨n, rfl⟩ := Int.eq_ofNat_of_zero_le (show 0 ≤ N by omega)
      have hn : 0 < n := by omega
      rw [tones_r hf ok (A, (B, K)) hn (by omega) c (by rw [Sc.check_r, c2]) k1]
      simp only [bindO_some, c, decide_true, cond_true, c2]
      unfold law_HalftoneMeans_j1
      simp only [ne_eq, not_true_eq_false, decide_false, cond_false, big_r, bindO_some]
      by_cases hbig : 48 < w ∨ 24 < h
      · have e : (decide (48 < w) || decide (24 < h)) = true := by simpa using hbig
        rw [e]; rfl
      · have e : (decide (48 < w) || decide (24 < h)) = false := by simpa using hbig
        rw [e, cond_false, Sc.gcd_r hf oks f]
        simp only [bindO_some]
        rw [bif_pos (by omega), s_wr (x := A * A) (by omega) (by omega), s_wr (x := B * B) (by omega) (by omega), s_wr (x := A * A + B * B) (by omega) (by omega), s_td (by omega), hNd, s_wr (x := (n : Int)) (by omega) (by omega), bif_pos (by omega), bif_pos (by omega)]
        have ew : IntKind.i64.wrap (Int.tdiv w (n : Int)) = ((w.toNat / n : Nat) : Int) := by
          have q : w.toNat / n ≤ w.toNat := Nat.div_le_self _ _
          have : w.tdiv (n : Int) = ((w.toNat / n : Nat) : Int) := by
            rw [s_td (by omega), show w = ((w.toNat : Nat) : Int) by omega]; rfl
          rw [this, wrN (Nat.le_trans q (by omega))]
        have eh : IntKind.i64.wrap (Int.tdiv h (n : Int)) = ((h.toNat / n : Nat) : Int) := by
          have q : h.toNat / n ≤ h.toNat := Nat.div_le_self _ _
          have : h.tdiv (n : Int) = ((h.toNat / n : Nat) : Int) := by
            rw [s_td (by omega), show h = ((h.toNat : Nat) : Int) by omega]; rfl
          rw [this, wrN (Nat.le_trans q (by omega))]
        rw [ew, eh]
        have aw : w.toNat / n ≤ 48 := Nat.le_trans (Nat.div_le_self _ _) (by omega)
        have bh : h.toNat / n ≤ 24 := Nat.le_trans (Nat.div_le_self _ _) (by omega)
        have hAn : w.toNat / n * n ≤ w.toNat := Nat.div_mul_le_self _ _
        have hBn : h.toNat / n * n ≤ h.toNat := Nat.div_mul_le_self _ _
        generalize w.toNat / n = X at *
        generalize h.toNat / n = Y at *
        have hXY : X * Y ≤ 48 * 24 := Nat.mul_le_mul aw bh
        have eXY : IntKind.i64.wrap ((X : Int) * (Y : Int)) = ((X * Y : Nat) : Int) := by rw [← Int.natCast_mul, s_wr (by omega) (by omega)]
        have eYn : IntKind.i64.wrap ((Y : Int) * (n : Int)) = ((Y * n : Nat) : Int) := by rw [← Int.natCast_mul, s_wr (by omega) (by omega)]
        rw [eXY, bif_and (by omega) (by omega), Int.toNat_natCast]
        have nn : (n : Int) * n ≤ 400 * 400 ∧ (1 : Int) ≤ (n : Int) * n := by
          have q1 : (n : Int) * n ≤ 400 * n := Int.mul_le_mul_of_nonneg_right (by omega) (by omega)
          have q2 : 1 * (n : Int) ≤ (n : Int) * n := Int.mul_le_mul_of_nonneg_right (by omega) (by omega)
          omega
        refine stLoop (n := Y * n) (st := fun y => ((y : Int), tabL (X * Y) (cntG w h ds n X y 0))) (by omega) ?_ (fun j y hy => ?_) (fun j => ?_)
        · refine Prod.ext rfl ?_
          exact tabL_rep fun i _ _ => cntG_zero w h ds n X i
        · have hX : 0 < X ∨ X = 0 := by omega
          unfold law_HalftoneMeans_l2
          simp only
          rw [eYn, bif_pos (by omega)]
          rcases hX with hX | hX
          · exact row_r hf ok (A, (B, K)) hn (by omega) (by omega) (by omega) hX hAn hBn hy j _ rfl
          · subst hX
            rw [loopF.eq_def]
            obtain ⟨m, rfl⟩ : ∃ m, fu = m + 1 := ⟨fu - 1, by omega⟩
            simp only
            show law_HalftoneMeans_l3 (m + 1) ((w, (h, ds)), ((A, (B, K)), ())) (n : Int) ((0 : Nat) : Int) ((y : Int), tabL (0 * Y) (cntG w h ds n 0 y 0)) (y : Int) j _ ((0 : Int), tabL (0 * Y) (cntG w h ds n 0 y 0)) = _
            unfold law_HalftoneMeans_l3
            simp only [joinF_eq]
            rw [bif_neg (by simp [IntKind.wrap_i64]), s_wr (by omega) (by omega)]
            congr 1
            refine Prod.ext (by simp) ?_
            exact tabL_congr fun i i0 i1 => by simp at i1; omega
        · unfold law_HalftoneMeans_l2
          simp only
          rw [eYn, bif_neg (by omega)]
          have eC : tabL (X * Y) (cntG w h ds n X (Y * n) 0) = tabL (X * Y) (fun t => blkS w h ds n (t.toNat % X) (t.toNat / X)) := tabL_congr fun i i0 i1 => by
            have hX : 0 < X := by
              rcases Nat.eq_zero_or_pos X with h | h
              · subst h; simp at i1; omega
              · exact h
            have := cntG_all w h ds n X (B := Y) hn hX (t := i.toNat) (by omega)
            rw [show ((i.toNat : Nat) : Int) = i by omega] at this
            exact this
          rw [eC]
          have bbd : ∀ t : Int, 0 ≤ blkS w h ds n (t.toNat % X) (t.toNat / X) ∧ blkS w h ds n (t.toNat % X) (t.toNat / X) ≤ 160000 := fun t => by
            have := blkS_bd w h ds n (t.toNat % X) (t.toNat / X)
            have : (n : Int) * (n * 1) = (n : Int) * n := by rw [Int.mul_one]
            omega
          generalize hF : (fun t : Int => blkS w h ds n (t.toNat % X) (t.toNat / X)) = F at *
          have bbd : ∀ t : Int, 0 ≤ F t ∧ F t ≤ 160000 := fun t => by rw [← hF]; exact bbd t
          have hT : toneG w h ds n X = fun t => rnd (255 * F t) ((n : Int) * n) := by rw [← hF]; rfl
          refine stLoop (n := X * Y) (st := fun q => ((q : Int), tabL (X * Y) (fun k => if k < (q : Int) then rnd (255 * F k) ((n : Int) * n) else F k))) (by omega) ?_ (fun j' q hq => ?_) (fun j' => ?_)
          · refine Prod.ext rfl ?_
            show (tabL (X * Y) fun k => if k < ((0 : Nat) : Int) then rnd (255 * F k) ((n : Int) * n) else F k) = tabL (X * Y) F
            exact tabL_congr fun i i0 i1 => if_neg (by omega)
          · have hb := bbd (q : Int)
            unfold law_HalftoneMeans_l5
            simp only [Int.toNat_natCast, tabL_length, tabP_get hq]
            rw [bif_pos (by omega), bif_and (by omega) (by omega), s_wr (x := 255 * F (q : Int)) (by omega) (by omega), s_wr (x := (n : Int) * n) (by omega) (by omega), round_s fu (by omega) (by omega) (by omega) (by omega)]
            simp only [bindO_some]
            rw [bif_and (by omega) (by omega), s_wr (by omega) (by omega), tabP_set hq rfl]
            rfl
          · have e1 : (tabL (X * Y) fun k => if k < ((X * Y : Nat) : Int) then rnd (255 * F k) ((n : Int) * n) else F k) = tabL (X * Y) (toneG w h ds n X) := by
              rw [hT]; exact tabL_congr fun i h0 h1 => by rw [if_pos h1]
            unfold law_HalftoneMeans_l5
            simp only [tabL_length, e1, decide_true, cond_true]
            rw [bif_neg (by omega), sameI_r hf (by rw [tabL_length]; omega)]
            rfl
    · have eT : halftone_Tones_r fu ((w, (h, ds)), ((A, (B, K)), ())) = some ([], (Sc.scE A B K, ())) := by
        unfold halftone_Tones_r
        simp only [check_r hf hb, c, bindO_some, ne_eq, not_true_eq_false, decide_false, cond_false, Sc.check_r]
        rw [bif_pos c2]
      rw [eT]
      simp only [bindO_some, c, decide_true, cond_true]
      unfold law_HalftoneMeans_j1
      rw [bif_pos c2]
      simp only [none_r, bindO_some]
      simp
  · have eT : halftone_Tones_r fu ((w, (h, ds)), ((A, (B, K)), ())) = some ([], (bitsE w h ds, ())) := by
      unfold halftone_Tones_r
      simp only [check_r hf hb, bindO_some]
      rw [bif_pos c]
    rw [eT]
    simp only [bindO_some]
    rw [bif_neg c]
    unfold law_HalftoneMeans_j1
    rw [bif_pos c]
    simp only [none_r, bindO_some]
    simp
end Hm
end Go.Proofs.Ytelpkjellakigaa
/- The step from a walk to a law's row, once for all laws of the seat: a law that returns true and leaves all that was there as it was. -/
namespace Go.Proofs.Ytelpkjellakigaa
open Go.ChangeShapes Go.WideShapes Go.ChangeAt Go.RowKit

theorem own : ownKnob Try.prog.godebug = none := by kernel_rfl
theorem laidOut : laidOutB Try.prog = true := by kernel_rfl
theorem boolT : Try.prog.underlying 4 = some .bool := Try.underlying4

theorem trodAll_stays {H : Type} {enc : TypeId × Value → H} {P : Program} (hl : laidOutB P = true) {W W' : World} (hb : Below W.heap.size W W') :
    ∀ {ts : List TypeId} {vs : List Value} {ds : List (DataW H)} {ps : List MemPlace}, (∀ t ∈ ts, P.readableRec t = true ∧ t < P.types.size) → DataW.TrodAll enc P W 0 (fun _ => true) true ts vs ds ps →
      (∀ x ∈ ps, x.block < W.heap.size) → DataW.TrodAll enc P W' 0 (fun b => decide (b < W.heap.size)) true ts vs ds ps
  | [], [], [], _, _, h, _ => h
  | t :: ts, v :: vs, d :: ds, _, hr, ⟨p, q, h1, h2, e⟩, hlt =>
    ⟨p, q, Below.trod hl (hr t (by simp)).1 (hr t (by simp)).2 h1 hb (fun x hx => hlt x (by rw [e]; simp [hx])),
      trodAll_stays hl hb (fun t' ht => hr t' (by simp [ht])) h2 (fun x hx => hlt x (by rw [e]; simp [hx])), e⟩
  | [], [], _ :: _, _, _, h, _ => h.elim
  | [], _ :: _, _, _, _, h, _ => h.elim
  | _ :: _, [], _, _, _, h, _ => h.elim
  | _ :: _, _ :: _, [], _, _, h, _ => h.elim

/-- what a law's row asks of the readable types among its parameters -/
def readsAll (P : Program) (ts : List TypeId) : Bool := ts.all fun t => P.readableRec t && decide (t < P.types.size)
theorem readsAll_all {P : Program} {ts : List TypeId} (h : readsAll P ts = true) : ∀ t ∈ ts, P.readableRec t = true ∧ t < P.types.size := by
  intro t ht
  have := List.all_eq_true.1 h t ht
  simpa using this

theorem trodAll_length {H : Type} {enc : TypeId × Value → H} {P : Program} {W : World} {base : Nat} {spare : Nat → Bool} {held : Bool} :
    ∀ {ts : List TypeId} {vs : List Value} {ds : List (DataW H)} {ps : List MemPlace}, DataW.TrodAll enc P W base spare held ts vs ds ps → ds.length = ts.length
  | [], [], [], _, _ => rfl
  | _ :: _, _ :: _, _ :: _, _, ⟨_, _, _, h2, _⟩ => by simp [trodAll_length h2]
  | [], [], _ :: _, _, h => h.elim
  | [], _ :: _, _, _, h => h.elim
  | _ :: _, [], _, _, h => h.elim
  | _ :: _, _ :: _, [], _, h => h.elim

set_option maxRecDepth 100000 in
theorem law_lifted {os : Os} (started : os.Started) {H : Type} {enc : TypeId × Value → H} {f : FuncId} {fn : Func} {s : ChangeSpec}
    (noInit : Try.checked.prog.inits.idxOf? f = none) (hfn : Try.checked.prog.funcs[f]? = some fn)
    (witness : ∃ (w : World) (tape : Tape) (i : Input), w.os = os ∧ (w.forCall tape i).Shaped Try.checked.prog ∧ i.vars = [] ∧ Input.okWide Try.checked.prog (w.forCall tape i) .any w.heap.size f i ∧
      s.pre6 enc Try.checked.prog fn [] false (w.forCall tape i).memory i.args ∧ ({} : Assume).holds Try.checked.prog (lone (Frame.enter Try.checked.prog f i.args .normal) [] (w.forCall tape i)))
    (hvars : s.vars = []) (hres : fn.resultTypes = #[4]) (hread : readsAll Try.prog fn.params.toList = true)
    (hspec : ∀ ds : List (DataW H), ds.length = fn.params.toList.length → s.fn H ds = { results := [.lit (.bool true)], args := ds })
    (walk : ∀ (W : World) (base : Nat) (args : List Value) (ds : List (DataW H)) (ps : List MemPlace),
      (∀ (j : Nat) t v, fn.params[j]? = some t → args[j]? = some v → Value.okWide Try.prog W .any base t v) → DataW.TrodAll enc Try.prog W 0 (fun _ => true) true fn.params.toList args ds ps →
      (DataW.weightsEach Try.prog fn.params.toList ds).all (· ≤ reachBytes) = true → (∀ x ∈ ps, x.block < W.heap.size) →
      Calls Try.prog f args.toArray W fun e W' => e = .returned (.bool true) ∧ Below W.heap.size W W') :
    ReturnsInHanded {} Try.checked os f .any (s.pre6 enc Try.checked.prog fn [] false) (s.post enc Try.checked.prog fn false true false false) := by
  refine returnsInHanded_of_change_sized (C := Try.checked) own started noInit hfn witness ?_
  intro W base args ds gs before hval hW _ hsz _
  have hW' := hW
  obtain ⟨p, q, hA0, hV, rfl, hfz, hnd⟩ := hW
  rw [hvars] at hV
  obtain ⟨rfl, rfl⟩ := trodVars_none hV
  have hA : DataW.TrodAll enc Try.prog W 0 (fun _ => true) true fn.params.toList args.toList ds p := hA0
  have hlen : ds.length = fn.params.toList.length := trodAll_length hA
  have hlt : ∀ x ∈ p, x.block < W.heap.size := fun x hx => hW'.lt x (by simpa using hx)
  have hargs : args.toList.toArray = args := by simp
  have hsz' : (DataW.weightsEach Try.prog fn.params.toList ds).all (· ≤ reachBytes) = true := by
    have h := hsz
    have hvt : s.plain.varTypes Try.checked.prog = [] := by simp [DataSpec.varTypes, ChangeSpec.plain, hvars]
    rw [hvt] at h
    simp only [List.append_nil] at h
    exact h
  have hw := walk W base args.toList ds p (fun j t v ht hv => hval j t v ht (by simpa using hv)) hA hsz' hlt
  rw [hargs] at hw
  refine hw.mono fun e W' ⟨he, hb⟩ => ⟨.bool true, he, ?_⟩
  have hsf : s.fn H (ds ++ []) = { results := [.lit (.bool true)], args := ds } := by rw [List.append_nil]; exact hspec ds hlen
  refine ⟨ds, [], p ++ [], [], p, [], hW', ?_, ?_, ?_, hb.frame _, fun h => by cases h⟩
  · rw [hsf, hres]
    exact trodAll_mk1 (shut_bool boolT true)
  · rw [hsf]
    exact trodAll_stays laidOut hb (readsAll_all hread) hA hlt
  · rw [hsf, hvars]
    rfl
end Go.Proofs.Ytelpkjellakigaa
/- Arguments opened: what slices and structs of numbers read as. -/
set_option maxRecDepth 100000
namespace Go.Proofs.Ytelpkjellakigaa
open Go.ChangeShapes Go.WideShapes Go.ChangeAt Go.RowKit Go.Deep

theorem choose_list {α : Type} {n : Nat} {Q : Nat → α → Prop} (h : ∀ i, i < n → ∃ p, Q i p) : ∃ l : List α, l.length = n ∧ ∀ i p, l[i]? = some p → Q i p := by
  induction n with
  | zero => exact ⟨[], rfl, by intro i p hi; simp at hi⟩
  | succ n ih =>
    obtain ⟨l, hl, hq⟩ := ih (fun i hi => h i (by omega))
    obtain ⟨p, hp⟩ := h n (by omega)
    refine ⟨l ++ [p], by simp [hl], fun i q hi => ?_⟩
    rcases Nat.lt_trichotomy i n with hlt | rfl | hgt
    · rw [List.getElem?_append_left (by omega)] at hi
      exact hq i q hi
    · rw [List.getElem?_append_right (by omega), hl] at hi
      simp at hi
      subst hi; exact hp
    · rw [List.getElem?_eq_none (by simp; omega)] at hi
      cases hi

section
variable {H : Type} {enc : TypeId × Value → H} {P : Program} {w : World} {base : Nat} {spare : Nat → Bool} {held : Bool}
/-- a slice, whatever its elements: of each element its cells and its reading -/
theorem rd_slice {t e : TypeId} {fuel : Nat} {v : Value} {x : DataW H × List MemPlace} (ht : P.underlying t = some (.slice e)) (hc : 0 < P.cellsOf e) (h : DataW.trod enc P w base spare held fuel t [v] = some x) :
    ∃ A n c, v = .slice A n c ∧ n ≤ c ∧ c ≤ maxLen ∧ ∀ i, i < n → ∃ b o cs n' x', A = some ⟨b, o, none⟩ ∧ cs.length = P.cellsOf e ∧ (∀ j u, cs[j]? = some u → w.cell? ⟨b, o + i * P.cellsOf e + j, none⟩ = some u) ∧
      DataW.trod enc P w base spare held n' e cs = some x' := by
  rcases open_slice ht h with ⟨h0, _⟩ | ⟨a, len, cap, m, n', D, Pl, hcs, _, hl, hm, hmm, _, hi⟩
  · simp at h0
    subst h0
    exact ⟨none, 0, 0, rfl, by omega, by unfold maxLen; omega, by intro i hi; omega⟩
  · simp at hcs
    subst hcs
    refine ⟨some a, len, cap, rfl, hl, hm, fun i hil => ?_⟩
    have hlm : len ≤ m := by rw [hmm]; split <;> omega
    obtain ⟨cs, h1, h2⟩ := hi i (by omega)
    obtain ⟨hb, hlen, hat⟩ := World.cells?_some h1
    obtain ⟨b, o, spot⟩ := a
    have h00 := hat 0 (by omega)
    have hsp : spot = none := by
      obtain ⟨cs0, g1, _⟩ := hi 0 (by omega)
      obtain ⟨_, gl, gat⟩ := World.cells?_some g1
      have hx := gat 0 (by omega)
      rw [List.getElem?_eq_getElem (by omega)] at hx
      simpa [Addr.add] using World.cell?_spot hx
    subst hsp
    refine ⟨b, o, cs, n', _, rfl, hlen, ?_, h2⟩
    intro j u hu
    have hjl : j < P.cellsOf e := by rw [← hlen]; exact (List.getElem?_eq_some_iff.1 hu).1
    have := hat j hjl
    rw [hu, Addr.add_lit, Addr.add_lit] at this
    exact this
end

end Go.Proofs.Ytelpkjellakigaa
/- Arguments opened, as abstract values. -/
set_option maxRecDepth 100000
namespace Go.Proofs.Ytelpkjellakigaa
open Go Go.ChangeShapes Go.WideShapes Go.ChangeAt Go.RowKit Go.Deep

section
variable {H : Type} {enc : TypeId × Value → H} {P : Program} {w : World} {base : Nat} {spare : Nat → Bool} {held : Bool}
/-- data of the caller's -/
abbrev RelC (w : World) : AV → Value → Prop := RelD w (fun _ => False) w.heap.size
/-- one element's cells, read as enc p -/
def Reads {α : Type} (w : World) (sz : Nat) (ec : α → List AV) (Q : α → Prop) (cs : List Value) : Prop :=
  ∃ p, Q p ∧ (ec p).length = sz ∧ ∀ (j : Nat) (a : AV) (u : Value), (ec p)[j]? = some a → cs[j]? = some u → RelC w a u
theorem ro_slice {α : Type} (ec : α → List AV) (Q : α → Prop) {t e : TypeId} {sz fuel : Nat} {v : Value} {x : DataW H × List MemPlace} (ht : P.underlying t = some (.slice e)) (hz : P.cellsOf e = sz) (hc : 0 < sz)
    (hel : ∀ (fuel : Nat) (cs : List Value) (x : DataW H × List MemPlace), cs.length = sz → DataW.trod enc P w base spare held fuel e cs = some x → Reads w sz ec Q cs) (h : DataW.trod enc P w base spare held fuel t [v] = some x) :
    ∃ xs : List α, (∀ p ∈ xs, Q p) ∧ RelC w (.ro false sz (xs.map ec)) v := by
  subst hz
  obtain ⟨A, n, c, rfl, hn, hm, hi⟩ := rd_slice ht hc h
  obtain ⟨xs, hl, hq⟩ := choose_list (Q := fun i (p : α) => Q p ∧ ∃ (b o : Nat) (cs : List Value), A = some ⟨b, o, none⟩ ∧ cs.length = P.cellsOf e ∧ (∀ (j : Nat) (u : Value), cs[j]? = some u → w.cell? ⟨b, o + i * P.cellsOf e + j, none⟩ = some u) ∧ (ec p).length = P.cellsOf e ∧ ∀ (j : Nat) (a : AV) (u : Value), (ec p)[j]? = some a → cs[j]? = some u → RelC w a u) (n := n) (by
    intro i hil
    obtain ⟨b, o, cs, n', x', hA, hlen, hat, htr⟩ := hi i hil
    obtain ⟨p, h1, h2, h3⟩ := hel n' cs x' hlen htr
    exact ⟨p, h1, b, o, cs, hA, hlen, hat, h2, h3⟩)
  subst hl
  refine ⟨xs, fun p hp => ?_, ?_⟩
  · obtain ⟨i, hi⟩ := List.mem_iff_getElem?.1 hp
    exact (hq i p hi).1
  have key : ∀ (i : Nat) (row : List AV) (j : Nat) (a : AV), (xs.map ec)[i]? = some row → row[j]? = some a → ∃ b o u, A = some ⟨b, o, none⟩ ∧ w.cell? ⟨b, o + i * P.cellsOf e + j, none⟩ = some u ∧ RelC w a u := by
    intro i row j a hr ha
    rw [List.getElem?_map] at hr
    obtain ⟨p, hp, rfl⟩ := Option.map_eq_some_iff.1 hr
    obtain ⟨_, b, o, cs, hA, hlen, hat, hel, hrel⟩ := hq i p hp
    have hj : j < cs.length := by rw [hlen, ← hel]; exact (List.getElem?_eq_some_iff.1 ha).1
    have hu : cs[j]? = some cs[j] := List.getElem?_eq_getElem hj
    exact ⟨b, o, cs[j], hA, hat j _ hu, hrel j a _ ha hu⟩
  have hcon := RelD.ro (w := w) (own := fun _ => False) (bs := w.heap.size) false (P.cellsOf e) (xs.map ec) A c (fun i j => match A with
    | some ⟨b, o, _⟩ => (w.cell? ⟨b, o + i * P.cellsOf e + j, none⟩).getD undef
    | none => undef) (by simpa using hn) hm (fun i hi hA => by
      have hi : i < xs.length := by simpa using hi
      obtain ⟨_, b, o, _, h1, _⟩ := hq i xs[i] (List.getElem?_eq_getElem hi)
      rw [hA] at h1; cases h1) (fun i row j a hr ha => by
      obtain ⟨b, o, u, hA, hu, _⟩ := key i row j a hr ha
      subst hA
      exact ⟨b, o, rfl, fun h => h.elim, (fun h => by cases h), by simp [hu]⟩) (fun i row j a hr ha => by
      obtain ⟨b, o, u, hA, hu, hr⟩ := key i row j a hr ha
      subst hA
      simpa [hu] using hr)
  rw [List.length_map] at hcon
  exact hcon
end
/-- a law that answers true -/
theorem AF.yes {P : Program} {F : FuncId} {xs : List AV} {vs : Array Value} {w : World} (h : AF P F xs (.bool true)) (ha : ArgsV w (Gh.none w.heap.size) xs vs) : Calls P F vs w fun e w' => e = .returned (.bool true) ∧ Below w.heap.size w w' :=
  (h.out w vs ha).mono fun e w' ⟨v, he, hb, hv⟩ => ⟨by rw [he, hv.bool'], hb⟩
end Go.Proofs.Ytelpkjellakigaa
/- Arguments of any type, opened by one theorem; the last step of a law that a residual program answers. -/
set_option maxRecDepth 100000
namespace Go.Proofs.Ytelpkjellakigaa
open Go Go.ChangeShapes Go.WideShapes Go.ChangeAt Go.RowKit Go.Deep

/-- what every argument of a type meets -/
def Ty.wf : (t : Ty) → t.den → Prop
  | .int k, n => (Lit.int k n).wf = true
  | .bool, _ => True
  | .str, s => List.length s ≤ maxLen
  | .list t, xs => List.length xs ≤ maxLen ∧ ∀ x ∈ (xs : List t.den), t.wf x
  | .unit, _ => True
  | .pair a b, x => a.wf x.1 ∧ b.wf x.2
  | .agg t, x => t.wf x
  | .ptr _, _ => False
def prB (t : Ty) (f : Ty → Ty → Bool) : Bool := match t with
  | .pair x y => f x y
  | _ => false
def unB (t : Ty) : Bool := match t with
  | .unit => true
  | _ => false
theorem prB_ok {t : Ty} {f : Ty → Ty → Bool} (h : prB t f = true) : ∃ x y, t = .pair x y ∧ f x y = true := by
  unfold prB at h
  split at h
  · exact ⟨_, _, rfl, h⟩
  · cases h
theorem unB_ok {t : Ty} (h : unB t = true) : t = .unit := by
  unfold unB at h
  split at h
  · rfl
  · cases h
def fsB (g : TypeId → Ty → Bool) : List Field → Nat → Ty → Bool
  | [], _, t => unB t
  | [a], o, t => Nat.beq a.offset o && g a.type t
  | a :: b :: l, o, t => prB t fun x y => Nat.beq a.offset o && g a.type x && fsB g (b :: l) (o + x.size) y
def arB (g : Ty → Bool) : Nat → Ty → Bool
  | 0, t => unB t
  | 1, t => g t
  | n + 2, t => prB t fun x y => g x && arB g (n + 1) y
def intB (k : IntKind) (t : Ty) : Bool := match t with
  | .int k' => decide (k' = k)
  | _ => false
def boolB (t : Ty) : Bool := match t with
  | .bool => true
  | _ => false
def strB (t : Ty) : Bool := match t with
  | .str => true
  | _ => false
def sliceB (g : Ty → Bool) (t : Ty) : Bool := match t with
  | .list t' => g t' && Nat.blt 0 t'.size
  | _ => false
/-- a type as the program has it -/
def tyB (P : Program) : Nat → TypeId → Ty → Bool
  | 0, _, _ => false
  | f + 1, tid, t => Nat.beq (P.cellsOf tid) t.size && (match P.underlying tid with
    | some (.int k) => intB k t
    | some .bool => boolB t
    | some .string => strB t
    | some (.slice e) => sliceB (tyB P f e) t
    | some (.struct ⟨fs⟩) => fsB (tyB P f) fs 0 t
    | some (.array n e) => arB (tyB P f e) n t
    | _ => false)
section
variable {H : Type} {enc : TypeId × Value → H} {P : Program} {w : World} {base : Nat} {spare : Nat → Bool} {held : Bool}
abbrev ReadsT (w : World) (t : Ty) (cs : List Value) : Prop := Reads w t.size (t.cells false) t.wf cs
theorem tyB_size {f : Nat} {tid : TypeId} {t : Ty} (h : tyB P f tid t = true) : P.cellsOf tid = t.size := by
  cases f with
  | zero => cases h
  | succ f => rw [tyB, Bool.and_eq_true] at h; exact Nat.eq_of_beq_eq_true h.1
theorem ReadsT.pair {a b : Ty} {c d : List Value} (h : ReadsT w a c) (k : ReadsT w b d) (hl : c.length = a.size) : ReadsT w (.pair a b) (c ++ d) := by
  obtain ⟨x, x1, x2, x3⟩ := h
  obtain ⟨y, y1, y2, y3⟩ := k
  refine ⟨(x, y), ⟨x1, y1⟩, Ty.cells_length _ _ _, fun j v u hv hu => ?_⟩
  rw [Ty.cells] at hv
  by_cases hj : j < a.size
  · rw [List.getElem?_append_left (by rw [x2]; exact hj)] at hv
    rw [List.getElem?_append_left (by omega)] at hu
    exact x3 j v u hv hu
  · rw [List.getElem?_append_right (by rw [x2]; omega), x2] at hv
    rw [List.getElem?_append_right (by omega), hl] at hu
    exact y3 _ v u hv hu
theorem ReadsT.unit : ReadsT w .unit [] := ⟨(), trivial, rfl, fun j a u h _ => by simp [Ty.cells] at h⟩
theorem fs_reads {g : TypeId → Ty → Bool} (hg : ∀ (tid : TypeId) (t : Ty) (n : Nat) (cs : List Value) (x : DataW H × List MemPlace), g tid t = true → cs.length = t.size → DataW.trod enc P w base spare held n tid cs = some x → ReadsT w t cs) (hsz : ∀ tid t, g tid t = true → P.cellsOf tid = t.size) {cs : List Value} :
    ∀ (l : List Field) (o : Nat) (t : Ty), fsB g l o t = true → (∀ a ∈ l, ∃ n y, DataW.trod enc P w base spare held n a.type ((cs.drop a.offset).take (P.cellsOf a.type)) = some y) → o + t.size ≤ cs.length → ReadsT w t ((cs.drop o).take t.size)
  | [], o, t, h, _, _ => by
    rw [unB_ok h, show Ty.unit.size = 0 from rfl, List.take_zero]; exact .unit
  | [a], o, t, h, hr, hl => by
    rw [fsB, Bool.and_eq_true] at h
    obtain ⟨n, y, hy⟩ := hr a (by simp)
    rw [Nat.eq_of_beq_eq_true h.1, hsz _ _ h.2] at hy
    exact hg _ _ n _ y h.2 (by rw [List.length_take, List.length_drop]; omega) hy
  | a :: b :: l, o, t, h, hr, hl => by
    obtain ⟨x, y, rfl, h'⟩ := prB_ok h
    clear h
    have h := h'
    clear h'
    rw [Bool.and_eq_true, Bool.and_eq_true] at h
    obtain ⟨n, z, hz⟩ := hr a (by simp)
    rw [Nat.eq_of_beq_eq_true h.1.1, hsz _ _ h.1.2] at hz
    have hs : (Ty.pair x y).size = x.size + y.size := rfl
    rw [hs] at hl
    have h1 := hg _ _ n _ z h.1.2 (by rw [List.length_take, List.length_drop]; omega) hz
    have h2 := fs_reads hg hsz (b :: l) (o + x.size) y h.2 (fun a ha => hr a (List.mem_cons_of_mem _ ha)) (by omega)
    rw [hs, List.take_add, List.drop_drop]
    exact h1.pair h2 (by rw [List.length_take, List.length_drop]; omega)
theorem ar_reads {g : Ty → Bool} {e : TypeId} (hg : ∀ (t : Ty) (n : Nat) (cs : List Value) (x : DataW H × List MemPlace), g t = true → cs.length = t.size → DataW.trod enc P w base spare held n e cs = some x → ReadsT w t cs) (hsz : ∀ t, g t = true → P.cellsOf e = t.size) {cs : List Value} :
    ∀ (k o : Nat) (t : Ty), arB g k t = true → (∀ i, i < k → ∃ n y, DataW.trod enc P w base spare held n e ((cs.drop (o + i * P.cellsOf e)).take (P.cellsOf e)) = some y) → o + t.size ≤ cs.length → ReadsT w t ((cs.drop o).take t.size)
  | 0, o, t, h, _, _ => by
    rw [unB_ok h, show Ty.unit.size = 0 from rfl, List.take_zero]; exact .unit
  | 1, o, t, h, hr, hl => by
    rw [arB] at h
    obtain ⟨n, y, hy⟩ := hr 0 (by omega)
    rw [hsz _ h, Nat.zero_mul, Nat.add_zero] at hy
    exact hg _ n _ y h (by rw [List.length_take, List.length_drop]; omega) hy
  | k + 2, o, t, h, hr, hl => by
    obtain ⟨x, y, rfl, h'⟩ := prB_ok h
    clear h
    have h := h'
    clear h'
    rw [Bool.and_eq_true] at h
    obtain ⟨n, z, hz⟩ := hr 0 (by omega)
    rw [hsz _ h.1, Nat.zero_mul, Nat.add_zero] at hz
    have hs : (Ty.pair x y).size = x.size + y.size := rfl
    rw [hs] at hl
    have h1 := hg _ n _ z h.1 (by rw [List.length_take, List.length_drop]; omega) hz
    have h2 := ar_reads hg hsz (k + 1) (o + x.size) y h.2 (fun i hi => by
      obtain ⟨n, z, hz⟩ := hr (i + 1) (by omega)
      refine ⟨n, z, ?_⟩
      rw [← hz, ← hsz _ h.1, Nat.add_mul, Nat.one_mul, Nat.add_assoc, Nat.add_comm (P.cellsOf e)]) (by omega)
    rw [hs, List.take_add, List.drop_drop]
    exact h1.pair h2 (by rw [List.length_take, List.length_drop]; omega)
theorem ro_len {own : Nat → Prop} {bs sz : Nat} {fr : Bool} {rows : List (List AV)} {v : Value} (h : RelD w own bs (.ro fr sz rows) v) : rows.length ≤ maxLen := by
  cases h with
  | ro fr sz rows A c f hc hm h0 h1 h2 => omega
theorem one_cell {cs : List Value} (h : cs.length = 1) : ∃ u, cs = [u] := by match cs, h with | [u], _ => exact ⟨u, rfl⟩
theorem reads_ty : ∀ (f : Nat) (tid : TypeId) (t : Ty) (n : Nat) (cs : List Value) (x : DataW H × List MemPlace), tyB P f tid t = true → cs.length = t.size → DataW.trod enc P w base spare held n tid cs = some x → ReadsT w t cs
  | 0, _, _, _, _, _, h, _, _ => by cases h
  | f + 1, tid, t, n, cs, x, h, hl, hx => by
    have hsize := tyB_size h
    rw [tyB, Bool.and_eq_true] at h
    obtain ⟨_, h⟩ := h
    split at h
    · rename_i k hu
      unfold intB at h
      split at h
      · have hk := of_decide_eq_true h
        subst hk
        obtain ⟨m, rfl, _, hwf⟩ := DataW.trod_int hu hx
        refine ⟨m, hwf, rfl, fun j a u ha hu => ?_⟩
        match j with
        | 0 => simp [Ty.cells] at ha hu; subst ha; subst hu; exact .int _ _
        | j + 1 => simp [Ty.cells] at ha
      · cases h
    · rename_i hu
      unfold boolB at h
      split at h
      · obtain ⟨m, rfl, _⟩ := DataW.trod_bool hu hx
        refine ⟨m, trivial, rfl, fun j a u ha hu => ?_⟩
        match j with
        | 0 => simp [Ty.cells] at ha hu; subst ha; subst hu; exact .bool _
        | j + 1 => simp [Ty.cells] at ha
      · cases h
    · rename_i hu
      unfold strB at h
      split at h
      · obtain ⟨s, rfl, _, hs⟩ := DataW.trod_string hu hx
        refine ⟨s.data.toList, by rw [Ty.wf, Array.length_toList]; exact hs, rfl, fun j a u ha hu => ?_⟩
        match j with
        | 0 => simp [Ty.cells] at ha hu; subst ha; subst hu; exact .str _
        | j + 1 => simp [Ty.cells] at ha
      · cases h
    · rename_i e hu
      unfold sliceB at h
      split at h
      · rename_i _ t' _
        rw [Bool.and_eq_true] at h
        have hpos : 0 < t'.size := Nat.le_of_ble_eq_true h.2
        obtain ⟨v, rfl⟩ := one_cell hl
        obtain ⟨xs, hw, hr⟩ := ro_slice (t'.cells false) t'.wf hu (tyB_size h.1) hpos (fun m cs x hl hx => reads_ty f e t' m cs x h.1 hl hx) hx
        refine ⟨xs, ⟨?_, hw⟩, rfl, fun j a u ha hu => ?_⟩
        · have := ro_len hr
          rw [List.length_map] at this
          exact this
        match j with
        | 0 => simp [Ty.cells] at ha hu; subst ha; subst hu; exact hr
        | j + 1 => simp [Ty.cells] at ha
      · cases h
    · rename_i fs hu
      obtain ⟨xs, m, _, _, _, hxl, hat⟩ := DataW.trod_struct hu hx
      have := fs_reads (cs := cs) (fun tid t n cs x h1 h2 h3 => reads_ty f tid t n cs x h1 h2 h3) (fun tid t h => tyB_size h) fs 0 t h (fun a ha => by
        obtain ⟨i, hi⟩ := List.mem_iff_getElem?.1 ha
        have hi' : i < xs.length := by rw [hxl]; exact (List.getElem?_eq_some_iff.1 hi).1
        exact ⟨m, _, by rw [hat i a (by simpa using hi), List.getElem?_eq_getElem hi']⟩) (by omega)
      rw [List.drop_zero, List.take_of_length_le (by omega)] at this
      exact this
    · rename_i k e hu
      obtain ⟨xs, m, _, _, _, hxl, hat⟩ := DataW.trod_array hu hx
      have := ar_reads (cs := cs) (e := e) (fun t n cs x h1 h2 h3 => reads_ty f e t n cs x h1 h2 h3) (fun t h => tyB_size h) k 0 t h (fun i hi => by
        have hi' : i < xs.length := by rw [hxl]; exact hi
        exact ⟨m, _, by rw [Nat.zero_add, hat i hi, List.getElem?_eq_getElem hi']⟩) (by omega)
      rw [List.drop_zero, List.take_of_length_le (by omega)] at this
      exact this
    · cases h
/-! ### Arguments -/
def aggP (P : Program) (tid : TypeId) : Bool := match P.underlying tid with
  | some (.struct _) => true
  | some (.array _ _) => true
  | _ => false
def cellP (P : Program) (tid : TypeId) : Bool := match P.underlying tid with
  | some (.int _) => true
  | some .bool => true
  | some .string => true
  | some (.slice _) => true
  | _ => false
def argB (P : Program) (tid : TypeId) (a : Ty) : Bool := match a with
  | .agg t => tyB P 9 tid t && aggP P tid
  | .int k => tyB P 9 tid (.int k) && cellP P tid
  | .bool => tyB P 9 tid .bool && cellP P tid
  | .str => tyB P 9 tid .str && cellP P tid
  | .list t => tyB P 9 tid (.list t) && cellP P tid
  | _ => false
def argsB (P : Program) : List TypeId → Ty → Bool
  | [], t => unB t
  | tid :: l, t => prB t fun a b => argB P tid a && argsB P l b
theorem okWide_arr {n b : Nat} {r : Go.Reach} {t e : TypeId} {v : Value} (ht : P.underlying t = some (.array n e)) (h : Value.okWide P w r b t v) : ∃ cs, v = .agg cs ∧ cs.size = P.cellsOf t := by
  simp only [Value.okWide, ht] at h
  obtain ⟨cs, h1, h2, _⟩ := h
  exact ⟨cs, h1, h2⟩
theorem arg_agg {tid : TypeId} {t : Ty} {v : Value} {d : DataW H} {p : List MemPlace} {b : Nat} (h : tyB P 9 tid t = true) (ha : aggP P tid = true) (hv : Value.okWide P w .any b tid v) (hd : DataW.Trod enc P w base spare held tid v d p) : ∃ x : t.den, t.wf x ∧ RelV w (Gh.none w.heap.size) (.agg (t.cells false x)) v := by
  obtain ⟨cs, rfl, hs⟩ : ∃ cs, v = .agg cs ∧ cs.size = P.cellsOf tid := by
    unfold aggP at ha
    split at ha
    · rename_i h1; exact okWide_struct h1 hv
    · rename_i h1; exact okWide_arr h1 hv
    · cases ha
  obtain ⟨n, hd⟩ := hd
  have hl : cs.toList.length = t.size := by rw [← tyB_size h, ← hs]; simp
  obtain ⟨x, x1, x2, x3⟩ := reads_ty 9 tid t n cs.toList _ h hl hd
  exact ⟨x, x1, .agg _ _ (by rw [x2, ← hl]; simp) fun i a u ha hu => .dat (x3 i a u ha (by simpa using hu))⟩
theorem arg_cell {tid : TypeId} {t : Ty} {v : Value} {d : DataW H} {p : List MemPlace} {b : Nat} (h : tyB P 9 tid t = true) (hc : cellP P tid = true) (h1 : t.size = 1) (hv : Value.okWide P w .any b tid v) (hd : DataW.Trod enc P w base spare held tid v d p) : ∃ x : t.den, t.wf x ∧ ∀ a, (t.cells false x)[0]? = some a → RelV w (Gh.none w.heap.size) a v := by
  have hd : ∃ n, DataW.trod enc P w base spare held n tid [v] = some (d, p) := by
    unfold cellP at hc
    split at hc
    · rename_i hu
      obtain ⟨m, rfl⟩ := okWide_int hu hv
      exact hd
    · rename_i hu
      obtain ⟨m, rfl⟩ := okWide_bool hu hv
      exact hd
    · rename_i hu
      obtain ⟨m, rfl⟩ := okWide_string hu hv
      exact hd
    · rename_i hu
      obtain ⟨a, n, c, rfl⟩ := okWide_slice hu hv
      exact hd
    · cases hc
  obtain ⟨n, hd⟩ := hd
  obtain ⟨x, x1, x2, x3⟩ := reads_ty 9 tid t n [v] _ h (by rw [h1]; rfl) hd
  exact ⟨x, x1, fun a ha => .dat (x3 0 a v ha rfl)⟩
theorem arg_ty {tid : TypeId} {v : Value} {d : DataW H} {p : List MemPlace} {b : Nat} : ∀ {a : Ty}, argB P tid a = true → Value.okWide P w .any b tid v → DataW.Trod enc P w base spare held tid v d p → ∃ x : a.den, a.wf x ∧ RelV w (Gh.none w.heap.size) (a.av false x) v
  | .agg t, h, hv, hd => by
    rw [argB, Bool.and_eq_true] at h
    obtain ⟨x, h1, h2⟩ := arg_agg h.1 h.2 hv hd
    exact ⟨x, h1, by rw [Ty.av]; exact h2⟩
  | .int k, h, hv, hd => by
    rw [argB, Bool.and_eq_true] at h
    obtain ⟨x, h1, h2⟩ := arg_cell h.1 h.2 rfl hv hd
    exact ⟨x, h1, h2 _ rfl⟩
  | .bool, h, hv, hd => by
    rw [argB, Bool.and_eq_true] at h
    obtain ⟨x, h1, h2⟩ := arg_cell h.1 h.2 rfl hv hd
    exact ⟨x, h1, h2 _ rfl⟩
  | .str, h, hv, hd => by
    rw [argB, Bool.and_eq_true] at h
    obtain ⟨x, h1, h2⟩ := arg_cell h.1 h.2 rfl hv hd
    exact ⟨x, h1, h2 _ rfl⟩
  | .list t, h, hv, hd => by
    rw [argB, Bool.and_eq_true] at h
    obtain ⟨x, h1, h2⟩ := arg_cell h.1 h.2 rfl hv hd
    exact ⟨x, h1, h2 _ rfl⟩
  | .unit, h, _, _ => by cases h
  | .pair _ _, h, _, _ => by cases h
  | .ptr _, h, _, _ => by cases h
/-- values one by one -/
inductive RelsV (w : World) (G : Gh) : List AV → List Value → Prop
  | nil : RelsV w G [] []
  | cons {a : AV} {v : Value} {l : List AV} {m : List Value} (h : RelV w G a v) (k : RelsV w G l m) : RelsV w G (a :: l) (v :: m)
theorem RelsV.args {G : Gh} {l : List AV} {m : List Value} (h : RelsV w G l m) : ArgsV w G l m.toArray := by
  induction h with
  | nil => exact ⟨rfl, fun i a v ha hv => by simp at ha⟩
  | cons h k ih =>
    refine ⟨by have := ih.size; simp at this ⊢; exact this, fun i a v ha hv => ?_⟩
    cases i with
    | zero => simp at ha hv; subst ha; subst hv; exact h
    | succ i => exact ih.rel i a v (by simpa using ha) (by simpa using hv)
theorem args_ty {b : Nat} : ∀ {ts : List TypeId} {σ : Ty} {vs : List Value} {ds : List (DataW H)} {ps : List MemPlace}, argsB P ts σ = true → (∀ (j : Nat) t v, ts[j]? = some t → vs[j]? = some v → Value.okWide P w .any b t v) → DataW.TrodAll enc P w base spare held ts vs ds ps → ∃ x : σ.den, σ.wf x ∧ RelsV w (Gh.none w.heap.size) (σ.avs false x) vs
  | [], σ, vs, ds, ps, h, _, hA => by
    obtain ⟨rfl, rfl, rfl⟩ := trodAll_nil hA
    have e := unB_ok h
    subst e
    exact ⟨(), trivial, .nil⟩
  | tid :: l, σ, vs, ds, ps, h, hv, hA => by
    obtain ⟨v, vs, d, ds, p, q, rfl, rfl, rfl, h0, r0⟩ := trodAll_cons hA
    obtain ⟨a, c, rfl, h'⟩ := prB_ok h
    clear h
    have h := h'
    clear h'
    rw [Bool.and_eq_true] at h
    obtain ⟨x, x1, x2⟩ := arg_ty h.1 (hv 0 tid v rfl rfl) h0
    obtain ⟨y, y1, y2⟩ := args_ty h.2 (fun j t u ht hu => hv (j + 1) t u (by simpa using ht) (by simpa using hu)) r0
    exact ⟨(x, y), ⟨x1, y1⟩, by rw [Ty.avs]; exact .cons x2 y2⟩
end
/-- a law whose residual program answers true at all data -/
theorem law_any {H : Type} {enc : TypeId × Value → H} {F : Nat} {ts : List TypeId} {σ : Ty} {f : Nat → σ.den → Option (Bool × Unit)} {nm : Nat} (hc : CtrOk Try.prog F ⟨σ, .pair .bool .unit, f, nm⟩) (hB : argsB Try.prog ts σ = true) (hp : ∀ x : σ.den, σ.wf x → f FU x = some (true, ())) {W : World} {b : Nat} {args : List Value} {ds : List (DataW H)} {ps : List MemPlace}
    (hv : ∀ (j : Nat) t v, ts[j]? = some t → args[j]? = some v → Value.okWide Try.prog W .any b t v) (hA : DataW.TrodAll enc Try.prog W 0 (fun _ => true) true ts args ds ps) :
    Calls Try.prog F args.toArray W fun e W' => e = .returned (.bool true) ∧ Below W.heap.size W W' := by
  obtain ⟨x, hx, hr⟩ := args_ty hB hv hA
  exact AF.yes (hc FU x (true, ()) (hp x hx)) hr.args
end Go.Proofs.Ytelpkjellakigaa
/- Bytes of a bitmap that is an argument. -/
namespace Go.Proofs.Ytelpkjellakigaa
open Go
namespace Hm
theorem wf_u8 {x : Int} (h : (Lit.int .u8 x).wf = true) : 0 ≤ x ∧ x ≤ 255 := by
  unfold Lit.wf at h
  simpa [IntKind.min, IntKind.max, IntKind.signed, IntKind.bits] using h
theorem wfB {l : List Int} (h : ∀ x ∈ l, (Lit.int .u8 x).wf = true) : Bytes l := fun d hd => wf_u8 (h d hd)
end Hm
end Go.Proofs.Ytelpkjellakigaa
/- A call that leaves no other goroutine: the sentence about those that are only leaving. No program in sight. -/
namespace Go.Proofs.Ytelpkjellakigaa
open Go
theorem quiet_leaving {P : Program} {m : Machine} (h : m.quiet) : m.OnlyLeaving P := by
  obtain ⟨h1, h2⟩ := h
  refine ⟨fun g hg => ⟨0, ?_⟩, h2⟩
  unfold Machine.othersDone at h1
  have h3 := List.all_eq_true.1 h1 g hg
  exact eq_of_beq h3
theorem leaving_of_handed {a : Go.Assume} {C : Go.Checked} {os : Go.Os} {f : FuncId} {r : Go.Reach} {Pre : World → Array Value → Prop} {Post : World → Array Value → Value → World → Prop}
    (h : ReturnsInHanded a C os f r Pre Post) : ReturnsInLeavingWide a C os f r Pre Post := fun enter => by
  obtain ⟨e1, own, started, wit, runs⟩ := h enter
  refine ⟨e1, own, started, wit, fun w tape i hi => ?_⟩
  obtain ⟨N, v, w', h1, h2, h3, h4, ⟨M, last, g1, g2, q, ho, eh⟩, h6⟩ := runs w tape i hi
  exact ⟨N, v, w', h1, h2, h3, h4, ⟨M, last, g1, g2, ho, quiet_leaving q, eh⟩, h6⟩
end Go.Proofs.Ytelpkjellakigaa
/- HalftoneMeans: for every input this law returns true and leaves its arguments as they were. -/
namespace Go.Proofs.Ytelpkjellakigaa
open Go.ChangeShapes Go.WideShapes Go.ChangeAt Go.RowKit

set_option maxRecDepth 100000 in
theorem halftoneMeans_lifted (os : Os) (started : os.Started) (H : Type) (enc : TypeId × Value → H) :
    ReturnsInHanded {} Try.checked os 6 .any (Rows.halftoneMeansSpec.pre6 enc Try.prog Try.f6 Rows.halftoneMeansRow.domain false) (Rows.halftoneMeansSpec.post enc Try.prog Try.f6 false true false false) := by
  refine law_lifted started (by kernel_rfl) Try.func6
    (ChangeSpec.witness6 (enc := enc) (C := Try.checked) false ⟨#[], #[.agg #[.int .i64 0, .int .i64 0, .slice none 0 0], .agg #[.int .i64 0, .int .i64 0, .int .i64 0]], []⟩ 8 (by kernel_rfl) (by kernel_rfl) (by kernel_rfl) (by kernel_rfl)) rfl rfl (by kernel_rfl)
    (fun ds h => by rw [Try.params6] at h; match ds, h with | [_, _], _ => rfl) ?_
  intro W base args ds ps hval hA hsz hlt
  rw [Try.params6] at hA hval
  exact law_any law_HalftoneMeans_ok (by kernel_rfl) ((fun x hx => Hm.halftoneMeans_r (Nat.le_of_eq FU_val.symm) (Hm.wfB hx.1.2.2.2) x.2.1.1 x.2.1.2.1 x.2.1.2.2 rfl)) (fun j t v ht hv => hval j t v (by simpa using ht) hv) hA

theorem halftoneMeans_holds : Rows.HalftoneMeansSaid :=
  OpenClaim.holds_of_wide_leaving 6 Try.f6 rfl rfl rfl rfl rfl rfl rfl ⟨rfl, rfl, rfl, rfl, rfl⟩ rfl rfl rfl rfl rfl (by kernel_rfl) Try.func6 (by kernel_rfl)
    (of_decide_eq_true (by kernel_rfl)) (by unfold Func.isWrapper; first | (rw [if_pos (by decide +kernel)]; kernel_rfl) | (rw [if_neg (by decide +kernel)]; exact ⟨rfl, rfl⟩))
    (fun os started H enc _ => leaving_of_handed (halftoneMeans_lifted os started H enc))
end Go.Proofs.Ytelpkjellakigaa
