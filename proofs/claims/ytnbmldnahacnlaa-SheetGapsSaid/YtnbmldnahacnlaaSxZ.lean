/- A run of the abstract machine by one computed function: regions that draw, control, functions. No program in sight. -/
import Derived.Test.YtnbmldnahacnlaaSxY
namespace Go.Proofs.Ytnbmldnahacnlaa
open Go Go.RowKit

/-! ### Arguments and results as data, tested -/
def mapO (f : AV → Option AV) : List AV → Option (List AV)
  | [] => some []
  | a :: l => match f a, mapO f l with
    | some b, some m => some (b :: m)
    | _, _ => none
def frzC (hp : List (Nat × AB)) : Nat → AV → Option AV
  | 0, _ => none
  | f + 1, a => match a with
    | .int k n => some (.int k n)
    | .bool b => some (.bool b)
    | .str s => some (.str s)
    | .nilp => some .nilp
    | .nils => some .nils
    | .nilf => some .nilf
    | .any => some .any
    | .ro fr sz rows => some (AV.old (.ro fr sz rows))
    | .osl id n => match look .dead hp id with
      | .row sz rows _ => bif Nat.beq n rows.length && (rows.all fun row => row.all isD) then some (.ro false sz (oldRR rows)) else none
      | _ => none
    | .agg cs => match mapO (frzC hp f) cs with
      | some cs' => some (.agg cs')
      | none => none
    | .box id o => match look .dead hp id with
      | .box cs _ => match mapO (frzC hp f) cs with
        | some (b :: l) => bif Nat.beq o 0 && (b :: l).all isD then some (.peek (b :: l) 0) else none
        | _ => none
      | _ => none
    | .elt id n i j => match look .dead hp id with
      | .row _ rows _ => match rows[i]? with
        | some cs => match mapO (frzC hp f) cs with
          | some (b :: l) => bif Nat.beq n rows.length && (b :: l).all isD then some (.peek (b :: l) j) else none
          | _ => none
        | none => none
      | _ => none
    | .fn F cs => match mapO (frzC hp f) cs with
      | some cs' => some (.fn F cs')
      | none => none
    | .peek cs j => match mapO (frzC hp f) cs with
      | some (b :: l) => bif cs.all isD && (b :: l).all isD then some (.peek (b :: l) j) else none
      | _ => none
    | _ => none
section
variable {hp : List (Nat × AB)}
theorem frzC_ok : ∀ (f : Nat) (a b : AV), frzC hp f a = some b → FrzA hp a b
  | 0, a, b, h => by rw [frzC] at h; cases h
  | f + 1, a, b, h => by
    have hgo : ∀ (l m : List AV), mapO (frzC hp f) l = some m → FrzL hp l m := by
      intro l
      induction l with
      | nil => intro m hm; rw [mapO] at hm; injection hm with hm; subst hm; exact .nil
      | cons x l ih =>
        intro m hm
        rw [mapO] at hm
        split at hm
        · rename_i y m' h1 h2
          injection hm with hm
          subst hm
          exact .cons (frzC_ok f x y h1) (ih m' h2)
        · cases hm
    cases a <;> simp only [frzC] at h <;> try (cases h; done)
    case int => injection h with h; subst h; exact .int
    case bool => injection h with h; subst h; exact .bool
    case str => injection h with h; subst h; exact .str
    case nilp => injection h with h; subst h; exact .dat _ rfl _ (by rw [AV.old])
    case nils => injection h with h; subst h; exact .dat _ rfl _ (by rw [AV.old])
    case nilf => injection h with h; subst h; exact .dat _ rfl _ (by rw [AV.old])
    case any => injection h with h; subst h; exact .dat _ rfl _ (by rw [AV.old])
    case ro => injection h with h; subst h; exact .dat _ rfl _ rfl
    case osl id n =>
      split at h
      · rename_i sz rows e h1
        cases hc : (Nat.beq n rows.length && (rows.all fun row => row.all isD)) with
        | false => rw [hc] at h; cases h
        | true =>
          rw [hc] at h
          rw [Bool.and_eq_true] at hc
          injection h with h
          subst h
          exact .osl id n sz rows _ e h1 (Nat.eq_of_beq_eq_true hc.1) (fun row hr a ha => List.all_eq_true.1 (List.all_eq_true.1 hc.2 row hr) a ha) rfl
      · cases h
    case agg cs =>
      split at h
      · rename_i cs' h1
        injection h with h
        subst h
        exact .agg' (hgo _ _ h1)
      · cases h
    case elt id n i j =>
      split at h
      · rename_i sz rows e h1
        split at h
        · rename_i cs h2
          split at h
          · rename_i b l h3
            cases hc : (Nat.beq n rows.length && (b :: l).all isD) with
            | false => rw [hc] at h; cases h
            | true =>
              rw [hc] at h
              rw [Bool.and_eq_true] at hc
              injection h with h
              subst h
              have := hgo _ _ h3
              exact .peekElt id n i j sz rows cs _ e h1 (Nat.eq_of_beq_eq_true hc.1) h2 this.len this.at (fun b hb => List.all_eq_true.1 hc.2 b hb) (by simp)
          · cases h
        · cases h
      · cases h
    case fn F cs =>
      split at h
      · rename_i cs' h1
        injection h with h
        subst h
        have := hgo _ _ h1
        exact .fn _ _ _ this.len this.at
      · cases h
    case box id o =>
      split at h
      · rename_i cs e h1
        split at h
        · rename_i b l h2
          cases hc : (Nat.beq o 0 && (b :: l).all isD) with
          | false => rw [hc] at h; cases h
          | true =>
            rw [hc] at h
            rw [Bool.and_eq_true] at hc
            injection h with h
            subst h
            have := Nat.eq_of_beq_eq_true hc.1
            subst this
            exact .peekB h1 hc.2 (by simp) (hgo _ _ h2)
        · cases h
      · cases h
    case peek cs j =>
      split at h
      · rename_i b l h2
        cases hc : (cs.all isD && (b :: l).all isD) with
        | false => rw [hc] at h; cases h
        | true =>
          rw [hc] at h
          rw [Bool.and_eq_true] at hc
          injection h with h
          subst h
          exact .peekP hc.1 hc.2 (by simp) (hgo _ _ h2)
      · cases h
def frzLC (hp : List (Nat × AB)) (f : Nat) : List AV → Option (List AV)
  | [] => some []
  | a :: l => match frzC hp f a, frzLC hp f l with
    | some b, some m => some (b :: m)
    | _, _ => none
theorem frzLC_ok (f : Nat) : ∀ (l m : List AV), frzLC hp f l = some m → FrzL hp l m
  | [], m, h => by injection h with h; subst h; exact .nil
  | x :: l, m, hm => by
    rw [frzLC] at hm
    split at hm
    · rename_i y m' h1 h2
      injection hm with hm
      subst hm
      exact .cons (frzC_ok f x y h1) (frzLC_ok f l m' h2)
    · cases hm
theorem frzR_exact : ∀ (y : AV), exactA y = true → FrzR hp y y
  | .int .., _ => .dat _ rfl (fun _ _ _ => by simp)
  | .bool _, _ => .dat _ rfl (fun _ _ _ => by simp)
  | .str _, _ => .dat _ rfl (fun _ _ _ => by simp)
  | .nilp, _ => .dat _ rfl (fun _ _ _ => by simp)
  | .nils, _ => .dat _ rfl (fun _ _ _ => by simp)
  | .nilf, _ => .dat _ rfl (fun _ _ _ => by simp)
  | .agg cs, h => .agg _ _ rfl fun i a b ha hb => by
    rw [ha] at hb
    injection hb with hb
    subst hb
    have hm := List.mem_of_getElem? ha
    exact frzR_exact a (exactL_at (by simpa [exactA] using h) ha)
  | .tup cs, h => .tup _ _ rfl fun i a b ha hb => by
    rw [ha] at hb
    injection hb with hb
    subst hb
    have hm := List.mem_of_getElem? ha
    exact frzR_exact a (exactL_at (by simpa [exactA] using h) ha)
  | .any, h => by simp [exactA] at h
  | .und, h => by simp [exactA] at h
  | .ro .., h => by simp [exactA] at h
  | .box .., h => by simp [exactA] at h
  | .elt .., h => by simp [exactA] at h
  | .osl .., h => by simp [exactA] at h
  | .peek .., h => by simp [exactA] at h
  | .fn .., h => by simp [exactA] at h
termination_by y => SizeOf.sizeOf y
decreasing_by all_goals (have := List.sizeOf_lt_of_mem hm; simp; omega)
end

end Go.Proofs.Ytnbmldnahacnlaa
