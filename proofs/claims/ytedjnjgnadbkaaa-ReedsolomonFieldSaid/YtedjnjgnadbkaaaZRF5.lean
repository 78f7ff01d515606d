/- ReedsolomonField: for every input this law returns true and leaves its arguments as they were. -/
import Derived.Test.YtedjnjgnadbkaaaZRF4
import Derived.Laws.Bits64b
import Derived.Test.YtedjnjgnadbkaaaRows
import Derived.WalkKit
import Derived.ProofKit
import Derived.SizedLaws
import Derived.BigQuiet
import Derived.Deep.QuietTactic
import Derived.Deep.Slices
import Derived.OpenShut
/- The field of 256 elements: what Mul, Inverse and the document's Times compute. -/
namespace Go.Proofs.Ytedjnjgnadbkaaa
open Go Go.RowKit
set_option linter.unusedSimpArgs false
set_option linter.unusedSectionVars false
set_option linter.unusedVariables false
/-- a loop through the states st 0, st 1, .. st n -/
theorem stLoop {X β : Type} {f : (X → Option β) → X → Option β} {n fu : Nat} (hn : n < fu) {st : Nat → X} {x0 : X} {fin : Option β} (h0 : st 0 = x0)
    (step : ∀ j (i : Nat), i < n → f j (st i) = j (st (i + 1))) (last : ∀ j, f j (st n) = fin) : loopF f fu x0 = fin := by
  have key := errGen (f := f) (n := n) (st := st) (E := fun _ => 0) (out := fun _ => none) (fin := fin) (fun j i hi _ => by rw [if_pos rfl]; exact step j i hi) (fun _ => last) fu 0 (by omega) (by omega) (by omega)
  rw [if_pos (firstE_all _ _ fun _ _ _ => rfl), h0] at key
  exact key
theorem bits_xor_u8 (a b : Nat) (ha : a < 256) (hb : b < 256) : bits .xor .u8 (a : Int) (b : Int) = ((a ^^^ b : Nat) : Int) := by
  have hx : a ^^^ b < 2 ^ 8 := Nat.xor_lt_two_pow (by omega) (by omega)
  have h1 : (BitVec.ofInt 8 (a : Int)).toNat = a := by
    rw [BitVec.ofInt_natCast, BitVec.toNat_ofNat]; exact Nat.mod_eq_of_lt (by omega)
  have h2 : (BitVec.ofInt 8 (b : Int)).toNat = b := by
    rw [BitVec.ofInt_natCast, BitVec.toNat_ofNat]; exact Nat.mod_eq_of_lt (by omega)
  show IntKind.u8.wrap ((BitVec.ofInt 8 (a : Int) ^^^ BitVec.ofInt 8 (b : Int)).toNat : Int) = _
  rw [BitVec.toNat_xor, h1, h2]
  simp [IntKind.wrap, IntKind.bits, IntKind.signed]
  omega
theorem bits_and_u8 (a b : Nat) (ha : a < 256) (hb : b < 256) : bits .and .u8 (a : Int) (b : Int) = ((a &&& b : Nat) : Int) := by
  have hx : a &&& b < 2 ^ 8 := Nat.and_lt_two_pow _ (by omega)
  have h1 : (BitVec.ofInt 8 (a : Int)).toNat = a := by
    rw [BitVec.ofInt_natCast, BitVec.toNat_ofNat]; exact Nat.mod_eq_of_lt (by omega)
  have h2 : (BitVec.ofInt 8 (b : Int)).toNat = b := by
    rw [BitVec.ofInt_natCast, BitVec.toNat_ofNat]; exact Nat.mod_eq_of_lt (by omega)
  show IntKind.u8.wrap ((BitVec.ofInt 8 (a : Int) &&& BitVec.ofInt 8 (b : Int)).toNat : Int) = _
  rw [BitVec.toNat_and, h1, h2]
  simp [IntKind.wrap, IntKind.bits, IntKind.signed]
  omega
theorem bits_xor_i (a b : Nat) (ha : a < 32768) (hb : b < 32768) : bits .xor .i64 (a : Int) (b : Int) = ((a ^^^ b : Nat) : Int) := by
  have hx : a ^^^ b < 2 ^ 15 := Nat.xor_lt_two_pow (by omega) (by omega)
  have h1 : (BitVec.ofInt 64 (a : Int)).toNat = a := by
    rw [BitVec.ofInt_natCast, BitVec.toNat_ofNat]; exact Nat.mod_eq_of_lt (by omega)
  have h2 : (BitVec.ofInt 64 (b : Int)).toNat = b := by
    rw [BitVec.ofInt_natCast, BitVec.toNat_ofNat]; exact Nat.mod_eq_of_lt (by omega)
  show IntKind.i64.wrap ((BitVec.ofInt 64 (a : Int) ^^^ BitVec.ofInt 64 (b : Int)).toNat : Int) = _
  rw [BitVec.toNat_xor, h1, h2]
  exact wr64 (by omega) (by omega)
theorem bits_and1_i (a : Nat) (ha : a < 32768) : bits .and .i64 (a : Int) 1 = ((a % 2 : Nat) : Int) := by
  have h1 : (BitVec.ofInt 64 (a : Int)).toNat = a := by
    rw [BitVec.ofInt_natCast, BitVec.toNat_ofNat]; exact Nat.mod_eq_of_lt (by omega)
  show IntKind.i64.wrap ((BitVec.ofInt 64 (a : Int) &&& BitVec.ofInt 64 1).toNat : Int) = _
  rw [BitVec.toNat_and, h1, show (BitVec.ofInt 64 1).toNat = 1 from rfl, Nat.and_one_is_mod]
  exact wr64 (by omega) (by omega)
theorem bits_and1_u8 (a : Nat) (ha : a < 256) : bits .and .u8 (a : Int) 1 = ((a % 2 : Nat) : Int) := by
  have := bits_and_u8 a 1 ha (by decide)
  rw [Nat.and_one_is_mod] at this
  exact this
/-! ### the fast functions -/
def xtN (a : Nat) : Nat := if a < 128 then 2 * a else (2 * a - 256) ^^^ 29
def mulS : Nat → Nat → Nat → Nat → Nat
  | 0, p, _, _ => p
  | f + 1, p, a, b => mulS f (if b % 2 = 1 then p ^^^ a else p) (xtN a) (b / 2)
def mulN (a b : Nat) : Nat := mulS 8 0 a b
def powS : Nat → Nat → Nat → Nat → Nat
  | 0, p, _, _ => p
  | f + 1, p, a, n => powS f (if n % 2 = 1 then mulN p a else p) (mulN a a) (n / 2)
def tAN (a b : Nat) : Nat → Nat
  | 0 => 0
  | i + 1 => if b / 2 ^ i % 2 = 1 then tAN a b i ^^^ (a * 2 ^ i) else tAN a b i
def tQN (p : Nat) : Nat → Nat
  | 0 => p
  | j + 1 => if tQN p j / 2 ^ (14 - j) % 2 = 1 then tQN p j ^^^ (285 * 2 ^ (6 - j)) else tQN p j
def timN (a b : Nat) : Nat := tQN (tAN a b 8) 7 % 256
theorem xt_lt {a : Nat} (h : a < 256) : xtN a < 256 := by
  unfold xtN
  split
  · omega
  · exact Nat.xor_lt_two_pow (n := 8) (by omega) (by decide)
theorem mulS_lt : ∀ f {p a b : Nat}, p < 256 → a < 256 → mulS f p a b < 256
  | 0, _, _, _, h, _ => h
  | f + 1, p, a, b, hp, ha => by
    rw [mulS]
    refine mulS_lt f ?_ (xt_lt ha)
    split
    · exact Nat.xor_lt_two_pow (n := 8) hp ha
    · exact hp
theorem mulN_lt {a b : Nat} (ha : a < 256) : mulN a b < 256 := mulS_lt 8 (by decide) ha
theorem mulS_zero : ∀ f (p a : Nat), mulS f p a 0 = p
  | 0, _, _ => rfl
  | f + 1, p, a => by rw [mulS, if_neg (by decide)]; exact mulS_zero f _ _
theorem powS_zero : ∀ f (p a : Nat), powS f p a 0 = p
  | 0, _, _ => rfl
  | f + 1, p, a => by rw [powS, if_neg (by decide)]; exact powS_zero f _ _
theorem xt_bits : ∀ a : Nat, a < 256 → bits .xor .u8 (IntKind.u8.wrap ((a : Int) * 2 ^ (Int.toNat (1 : Int)))) (bits .and .u8 (29 : Int) (IntKind.u8.wrap (-((a : Int) / 2 ^ (Int.toNat (7 : Int)))))) = (xtN a : Int) := by decide +kernel
theorem neg_bit : ∀ b : Nat, b < 256 → IntKind.u8.wrap (-(bits .and .u8 (b : Int) (1 : Int))) = ((if b % 2 = 1 then 255 else 0 : Nat) : Int) := by decide +kernel
theorem and_255 : ∀ a : Nat, a < 256 → a &&& 255 = a := by decide +kernel
section
variable {fu : Nat} (hf : 18446744073709551616 ≤ fu)
include hf
theorem mul_r {a b : Nat} (ha : a < 256) (hb : b < 256) : reedsolomon_Mul_r fu ((a : Int), ((b : Int), ())) = some ((mulN a b : Int), ()) := by
  unfold reedsolomon_Mul_r
  refine postLoop (f := reedsolomon_Mul_l1 fu) (fun x => x.2.2.toNat) (fun x => ∃ f p a' b' : Nat, x = ((p : Int), ((a' : Int), (b' : Int))) ∧ b' < 2 ^ f ∧ f ≤ 8 ∧ p < 256 ∧ a' < 256 ∧ mulS f p a' b' = mulN a b) (fun r => r = some ((mulN a b : Int), ())) ?_ fu _ ⟨8, 0, a, b, rfl, hb, Nat.le_refl _, by decide, ha, rfl⟩ (by simp only; omega)
  rintro j _ ⟨f, p, a', b', rfl, h1, h2, h3, h4, h5⟩
  by_cases c : b' = 0
  · subst c
    refine .inr ?_
    rw [← h5, mulS_zero]
    unfold reedsolomon_Mul_l1
    simp (disch := omega) only [joinF_eq, bindO_some, s_wr, s_td, s_tm, s_pos, s_neg, cond_true, cond_false, Bool.not_true, Bool.not_false, Bool.true_and, Bool.and_true, Bool.false_and, Bool.and_false, bne_self_eq_false, decide_true, decide_false, Int.toNat_natCast]
  · obtain ⟨f, rfl⟩ : ∃ f', f = f' + 1 := ⟨f - 1, by
      rcases Nat.eq_zero_or_pos f with e | e
      · subst e; omega
      · omega⟩
    have hb256 : b' < 256 := Nat.lt_of_lt_of_le h1 (Nat.pow_le_pow_right (n := 2) (by decide) h2)
    refine .inl ⟨(((if b' % 2 = 1 then p ^^^ a' else p : Nat) : Int), ((xtN a' : Int), ((b' / 2 : Nat) : Int))), ⟨f, _, _, _, rfl, by rw [Nat.pow_succ] at h1; omega, by omega, ?_, xt_lt h4, by rw [← h5, mulS]⟩, by simp only; omega, ?_⟩
    · split
      · exact Nat.xor_lt_two_pow (n := 8) h3 h4
      · exact h3
    · have e1 : bits .xor .u8 (p : Int) (bits .and .u8 (a' : Int) (IntKind.u8.wrap (-(bits .and .u8 (b' : Int) (1 : Int))))) = ((if b' % 2 = 1 then p ^^^ a' else p : Nat) : Int) := by
        rw [neg_bit b' hb256]
        by_cases e : b' % 2 = 1
        · rw [if_pos e, if_pos e, bits_and_u8 a' 255 h4 (by decide), and_255 a' h4, bits_xor_u8 p a' h3 h4]
        · rw [if_neg e, if_neg e, bits_and_u8 a' 0 h4 (by decide), Nat.and_zero, bits_xor_u8 p 0 h3 (by decide), Nat.xor_zero]
      have e2 : ((b' : Int) / 2 ^ (Int.toNat (1 : Int))) = ((b' / 2 : Nat) : Int) := by
        show (b' : Int) / 2 = _
        omega
      unfold reedsolomon_Mul_l1
      simp (disch := omega) only [joinF_eq, bindO_some, s_wr, s_td, s_tm, s_pos, s_neg, cond_true, cond_false, Bool.not_true, Bool.not_false, Bool.true_and, Bool.and_true, Bool.false_and, Bool.and_false, bne_self_eq_false, decide_true, decide_false, Int.toNat_natCast]
      rw [e1, xt_bits a' h4, e2]
theorem pow_r {a : Nat} {n : Nat} (ha : a < 256) (hn : n < 256) : reedsolomon_power_r fu ((a : Int), ((n : Int), ())) = some ((powS 8 1 a n : Int), ()) := by
  unfold reedsolomon_power_r
  refine postLoop (f := reedsolomon_power_l1 fu) (fun x => x.2.2.toNat) (fun x => ∃ f p a' n' : Nat, x = ((p : Int), ((a' : Int), (n' : Int))) ∧ n' < 2 ^ f ∧ f ≤ 8 ∧ p < 256 ∧ a' < 256 ∧ powS f p a' n' = powS 8 1 a n) (fun r => r = some ((powS 8 1 a n : Int), ())) ?_ fu _ ⟨8, 1, a, n, rfl, hn, Nat.le_refl _, by decide, ha, rfl⟩ (by simp only; omega)
  rintro j _ ⟨f, p, a', b', rfl, h1, h2, h3, h4, h5⟩
  by_cases c : b' = 0
  · subst c
    refine .inr ?_
    rw [← h5, powS_zero]
    unfold reedsolomon_power_l1
    simp (disch := omega) only [joinF_eq, bindO_some, s_wr, s_td, s_tm, s_pos, s_neg, cond_true, cond_false, Bool.not_true, Bool.not_false, Bool.true_and, Bool.and_true, Bool.false_and, Bool.and_false, bne_self_eq_false, decide_true, decide_false, Int.toNat_natCast]
  · obtain ⟨f, rfl⟩ : ∃ f', f = f' + 1 := ⟨f - 1, by
      rcases Nat.eq_zero_or_pos f with e | e
      · subst e; omega
      · omega⟩
    have hb256 : b' < 256 := Nat.lt_of_lt_of_le h1 (Nat.pow_le_pow_right (n := 2) (by decide) h2)
    refine .inl ⟨(((if b' % 2 = 1 then mulN p a' else p : Nat) : Int), ((mulN a' a' : Int), ((b' / 2 : Nat) : Int))), ⟨f, _, _, _, rfl, by rw [Nat.pow_succ] at h1; omega, by omega, ?_, mulN_lt h4, by rw [← h5, powS]⟩, by simp only; omega, ?_⟩
    · split
      · exact mulN_lt h3
      · exact h3
    · have e2 : ((b' : Int) / 2 ^ (Int.toNat (1 : Int))) = ((b' / 2 : Nat) : Int) := by
        show (b' : Int) / 2 = _
        omega
      have e3 := bits_and1_i b' (by omega)
      unfold reedsolomon_power_l1
      by_cases e : b' % 2 = 1
      · rw [if_pos e]
        simp (disch := omega) only [joinF_eq, bindO_some, s_wr, s_td, s_tm, s_pos, s_neg, cond_true, cond_false, Bool.not_true, Bool.not_false, Bool.true_and, Bool.and_true, Bool.false_and, Bool.and_false, bne_self_eq_false, decide_true, decide_false, Int.toNat_natCast, mul_r hf h3 h4]
        unfold reedsolomon_power_j2
        simp (disch := omega) only [joinF_eq, bindO_some, s_wr, s_td, s_tm, s_pos, s_neg, cond_true, cond_false, Bool.not_true, Bool.not_false, Bool.true_and, Bool.and_true, Bool.false_and, Bool.and_false, bne_self_eq_false, decide_true, decide_false, Int.toNat_natCast, mul_r hf h4 h4]
        rw [e2]
      · rw [if_neg e]
        simp (disch := omega) only [joinF_eq, bindO_some, s_wr, s_td, s_tm, s_pos, s_neg, cond_true, cond_false, Bool.not_true, Bool.not_false, Bool.true_and, Bool.and_true, Bool.false_and, Bool.and_false, bne_self_eq_false, decide_true, decide_false, Int.toNat_natCast]
        unfold reedsolomon_power_j2
        simp (disch := omega) only [joinF_eq, bindO_some, s_wr, s_td, s_tm, s_pos, s_neg, cond_true, cond_false, Bool.not_true, Bool.not_false, Bool.true_and, Bool.and_true, Bool.false_and, Bool.and_false, bne_self_eq_false, decide_true, decide_false, Int.toNat_natCast, mul_r hf h4 h4]
        rw [e2]
theorem tA_lt {a b : Nat} (ha : a < 256) : ∀ i, i ≤ 8 → tAN a b i < 32768
  | 0, _ => by show (0 : Nat) < 32768; decide
  | i + 1, hi => by
    have := tA_lt (a := a) (b := b) ha i (by omega)
    have hp : a * 2 ^ i < 32768 := by
      have h1 := Nat.pow_le_pow_right (n := 2) (by decide) (show i ≤ 7 by omega)
      have h2 := Nat.mul_le_mul (show a ≤ 255 by omega) h1
      omega
    rw [tAN]
    split
    · exact Nat.xor_lt_two_pow (n := 15) this hp
    · exact this
theorem tQ_lt {p : Nat} (hp : p < 32768) : ∀ j, j ≤ 7 → tQN p j < 32768
  | 0, _ => hp
  | j + 1, hj => by
    have := tQ_lt hp j (by omega)
    have h2 : 285 * 2 ^ (6 - j) < 32768 := by
      have h1 := Nat.pow_le_pow_right (n := 2) (by decide) (show 6 - j ≤ 6 by omega)
      omega
    rw [tQN]
    split
    · exact Nat.xor_lt_two_pow (n := 15) this h2
    · exact this
theorem div_cast {a i : Nat} : (a : Int) / 2 ^ i = ((a / 2 ^ i : Nat) : Int) := by rw [Int.natCast_ediv, Int.natCast_pow]; rfl
theorem mul_cast {a i : Nat} : (a : Int) * 2 ^ i = ((a * 2 ^ i : Nat) : Int) := by rw [Int.natCast_mul, Int.natCast_pow]; rfl
theorem times_r {a b : Nat} (ha : a < 256) (hb : b < 256) : R_Times_r fu ((a : Int), ((b : Int), ())) = some ((timN a b : Int), ()) := by
  unfold R_Times_r
  refine stLoop (n := 8) (st := fun i => ((tAN a b i : Int), (i : Int))) (by omega) rfl (fun j i hi => ?_) (fun j => ?_)
  · have t1 := tA_lt hf (a := a) (b := b) ha i (by omega)
    have hp : a * 2 ^ i < 32768 := by
      have h1 := Nat.pow_le_pow_right (n := 2) (by decide) (show i ≤ 7 by omega)
      have h2 := Nat.mul_le_mul (show a ≤ 255 by omega) h1
      omega
    have e1 : bits .and .u8 ((b : Int) / 2 ^ i) 1 = ((b / 2 ^ i % 2 : Nat) : Int) := by
      rw [div_cast hf, bits_and1_u8 _ (Nat.lt_of_le_of_lt (Nat.div_le_self _ _) hb)]
    have e2 : bits .xor .i64 (tAN a b i : Int) (IntKind.i64.wrap ((a : Int) * 2 ^ i)) = ((tAN a b i ^^^ (a * 2 ^ i) : Nat) : Int) := by
      rw [mul_cast hf, wr64 (by omega) (by omega), bits_xor_i _ _ t1 hp]
    have e3 : IntKind.i64.wrap (a : Int) = (a : Int) := wr64 (by omega) (by omega)
    unfold R_Times_l1
    by_cases g : b / 2 ^ i % 2 = 1
    · have e1 : bits .and .u8 ((b : Int) / 2 ^ i) 1 = 1 := by rw [e1, g]; rfl
      have e5 : tAN a b (i + 1) = tAN a b i ^^^ (a * 2 ^ i) := by rw [tAN, if_pos g]
      rw [e5]
      simp (disch := omega) only [joinF_eq, bindO_some, s_wr, s_td, s_tm, s_pos, s_neg, cond_true, cond_false, Bool.not_true, Bool.not_false, Bool.true_and, Bool.and_true, Bool.false_and, Bool.and_false, bne_self_eq_false, decide_true, decide_false, Int.toNat_natCast]
      unfold R_Times_j2
      simp (disch := omega) only [joinF_eq, bindO_some, s_wr, s_td, s_tm, s_pos, s_neg, cond_true, cond_false, Bool.not_true, Bool.not_false, Bool.true_and, Bool.and_true, Bool.false_and, Bool.and_false, bne_self_eq_false, decide_true, decide_false, Int.toNat_natCast]
      rw [e2]
      rfl
    · have e1 : bits .and .u8 ((b : Int) / 2 ^ i) 1 = 0 := by
        rw [e1, show b / 2 ^ i % 2 = 0 by have := Nat.mod_lt (b / 2 ^ i) (show 0 < 2 by decide); omega]; rfl
      have e5 : tAN a b (i + 1) = tAN a b i := by rw [tAN, if_neg g]
      rw [e5]
      simp (disch := omega) only [joinF_eq, bindO_some, s_wr, s_td, s_tm, s_pos, s_neg, cond_true, cond_false, Bool.not_true, Bool.not_false, Bool.true_and, Bool.and_true, Bool.false_and, Bool.and_false, bne_self_eq_false, decide_true, decide_false, Int.toNat_natCast]
      unfold R_Times_j2
      simp (disch := omega) only [joinF_eq, bindO_some, s_wr, s_td, s_tm, s_pos, s_neg, cond_true, cond_false, Bool.not_true, Bool.not_false, Bool.true_and, Bool.and_true, Bool.false_and, Bool.and_false, bne_self_eq_false, decide_true, decide_false, Int.toNat_natCast]
      rfl
  · unfold R_Times_l1
    simp (disch := omega) only [joinF_eq, bindO_some, s_wr, s_td, s_tm, s_pos, s_neg, cond_true, cond_false, Bool.not_true, Bool.not_false, Bool.true_and, Bool.and_true, Bool.false_and, Bool.and_false, bne_self_eq_false, decide_true, decide_false, Int.toNat_natCast]
    have t8 := tA_lt hf (a := a) (b := b) ha 8 (Nat.le_refl _)
    unfold timN
    generalize tAN a b 8 = p at *
    refine stLoop (n := 7) (st := fun k => ((tQN p k : Int), (14 : Int) - (k : Int))) (by omega) rfl (fun j' k hk => ?_) (fun j' => ?_)
    · have t1 := tQ_lt hf t8 k (by omega)
      have h2 : 285 * 2 ^ (6 - k) < 32768 := by
        have h1 := Nat.pow_le_pow_right (n := 2) (by decide) (show 6 - k ≤ 6 by omega)
        omega
      have ek : (14 : Int) - (k : Int) = ((14 - k : Nat) : Int) := by omega
      have ek2 : (14 : Int) - (k : Int) - 8 = ((6 - k : Nat) : Int) := by omega
      have e1 : bits .and .i64 ((tQN p k : Int) / 2 ^ (14 - k)) 1 = ((tQN p k / 2 ^ (14 - k) % 2 : Nat) : Int) := by
        rw [div_cast hf, bits_and1_i _ (Nat.lt_of_le_of_lt (Nat.div_le_self _ _) t1)]
      have e2 : bits .xor .i64 (tQN p k : Int) (IntKind.i64.wrap ((285 : Int) * 2 ^ (6 - k))) = ((tQN p k ^^^ (285 * 2 ^ (6 - k)) : Nat) : Int) := by
        rw [show ((285 : Int) * 2 ^ (6 - k)) = ((285 * 2 ^ (6 - k) : Nat) : Int) from mul_cast hf (a := 285), wr64 (by omega) (by omega), bits_xor_i _ _ t1 h2]
      have en : (14 : Int) - ((k + 1 : Nat) : Int) = (14 : Int) - (k : Int) - 1 := by omega
      have ei : ((14 : Int) - (k : Int)).toNat = 14 - k := by omega
      have ej : ((14 : Int) - (k : Int) - 8).toNat = 6 - k := by omega
      unfold R_Times_l3
      by_cases g : tQN p k / 2 ^ (14 - k) % 2 = 1
      · have e1 : bits .and .i64 ((tQN p k : Int) / 2 ^ (14 - k)) 1 = 1 := by rw [e1, g]; rfl
        have e5 : tQN p (k + 1) = tQN p k ^^^ (285 * 2 ^ (6 - k)) := by rw [tQN, if_pos g]
        rw [e5, en]
        simp (disch := omega) only [joinF_eq, bindO_some, s_wr, s_td, s_tm, s_pos, s_neg, cond_true, cond_false, Bool.not_true, Bool.not_false, Bool.true_and, Bool.and_true, Bool.false_and, Bool.and_false, bne_self_eq_false, decide_true, decide_false, Int.toNat_natCast]
        simp only [ei, ej]
        simp (disch := omega) only [joinF_eq, bindO_some, s_wr, s_td, s_tm, s_pos, s_neg, cond_true, cond_false, Bool.not_true, Bool.not_false, Bool.true_and, Bool.and_true, Bool.false_and, Bool.and_false, bne_self_eq_false, decide_true, decide_false, Int.toNat_natCast]
        unfold R_Times_j4
        simp (disch := omega) only [joinF_eq, bindO_some, s_wr, s_td, s_tm, s_pos, s_neg, cond_true, cond_false, Bool.not_true, Bool.not_false, Bool.true_and, Bool.and_true, Bool.false_and, Bool.and_false, bne_self_eq_false, decide_true, decide_false, Int.toNat_natCast]
        rw [e2]
      · have e1 : bits .and .i64 ((tQN p k : Int) / 2 ^ (14 - k)) 1 = 0 := by
          rw [e1, show tQN p k / 2 ^ (14 - k) % 2 = 0 by have := Nat.mod_lt (tQN p k / 2 ^ (14 - k)) (show 0 < 2 by decide); omega]; rfl
        have e5 : tQN p (k + 1) = tQN p k := by rw [tQN, if_neg g]
        rw [e5, en]
        simp (disch := omega) only [joinF_eq, bindO_some, s_wr, s_td, s_tm, s_pos, s_neg, cond_true, cond_false, Bool.not_true, Bool.not_false, Bool.true_and, Bool.and_true, Bool.false_and, Bool.and_false, bne_self_eq_false, decide_true, decide_false, Int.toNat_natCast]
        simp only [ei, ej]
        simp (disch := omega) only [joinF_eq, bindO_some, s_wr, s_td, s_tm, s_pos, s_neg, cond_true, cond_false, Bool.not_true, Bool.not_false, Bool.true_and, Bool.and_true, Bool.false_and, Bool.and_false, bne_self_eq_false, decide_true, decide_false, Int.toNat_natCast]
        unfold R_Times_j4
        simp (disch := omega) only [joinF_eq, bindO_some, s_wr, s_td, s_tm, s_pos, s_neg, cond_true, cond_false, Bool.not_true, Bool.not_false, Bool.true_and, Bool.and_true, Bool.false_and, Bool.and_false, bne_self_eq_false, decide_true, decide_false, Int.toNat_natCast]
    · have t7 := tQ_lt hf t8 7 (Nat.le_refl _)
      unfold R_Times_l3
      simp (disch := omega) only [joinF_eq, bindO_some, s_wr, s_td, s_tm, s_pos, s_neg, cond_true, cond_false, Bool.not_true, Bool.not_false, Bool.true_and, Bool.and_true, Bool.false_and, Bool.and_false, bne_self_eq_false, decide_true, decide_false, Int.toNat_natCast]
      have : IntKind.u8.wrap (tQN p 7 : Int) = ((tQN p 7 % 256 : Nat) : Int) := by
        simp [IntKind.wrap, IntKind.bits, IntKind.signed]
      rw [this]
end
/-! ### the field, element by element: evaluated with values brought to their normal form -/
def mulE : Nat → Nat → Nat → Nat → Nat
  | 0, p, _, _ => p
  | f + 1, p, a, b => fN (if b % 2 = 1 then p ^^^ a else p) fun p => fN (xtN a) fun a => fN (b / 2) fun b => mulE f p a b
theorem mulE_eq : ∀ f p a b : Nat, mulE f p a b = mulS f p a b
  | 0, _, _, _ => rfl
  | f + 1, p, a, b => by rw [mulE, mulS, fN_eq, fN_eq, fN_eq, mulE_eq f]
def tAE (a b : Nat) : Nat → Nat → Nat → Nat
  | 0, _, p => p
  | f + 1, i, p => fN (if b / 2 ^ i % 2 = 1 then p ^^^ (a * 2 ^ i) else p) fun p => tAE a b f (i + 1) p
theorem tAE_eq (a b : Nat) : ∀ f i : Nat, tAE a b f i (tAN a b i) = tAN a b (i + f)
  | 0, _ => rfl
  | f + 1, i => by
    rw [tAE, fN_eq]
    have : (if b / 2 ^ i % 2 = 1 then tAN a b i ^^^ (a * 2 ^ i) else tAN a b i) = tAN a b (i + 1) := by rw [tAN]
    rw [this, tAE_eq a b f (i + 1), show i + 1 + f = i + (f + 1) by omega]
def tQE : Nat → Nat → Nat → Nat
  | 0, _, q => q
  | f + 1, j, q => fN (if q / 2 ^ (14 - j) % 2 = 1 then q ^^^ (285 * 2 ^ (6 - j)) else q) fun q => tQE f (j + 1) q
theorem tQE_eq (p : Nat) : ∀ f j : Nat, tQE f j (tQN p j) = tQN p (j + f)
  | 0, _ => rfl
  | f + 1, j => by
    rw [tQE, fN_eq]
    have : (if tQN p j / 2 ^ (14 - j) % 2 = 1 then tQN p j ^^^ (285 * 2 ^ (6 - j)) else tQN p j) = tQN p (j + 1) := by rw [tQN]
    rw [this, tQE_eq p f (j + 1), show j + 1 + f = j + (f + 1) by omega]
def timE (a b : Nat) : Nat := fN (tAE a b 8 0 0) fun p => tQE 7 0 p % 256
theorem timE_eq (a b : Nat) : timE a b = timN a b := by
  unfold timE timN
  rw [fN_eq]
  have h1 := tAE_eq a b 8 0
  have h2 := tQE_eq (tAN a b (0 + 8)) 7 0
  have h1 : tAE a b 8 0 0 = tAN a b (0 + 8) := h1
  have h2 : tQE 7 0 (tAN a b (0 + 8)) = tQN (tAN a b (0 + 8)) (0 + 7) := h2
  rw [h1, h2]
def powE : Nat → Nat → Nat → Nat → Nat
  | 0, p, _, _ => p
  | f + 1, p, a, n => fN (if n % 2 = 1 then mulE 8 0 p a else p) fun p => fN (mulE 8 0 a a) fun a => fN (n / 2) fun n => powE f p a n
theorem powE_eq : ∀ f p a b : Nat, powE f p a b = powS f p a b
  | 0, _, _, _ => rfl
  | f + 1, p, a, b => by rw [powE, powS, fN_eq, fN_eq, fN_eq, powE_eq f, mulE_eq, mulE_eq]; rfl
def rowM (a : Nat) : Nat → Bool
  | 0 => true
  | b + 1 => Nat.beq (mulE 8 0 a b) (timE a b) && rowM a b
theorem rowM_at {a : Nat} : ∀ {n b : Nat}, rowM a n = true → b < n → mulN a b = timN a b
  | 0, _, _, h => absurd h (Nat.not_lt_zero _)
  | n + 1, b, h, hb => by
    rw [rowM, Bool.and_eq_true] at h
    by_cases e : b = n
    · subst e
      have := Nat.eq_of_beq_eq_true h.1
      rw [mulE_eq, timE_eq] at this
      exact this
    · exact rowM_at h.2 (by omega)
def chM (k : Nat) : Nat → Bool
  | 0 => true
  | i + 1 => rowM (16 * k + i) 256 && chM k i
theorem chM_at {k : Nat} : ∀ {n i : Nat}, chM k n = true → i < n → rowM (16 * k + i) 256 = true
  | 0, _, _, h => absurd h (Nat.not_lt_zero _)
  | n + 1, i, h, hi => by
    rw [chM, Bool.and_eq_true] at h
    by_cases e : i = n
    · subst e; exact h.1
    · exact chM_at h.2 (by omega)
set_option maxRecDepth 100000
theorem mm0 : chM 0 16 = true := by kernel_rfl
theorem mm1 : chM 1 16 = true := by kernel_rfl
theorem mm2 : chM 2 16 = true := by kernel_rfl
theorem mm3 : chM 3 16 = true := by kernel_rfl
theorem mm4 : chM 4 16 = true := by kernel_rfl
theorem mm5 : chM 5 16 = true := by kernel_rfl
theorem mm6 : chM 6 16 = true := by kernel_rfl
theorem mm7 : chM 7 16 = true := by kernel_rfl
theorem mm8 : chM 8 16 = true := by kernel_rfl
theorem mm9 : chM 9 16 = true := by kernel_rfl
theorem mm10 : chM 10 16 = true := by kernel_rfl
theorem mm11 : chM 11 16 = true := by kernel_rfl
theorem mm12 : chM 12 16 = true := by kernel_rfl
theorem mm13 : chM 13 16 = true := by kernel_rfl
theorem mm14 : chM 14 16 = true := by kernel_rfl
theorem mm15 : chM 15 16 = true := by kernel_rfl
theorem mmA : ∀ k, k < 16 → chM k 16 = true
  | 0, _ => mm0
  | 1, _ => mm1
  | 2, _ => mm2
  | 3, _ => mm3
  | 4, _ => mm4
  | 5, _ => mm5
  | 6, _ => mm6
  | 7, _ => mm7
  | 8, _ => mm8
  | 9, _ => mm9
  | 10, _ => mm10
  | 11, _ => mm11
  | 12, _ => mm12
  | 13, _ => mm13
  | 14, _ => mm14
  | 15, _ => mm15
  | n + 16, h => absurd h (by omega)
def invM : Nat → Bool
  | 0 => true
  | a + 1 => (Nat.beq a 0 || Nat.beq (timE a (powE 8 1 a 254)) 1) && invM a
theorem all_inv : invM 256 = true := by kernel_rfl
theorem invM_at : ∀ {n a : Nat}, invM n = true → a < n → a ≠ 0 → timN a (powS 8 1 a 254) = 1
  | 0, _, _, h, _ => absurd h (Nat.not_lt_zero _)
  | n + 1, a, h, ha, h0 => by
    rw [invM, Bool.and_eq_true, Bool.or_eq_true] at h
    by_cases e : a = n
    · subst e
      rcases h.1 with h | h
      · exact absurd (Nat.eq_of_beq_eq_true h) h0
      · have := Nat.eq_of_beq_eq_true h
        rw [powE_eq, timE_eq] at this
        exact this
    · exact invM_at h.2 (by omega) h0
theorem mul_tim {a b : Nat} (ha : a < 256) (hb : b < 256) : mulN a b = timN a b := by
  have h := chM_at (mmA (a / 16) (by omega)) (show a % 16 < 16 by omega)
  rw [show 16 * (a / 16) + a % 16 = a by omega] at h
  exact rowM_at h hb
theorem inv_tim {a : Nat} (ha : a < 256) (h0 : a ≠ 0) : timN a (powS 8 1 a 254) = 1 := invM_at all_inv ha h0
end Go.Proofs.Ytedjnjgnadbkaaa
/- The law ReedsolomonField. -/
namespace Go.Proofs.Ytedjnjgnadbkaaa
open Go Go.RowKit
set_option linter.unusedSimpArgs false
set_option linter.unusedSectionVars false
set_option linter.unusedVariables false
theorem powS_lt : ∀ f {p a n : Nat}, p < 256 → a < 256 → powS f p a n < 256
  | 0, _, _, _, h, _ => h
  | f + 1, p, a, n, hp, ha => by
    rw [powS]
    refine powS_lt f ?_ (mulN_lt ha)
    split
    · exact mulN_lt hp
    · exact hp
theorem field_r {fu : Nat} (hf : 18446744073709551616 ≤ fu) (hW : law_reedsolomonWorks_r fu () = some (true, ())) {a b : Int} (a0 : 0 ≤ a) (a1 : a ≤ 255) (b0 : 0 ≤ b) (b1 : b ≤ 255) : law_ReedsolomonField_r fu (a, (b, ())) = some (true, ()) := by
  obtain ⟨a, rfl⟩ := Int.eq_ofNat_of_zero_le a0
  obtain ⟨b, rfl⟩ := Int.eq_ofNat_of_zero_le b0
  have ha : a < 256 := by omega
  have hb : b < 256 := by omega
  have kj : law_ReedsolomonField_j1 fu ((a : Int), ((b : Int), ())) () = some (true, ()) := by
    unfold law_ReedsolomonField_j1
    simp (disch := omega) only [joinF_eq, bindO_some, s_wr, s_td, s_tm, s_pos, s_neg, cond_true, cond_false, Bool.not_true, Bool.not_false, Bool.true_and, Bool.and_true, Bool.false_and, Bool.and_false, bne_self_eq_false, decide_true, decide_false, Int.toNat_natCast, mul_r hf ha hb, times_r hf ha hb]
    rw [mul_tim ha hb]
    simp
  unfold law_ReedsolomonField_r
  simp (disch := omega) only [joinF_eq, bindO_some, s_wr, s_td, s_tm, s_pos, s_neg, cond_true, cond_false, Bool.not_true, Bool.not_false, Bool.true_and, Bool.and_true, Bool.false_and, Bool.and_false, bne_self_eq_false, decide_true, decide_false, Int.toNat_natCast, hW]
  by_cases c : a = 0
  · subst c
    unfold reedsolomon_Inverse_r
    simp (disch := omega) only [joinF_eq, bindO_some, s_wr, s_td, s_tm, s_pos, s_neg, cond_true, cond_false, Bool.not_true, Bool.not_false, Bool.true_and, Bool.and_true, Bool.false_and, Bool.and_false, bne_self_eq_false, decide_true, decide_false, Int.toNat_natCast]
    unfold law_ReedsolomonField_j2
    simp (disch := omega) only [joinF_eq, bindO_some, s_wr, s_td, s_tm, s_pos, s_neg, cond_true, cond_false, Bool.not_true, Bool.not_false, Bool.true_and, Bool.and_true, Bool.false_and, Bool.and_false, bne_self_eq_false, decide_true, decide_false, Int.toNat_natCast]
    exact kj
  · unfold reedsolomon_Inverse_r
    have hp := pow_r hf ha (show 254 < 256 by decide)
    have hp : reedsolomon_power_r fu ((a : Int), ((254 : Int), ())) = some ((powS 8 1 a 254 : Int), ()) := hp
    have hq := times_r hf ha (powS_lt 8 (p := 1) (a := a) (n := 254) (by decide) ha)
    rw [inv_tim ha c] at hq
    simp (disch := omega) only [joinF_eq, bindO_some, s_wr, s_td, s_tm, s_pos, s_neg, cond_true, cond_false, Bool.not_true, Bool.not_false, Bool.true_and, Bool.and_true, Bool.false_and, Bool.and_false, bne_self_eq_false, decide_true, decide_false, Int.toNat_natCast, hp, hq]
    unfold law_ReedsolomonField_j3
    exact kj
end Go.Proofs.Ytedjnjgnadbkaaa
/- The step from a walk to a law's row, once for all laws of the seat: a law that returns true and leaves all that was there as it was. -/
namespace Go.Proofs.Ytedjnjgnadbkaaa
open Go.ChangeShapes Go.WideShapes Go.ChangeAt Go.RowKit

theorem own : ownKnob Try.prog.godebug = none := by kernel_rfl
theorem laidOut : laidOutB Try.prog = true := by kernel_rfl
theorem boolT : Try.prog.underlying 4 = some .bool := Try.underlying4

theorem trodAll_stays {H : Type} {enc : TypeId × Value → H} {P : Program} (hl : laidOutB P = true) {W W' : World} (hb : Below W.heap.size W W') :
    ∀ {ts : List TypeId} {vs : List Value} {ds : List (DataW H)} {ps : List MemPlace}, (∀ t ∈ ts, P.readableRec t = true ∧ t < P.types.size) → DataW.TrodAll enc P W 0 (fun _ => true) true ts vs ds ps →
      (∀ x ∈ ps, x.block < W.heap.size) → DataW.TrodAll enc P W' 0 (fun b => decide (b < W.heap.size)) true ts vs ds ps
  | [], [], [], _, _, h, _ => h
  | t :: ts, v :: vs, d :: ds, _, hr, ⟨p, q, h1, h2, e⟩, hlt =>
    ⟨p, q, Below.trod hl (hr t (by simp)).1 (hr t (by simp)).2 h1 hb (fun x hx => hlt x (by rw [e]; simp [hx])),
      trodAll_stays hl hb (fun t' ht => hr t' (by simp [ht])) h2 (fun x hx => hlt x (by rw [e]; simp [hx])), e⟩
  | [], [], _ :: _, _, _, h, _ => h.elim
  | [], _ :: _, _, _, _, h, _ => h.elim
  | _ :: _, [], _, _, _, h, _ => h.elim
  | _ :: _, _ :: _, [], _, _, h, _ => h.elim

/-- what a law's row asks of the readable types among its parameters -/
def readsAll (P : Program) (ts : List TypeId) : Bool := ts.all fun t => P.readableRec t && decide (t < P.types.size)
theorem readsAll_all {P : Program} {ts : List TypeId} (h : readsAll P ts = true) : ∀ t ∈ ts, P.readableRec t = true ∧ t < P.types.size := by
  intro t ht
  have := List.all_eq_true.1 h t ht
  simpa using this

theorem trodAll_length {H : Type} {enc : TypeId × Value → H} {P : Program} {W : World} {base : Nat} {spare : Nat → Bool} {held : Bool} :
    ∀ {ts : List TypeId} {vs : List Value} {ds : List (DataW H)} {ps : List MemPlace}, DataW.TrodAll enc P W base spare held ts vs ds ps → ds.length = ts.length
  | [], [], [], _, _ => rfl
  | _ :: _, _ :: _, _ :: _, _, ⟨_, _, _, h2, _⟩ => by simp [trodAll_length h2]
  | [], [], _ :: _, _, h => h.elim
  | [], _ :: _, _, _, h => h.elim
  | _ :: _, [], _, _, h => h.elim
  | _ :: _, _ :: _, [], _, h => h.elim

set_option maxRecDepth 100000 in
theorem law_lifted {os : Os} (started : os.Started) {H : Type} {enc : TypeId × Value → H} {f : FuncId} {fn : Func} {s : ChangeSpec}
    (noInit : Try.checked.prog.inits.idxOf? f = none) (hfn : Try.checked.prog.funcs[f]? = some fn)
    (witness : ∃ (w : World) (tape : Tape) (i : Input), w.os = os ∧ (w.forCall tape i).Shaped Try.checked.prog ∧ i.vars = [] ∧ Input.okWide Try.checked.prog (w.forCall tape i) .any w.heap.size f i ∧
      s.pre6 enc Try.checked.prog fn [] false (w.forCall tape i).memory i.args ∧ ({} : Assume).holds Try.checked.prog (lone (Frame.enter Try.checked.prog f i.args .normal) [] (w.forCall tape i)))
    (hvars : s.vars = []) (hres : fn.resultTypes = #[4]) (hread : readsAll Try.prog fn.params.toList = true)
    (hspec : ∀ ds : List (DataW H), ds.length = fn.params.toList.length → s.fn H ds = { results := [.lit (.bool true)], args := ds })
    (walk : ∀ (W : World) (base : Nat) (args : List Value) (ds : List (DataW H)) (ps : List MemPlace),
      (∀ (j : Nat) t v, fn.params[j]? = some t → args[j]? = some v → Value.okWide Try.prog W .any base t v) → DataW.TrodAll enc Try.prog W 0 (fun _ => true) true fn.params.toList args ds ps →
      (DataW.weightsEach Try.prog fn.params.toList ds).all (· ≤ reachBytes) = true → (∀ x ∈ ps, x.block < W.heap.size) →
      Calls Try.prog f args.toArray W fun e W' => e = .returned (.bool true) ∧ Below W.heap.size W W') :
    ReturnsInHanded {} Try.checked os f .any (s.pre6 enc Try.checked.prog fn [] false) (s.post enc Try.checked.prog fn false true false false) := by
  refine returnsInHanded_of_change_sized (C := Try.checked) own started noInit hfn witness ?_
  intro W base args ds gs before hval hW _ hsz _
  have hW' := hW
  obtain ⟨p, q, hA0, hV, rfl, hfz, hnd⟩ := hW
  rw [hvars] at hV
  obtain ⟨rfl, rfl⟩ := trodVars_none hV
  have hA : DataW.TrodAll enc Try.prog W 0 (fun _ => true) true fn.params.toList args.toList ds p := hA0
  have hlen : ds.length = fn.params.toList.length := trodAll_length hA
  have hlt : ∀ x ∈ p, x.block < W.heap.size := fun x hx => hW'.lt x (by simpa using hx)
  have hargs : args.toList.toArray = args := by simp
  have hsz' : (DataW.weightsEach Try.prog fn.params.toList ds).all (· ≤ reachBytes) = true := by
    have h := hsz
    have hvt : s.plain.varTypes Try.checked.prog = [] := by simp [DataSpec.varTypes, ChangeSpec.plain, hvars]
    rw [hvt] at h
    simp only [List.append_nil] at h
    exact h
  have hw := walk W base args.toList ds p (fun j t v ht hv => hval j t v ht (by simpa using hv)) hA hsz' hlt
  rw [hargs] at hw
  refine hw.mono fun e W' ⟨he, hb⟩ => ⟨.bool true, he, ?_⟩
  have hsf : s.fn H (ds ++ []) = { results := [.lit (.bool true)], args := ds } := by rw [List.append_nil]; exact hspec ds hlen
  refine ⟨ds, [], p ++ [], [], p, [], hW', ?_, ?_, ?_, hb.frame _, fun h => by cases h⟩
  · rw [hsf, hres]
    exact trodAll_mk1 (shut_bool boolT true)
  · rw [hsf]
    exact trodAll_stays laidOut hb (readsAll_all hread) hA hlt
  · rw [hsf, hvars]
    rfl
end Go.Proofs.Ytedjnjgnadbkaaa
/- Arguments opened: what slices and structs of numbers read as. -/
set_option maxRecDepth 100000
namespace Go.Proofs.Ytedjnjgnadbkaaa
open Go.ChangeShapes Go.WideShapes Go.ChangeAt Go.RowKit Go.Deep

theorem choose_list {α : Type} {n : Nat} {Q : Nat → α → Prop} (h : ∀ i, i < n → ∃ p, Q i p) : ∃ l : List α, l.length = n ∧ ∀ i p, l[i]? = some p → Q i p := by
  induction n with
  | zero => exact ⟨[], rfl, by intro i p hi; simp at hi⟩
  | succ n ih =>
    obtain ⟨l, hl, hq⟩ := ih (fun i hi => h i (by omega))
    obtain ⟨p, hp⟩ := h n (by omega)
    refine ⟨l ++ [p], by simp [hl], fun i q hi => ?_⟩
    rcases Nat.lt_trichotomy i n with hlt | rfl | hgt
    · rw [List.getElem?_append_left (by omega)] at hi
      exact hq i q hi
    · rw [List.getElem?_append_right (by omega), hl] at hi
      simp at hi
      subst hi; exact hp
    · rw [List.getElem?_eq_none (by simp; omega)] at hi
      cases hi

section
variable {H : Type} {enc : TypeId × Value → H} {P : Program} {w : World} {base : Nat} {spare : Nat → Bool} {held : Bool}
/-- a slice, whatever its elements: of each element its cells and its reading -/
theorem rd_slice {t e : TypeId} {fuel : Nat} {v : Value} {x : DataW H × List MemPlace} (ht : P.underlying t = some (.slice e)) (hc : 0 < P.cellsOf e) (h : DataW.trod enc P w base spare held fuel t [v] = some x) :
    ∃ A n c, v = .slice A n c ∧ n ≤ c ∧ c ≤ maxLen ∧ ∀ i, i < n → ∃ b o cs n' x', A = some ⟨b, o, none⟩ ∧ cs.length = P.cellsOf e ∧ (∀ j u, cs[j]? = some u → w.cell? ⟨b, o + i * P.cellsOf e + j, none⟩ = some u) ∧
      DataW.trod enc P w base spare held n' e cs = some x' := by
  rcases open_slice ht h with ⟨h0, _⟩ | ⟨a, len, cap, m, n', D, Pl, hcs, _, hl, hm, hmm, _, hi⟩
  · simp at h0
    subst h0
    exact ⟨none, 0, 0, rfl, by omega, by unfold maxLen; omega, by intro i hi; omega⟩
  · simp at hcs
    subst hcs
    refine ⟨some a, len, cap, rfl, hl, hm, fun i hil => ?_⟩
    have hlm : len ≤ m := by rw [hmm]; split <;> omega
    obtain ⟨cs, h1, h2⟩ := hi i (by omega)
    obtain ⟨hb, hlen, hat⟩ := World.cells?_some h1
    obtain ⟨b, o, spot⟩ := a
    have h00 := hat 0 (by omega)
    have hsp : spot = none := by
      obtain ⟨cs0, g1, _⟩ := hi 0 (by omega)
      obtain ⟨_, gl, gat⟩ := World.cells?_some g1
      have hx := gat 0 (by omega)
      rw [List.getElem?_eq_getElem (by omega)] at hx
      simpa [Addr.add] using World.cell?_spot hx
    subst hsp
    refine ⟨b, o, cs, n', _, rfl, hlen, ?_, h2⟩
    intro j u hu
    have hjl : j < P.cellsOf e := by rw [← hlen]; exact (List.getElem?_eq_some_iff.1 hu).1
    have := hat j hjl
    rw [hu, Addr.add_lit, Addr.add_lit] at this
    exact this
end

end Go.Proofs.Ytedjnjgnadbkaaa
/- Arguments opened, as abstract values. -/
set_option maxRecDepth 100000
namespace Go.Proofs.Ytedjnjgnadbkaaa
open Go Go.ChangeShapes Go.WideShapes Go.ChangeAt Go.RowKit Go.Deep

section
variable {H : Type} {enc : TypeId × Value → H} {P : Program} {w : World} {base : Nat} {spare : Nat → Bool} {held : Bool}
/-- data of the caller's -/
abbrev RelC (w : World) : AV → Value → Prop := RelD w (fun _ => False) w.heap.size
/-- one element's cells, read as enc p -/
def Reads {α : Type} (w : World) (sz : Nat) (ec : α → List AV) (Q : α → Prop) (cs : List Value) : Prop :=
  ∃ p, Q p ∧ (ec p).length = sz ∧ ∀ (j : Nat) (a : AV) (u : Value), (ec p)[j]? = some a → cs[j]? = some u → RelC w a u
theorem ro_slice {α : Type} (ec : α → List AV) (Q : α → Prop) {t e : TypeId} {sz fuel : Nat} {v : Value} {x : DataW H × List MemPlace} (ht : P.underlying t = some (.slice e)) (hz : P.cellsOf e = sz) (hc : 0 < sz)
    (hel : ∀ (fuel : Nat) (cs : List Value) (x : DataW H × List MemPlace), cs.length = sz → DataW.trod enc P w base spare held fuel e cs = some x → Reads w sz ec Q cs) (h : DataW.trod enc P w base spare held fuel t [v] = some x) :
    ∃ xs : List α, (∀ p ∈ xs, Q p) ∧ RelC w (.ro false sz (xs.map ec)) v := by
  subst hz
  obtain ⟨A, n, c, rfl, hn, hm, hi⟩ := rd_slice ht hc h
  obtain ⟨xs, hl, hq⟩ := choose_list (Q := fun i (p : α) => Q p ∧ ∃ (b o : Nat) (cs : List Value), A = some ⟨b, o, none⟩ ∧ cs.length = P.cellsOf e ∧ (∀ (j : Nat) (u : Value), cs[j]? = some u → w.cell? ⟨b, o + i * P.cellsOf e + j, none⟩ = some u) ∧ (ec p).length = P.cellsOf e ∧ ∀ (j : Nat) (a : AV) (u : Value), (ec p)[j]? = some a → cs[j]? = some u → RelC w a u) (n := n) (by
    intro i hil
    obtain ⟨b, o, cs, n', x', hA, hlen, hat, htr⟩ := hi i hil
    obtain ⟨p, h1, h2, h3⟩ := hel n' cs x' hlen htr
    exact ⟨p, h1, b, o, cs, hA, hlen, hat, h2, h3⟩)
  subst hl
  refine ⟨xs, fun p hp => ?_, ?_⟩
  · obtain ⟨i, hi⟩ := List.mem_iff_getElem?.1 hp
    exact (hq i p hi).1
  have key : ∀ (i : Nat) (row : List AV) (j : Nat) (a : AV), (xs.map ec)[i]? = some row → row[j]? = some a → ∃ b o u, A = some ⟨b, o, none⟩ ∧ w.cell? ⟨b, o + i * P.cellsOf e + j, none⟩ = some u ∧ RelC w a u := by
    intro i row j a hr ha
    rw [List.getElem?_map] at hr
    obtain ⟨p, hp, rfl⟩ := Option.map_eq_some_iff.1 hr
    obtain ⟨_, b, o, cs, hA, hlen, hat, hel, hrel⟩ := hq i p hp
    have hj : j < cs.length := by rw [hlen, ← hel]; exact (List.getElem?_eq_some_iff.1 ha).1
    have hu : cs[j]? = some cs[j] := List.getElem?_eq_getElem hj
    exact ⟨b, o, cs[j], hA, hat j _ hu, hrel j a _ ha hu⟩
  have hcon := RelD.ro (w := w) (own := fun _ => False) (bs := w.heap.size) false (P.cellsOf e) (xs.map ec) A c (fun i j => match A with
    | some ⟨b, o, _⟩ => (w.cell? ⟨b, o + i * P.cellsOf e + j, none⟩).getD undef
    | none => undef) (by simpa using hn) hm (fun i hi hA => by
      have hi : i < xs.length := by simpa using hi
      obtain ⟨_, b, o, _, h1, _⟩ := hq i xs[i] (List.getElem?_eq_getElem hi)
      rw [hA] at h1; cases h1) (fun i row j a hr ha => by
      obtain ⟨b, o, u, hA, hu, _⟩ := key i row j a hr ha
      subst hA
      exact ⟨b, o, rfl, fun h => h.elim, (fun h => by cases h), by simp [hu]⟩) (fun i row j a hr ha => by
      obtain ⟨b, o, u, hA, hu, hr⟩ := key i row j a hr ha
      subst hA
      simpa [hu] using hr)
  rw [List.length_map] at hcon
  exact hcon
end
/-- a law that answers true -/
theorem AF.yes {P : Program} {F : FuncId} {xs : List AV} {vs : Array Value} {w : World} (h : AF P F xs (.bool true)) (ha : ArgsV w (Gh.none w.heap.size) xs vs) : Calls P F vs w fun e w' => e = .returned (.bool true) ∧ Below w.heap.size w w' :=
  (h.out w vs ha).mono fun e w' ⟨v, he, hb, hv⟩ => ⟨by rw [he, hv.bool'], hb⟩
end Go.Proofs.Ytedjnjgnadbkaaa
/- Arguments of any type, opened by one theorem; the last step of a law that a residual program answers. -/
set_option maxRecDepth 100000
namespace Go.Proofs.Ytedjnjgnadbkaaa
open Go Go.ChangeShapes Go.WideShapes Go.ChangeAt Go.RowKit Go.Deep

/-- what every argument of a type meets -/
def Ty.wf : (t : Ty) → t.den → Prop
  | .int k, n => (Lit.int k n).wf = true
  | .bool, _ => True
  | .str, s => List.length s ≤ maxLen
  | .list t, xs => List.length xs ≤ maxLen ∧ ∀ x ∈ (xs : List t.den), t.wf x
  | .unit, _ => True
  | .pair a b, x => a.wf x.1 ∧ b.wf x.2
  | .agg t, x => t.wf x
  | .ptr _, _ => False
def prB (t : Ty) (f : Ty → Ty → Bool) : Bool := match t with
  | .pair x y => f x y
  | _ => false
def unB (t : Ty) : Bool := match t with
  | .unit => true
  | _ => false
theorem prB_ok {t : Ty} {f : Ty → Ty → Bool} (h : prB t f = true) : ∃ x y, t = .pair x y ∧ f x y = true := by
  unfold prB at h
  split at h
  · exact ⟨_, _, rfl, h⟩
  · cases h
theorem unB_ok {t : Ty} (h : unB t = true) : t = .unit := by
  unfold unB at h
  split at h
  · rfl
  · cases h
def fsB (g : TypeId → Ty → Bool) : List Field → Nat → Ty → Bool
  | [], _, t => unB t
  | [a], o, t => Nat.beq a.offset o && g a.type t
  | a :: b :: l, o, t => prB t fun x y => Nat.beq a.offset o && g a.type x && fsB g (b :: l) (o + x.size) y
def arB (g : Ty → Bool) : Nat → Ty → Bool
  | 0, t => unB t
  | 1, t => g t
  | n + 2, t => prB t fun x y => g x && arB g (n + 1) y
def intB (k : IntKind) (t : Ty) : Bool := match t with
  | .int k' => decide (k' = k)
  | _ => false
def boolB (t : Ty) : Bool := match t with
  | .bool => true
  | _ => false
def strB (t : Ty) : Bool := match t with
  | .str => true
  | _ => false
def sliceB (g : Ty → Bool) (t : Ty) : Bool := match t with
  | .list t' => g t' && Nat.blt 0 t'.size
  | _ => false
/-- a type as the program has it -/
def tyB (P : Program) : Nat → TypeId → Ty → Bool
  | 0, _, _ => false
  | f + 1, tid, t => Nat.beq (P.cellsOf tid) t.size && (match P.underlying tid with
    | some (.int k) => intB k t
    | some .bool => boolB t
    | some .string => strB t
    | some (.slice e) => sliceB (tyB P f e) t
    | some (.struct ⟨fs⟩) => fsB (tyB P f) fs 0 t
    | some (.array n e) => arB (tyB P f e) n t
    | _ => false)
section
variable {H : Type} {enc : TypeId × Value → H} {P : Program} {w : World} {base : Nat} {spare : Nat → Bool} {held : Bool}
abbrev ReadsT (w : World) (t : Ty) (cs : List Value) : Prop := Reads w t.size (t.cells false) t.wf cs
theorem tyB_size {f : Nat} {tid : TypeId} {t : Ty} (h : tyB P f tid t = true) : P.cellsOf tid = t.size := by
  cases f with
  | zero => cases h
  | succ f => rw [tyB, Bool.and_eq_true] at h; exact Nat.eq_of_beq_eq_true h.1
theorem ReadsT.pair {a b : Ty} {c d : List Value} (h : ReadsT w a c) (k : ReadsT w b d) (hl : c.length = a.size) : ReadsT w (.pair a b) (c ++ d) := by
  obtain ⟨x, x1, x2, x3⟩ := h
  obtain ⟨y, y1, y2, y3⟩ := k
  refine ⟨(x, y), ⟨x1, y1⟩, Ty.cells_length _ _ _, fun j v u hv hu => ?_⟩
  rw [Ty.cells] at hv
  by_cases hj : j < a.size
  · rw [List.getElem?_append_left (by rw [x2]; exact hj)] at hv
    rw [List.getElem?_append_left (by omega)] at hu
    exact x3 j v u hv hu
  · rw [List.getElem?_append_right (by rw [x2]; omega), x2] at hv
    rw [List.getElem?_append_right (by omega), hl] at hu
    exact y3 _ v u hv hu
theorem ReadsT.unit : ReadsT w .unit [] := ⟨(), trivial, rfl, fun j a u h _ => by simp [Ty.cells] at h⟩
theorem fs_reads {g : TypeId → Ty → Bool} (hg : ∀ (tid : TypeId) (t : Ty) (n : Nat) (cs : List Value) (x : DataW H × List MemPlace), g tid t = true → cs.length = t.size → DataW.trod enc P w base spare held n tid cs = some x → ReadsT w t cs) (hsz : ∀ tid t, g tid t = true → P.cellsOf tid = t.size) {cs : List Value} :
    ∀ (l : List Field) (o : Nat) (t : Ty), fsB g l o t = true → (∀ a ∈ l, ∃ n y, DataW.trod enc P w base spare held n a.type ((cs.drop a.offset).take (P.cellsOf a.type)) = some y) → o + t.size ≤ cs.length → ReadsT w t ((cs.drop o).take t.size)
  | [], o, t, h, _, _ => by
    rw [unB_ok h, show Ty.unit.size = 0 from rfl, List.take_zero]; exact .unit
  | [a], o, t, h, hr, hl => by
    rw [fsB, Bool.and_eq_true] at h
    obtain ⟨n, y, hy⟩ := hr a (by simp)
    rw [Nat.eq_of_beq_eq_true h.1, hsz _ _ h.2] at hy
    exact hg _ _ n _ y h.2 (by rw [List.length_take, List.length_drop]; omega) hy
  | a :: b :: l, o, t, h, hr, hl => by
    obtain ⟨x, y, rfl, h'⟩ := prB_ok h
    clear h
    have h := h'
    clear h'
    rw [Bool.and_eq_true, Bool.and_eq_true] at h
    obtain ⟨n, z, hz⟩ := hr a (by simp)
    rw [Nat.eq_of_beq_eq_true h.1.1, hsz _ _ h.1.2] at hz
    have hs : (Ty.pair x y).size = x.size + y.size := rfl
    rw [hs] at hl
    have h1 := hg _ _ n _ z h.1.2 (by rw [List.length_take, List.length_drop]; omega) hz
    have h2 := fs_reads hg hsz (b :: l) (o + x.size) y h.2 (fun a ha => hr a (List.mem_cons_of_mem _ ha)) (by omega)
    rw [hs, List.take_add, List.drop_drop]
    exact h1.pair h2 (by rw [List.length_take, List.length_drop]; omega)
theorem ar_reads {g : Ty → Bool} {e : TypeId} (hg : ∀ (t : Ty) (n : Nat) (cs : List Value) (x : DataW H × List MemPlace), g t = true → cs.length = t.size → DataW.trod enc P w base spare held n e cs = some x → ReadsT w t cs) (hsz : ∀ t, g t = true → P.cellsOf e = t.size) {cs : List Value} :
    ∀ (k o : Nat) (t : Ty), arB g k t = true → (∀ i, i < k → ∃ n y, DataW.trod enc P w base spare held n e ((cs.drop (o + i * P.cellsOf e)).take (P.cellsOf e)) = some y) → o + t.size ≤ cs.length → ReadsT w t ((cs.drop o).take t.size)
  | 0, o, t, h, _, _ => by
    rw [unB_ok h, show Ty.unit.size = 0 from rfl, List.take_zero]; exact .unit
  | 1, o, t, h, hr, hl => by
    rw [arB] at h
    obtain ⟨n, y, hy⟩ := hr 0 (by omega)
    rw [hsz _ h, Nat.zero_mul, Nat.add_zero] at hy
    exact hg _ n _ y h (by rw [List.length_take, List.length_drop]; omega) hy
  | k + 2, o, t, h, hr, hl => by
    obtain ⟨x, y, rfl, h'⟩ := prB_ok h
    clear h
    have h := h'
    clear h'
    rw [Bool.and_eq_true] at h
    obtain ⟨n, z, hz⟩ := hr 0 (by omega)
    rw [hsz _ h.1, Nat.zero_mul, Nat.add_zero] at hz
    have hs : (Ty.pair x y).size = x.size + y.size := rfl
    rw [hs] at hl
    have h1 := hg _ n _ z h.1 (by rw [List.length_take, List.length_drop]; omega) hz
    have h2 := ar_reads hg hsz (k + 1) (o + x.size) y h.2 (fun i hi => by
      obtain ⟨n, z, hz⟩ := hr (i + 1) (by omega)
      refine ⟨n, z, ?_⟩
      rw [← hz, ← hsz _ h.1, Nat.add_mul, Nat.one_mul, Nat.add_assoc, Nat.add_comm (P.cellsOf e)]) (by omega)
    rw [hs, List.take_add, List.drop_drop]
    exact h1.pair h2 (by rw [List.length_take, List.length_drop]; omega)
theorem ro_len {own : Nat → Prop} {bs sz : Nat} {fr : Bool} {rows : List (List AV)} {v : Value} (h : RelD w own bs (.ro fr sz rows) v) : rows.length ≤ maxLen := by
  cases h with
  | ro fr sz rows A c f hc hm h0 h1 h2 => omega
theorem one_cell {cs : List Value} (h : cs.length = 1) : ∃ u, cs = [u] := by match cs, h with | [u], _ => exact ⟨u, rfl⟩
theorem reads_ty : ∀ (f : Nat) (tid : TypeId) (t : Ty) (n : Nat) (cs : List Value) (x : DataW H × List MemPlace), tyB P f tid t = true → cs.length = t.size → DataW.trod enc P w base spare held n tid cs = some x → ReadsT w t cs
  | 0, _, _, _, _, _, h, _, _ => by cases h
  | f + 1, tid, t, n, cs, x, h, hl, hx => by
    have hsize := tyB_size h
    rw [tyB, Bool.and_eq_true] at h
    obtain ⟨_, h⟩ := h
    split at h
    · rename_i k hu
      unfold intB at h
      split at h
      · have hk := of_decide_eq_true h
        subst hk
        obtain ⟨m, rfl, _, hwf⟩ := DataW.trod_int hu hx
        refine ⟨m, hwf, rfl, fun j a u ha hu => ?_⟩
        match j with
        | 0 => simp [Ty.cells] at ha hu; subst ha; subst hu; exact .int _ _
        | j + 1 => simp [Ty.cells] at ha
      · cases h
    · rename_i hu
      unfold boolB at h
      split at h
      · obtain ⟨m, rfl, _⟩ := DataW.trod_bool hu hx
        refine ⟨m, trivial, rfl, fun j a u ha hu => ?_⟩
        match j with
        | 0 => simp [Ty.cells] at ha hu; subst ha; subst hu; exact .bool _
        | j + 1 => simp [Ty.cells] at ha
      · cases h
    · rename_i hu
      unfold strB at h
      split at h
      · obtain ⟨s, rfl, _, hs⟩ := DataW.trod_string hu hx
        refine ⟨s.data.toList, by rw [Ty.wf, Array.length_toList]; exact hs, rfl, fun j a u ha hu => ?_⟩
        match j with
        | 0 => simp [Ty.cells] at ha hu; subst ha; subst hu; exact .str _
        | j + 1 => simp [Ty.cells] at ha
      · cases h
    · rename_i e hu
      unfold sliceB at h
      split at h
      · rename_i _ t' _
        rw [Bool.and_eq_true] at h
        have hpos : 0 < t'.size := Nat.le_of_ble_eq_true h.2
        obtain ⟨v, rfl⟩ := one_cell hl
        obtain ⟨xs, hw, hr⟩ := ro_slice (t'.cells false) t'.wf hu (tyB_size h.1) hpos (fun m cs x hl hx => reads_ty f e t' m cs x h.1 hl hx) hx
        refine ⟨xs, ⟨?_, hw⟩, rfl, fun j a u ha hu => ?_⟩
        · have := ro_len hr
          rw [List.length_map] at this
          exact this
        match j with
        | 0 => simp [Ty.cells] at ha hu; subst ha; subst hu; exact hr
        | j + 1 => simp [Ty.cells] at ha
      · cases h
    · rename_i fs hu
      obtain ⟨xs, m, _, _, _, hxl, hat⟩ := DataW.trod_struct hu hx
      have := fs_reads (cs := cs) (fun tid t n cs x h1 h2 h3 => reads_ty f tid t n cs x h1 h2 h3) (fun tid t h => tyB_size h) fs 0 t h (fun a ha => by
        obtain ⟨i, hi⟩ := List.mem_iff_getElem?.1 ha
        have hi' : i < xs.length := by rw [hxl]; exact (List.getElem?_eq_some_iff.1 hi).1
        exact ⟨m, _, by rw [hat i a (by simpa using hi), List.getElem?_eq_getElem hi']⟩) (by omega)
      rw [List.drop_zero, List.take_of_length_le (by omega)] at this
      exact this
    · rename_i k e hu
      obtain ⟨xs, m, _, _, _, hxl, hat⟩ := DataW.trod_array hu hx
      have := ar_reads (cs := cs) (e := e) (fun t n cs x h1 h2 h3 => reads_ty f e t n cs x h1 h2 h3) (fun t h => tyB_size h) k 0 t h (fun i hi => by
        have hi' : i < xs.length := by rw [hxl]; exact hi
        exact ⟨m, _, by rw [Nat.zero_add, hat i hi, List.getElem?_eq_getElem hi']⟩) (by omega)
      rw [List.drop_zero, List.take_of_length_le (by omega)] at this
      exact this
    · cases h
/-! ### Arguments -/
def aggP (P : Program) (tid : TypeId) : Bool := match P.underlying tid with
  | some (.struct _) => true
  | some (.array _ _) => true
  | _ => false
def cellP (P : Program) (tid : TypeId) : Bool := match P.underlying tid with
  | some (.int _) => true
  | some .bool => true
  | some .string => true
  | some (.slice _) => true
  | _ => false
def argB (P : Program) (tid : TypeId) (a : Ty) : Bool := match a with
  | .agg t => tyB P 9 tid t && aggP P tid
  | .int k => tyB P 9 tid (.int k) && cellP P tid
  | .bool => tyB P 9 tid .bool && cellP P tid
  | .str => tyB P 9 tid .str && cellP P tid
  | .list t => tyB P 9 tid (.list t) && cellP P tid
  | _ => false
def argsB (P : Program) : List TypeId → Ty → Bool
  | [], t => unB t
  | tid :: l, t => prB t fun a b => argB P tid a && argsB P l b
theorem okWide_arr {n b : Nat} {r : Go.Reach} {t e : TypeId} {v : Value} (ht : P.underlying t = some (.array n e)) (h : Value.okWide P w r b t v) : ∃ cs, v = .agg cs ∧ cs.size = P.cellsOf t := by
  simp only [Value.okWide, ht] at h
  obtain ⟨cs, h1, h2, _⟩ := h
  exact ⟨cs, h1, h2⟩
theorem arg_agg {tid : TypeId} {t : Ty} {v : Value} {d : DataW H} {p : List MemPlace} {b : Nat} (h : tyB P 9 tid t = true) (ha : aggP P tid = true) (hv : Value.okWide P w .any b tid v) (hd : DataW.Trod enc P w base spare held tid v d p) : ∃ x : t.den, t.wf x ∧ RelV w (Gh.none w.heap.size) (.agg (t.cells false x)) v := by
  obtain ⟨cs, rfl, hs⟩ : ∃ cs, v = .agg cs ∧ cs.size = P.cellsOf tid := by
    unfold aggP at ha
    split at ha
    · rename_i h1; exact okWide_struct h1 hv
    · rename_i h1; exact okWide_arr h1 hv
    · cases ha
  obtain ⟨n, hd⟩ := hd
  have hl : cs.toList.length = t.size := by rw [← tyB_size h, ← hs]; simp
  obtain ⟨x, x1, x2, x3⟩ := reads_ty 9 tid t n cs.toList _ h hl hd
  exact ⟨x, x1, .agg _ _ (by rw [x2, ← hl]; simp) fun i a u ha hu => .dat (x3 i a u ha (by simpa using hu))⟩
theorem arg_cell {tid : TypeId} {t : Ty} {v : Value} {d : DataW H} {p : List MemPlace} {b : Nat} (h : tyB P 9 tid t = true) (hc : cellP P tid = true) (h1 : t.size = 1) (hv : Value.okWide P w .any b tid v) (hd : DataW.Trod enc P w base spare held tid v d p) : ∃ x : t.den, t.wf x ∧ ∀ a, (t.cells false x)[0]? = some a → RelV w (Gh.none w.heap.size) a v := by
  have hd : ∃ n, DataW.trod enc P w base spare held n tid [v] = some (d, p) := by
    unfold cellP at hc
    split at hc
    · rename_i hu
      obtain ⟨m, rfl⟩ := okWide_int hu hv
      exact hd
    · rename_i hu
      obtain ⟨m, rfl⟩ := okWide_bool hu hv
      exact hd
    · rename_i hu
      obtain ⟨m, rfl⟩ := okWide_string hu hv
      exact hd
    · rename_i hu
      obtain ⟨a, n, c, rfl⟩ := okWide_slice hu hv
      exact hd
    · cases hc
  obtain ⟨n, hd⟩ := hd
  obtain ⟨x, x1, x2, x3⟩ := reads_ty 9 tid t n [v] _ h (by rw [h1]; rfl) hd
  exact ⟨x, x1, fun a ha => .dat (x3 0 a v ha rfl)⟩
theorem arg_ty {tid : TypeId} {v : Value} {d : DataW H} {p : List MemPlace} {b : Nat} : ∀ {a : Ty}, argB P tid a = true → Value.okWide P w .any b tid v → DataW.Trod enc P w base spare held tid v d p → ∃ x : a.den, a.wf x ∧ RelV w (Gh.none w.heap.size) (a.av false x) v
  | .agg t, h, hv, hd => by
    rw [argB, Bool.and_eq_true] at h
    obtain ⟨x, h1, h2⟩ := arg_agg h.1 h.2 hv hd
    exact ⟨x, h1, by rw [Ty.av]; exact h2⟩
  | .int k, h, hv, hd => by
    rw [argB, Bool.and_eq_true] at h
    obtain ⟨x, h1, h2⟩ := arg_cell h.1 h.2 rfl hv hd
    exact ⟨x, h1, h2 _ rfl⟩
  | .bool, h, hv, hd => by
    rw [argB, Bool.and_eq_true] at h
    obtain ⟨x, h1, h2⟩ := arg_cell h.1 h.2 rfl hv hd
    exact ⟨x, h1, h2 _ rfl⟩
  | .str, h, hv, hd => by
    rw [argB, Bool.and_eq_true] at h
    obtain ⟨x, h1, h2⟩ := arg_cell h.1 h.2 rfl hv hd
    exact ⟨x, h1, h2 _ rfl⟩
  | .list t, h, hv, hd => by
    rw [argB, Bool.and_eq_true] at h
    obtain ⟨x, h1, h2⟩ := arg_cell h.1 h.2 rfl hv hd
    exact ⟨x, h1, h2 _ rfl⟩
  | .unit, h, _, _ => by cases h
  | .pair _ _, h, _, _ => by cases h
  | .ptr _, h, _, _ => by cases h
/-- values one by one -/
inductive RelsV (w : World) (G : Gh) : List AV → List Value → Prop
  | nil : RelsV w G [] []
  | cons {a : AV} {v : Value} {l : List AV} {m : List Value} (h : RelV w G a v) (k : RelsV w G l m) : RelsV w G (a :: l) (v :: m)
theorem RelsV.args {G : Gh} {l : List AV} {m : List Value} (h : RelsV w G l m) : ArgsV w G l m.toArray := by
  induction h with
  | nil => exact ⟨rfl, fun i a v ha hv => by simp at ha⟩
  | cons h k ih =>
    refine ⟨by have := ih.size; simp at this ⊢; exact this, fun i a v ha hv => ?_⟩
    cases i with
    | zero => simp at ha hv; subst ha; subst hv; exact h
    | succ i => exact ih.rel i a v (by simpa using ha) (by simpa using hv)
theorem args_ty {b : Nat} : ∀ {ts : List TypeId} {σ : Ty} {vs : List Value} {ds : List (DataW H)} {ps : List MemPlace}, argsB P ts σ = true → (∀ (j : Nat) t v, ts[j]? = some t → vs[j]? = some v → Value.okWide P w .any b t v) → DataW.TrodAll enc P w base spare held ts vs ds ps → ∃ x : σ.den, σ.wf x ∧ RelsV w (Gh.none w.heap.size) (σ.avs false x) vs
  | [], σ, vs, ds, ps, h, _, hA => by
    obtain ⟨rfl, rfl, rfl⟩ := trodAll_nil hA
    have e := unB_ok h
    subst e
    exact ⟨(), trivial, .nil⟩
  | tid :: l, σ, vs, ds, ps, h, hv, hA => by
    obtain ⟨v, vs, d, ds, p, q, rfl, rfl, rfl, h0, r0⟩ := trodAll_cons hA
    obtain ⟨a, c, rfl, h'⟩ := prB_ok h
    clear h
    have h := h'
    clear h'
    rw [Bool.and_eq_true] at h
    obtain ⟨x, x1, x2⟩ := arg_ty h.1 (hv 0 tid v rfl rfl) h0
    obtain ⟨y, y1, y2⟩ := args_ty h.2 (fun j t u ht hu => hv (j + 1) t u (by simpa using ht) (by simpa using hu)) r0
    exact ⟨(x, y), ⟨x1, y1⟩, by rw [Ty.avs]; exact .cons x2 y2⟩
end
/-- a law whose residual program answers true at all data -/
theorem law_any {H : Type} {enc : TypeId × Value → H} {F : Nat} {ts : List TypeId} {σ : Ty} {f : Nat → σ.den → Option (Bool × Unit)} {nm : Nat} (hc : CtrOk Try.prog F ⟨σ, .pair .bool .unit, f, nm⟩) (hB : argsB Try.prog ts σ = true) (hp : ∀ x : σ.den, σ.wf x → f FU x = some (true, ())) {W : World} {b : Nat} {args : List Value} {ds : List (DataW H)} {ps : List MemPlace}
    (hv : ∀ (j : Nat) t v, ts[j]? = some t → args[j]? = some v → Value.okWide Try.prog W .any b t v) (hA : DataW.TrodAll enc Try.prog W 0 (fun _ => true) true ts args ds ps) :
    Calls Try.prog F args.toArray W fun e W' => e = .returned (.bool true) ∧ Below W.heap.size W W' := by
  obtain ⟨x, hx, hr⟩ := args_ty hB hv hA
  exact AF.yes (hc FU x (true, ()) (hp x hx)) hr.args
theorem fu_le : 18446744073709551616 ≤ FU := Nat.le_refl _
end Go.Proofs.Ytedjnjgnadbkaaa
/- The examples of the corrections hold. -/
namespace Go.Proofs.Ytedjnjgnadbkaaa
open Go Go.RowKit
set_option maxRecDepth 100000
theorem reedsolomonWorks_true : law_reedsolomonWorks_r FU () = some (true, ()) := by kernel_rfl
theorem wf_u8 {x : Int} (h : (Lit.int .u8 x).wf = true) : 0 ≤ x ∧ x ≤ 255 := by
  unfold Lit.wf at h
  simpa [IntKind.min, IntKind.max, IntKind.signed, IntKind.bits] using h
end Go.Proofs.Ytedjnjgnadbkaaa
/- ReedsolomonField: for every input this law returns true and leaves its arguments as they were. -/
namespace Go.Proofs.Ytedjnjgnadbkaaa
open Go.ChangeShapes Go.WideShapes Go.ChangeAt Go.RowKit

set_option maxRecDepth 100000 in
theorem reedsolomonField_lifted (os : Os) (started : os.Started) (H : Type) (enc : TypeId × Value → H) :
    ReturnsInHanded {} Try.checked os 3 .any (Rows.reedsolomonFieldSpec.pre6 enc Try.prog Try.f3 Rows.reedsolomonFieldRow.domain false) (Rows.reedsolomonFieldSpec.post enc Try.prog Try.f3 false true false false) := by
  refine law_lifted started (by kernel_rfl) Try.func3
    (ChangeSpec.witness6 (enc := enc) (C := Try.checked) false ⟨#[], #[.int .u8 0, .int .u8 0], []⟩ 8 (by kernel_rfl) (by kernel_rfl) (by kernel_rfl) (by kernel_rfl)) rfl rfl (by kernel_rfl)
    (fun ds h => by rw [Try.params3] at h; match ds, h with | [_, _], _ => rfl) ?_
  intro W base args ds ps hval hA hsz hlt
  rw [Try.params3] at hA hval
  exact law_any law_ReedsolomonField_ok (by kernel_rfl) (fun x hx => field_r fu_le reedsolomonWorks_true (wf_u8 hx.1).1 (wf_u8 hx.1).2 (wf_u8 hx.2.1).1 (wf_u8 hx.2.1).2) (fun j t v ht hv => hval j t v (by simpa using ht) hv) hA

theorem reedsolomonField_holds : Rows.ReedsolomonFieldSaid :=
  OpenClaim.holds_of_wide 3 Try.f3 rfl rfl rfl rfl rfl rfl rfl ⟨rfl, rfl, rfl, rfl, rfl⟩ rfl rfl rfl rfl rfl (by kernel_rfl) Try.func3 (by kernel_rfl)
    (of_decide_eq_true (by kernel_rfl)) (by unfold Func.isWrapper; first | (rw [if_pos (by decide +kernel)]; kernel_rfl) | (rw [if_neg (by decide +kernel)]; exact ⟨rfl, rfl⟩))
    (fun os started H enc _ => reedsolomonField_lifted os started H enc)
end Go.Proofs.Ytedjnjgnadbkaaa
