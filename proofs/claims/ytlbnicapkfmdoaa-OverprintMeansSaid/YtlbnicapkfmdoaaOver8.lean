/- Walk of Predict, all cases. -/
import Derived.Test.YtlbnicapkfmdoaaOver7
namespace Go.Proofs.Ytlbnicapkfmdoaa
open Go.RowKit

set_option maxRecDepth 20000 in
set_option maxHeartbeats 4000000 in
theorem predict_is {A B : Option Addr} {ls : List (Int × Int × Int)} {ts : List Int} {ca cb : Nat} {p0 p1 p2 q : Int} (w : World) (hA : Labs w A ls) (hB : Ints w B ts) (hl : ts.length ≤ maxLen)
    (hF : predF ls ts = ((p0, p1, p2), q)) :
    Calls Try.prog 29 #[.slice A ls.length ca, .slice B ts.length cb] w fun e w' => e = .returned (.tuple #[.agg #[.int .i64 p0, .int .i64 p1, .int .i64 p2], .int .i64 q]) ∧ Below w.heap.size w w' := by
  have hb1 : Below w.heap.size w (w.alloc (.cells #[.int .i64 0, .int .i64 0, .int .i64 0] 41)) := (by repeat (first | assumption | exact Below.refl _ _ | refine below_drewN ?_ _ | refine Below.drew ?_ | refine Below.setCell ?_ (by first | exact Nat.le_refl _ | assumption | (simp; done) | (simp; omega) | omega) _ | refine Below.alloc ?_ (by first | exact Nat.le_refl _ | assumption | (simp; done) | omega | exact Below.size (by assumption) | (simp; omega)) _))
  have hB1 := hB.kept hb1
  by_cases he : checkE ts = 0
  · by_cases hlen : ls.length = 2 ^ ts.length
    · exact predict_loop w hA hB hl he hlen hF
    · have x1 : (checkE ts != 0) = false := by simp [he]
      unfold predF at hF
      rw [he, if_neg (by decide), if_pos hlen] at hF
      simp only [Prod.mk.injEq] at hF
      obtain ⟨⟨rfl, rfl, rfl⟩, rfl⟩ := hF
      obtain ⟨hn1, hn2, _⟩ := checkE_ok he
      have hsh : ((ls.length : Int) != wrap64 (2 ^ ts.length)) = true := by
        have h2 : 2 ^ ts.length ≤ 2 ^ 6 := Nat.pow_le_pow_right (by omega) hn1
        have e : (2 : Int) ^ ts.length = ((2 ^ ts.length : Nat) : Int) := by simp
        have hw64 : ∀ m : Nat, m ≤ 64 → wrap64 (m : Int) = (m : Int) := by intro m hm; unfold wrap64; omega
        have hw : wrap64 ((2 : Int) ^ ts.length) = ((2 ^ ts.length : Nat) : Int) := by rw [e]; exact hw64 _ h2
        rw [hw, bne_iff_ne]
        omega
      clear he hlen
      go_enter Try.func29, Try.ntmps29
      go_wp2_with (go_at_call 58; refine (ocheck_any _ hl hB1).mono ?_; rintro e w' ⟨rfl, rfl⟩)
      refine bodyPost_ret (v := .tuple #[.agg #[.int .i64 0, .int .i64 0, .int .i64 0], .int .i64 4]) (by simp [results, Try.results29, go_sem, *]) rfl ?_
      exact ⟨rfl, (by repeat (first | assumption | exact Below.refl _ _ | refine below_drewN ?_ _ | refine Below.drew ?_ | refine Below.setCell ?_ (by first | exact Nat.le_refl _ | assumption | (simp; done) | (simp; omega) | omega) _ | refine Below.alloc ?_ (by first | exact Nat.le_refl _ | assumption | (simp; done) | omega | exact Below.size (by assumption) | (simp; omega)) _))⟩
  · have x1 : (checkE ts != 0) = true := by simpa using he
    unfold predF at hF
    rw [if_pos he] at hF
    simp only [Prod.mk.injEq] at hF
    obtain ⟨⟨rfl, rfl, rfl⟩, rfl⟩ := hF
    clear he
    go_enter Try.func29, Try.ntmps29
    go_wp2_with (go_at_call 58; refine (ocheck_any _ hl hB1).mono ?_; rintro e w' ⟨rfl, rfl⟩)
    refine bodyPost_ret (v := .tuple #[.agg #[.int .i64 0, .int .i64 0, .int .i64 0], .int .i64 (checkE ts)]) (by simp [results, Try.results29, go_sem, *]) rfl ?_
    exact ⟨rfl, (by repeat (first | assumption | exact Below.refl _ _ | refine below_drewN ?_ _ | refine Below.drew ?_ | refine Below.setCell ?_ (by first | exact Nat.le_refl _ | assumption | (simp; done) | (simp; omega) | omega) _ | refine Below.alloc ?_ (by first | exact Nat.le_refl _ | assumption | (simp; done) | omega | exact Below.size (by assumption) | (simp; omega)) _))⟩
end Go.Proofs.Ytlbnicapkfmdoaa
