/- Walk of OverprintCombines. -/
import Derived.Test.YtlbnicapkfmdoaaOver9
namespace Go.Proofs.Ytlbnicapkfmdoaa
open Go.RowKit

theorem combL_at {be ab ki : List Int} {k : Nat} {x y z : Int} (hx : be[k]? = some x) (hy : ab[k]? = some y) (hz : ki[k]? = some z) : combAt be ab ki k = combV z x y := by
  unfold combAt; simp [List.getD_eq_getElem?_getD, hx, hy, hz]
set_option maxRecDepth 100000 in
set_option maxHeartbeats 8000000 in
theorem combines_bad {A B C : Option Addr} {be ab ki : List Int} {ca cb cc : Nat} (w : World) (hlA : be.length ≤ maxLen) (hlB : ab.length ≤ maxLen) (hlC : ki.length ≤ maxLen) (hA : Ints w A be) (hB : Ints w B ab) (hC : Ints w C ki)
    (hE : combE be ab ki ≠ 0) :
    Calls Try.prog 5 #[.slice A be.length ca, .slice B ab.length cb, .slice C ki.length cc] w fun e w' => e = .returned (.bool true) ∧ Below w.heap.size w w' := by
  have hF := Lib.hid (show combF be ab ki = ([], combE be ab ki) from if_pos hE)
  have hlA' := hlA
  unfold maxLen at hlA'
  have hacc := Below.refl w.heap.size w
  have hs : combE be ab ki = 2 ∧ 8 < be.length ∨ ¬ 8 < be.length ∧ tonesE be be.length 255 ≠ 0 ∧ combE be ab ki = tonesE be be.length 255 ∨ ¬ 8 < be.length ∧ tonesE be be.length 255 = 0 ∧ tonesE ab be.length 255 ≠ 0 ∧ combE be ab ki = tonesE ab be.length 255 ∨
      ¬ 8 < be.length ∧ tonesE be be.length 255 = 0 ∧ tonesE ab be.length 255 = 0 ∧ tonesE ki be.length 3 ≠ 0 ∧ combE be ab ki = tonesE ki be.length 3 := by
    unfold combE at *
    by_cases h8 : 8 < be.length
    · exact .inl ⟨if_pos h8, h8⟩
    rw [if_neg h8] at hE ⊢
    by_cases h1 : tonesE be be.length 255 = 0
    · rw [if_neg (by omega)] at hE ⊢
      by_cases h2 : tonesE ab be.length 255 = 0
      · rw [if_neg (by omega)] at hE ⊢
        exact .inr (.inr (.inr ⟨h8, h1, h2, hE, rfl⟩))
      · rw [if_pos h2]
        exact .inr (.inr (.inl ⟨h8, h1, h2, rfl⟩))
    · rw [if_pos h1]
      exact .inr (.inl ⟨h8, h1, rfl⟩)
  clear hE
  rcases hs with ⟨he, h8⟩ | ⟨h8, h1, he⟩ | ⟨h8, h1, h2, he⟩ | ⟨h8, h1, h2, h3, he⟩
  · have h8' : (8 : Int) < (be.length : Int) := by omega
    rw [he] at hF
    clear he h8
    go_enter Try.func5, Try.ntmps5
    go_wp2_with (first | (go_at_call 24; refine (overprintWorks_any _).mono ?_; rintro e wa ⟨rfl, hb⟩; have hacc : Below w.heap.size w wa := Below.trans (by repeat (first | assumption | exact Below.refl _ _ | refine below_drewN ?_ _ | refine Below.drew ?_ | refine Below.setCell ?_ (by first | exact Nat.le_refl _ | assumption | (simp; done) | (simp; omega) | omega) _ | refine Below.alloc ?_ (by first | exact Nat.le_refl _ | assumption | (simp; done) | omega | exact Below.size (by assumption) | (simp; omega)) _)) (hb.mono (by first | exact Nat.le_refl _ | assumption | (simp; done) | (simp; omega))); have hz := hacc.size; clear hb) | (go_at_call 25; refine (combine_is _ hlA hlB hlC (hA.kept hacc) (hB.kept hacc) (hC.kept hacc) hF.out).mono ?_; rintro e wb ⟨D, d, rfl, hi, hb⟩; have hacc : Below w.heap.size w wb := Below.trans (by repeat (first | assumption | exact Below.refl _ _ | refine below_drewN ?_ _ | refine Below.drew ?_ | refine Below.setCell ?_ (by first | exact Nat.le_refl _ | assumption | (simp; done) | (simp; omega) | omega) _ | refine Below.alloc ?_ (by first | exact Nat.le_refl _ | assumption | (simp; done) | omega | exact Below.size (by assumption) | (simp; omega)) _)) (hb.mono (by first | exact Nat.le_refl _ | assumption | (simp; done) | (simp; omega))); have hz := hacc.size; clear hb) | (go_at_call 26; (with_reducible refine (tonesErr_any A be _ _ _ _ hlA (hA.kept hacc)).mono ?_); rintro e w' ⟨rfl, rfl⟩) | (go_at_call 26; (with_reducible refine (tonesErr_any B ab _ _ _ _ hlB (hB.kept hacc)).mono ?_); rintro e w' ⟨rfl, rfl⟩) | (go_at_call 26; (with_reducible refine (tonesErr_any C ki _ _ _ _ hlC (hC.kept hacc)).mono ?_); rintro e w' ⟨rfl, rfl⟩) | (go_at_call 17; refine (none_any _ _ _ _).mono ?_; rintro e w' ⟨rfl, rfl⟩))
    go_ret
    exact ⟨rfl, hacc⟩
  · have h8' : (be.length : Int) ≤ 8 := by omega
    have x1 : (tonesE be be.length 255 != 0) = true := by simpa using h1
    have x1' : (tonesE be be.length 255 == 0) = false := by simpa using h1
    rw [he] at hF
    clear he h8 h1
    go_enter Try.func5, Try.ntmps5
    go_wp2_with (first | (go_at_call 24; refine (overprintWorks_any _).mono ?_; rintro e wa ⟨rfl, hb⟩; have hacc : Below w.heap.size w wa := Below.trans (by repeat (first | assumption | exact Below.refl _ _ | refine below_drewN ?_ _ | refine Below.drew ?_ | refine Below.setCell ?_ (by first | exact Nat.le_refl _ | assumption | (simp; done) | (simp; omega) | omega) _ | refine Below.alloc ?_ (by first | exact Nat.le_refl _ | assumption | (simp; done) | omega | exact Below.size (by assumption) | (simp; omega)) _)) (hb.mono (by first | exact Nat.le_refl _ | assumption | (simp; done) | (simp; omega))); have hz := hacc.size; clear hb) | (go_at_call 25; refine (combine_is _ hlA hlB hlC (hA.kept hacc) (hB.kept hacc) (hC.kept hacc) hF.out).mono ?_; rintro e wb ⟨D, d, rfl, hi, hb⟩; have hacc : Below w.heap.size w wb := Below.trans (by repeat (first | assumption | exact Below.refl _ _ | refine below_drewN ?_ _ | refine Below.drew ?_ | refine Below.setCell ?_ (by first | exact Nat.le_refl _ | assumption | (simp; done) | (simp; omega) | omega) _ | refine Below.alloc ?_ (by first | exact Nat.le_refl _ | assumption | (simp; done) | omega | exact Below.size (by assumption) | (simp; omega)) _)) (hb.mono (by first | exact Nat.le_refl _ | assumption | (simp; done) | (simp; omega))); have hz := hacc.size; clear hb) | (go_at_call 26; (with_reducible refine (tonesErr_any A be _ _ _ _ hlA (hA.kept hacc)).mono ?_); rintro e w' ⟨rfl, rfl⟩) | (go_at_call 26; (with_reducible refine (tonesErr_any B ab _ _ _ _ hlB (hB.kept hacc)).mono ?_); rintro e w' ⟨rfl, rfl⟩) | (go_at_call 26; (with_reducible refine (tonesErr_any C ki _ _ _ _ hlC (hC.kept hacc)).mono ?_); rintro e w' ⟨rfl, rfl⟩) | (go_at_call 17; refine (none_any _ _ _ _).mono ?_; rintro e w' ⟨rfl, rfl⟩))
    go_ret
    exact ⟨ret_bool (by simp), hacc⟩
  · have h8' : (be.length : Int) ≤ 8 := by omega
    have x1' : (tonesE be be.length 255 == 0) = true := by simpa using h1
    have x2 : (tonesE ab be.length 255 != 0) = true := by simpa using h2
    have x2' : (tonesE ab be.length 255 == 0) = false := by simpa using h2
    rw [he] at hF
    clear he h8 h1 h2
    go_enter Try.func5, Try.ntmps5
    go_wp2_with (first | (go_at_call 24; refine (overprintWorks_any _).mono ?_; rintro e wa ⟨rfl, hb⟩; have hacc : Below w.heap.size w wa := Below.trans (by repeat (first | assumption | exact Below.refl _ _ | refine below_drewN ?_ _ | refine Below.drew ?_ | refine Below.setCell ?_ (by first | exact Nat.le_refl _ | assumption | (simp; done) | (simp; omega) | omega) _ | refine Below.alloc ?_ (by first | exact Nat.le_refl _ | assumption | (simp; done) | omega | exact Below.size (by assumption) | (simp; omega)) _)) (hb.mono (by first | exact Nat.le_refl _ | assumption | (simp; done) | (simp; omega))); have hz := hacc.size; clear hb) | (go_at_call 25; refine (combine_is _ hlA hlB hlC (hA.kept hacc) (hB.kept hacc) (hC.kept hacc) hF.out).mono ?_; rintro e wb ⟨D, d, rfl, hi, hb⟩; have hacc : Below w.heap.size w wb := Below.trans (by repeat (first | assumption | exact Below.refl _ _ | refine below_drewN ?_ _ | refine Below.drew ?_ | refine Below.setCell ?_ (by first | exact Nat.le_refl _ | assumption | (simp; done) | (simp; omega) | omega) _ | refine Below.alloc ?_ (by first | exact Nat.le_refl _ | assumption | (simp; done) | omega | exact Below.size (by assumption) | (simp; omega)) _)) (hb.mono (by first | exact Nat.le_refl _ | assumption | (simp; done) | (simp; omega))); have hz := hacc.size; clear hb) | (go_at_call 26; (with_reducible refine (tonesErr_any A be _ _ _ _ hlA (hA.kept hacc)).mono ?_); rintro e w' ⟨rfl, rfl⟩) | (go_at_call 26; (with_reducible refine (tonesErr_any B ab _ _ _ _ hlB (hB.kept hacc)).mono ?_); rintro e w' ⟨rfl, rfl⟩) | (go_at_call 26; (with_reducible refine (tonesErr_any C ki _ _ _ _ hlC (hC.kept hacc)).mono ?_); rintro e w' ⟨rfl, rfl⟩) | (go_at_call 17; refine (none_any _ _ _ _).mono ?_; rintro e w' ⟨rfl, rfl⟩))
    go_ret
    exact ⟨ret_bool (by simp), hacc⟩
  · have h8' : (be.length : Int) ≤ 8 := by omega
    have x1' : (tonesE be be.length 255 == 0) = true := by simpa using h1
    have x2' : (tonesE ab be.length 255 == 0) = true := by simpa using h2
    have x3 : (tonesE ki be.length 3 != 0) = true := by simpa using h3
    have x3' : (tonesE ki be.length 3 == 0) = false := by simpa using h3
    rw [he] at hF
    clear he h8 h1 h2 h3
    go_enter Try.func5, Try.ntmps5
    go_wp2_with (first | (go_at_call 24; refine (overprintWorks_any _).mono ?_; rintro e wa ⟨rfl, hb⟩; have hacc : Below w.heap.size w wa := Below.trans (by repeat (first | assumption | exact Below.refl _ _ | refine below_drewN ?_ _ | refine Below.drew ?_ | refine Below.setCell ?_ (by first | exact Nat.le_refl _ | assumption | (simp; done) | (simp; omega) | omega) _ | refine Below.alloc ?_ (by first | exact Nat.le_refl _ | assumption | (simp; done) | omega | exact Below.size (by assumption) | (simp; omega)) _)) (hb.mono (by first | exact Nat.le_refl _ | assumption | (simp; done) | (simp; omega))); have hz := hacc.size; clear hb) | (go_at_call 25; refine (combine_is _ hlA hlB hlC (hA.kept hacc) (hB.kept hacc) (hC.kept hacc) hF.out).mono ?_; rintro e wb ⟨D, d, rfl, hi, hb⟩; have hacc : Below w.heap.size w wb := Below.trans (by repeat (first | assumption | exact Below.refl _ _ | refine below_drewN ?_ _ | refine Below.drew ?_ | refine Below.setCell ?_ (by first | exact Nat.le_refl _ | assumption | (simp; done) | (simp; omega) | omega) _ | refine Below.alloc ?_ (by first | exact Nat.le_refl _ | assumption | (simp; done) | omega | exact Below.size (by assumption) | (simp; omega)) _)) (hb.mono (by first | exact Nat.le_refl _ | assumption | (simp; done) | (simp; omega))); have hz := hacc.size; clear hb) | (go_at_call 26; (with_reducible refine (tonesErr_any A be _ _ _ _ hlA (hA.kept hacc)).mono ?_); rintro e w' ⟨rfl, rfl⟩) | (go_at_call 26; (with_reducible refine (tonesErr_any B ab _ _ _ _ hlB (hB.kept hacc)).mono ?_); rintro e w' ⟨rfl, rfl⟩) | (go_at_call 26; (with_reducible refine (tonesErr_any C ki _ _ _ _ hlC (hC.kept hacc)).mono ?_); rintro e w' ⟨rfl, rfl⟩) | (go_at_call 17; refine (none_any _ _ _ _).mono ?_; rintro e w' ⟨rfl, rfl⟩))
    go_ret
    exact ⟨ret_bool (by simp), hacc⟩
end Go.Proofs.Ytlbnicapkfmdoaa
