/- inklimitWorks. -/
import Derived.Test.YtlbnicapkfmdoaaInk5
import Derived.Test.YtlbnicapkfmdoaaCurveW
namespace Go.Proofs.Ytlbnicapkfmdoaa
open Go.RowKit

def inkA : List Int := [200, 200, 200, 100]
def inkB : List Int := [100, 150, 120, 20]
def inkLA : List Int := [100, 100, 100, 100]
def inkLB : List Int := [0, 50, 20, 120]
def inkLC : List Int := [0, 21, 8, 120]
set_option maxRecDepth 100000 in
set_option maxHeartbeats 4000000 in
theorem inklimitWorks_any (w : World) : Calls Try.prog 33 #[] w fun e w' => e = .returned (.bool true) ∧ Below w.heap.size w w' := by
  have H1 := Lib.hid (show limitF inkA 3 400 = (inkLA, 0) by decide +kernel)
  have H2 := Lib.hid (show replaceF inkB lineL = (inkLB, 100, 0) by decide +kernel)
  have H3 := Lib.hid (show sepF inkB lineL 150 = (inkLC, 0) by decide +kernel)
  have hl2 : lineL.length ≤ maxLen := by rw [lineL_length]; simp [maxLen]
  have hl4 : (4 : Nat) ≤ maxLen := by simp [maxLen]
  go_enter Try.func33, Try.ntmps33
  go_wp2_with (first | (go_at_call 40; refine (limit_is (xs := inkA) (c := 4) _ hl4 (ints_alloc w inkA _) H1.out).mono ?_; rintro e w1 ⟨A1, c1, rfl, hi1, hb⟩; have hacc : Below w.heap.size w w1 := Below.trans (by repeat (first | assumption | exact Below.refl _ _ | refine below_drewN ?_ _ | refine Below.drew ?_ | refine Below.setCell ?_ (by first | exact Nat.le_refl _ | assumption | (simp; done) | (simp; omega) | omega) _ | refine Below.alloc ?_ (by first | exact Nat.le_refl _ | assumption | (simp; done) | omega | exact Below.size (by assumption) | (simp; omega)) _)) (hb.mono (by first | exact Nat.le_refl _ | assumption | (simp; done) | (simp; omega))); have hz := hacc.size; clear hb) | fail)
  go_at_call 61
  refine (line_any _).mono ?_
  rintro e w2 ⟨L1, d1, rfl, hp1, hb⟩
  have hacc : Below w.heap.size w w2 := Below.trans (by repeat (first | assumption | exact Below.refl _ _ | refine below_drewN ?_ _ | refine Below.drew ?_ | refine Below.setCell ?_ (by first | exact Nat.le_refl _ | assumption | (simp; done) | (simp; omega) | omega) _ | refine Below.alloc ?_ (by first | exact Nat.le_refl _ | assumption | (simp; done) | omega | exact Below.size (by assumption) | (simp; omega)) _)) (hb.mono (by first | exact Nat.le_refl _ | assumption | (simp; done) | (simp; omega))); have hz := hacc.size
  have hk1 : Below w1.heap.size w1 w2 := Below.trans (by repeat (first | assumption | exact Below.refl _ _ | refine below_drewN ?_ _ | refine Below.drew ?_ | refine Below.setCell ?_ (by first | exact Nat.le_refl _ | assumption | (simp; done) | (simp; omega) | omega) _ | refine Below.alloc ?_ (by first | exact Nat.le_refl _ | assumption | (simp; done) | omega | exact Below.size (by assumption) | (simp; omega)) _)) (hb.mono (by first | exact Nat.le_refl _ | assumption | (simp; done) | (simp; omega))); have hz1 := hk1.size
  have hil := (ints_alloc w1 inkB 3).kept hb
  clear hb
  go_wp2_with (go_at_call 34; refine (replace_is (xs := inkB) (ps := lineL) (c := 4) _ hl4 hl2 hil hp1 H2.out).mono ?_; rintro e w3 ⟨A3, c3, rfl, hi3, hb⟩; have hacc : Below w.heap.size w w3 := Below.trans (by repeat (first | assumption | exact Below.refl _ _ | refine below_drewN ?_ _ | refine Below.drew ?_ | refine Below.setCell ?_ (by first | exact Nat.le_refl _ | assumption | (simp; done) | (simp; omega) | omega) _ | refine Below.alloc ?_ (by first | exact Nat.le_refl _ | assumption | (simp; done) | omega | exact Below.size (by assumption) | (simp; omega)) _)) (hb.mono (by first | exact Nat.le_refl _ | assumption | (simp; done) | (simp; omega))); have hz := hacc.size; have hk1 : Below w1.heap.size w1 w3 := Below.trans (by repeat (first | assumption | exact Below.refl _ _ | refine below_drewN ?_ _ | refine Below.drew ?_ | refine Below.setCell ?_ (by first | exact Nat.le_refl _ | assumption | (simp; done) | (simp; omega) | omega) _ | refine Below.alloc ?_ (by first | exact Nat.le_refl _ | assumption | (simp; done) | omega | exact Below.size (by assumption) | (simp; omega)) _)) (hb.mono (by first | exact Nat.le_refl _ | assumption | (simp; done) | (simp; omega))); have hz1 := hk1.size; clear hb)
  go_at_call 61
  refine (line_any _).mono ?_
  rintro e w4 ⟨L2, d2, rfl, hp2, hb⟩
  have hacc : Below w.heap.size w w4 := Below.trans (by repeat (first | assumption | exact Below.refl _ _ | refine below_drewN ?_ _ | refine Below.drew ?_ | refine Below.setCell ?_ (by first | exact Nat.le_refl _ | assumption | (simp; done) | (simp; omega) | omega) _ | refine Below.alloc ?_ (by first | exact Nat.le_refl _ | assumption | (simp; done) | omega | exact Below.size (by assumption) | (simp; omega)) _)) (hb.mono (by first | exact Nat.le_refl _ | assumption | (simp; done) | (simp; omega))); have hz := hacc.size
  have hk1 : Below w1.heap.size w1 w4 := Below.trans (by repeat (first | assumption | exact Below.refl _ _ | refine below_drewN ?_ _ | refine Below.drew ?_ | refine Below.setCell ?_ (by first | exact Nat.le_refl _ | assumption | (simp; done) | (simp; omega) | omega) _ | refine Below.alloc ?_ (by first | exact Nat.le_refl _ | assumption | (simp; done) | omega | exact Below.size (by assumption) | (simp; omega)) _)) (hb.mono (by first | exact Nat.le_refl _ | assumption | (simp; done) | (simp; omega))); have hz1 := hk1.size
  have hk3 : Below w3.heap.size w3 w4 := Below.trans (by repeat (first | assumption | exact Below.refl _ _ | refine below_drewN ?_ _ | refine Below.drew ?_ | refine Below.setCell ?_ (by first | exact Nat.le_refl _ | assumption | (simp; done) | (simp; omega) | omega) _ | refine Below.alloc ?_ (by first | exact Nat.le_refl _ | assumption | (simp; done) | omega | exact Below.size (by assumption) | (simp; omega)) _)) (hb.mono (by first | exact Nat.le_refl _ | assumption | (simp; done) | (simp; omega))); have hz3 := hk3.size
  have hil := (ints_alloc w3 inkB 3).kept hb
  clear hb
  go_wp2_with (go_at_call 35; refine (sep_is (xs := inkB) (ps := lineL) (c := 4) _ hl4 hl2 hil hp2 H3.out).mono ?_; rintro e w5 ⟨A5, c5, rfl, hi5, hb⟩; have hacc : Below w.heap.size w w5 := Below.trans (by repeat (first | assumption | exact Below.refl _ _ | refine below_drewN ?_ _ | refine Below.drew ?_ | refine Below.setCell ?_ (by first | exact Nat.le_refl _ | assumption | (simp; done) | (simp; omega) | omega) _ | refine Below.alloc ?_ (by first | exact Nat.le_refl _ | assumption | (simp; done) | omega | exact Below.size (by assumption) | (simp; omega)) _)) (hb.mono (by first | exact Nat.le_refl _ | assumption | (simp; done) | (simp; omega))); have hz := hacc.size; have hk1 : Below w1.heap.size w1 w5 := Below.trans (by repeat (first | assumption | exact Below.refl _ _ | refine below_drewN ?_ _ | refine Below.drew ?_ | refine Below.setCell ?_ (by first | exact Nat.le_refl _ | assumption | (simp; done) | (simp; omega) | omega) _ | refine Below.alloc ?_ (by first | exact Nat.le_refl _ | assumption | (simp; done) | omega | exact Below.size (by assumption) | (simp; omega)) _)) (hb.mono (by first | exact Nat.le_refl _ | assumption | (simp; done) | (simp; omega))); have hz1 := hk1.size; have hk3 : Below w3.heap.size w3 w5 := Below.trans (by repeat (first | assumption | exact Below.refl _ _ | refine below_drewN ?_ _ | refine Below.drew ?_ | refine Below.setCell ?_ (by first | exact Nat.le_refl _ | assumption | (simp; done) | (simp; omega) | omega) _ | refine Below.alloc ?_ (by first | exact Nat.le_refl _ | assumption | (simp; done) | omega | exact Below.size (by assumption) | (simp; omega)) _)) (hb.mono (by first | exact Nat.le_refl _ | assumption | (simp; done) | (simp; omega))); have hz3 := hk3.size; clear hb)
  go_at_call 27
  refine (sameInts_yes A1 (some ⟨w5.heap.size, 0, none⟩) inkLA c1 4 _ hl4 (hi1.kept (by repeat (first | assumption | exact Below.refl _ _ | refine below_drewN ?_ _ | refine Below.drew ?_ | refine Below.setCell ?_ (by first | exact Nat.le_refl _ | assumption | (simp; done) | (simp; omega) | omega) _ | refine Below.alloc ?_ (by first | exact Nat.le_refl _ | assumption | (simp; done) | omega | exact Below.size (by assumption) | (simp; omega)) _))) (ints_alloc w5 inkLA 3)).mono ?_
  rintro e w6 ⟨rfl, hb⟩
  have hacc : Below w.heap.size w w6 := Below.trans (by repeat (first | assumption | exact Below.refl _ _ | refine below_drewN ?_ _ | refine Below.drew ?_ | refine Below.setCell ?_ (by first | exact Nat.le_refl _ | assumption | (simp; done) | (simp; omega) | omega) _ | refine Below.alloc ?_ (by first | exact Nat.le_refl _ | assumption | (simp; done) | omega | exact Below.size (by assumption) | (simp; omega)) _)) (hb.mono (by first | exact Nat.le_refl _ | assumption | (simp; done) | (simp; omega))); have hz := hacc.size
  have hk3 : Below w3.heap.size w3 w6 := Below.trans (by repeat (first | assumption | exact Below.refl _ _ | refine below_drewN ?_ _ | refine Below.drew ?_ | refine Below.setCell ?_ (by first | exact Nat.le_refl _ | assumption | (simp; done) | (simp; omega) | omega) _ | refine Below.alloc ?_ (by first | exact Nat.le_refl _ | assumption | (simp; done) | omega | exact Below.size (by assumption) | (simp; omega)) _)) (hb.mono (by first | exact Nat.le_refl _ | assumption | (simp; done) | (simp; omega))); have hz3 := hk3.size
  have hk5 : Below w5.heap.size w5 w6 := Below.trans (by repeat (first | assumption | exact Below.refl _ _ | refine below_drewN ?_ _ | refine Below.drew ?_ | refine Below.setCell ?_ (by first | exact Nat.le_refl _ | assumption | (simp; done) | (simp; omega) | omega) _ | refine Below.alloc ?_ (by first | exact Nat.le_refl _ | assumption | (simp; done) | omega | exact Below.size (by assumption) | (simp; omega)) _)) (hb.mono (by first | exact Nat.le_refl _ | assumption | (simp; done) | (simp; omega))); have hz5 := hk5.size
  clear hb
  go_wp2_with fail
  go_at_call 27
  refine (sameInts_yes A3 (some ⟨w6.heap.size, 0, none⟩) inkLB c3 4 _ hl4 (hi3.kept (by repeat (first | assumption | exact Below.refl _ _ | refine below_drewN ?_ _ | refine Below.drew ?_ | refine Below.setCell ?_ (by first | exact Nat.le_refl _ | assumption | (simp; done) | (simp; omega) | omega) _ | refine Below.alloc ?_ (by first | exact Nat.le_refl _ | assumption | (simp; done) | omega | exact Below.size (by assumption) | (simp; omega)) _))) (ints_alloc w6 inkLB 3)).mono ?_
  rintro e w7 ⟨rfl, hb⟩
  have hacc : Below w.heap.size w w7 := Below.trans (by repeat (first | assumption | exact Below.refl _ _ | refine below_drewN ?_ _ | refine Below.drew ?_ | refine Below.setCell ?_ (by first | exact Nat.le_refl _ | assumption | (simp; done) | (simp; omega) | omega) _ | refine Below.alloc ?_ (by first | exact Nat.le_refl _ | assumption | (simp; done) | omega | exact Below.size (by assumption) | (simp; omega)) _)) (hb.mono (by first | exact Nat.le_refl _ | assumption | (simp; done) | (simp; omega)))
  have hz := hacc.size
  have hk5 : Below w5.heap.size w5 w7 := Below.trans (by repeat (first | assumption | exact Below.refl _ _ | refine below_drewN ?_ _ | refine Below.drew ?_ | refine Below.setCell ?_ (by first | exact Nat.le_refl _ | assumption | (simp; done) | (simp; omega) | omega) _ | refine Below.alloc ?_ (by first | exact Nat.le_refl _ | assumption | (simp; done) | omega | exact Below.size (by assumption) | (simp; omega)) _)) (hb.mono (by first | exact Nat.le_refl _ | assumption | (simp; done) | (simp; omega)))
  have hz5 := hk5.size
  clear hb
  go_wp2_with fail
  go_at_call 27
  refine (sameInts_yes A5 (some ⟨w7.heap.size, 0, none⟩) inkLC c5 4 _ hl4 (hi5.kept (by repeat (first | assumption | exact Below.refl _ _ | refine below_drewN ?_ _ | refine Below.drew ?_ | refine Below.setCell ?_ (by first | exact Nat.le_refl _ | assumption | (simp; done) | (simp; omega) | omega) _ | refine Below.alloc ?_ (by first | exact Nat.le_refl _ | assumption | (simp; done) | omega | exact Below.size (by assumption) | (simp; omega)) _))) (ints_alloc w7 inkLC 3)).mono ?_
  rintro e w8 ⟨rfl, hb⟩
  have hacc : Below w.heap.size w w8 := Below.trans (by repeat (first | assumption | exact Below.refl _ _ | refine below_drewN ?_ _ | refine Below.drew ?_ | refine Below.setCell ?_ (by first | exact Nat.le_refl _ | assumption | (simp; done) | (simp; omega) | omega) _ | refine Below.alloc ?_ (by first | exact Nat.le_refl _ | assumption | (simp; done) | omega | exact Below.size (by assumption) | (simp; omega)) _)) (hb.mono (by first | exact Nat.le_refl _ | assumption | (simp; done) | (simp; omega))); have hz := hacc.size
  go_wp2
  go_ret
  exact ⟨rfl, hacc⟩
end Go.Proofs.Ytlbnicapkfmdoaa
