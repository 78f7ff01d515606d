/- Walk of Combine, all cases. -/
import Derived.Test.YtlbnicapkfmdoaaOver2
namespace Go.Proofs.Ytlbnicapkfmdoaa
open Go.RowKit

set_option maxRecDepth 20000 in
set_option maxHeartbeats 4000000 in
theorem combine_is {A B C : Option Addr} {be ab ki : List Int} {ca cb cc : Nat} {p : List Int} {q : Int} (w : World) (hlA : be.length ≤ maxLen) (hlB : ab.length ≤ maxLen) (hlC : ki.length ≤ maxLen) (hA : Ints w A be) (hB : Ints w B ab) (hC : Ints w C ki)
    (hF : combF be ab ki = (p, q)) :
    Calls Try.prog 25 #[.slice A be.length ca, .slice B ab.length cb, .slice C ki.length cc] w (OutInts p q w) := by
  have hlA' := hlA
  unfold maxLen at hlA'
  have hlC' := hlC
  unfold maxLen at hlC'
  by_cases h8 : 8 < be.length
  · have hc : combE be ab ki = 2 := if_pos h8
    unfold combF at hF
    rw [hc, if_pos (by decide)] at hF
    obtain ⟨rfl, rfl⟩ := Prod.mk.inj hF
    have h8' : (8 : Int) < (be.length : Int) := by omega
    clear hF hc h8
    go_enter Try.func25, Try.ntmps25
    go_wp2
    go_ret2
    exact ⟨_, _, rfl, Ints.nil _ _, Below.refl _ _⟩
  have h8' : (be.length : Int) ≤ 8 := by omega
  by_cases he1 : tonesE be be.length 255 = 0
  · by_cases he2 : tonesE ab be.length 255 = 0
    · by_cases hkl : ki.length = be.length
      · exact combine_loop w hA hB hC (by omega) he1 he2 hkl hF
      · have hk4 : tonesE ki be.length 3 = 4 := if_pos (by omega)
        have hc : combE be ab ki = 4 := by
          unfold combE
          rw [if_neg h8, if_neg (by omega), if_neg (by omega), hk4]
        unfold combF at hF
        rw [hc, if_pos (by decide)] at hF
        obtain ⟨rfl, rfl⟩ := Prod.mk.inj hF
        have x1 : (tonesE be be.length 255 != 0) = false := by simp [he1]
        have x2 : (tonesE ab be.length 255 != 0) = false := by simp [he2]
        have x3 : ((ki.length : Int) != (be.length : Int)) = true := by rw [bne_iff_ne]; omega
        clear hF hc hk4 h8 he1 he2 hkl
        go_enter Try.func25, Try.ntmps25
        go_wp2_with (first | (go_at_call 56; (with_reducible refine (tones_any A be _ _ _ hlA hA).mono ?_); rintro e w' ⟨rfl, rfl⟩) | (go_at_call 56; (with_reducible refine (tones_any B ab _ _ _ hlB hB).mono ?_); rintro e w' ⟨rfl, rfl⟩))
        go_ret2
        exact ⟨_, _, rfl, Ints.nil _ _, Below.refl _ _⟩
    · have hc : combE be ab ki = tonesE ab be.length 255 := by
        unfold combE
        rw [if_neg h8, if_neg (by omega), if_pos he2]
      unfold combF at hF
      rw [hc, if_pos he2] at hF
      obtain ⟨rfl, rfl⟩ := Prod.mk.inj hF
      have x1 : (tonesE be be.length 255 != 0) = false := by simp [he1]
      have x2 : (tonesE ab be.length 255 != 0) = true := by simpa using he2
      clear hF hc h8 he1 he2
      go_enter Try.func25, Try.ntmps25
      go_wp2_with (first | (go_at_call 56; (with_reducible refine (tones_any A be _ _ _ hlA hA).mono ?_); rintro e w' ⟨rfl, rfl⟩) | (go_at_call 56; (with_reducible refine (tones_any B ab _ _ _ hlB hB).mono ?_); rintro e w' ⟨rfl, rfl⟩))
      go_ret2
      exact ⟨_, _, rfl, Ints.nil _ _, Below.refl _ _⟩
  · have hc : combE be ab ki = tonesE be be.length 255 := by
      unfold combE
      rw [if_neg h8, if_pos he1]
    unfold combF at hF
    rw [hc, if_pos he1] at hF
    obtain ⟨rfl, rfl⟩ := Prod.mk.inj hF
    have x1 : (tonesE be be.length 255 != 0) = true := by simpa using he1
    clear hF hc h8 he1
    go_enter Try.func25, Try.ntmps25
    go_wp2_with (go_at_call 56; (with_reducible refine (tones_any A be _ _ _ hlA hA).mono ?_); rintro e w' ⟨rfl, rfl⟩)
    go_ret2
    exact ⟨_, _, rfl, Ints.nil _ _, Below.refl _ _⟩
end Go.Proofs.Ytlbnicapkfmdoaa
