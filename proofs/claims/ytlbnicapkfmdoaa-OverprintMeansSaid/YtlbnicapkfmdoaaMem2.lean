/- SameInts at two slices that read alike. -/
import Derived.Test.YtlbnicapkfmdoaaMem
namespace Go.Proofs.Ytlbnicapkfmdoaa
open Go.RowKit

set_option maxHeartbeats 1000000 in
theorem sameInts_yes (A B : Option Addr) (xs : List Int) (c d : Nat) (w : World) (hl : xs.length ≤ maxLen) (h : Ints w A xs) (h' : Ints w B xs) :
    Calls Try.prog 27 #[.slice A xs.length c, .slice B xs.length d] w fun e w' => e = .returned (.bool true) ∧ Below w.heap.size w w' := by
  unfold maxLen at hl
  have hb : ((xs.length : Int) != xs.length) = false := by simp
  go_enter Try.func27, Try.ntmps27
  go_wp2
  go_loopw [5, 13] (fun _ i wr => ∃ k : Nat, k ≤ xs.length ∧ i = .int .i64 k ∧ Below w.heap.size w wr) (fun _ i _ => xs.length - (intOf i).toNat)
  case atStart => exact ⟨0, Nat.zero_le _, rfl, Below.refl _ _⟩
  case round =>
    obtain ⟨k, hk, rfl, hbel⟩ := hrel
    by_cases hlt : k < xs.length
    · obtain ⟨b, o, x, rfl, hx, hc⟩ := (h.kept hbel).at hlt
      obtain ⟨b', o', x', rfl, hx', hc'⟩ := (h'.kept hbel).at hlt
      obtain rfl : x' = x := by
        have := hx'.out.symm.trans hx.out
        simpa using this
      have HI := Lib.hid h
      have HI' := Lib.hid h'
      clear h h'
      have hk0 : (0 : Int) ≤ (k : Int) := by omega
      have hk1 : (k : Int) < (xs.length : Int) := by omega
      go_wp2
      go_quiet (fail)
      go_wp2
      go_roundw
      case rel => exact ⟨k + 1, by omega, by go_num, below_drewN hbel _⟩
      case measure => simp [intOf]; omega
    · obtain rfl : k = xs.length := by omega
      go_wp2
      go_ret
      exact ⟨rfl, hbel⟩
end Go.Proofs.Ytlbnicapkfmdoaa
