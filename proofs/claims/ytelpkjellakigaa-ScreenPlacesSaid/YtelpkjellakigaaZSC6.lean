/- ScreenPlaces: for every input this law returns true and leaves its arguments as they were. -/
import Derived.Test.YtelpkjellakigaaZSC5
import Derived.Conc.Holds
/- A call that leaves no other goroutine: the sentence about those that are only leaving. No program in sight. -/
namespace Go.Proofs.Ytelpkjellakigaa
open Go
theorem quiet_leaving {P : Program} {m : Machine} (h : m.quiet) : m.OnlyLeaving P := by
  obtain ⟨h1, h2⟩ := h
  refine ⟨fun g hg => ⟨0, ?_⟩, h2⟩
  unfold Machine.othersDone at h1
  have h3 := List.all_eq_true.1 h1 g hg
  exact eq_of_beq h3
theorem leaving_of_handed {a : Go.Assume} {C : Go.Checked} {os : Go.Os} {f : FuncId} {r : Go.Reach} {Pre : World → Array Value → Prop} {Post : World → Array Value → Value → World → Prop}
    (h : ReturnsInHanded a C os f r Pre Post) : ReturnsInLeavingWide a C os f r Pre Post := fun enter => by
  obtain ⟨e1, own, started, wit, runs⟩ := h enter
  refine ⟨e1, own, started, wit, fun w tape i hi => ?_⟩
  obtain ⟨N, v, w', h1, h2, h3, h4, ⟨M, last, g1, g2, q, ho, eh⟩, h6⟩ := runs w tape i hi
  exact ⟨N, v, w', h1, h2, h3, h4, ⟨M, last, g1, g2, ho, quiet_leaving q, eh⟩, h6⟩
end Go.Proofs.Ytelpkjellakigaa
/- ScreenPlaces: for every input this law returns true and leaves its arguments as they were. -/
namespace Go.Proofs.Ytelpkjellakigaa
open Go.ChangeShapes Go.WideShapes Go.ChangeAt Go.RowKit

set_option maxRecDepth 100000 in
theorem screenPlaces_lifted (os : Os) (started : os.Started) (H : Type) (enc : TypeId × Value → H) :
    ReturnsInHanded {} Try.checked os 5 .any (Rows.screenPlacesSpec.pre6 enc Try.prog Try.f5 Rows.screenPlacesRow.domain false) (Rows.screenPlacesSpec.post enc Try.prog Try.f5 false true false false) := by
  refine law_lifted started (by kernel_rfl) Try.func5
    (ChangeSpec.witness6 (enc := enc) (C := Try.checked) false ⟨#[], #[.agg #[.int .i64 0, .int .i64 0, .int .i64 0], .int .i64 0, .int .i64 0], []⟩ 8 (by kernel_rfl) (by kernel_rfl) (by kernel_rfl) (by kernel_rfl)) rfl rfl (by kernel_rfl)
    (fun ds h => by rw [Try.params5] at h; match ds, h with | [_, _, _], _ => rfl) ?_
  intro W base args ds ps hval hA hsz hlt
  rw [Try.params5] at hA hval
  exact law_any law_ScreenPlaces_ok (by kernel_rfl) ((fun x _ => Sc.screenPlaces_r (Nat.le_of_eq FU_val.symm) x.1.1 x.1.2.1 x.1.2.2 x.2.1 x.2.2.1 rfl)) (fun j t v ht hv => hval j t v (by simpa using ht) hv) hA

theorem screenPlaces_holds : Rows.ScreenPlacesSaid :=
  OpenClaim.holds_of_wide_leaving 5 Try.f5 rfl rfl rfl rfl rfl rfl rfl ⟨rfl, rfl, rfl, rfl, rfl⟩ rfl rfl rfl rfl rfl (by kernel_rfl) Try.func5 (by kernel_rfl)
    (of_decide_eq_true (by kernel_rfl)) (by unfold Func.isWrapper; first | (rw [if_pos (by decide +kernel)]; kernel_rfl) | (rw [if_neg (by decide +kernel)]; exact ⟨rfl, rfl⟩))
    (fun os started H enc _ => leaving_of_handed (screenPlaces_lifted os started H enc))
end Go.Proofs.Ytelpkjellakigaa
