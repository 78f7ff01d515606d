/- HalftoneDots: for every input this law returns true and leaves its arguments as they were. -/
import Derived.Test.YtelpkjellakigaaZHT67
/- HalftoneDots: for every input this law returns true and leaves its arguments as they were. -/
namespace Go.Proofs.Ytelpkjellakigaa
open Go.ChangeShapes Go.WideShapes Go.ChangeAt Go.RowKit

set_option maxRecDepth 100000 in
theorem halftoneDots_lifted (os:Os) (started:os.Started) (H:Type) (enc:TypeId×Value→H) :
  ReturnsInHanded {} Try.checked os 7 .any (Rows.halftoneDotsSpec.pre6 enc Try.prog Try.f7 Rows.halftoneDotsRow.domain false) (Rows.halftoneDotsSpec.post enc Try.prog Try.f7 false true false false):=by
 refine law_lifted started (by kernel_rfl) Try.func7
  (ChangeSpec.witness6 (enc:=enc) (C:=Try.checked) false ⟨#[],#[.agg #[.int .i64 0,.int .i64 0,.slice none 0 0],.agg #[.int .i64 0,.int .i64 0,.int .i64 0]],[]⟩ 8 (by kernel_rfl) (by kernel_rfl) (by kernel_rfl) (by kernel_rfl)) rfl rfl (by kernel_rfl)
  (fun ds h=>by rw [Try.params7] at h;match ds,h with | [_,_],_=>rfl) ?_
 intro W base args ds ps hval hA hsz hlt;rw [Try.params7] at hA hval;exact law_any law_HalftoneDots_ok (by kernel_rfl) (fun x hx=>Ht.halftoneDots_r (Nat.le_of_eq FU_val.symm) (Ht.wfB hx.1.2.2.2) rfl) (fun j t v ht hv=>hval j t v (by simpa using ht) hv) hA

theorem halftoneDots_holds:Rows.HalftoneDotsSaid :=
 OpenClaim.holds_of_wide_leaving 7 Try.f7 rfl rfl rfl rfl rfl rfl rfl ⟨rfl,rfl,rfl,rfl,rfl⟩ rfl rfl rfl rfl rfl (by kernel_rfl) Try.func7 (by kernel_rfl)
  (of_decide_eq_true (by kernel_rfl)) (by unfold Func.isWrapper;first | (rw [if_pos (by decide +kernel)];kernel_rfl) | (rw [if_neg (by decide +kernel)];exact ⟨rfl,rfl⟩))
  (fun os started H enc _=>leaving_of_handed (halftoneDots_lifted os started H enc))
end Go.Proofs.Ytelpkjellakigaa
