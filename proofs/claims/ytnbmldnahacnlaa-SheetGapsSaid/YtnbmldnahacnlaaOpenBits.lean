/- Bitmaps, plates and masks as arguments. -/
import Derived.Test.YtnbmldnahacnlaaSxOX
import Derived.Test.YtnbmldnahacnlaaBitS1
set_option maxRecDepth 100000
namespace Go.Proofs.Ytnbmldnahacnlaa
open Go Go.ChangeShapes Go.WideShapes Go.ChangeAt Go.RowKit Go.Deep

theorem cells_u8 : Try.prog.cellsOf 5 = 1 := by kernel_rfl
theorem cells_u8s : Try.prog.cellsOf 22 = 1 := by kernel_rfl
theorem wf_u8 {x : Int} (h : (Lit.int .u8 x).wf = true) : 0 ≤ x ∧ x ≤ 255 := by
  simpa [Lit.wf, IntKind.min, IntKind.max, IntKind.signed, IntKind.bits] using h
section
variable {H : Type} {enc : TypeId × Value → H} {w : World} {base : Nat} {spare : Nat → Bool} {held : Bool}
theorem arg_bits {t : TypeId} {fs : Array Field} {v : Value} {d : DataW H} {p : List MemPlace} (ht : Try.prog.underlying t = some (.struct fs)) (hc : Try.prog.cellsOf t = 3)
    (f0 : (fs[0]?).map (fun f => (f.type, f.offset)) = some (3, 0)) (f1 : (fs[1]?).map (fun f => (f.type, f.offset)) = some (3, 1)) (f2 : (fs[2]?).map (fun f => (f.type, f.offset)) = some (22, 2))
    (hv : Value.okWide Try.prog w .any base t v) (h : DataW.Trod enc Try.prog w 0 spare held t v d p) :
    ∃ (x y : Int) (ds : List Int), ((Lit.int .i64 x).wf = true ∧ (Lit.int .i64 y).wf = true ∧ Bytes ds) ∧ RelV w (Gh.none w.heap.size) (bitsA x y ds) v := by
  obtain ⟨cs, rfl, hsz⟩ := okWide_struct ht hv
  rw [hc] at hsz
  obtain ⟨u0, u1, u2, rfl⟩ : ∃ u0 u1 u2, cs = #[u0, u1, u2] := by
    obtain ⟨l⟩ := cs
    match l, hsz with | [u0, u1, u2], _ => exact ⟨u0, u1, u2, rfl⟩
  obtain ⟨fuel, hf⟩ := h
  obtain ⟨_, _, g0⟩ := rd_field1 (u := u0) ht hf 0 f0 cells_int rfl
  obtain ⟨_, _, g1⟩ := rd_field1 (u := u1) ht hf 1 f1 cells_int rfl
  obtain ⟨_, _, g2⟩ := rd_field1 (u := u2) ht hf 2 f2 cells_u8s rfl
  obtain ⟨x, rfl, w0⟩ := rd_int Try.underlying3 g0
  obtain ⟨y, rfl, w1⟩ := rd_int Try.underlying3 g1
  obtain ⟨ds, hd, hr⟩ := ro_slice (eI .u8) _ Try.underlying22 cells_u8 (by omega) (reads_int Try.underlying5) g2
  exact ⟨x, y, ds, ⟨w0, w1, fun d hm => wf_u8 (hd d hm)⟩, agg3_rel (.dat (.int _ _)) (.dat (.int _ _)) (.dat hr)⟩
end
theorem argsV1 {w : World} {G : Gh} {x0 : AV} {u0 : Value} (h0 : RelV w G x0 u0) : ArgsV w G [x0] #[u0] := ⟨rfl, fun i a v ha hv => by
  match i with
  | 0 => simp at ha hv; subst ha; subst hv; exact h0
  | i + 1 => simp at ha⟩
theorem argsV2 {w : World} {G : Gh} {x0 x1 : AV} {u0 u1 : Value} (h0 : RelV w G x0 u0) (h1 : RelV w G x1 u1) : ArgsV w G [x0, x1] #[u0, u1] := ⟨rfl, fun i a v ha hv => by
  match i with
  | 0 => simp at ha hv; subst ha; subst hv; exact h0
  | 1 => simp at ha hv; subst ha; subst hv; exact h1
  | i + 2 => simp at ha⟩
theorem argsV3 {w : World} {G : Gh} {x0 x1 x2 : AV} {u0 u1 u2 : Value} (h0 : RelV w G x0 u0) (h1 : RelV w G x1 u1) (h2 : RelV w G x2 u2) : ArgsV w G [x0, x1, x2] #[u0, u1, u2] := ⟨rfl, fun i a v ha hv => by
  match i with
  | 0 => simp at ha hv; subst ha; subst hv; exact h0
  | 1 => simp at ha hv; subst ha; subst hv; exact h1
  | 2 => simp at ha hv; subst ha; subst hv; exact h2
  | i + 3 => simp at ha⟩
theorem argsV4 {w : World} {G : Gh} {x0 x1 x2 x3 : AV} {u0 u1 u2 u3 : Value} (h0 : RelV w G x0 u0) (h1 : RelV w G x1 u1) (h2 : RelV w G x2 u2) (h3 : RelV w G x3 u3) : ArgsV w G [x0, x1, x2, x3] #[u0, u1, u2, u3] := ⟨rfl, fun i a v ha hv => by
  match i with
  | 0 => simp at ha hv; subst ha; subst hv; exact h0
  | 1 => simp at ha hv; subst ha; subst hv; exact h1
  | 2 => simp at ha hv; subst ha; subst hv; exact h2
  | 3 => simp at ha hv; subst ha; subst hv; exact h3
  | i + 4 => simp at ha⟩
end Go.Proofs.Ytnbmldnahacnlaa
