/- Symbolic walks: old contracts as contracts on data. No program in sight. -/
import Derived.Test.YtnbmldnahacnlaaSxH
namespace Go.Proofs.Ytnbmldnahacnlaa
open Go Go.RowKit

section
variable {w : World} {G : Gh} {vs : Array Value}
theorem args0 (h : ArgsV w G [] vs) : vs = #[] := by
  have := h.size
  exact Array.eq_empty_of_size_eq_zero (by simpa using this)
theorem args1 {x : AV} (h : ArgsV w G [x] vs) : ∃ a, vs = #[a] ∧ RelV w G x a := by
  obtain ⟨l⟩ := vs
  have hs := h.size
  match l, hs with
  | [a], _ => exact ⟨a, rfl, h.rel 0 x a rfl rfl⟩
theorem args2 {x y : AV} (h : ArgsV w G [x, y] vs) : ∃ a b, vs = #[a, b] ∧ RelV w G x a ∧ RelV w G y b := by
  obtain ⟨l⟩ := vs
  have hs := h.size
  match l, hs with
  | [a, b], _ => exact ⟨a, b, rfl, h.rel 0 x a rfl rfl, h.rel 1 y b rfl rfl⟩
theorem args3 {x y z : AV} (h : ArgsV w G [x, y, z] vs) : ∃ a b c, vs = #[a, b, c] ∧ RelV w G x a ∧ RelV w G y b ∧ RelV w G z c := by
  obtain ⟨l⟩ := vs
  have hs := h.size
  match l, hs with
  | [a, b, c], _ => exact ⟨a, b, c, rfl, h.rel 0 x a rfl rfl, h.rel 1 y b rfl rfl, h.rel 2 z c rfl rfl⟩
theorem agg3 {x y z : AV} {v : Value} (h : RelV w G (.agg [x, y, z]) v) : ∃ a b c, v = .agg #[a, b, c] ∧ RelV w G x a ∧ RelV w G y b ∧ RelV w G z c := by
  obtain ⟨us, rfl, hl, hr⟩ := h.agg'
  obtain ⟨l⟩ := us
  match l, hl with
  | [a, b, c], _ => exact ⟨a, b, c, rfl, hr 0 x a rfl rfl, hr 1 y b rfl rfl, hr 2 z c rfl rfl⟩
end
section
variable {P : Program} {F : FuncId} {xs : List AV} {y : AV}
theorem AF.old {v : Value} (hv : ∀ w G, RelV w G y v) (h : ∀ w vs, ArgsV w (Gh.none w.heap.size) xs vs → Calls P F vs w fun e w' => e = .returned v ∧ Below w.heap.size w w') : AF P F xs y := .mk fun w vs ha =>
  (h w vs ha).mono fun _ w' ⟨he, hb⟩ => ⟨v, he, hb, hv w' _⟩
theorem tup2_rel {w : World} {G : Gh} {x y : AV} {a b : Value} (h1 : RelV w G x a) (h2 : RelV w G y b) : RelV w G (.tup [x, y]) (.tuple #[a, b]) := .tup _ _ rfl fun i u v hu hv => by
  match i with
  | 0 => simp at hu hv; subst hu; subst hv; exact h1
  | 1 => simp at hu hv; subst hu; subst hv; exact h2
  | i + 2 => simp at hu
theorem agg3_rel {w : World} {G : Gh} {x y z : AV} {a b c : Value} (h1 : RelV w G x a) (h2 : RelV w G y b) (h3 : RelV w G z c) : RelV w G (.agg [x, y, z]) (.agg #[a, b, c]) := .agg _ _ rfl fun i u v hu hv => by
  match i with
  | 0 => simp at hu hv; subst hu; subst hv; exact h1
  | 1 => simp at hu hv; subst hu; subst hv; exact h2
  | 2 => simp at hu hv; subst hu; subst hv; exact h3
  | i + 3 => simp at hu
end
/-- triples of numbers -/
def eT : Int × Int × Int → List AV
  | (a, b, c) => [.int .i64 a, .int .i64 b, .int .i64 c]
theorem old_eT (x : Int × Int × Int) : oldR (eT x) = eT x := by obtain ⟨a, b, c⟩ := x; simp [eT, oldR, AV.old]
theorem isd_eT (x : Int × Int × Int) : ∀ a ∈ eT x, isD a = true := by
  obtain ⟨a, b, c⟩ := x
  intro v hv
  simp only [eT, List.mem_cons, List.not_mem_nil, or_false] at hv
  rcases hv with rfl | rfl | rfl <;> rfl
theorem ne_eT (x : Int × Int × Int) : eT x ≠ [] := by obtain ⟨a, b, c⟩ := x; simp [eT]
theorem rdt_of {w : World} {own : Nat → Prop} {bs : Nat} {fr : Bool} {xs : List (Int × Int × Int)} {v : Value} (h : RelD w own bs (.ro fr 3 (xs.map eT)) v) : ∃ A c, v = .slice A xs.length c ∧ xs.length ≤ c ∧ c ≤ maxLen ∧
    ∀ i p, xs[i]? = some p → ∃ b o, A = some ⟨b, o, none⟩ ∧ w.cell? ⟨b, o + i * 3, none⟩ = some (.int .i64 p.1) ∧ w.cell? ⟨b, o + i * 3 + 1, none⟩ = some (.int .i64 p.2.1) ∧ w.cell? ⟨b, o + i * 3 + 2, none⟩ = some (.int .i64 p.2.2) := by
  cases h with
  | ro _ _ _ A c f hc hm h0 h1 h2 =>
    refine ⟨A, c, by simp, by simpa using hc, hm, fun i p hx => ?_⟩
    obtain ⟨x, y, z⟩ := p
    have g1 : (xs.map eT)[i]? = some (eT (x, y, z)) := enc_at hx
    obtain ⟨b, o, e1, _, _, e4⟩ := h1 i _ 0 _ g1 rfl
    obtain ⟨b', o', e1', _, _, e4'⟩ := h1 i _ 1 _ g1 rfl
    obtain ⟨b'', o'', e1'', _, _, e4''⟩ := h1 i _ 2 _ g1 rfl
    have e5 := h2 i _ 0 _ g1 rfl
    have e5' := h2 i _ 1 _ g1 rfl
    have e5'' := h2 i _ 2 _ g1 rfl
    rw [e1] at e1' e1''
    injection e1' with e1'
    injection e1' with q1 q2 _
    injection e1'' with e1''
    injection e1'' with q3 q4 _
    subst q1; subst q2; subst q3; subst q4
    refine ⟨b, o, e1, ?_, ?_, ?_⟩
    · rw [Nat.add_zero] at e4
      rw [e4]
      generalize f i 0 = u at e5
      cases e5
      rfl
    · rw [e4']
      generalize f i 1 = u at e5'
      cases e5'
      rfl
    · rw [e4'']
      generalize f i 2 = u at e5''
      cases e5''
      rfl
end Go.Proofs.Ytnbmldnahacnlaa
