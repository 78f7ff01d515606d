/- Symbolic walks: the operations that leave memory alone. No program in sight. -/
import Derived.Test.YtnbmldnahacnlaaSx3
import Derived.WalkKit
import Derived.WalkSpells
import Derived.WalkLawsBesides
namespace Go.Proofs.Ytnbmldnahacnlaa
open Go Go.RowKit

theorem RelV.tup' {w : World} {G : Gh} {vs : List AV} {v : Value} (h : RelV w G (.tup vs) v) : ∃ us, v = .tuple us ∧ us.size = vs.length ∧ ∀ (i : Nat) (a : AV) (u : Value), vs[i]? = some a → us[i]? = some u → RelV w G a u := by
  cases h with
  | dat h => cases h
  | tup _ us hl h => exact ⟨us, rfl, hl, h⟩
theorem RelV.agg' {w : World} {G : Gh} {vs : List AV} {v : Value} (h : RelV w G (.agg vs) v) : ∃ us, v = .agg us ∧ us.size = vs.length ∧ ∀ (i : Nat) (a : AV) (u : Value), vs[i]? = some a → us[i]? = some u → RelV w G a u := by
  cases h with
  | dat h => cases h
  | agg _ us hl h => exact ⟨us, rfl, hl, h⟩
section
variable {P : Program} {n : Nat} {st : ASt}
/-- an operation that leaves memory alone: its value, in this world and in every later one in which nothing that is there has turned -/
structure OpR (P : Program) (n : Nat) (o : Oper) (st : ASt) (x : AV) : Prop where
  dst : dok o.dst n = true
  out : ∀ K a w G, RelG K n st a w G → ∃ v, (∀ w', Below w.heap.size w w' → (execOp a.eval o).run P w' = .ok (.value v) w') ∧ RelV w G x v
theorem OpR.opv {o : Oper} {x : AV} (h : OpR P n o st x) : OpV P n o st (st.put o.dst x) := .mk fun K a w ⟨G, r⟩ => by
  obtain ⟨v, h1, h2⟩ := h.out K a w G r
  exact ⟨v, w, .inl (h1 w (Below.refl _ _)), G, r.put (dok_lt h.dst) h2⟩
variable {d : Option Nat} {ty : TypeId} {ps : String} {af : Array Edge} {g : Option (Nat × Bool)} {x y : Operand} {k : IntKind} {m q r : Int} {t t' : TypeId}
theorem op_move {v : AV} (hx : st.ev x = v) (hd : dok d n = true) : OpR P n ⟨d, .move x, ty, ps, af, g⟩ st v :=
  .mk hd fun _ a _ _ r => ⟨a.eval x, fun _ _ => rfl, hx ▸ r.ev x⟩
theorem op_assign {v : AV} (hx : st.ev x = v) (hd : dok d n = true) : OpR P n ⟨d, .assign x, ty, ps, af, g⟩ st v :=
  .mk hd fun _ a _ _ r => ⟨a.eval x, fun _ _ => rfl, hx ▸ r.ev x⟩
theorem op_pick {c : Operand} {b : Bool} {v : AV} (hc : st.ev c = .bool b) (hv : (bif b then st.ev x else st.ev y) = v) (hd : dok d n = true) : OpR P n ⟨d, .pick c x y, ty, ps, af, g⟩ st v :=
  .mk hd fun K a w G r => by
    subst hv
    have e := r.ev c
    rw [hc] at e
    have e := e.bool'
    refine ⟨bif b then a.eval x else a.eval y, ?_, ?_⟩
    · intro w' _
      simp only [execOp, e, asBool, Sem.run_bind, Sem.run_pure, Result.andThen_ok]
      cases b <;> rfl
    · cases b
      · exact r.ev y
      · exact r.ev x
theorem ints2 {K : Kn} {a : Act} {w : World} {G : Gh} (r : RelG K n st a w G) {k' : IntKind} {x y : Operand} {m q : Int} (hx : st.ev x = .int k m) (hy : st.ev y = .int k' q) : a.eval x = .int k m ∧ a.eval y = .int k' q := by
  have e1 := r.ev x
  have e2 := r.ev y
  rw [hx] at e1
  rw [hy] at e2
  exact ⟨e1.int', e2.int'⟩
theorem op_add (hx : st.ev x = .int k m) (hy : st.ev y = .int k q) (hr : k.wrap (m + q) = r) (hd : dok d n = true) : OpR P n ⟨d, .binOp .add t x y t', ty, ps, af, g⟩ st (.int k r) :=
  .mk hd fun K a w G rr => by
    obtain ⟨e1, e2⟩ := ints2 rr hx hy
    exact ⟨_, fun w' _ => by simp [execOp, e1, e2, eqGuard_add, binOp, Op.intArith, hr], rI _ _ _ _⟩
theorem op_sub (hx : st.ev x = .int k m) (hy : st.ev y = .int k q) (hr : k.wrap (m - q) = r) (hd : dok d n = true) : OpR P n ⟨d, .binOp .sub t x y t', ty, ps, af, g⟩ st (.int k r) :=
  .mk hd fun K a w G rr => by
    obtain ⟨e1, e2⟩ := ints2 rr hx hy
    exact ⟨_, fun w' _ => by simp [execOp, e1, e2, eqGuard_sub, binOp, Op.intArith, hr], rI _ _ _ _⟩
theorem op_mul (hx : st.ev x = .int k m) (hy : st.ev y = .int k q) (hr : k.wrap (m * q) = r) (hd : dok d n = true) : OpR P n ⟨d, .binOp .mul t x y t', ty, ps, af, g⟩ st (.int k r) :=
  .mk hd fun K a w G rr => by
    obtain ⟨e1, e2⟩ := ints2 rr hx hy
    exact ⟨_, fun w' _ => by simp [execOp, e1, e2, eqGuard_mul, binOp, Op.intArith, hr], rI _ _ _ _⟩
theorem op_quo (hx : st.ev x = .int k m) (hy : st.ev y = .int k q) (h0 : q ≠ 0) (hr : k.wrap (m.tdiv q) = r) (hd : dok d n = true) : OpR P n ⟨d, .binOp .quo t x y t', ty, ps, af, g⟩ st (.int k r) :=
  .mk hd fun K a w G rr => by
    obtain ⟨e1, e2⟩ := ints2 rr hx hy
    exact ⟨_, fun w' _ => by simp [execOp, e1, e2, eqGuard_quo, binOp, Op.intDiv, h0, hr], rI _ _ _ _⟩
theorem op_rem (hx : st.ev x = .int k m) (hy : st.ev y = .int k q) (h0 : q ≠ 0) (hd : dok d n = true) : OpR P n ⟨d, .binOp .rem t x y t', ty, ps, af, g⟩ st (.int k (m.tmod q)) :=
  .mk hd fun K a w G rr => by
    obtain ⟨e1, e2⟩ := ints2 rr hx hy
    exact ⟨_, fun w' _ => by simp [execOp, e1, e2, eqGuard_rem, binOp, Op.intDiv, h0], rI _ _ _ _⟩
theorem op_bits {op : BinOp} (ho : op = .and ∨ op = .or ∨ op = .xor ∨ op = .andNot) (hx : st.ev x = .int k m) (hy : st.ev y = .int k q) (hr : bits op k m q = r) (hd : dok d n = true) : OpR P n ⟨d, .binOp op t x y t', ty, ps, af, g⟩ st (.int k r) :=
  .mk hd fun K a w G rr => by
    obtain ⟨e1, e2⟩ := ints2 rr hx hy
    refine ⟨_, ?_, rI _ _ _ _⟩
    intro w' _
    rcases ho with rfl | rfl | rfl | rfl
    · simp [execOp, e1, e2, eqGuard_and, binOp, intBits_and, hr]
    · simp [execOp, e1, e2, eqGuard_or, binOp, intBits_or, hr]
    · simp [execOp, e1, e2, eqGuard_xor, binOp, intBits_xor, hr]
    · simp [execOp, e1, e2, show eqGuard .andNot t x y (.int k m) (.int k q) = pure () from rfl, binOp, intBits_andNot, hr]
theorem op_shl {k' : IntKind} (hx : st.ev x = .int k m) (hy : st.ev y = .int k' q) (h0 : 0 ≤ q) (h1 : q ≤ k.bits) (hr : k.wrap (m * 2 ^ q.toNat) = r) (hd : dok d n = true) : OpR P n ⟨d, .binOp .shl t x y t', ty, ps, af, g⟩ st (.int k r) :=
  .mk hd fun K a w G rr => by
    obtain ⟨e1, e2⟩ := ints2 rr hx hy
    exact ⟨_, fun w' _ => by simp [execOp, e1, e2, eqGuard_shl, binOp, shift_shl k k' m q h0 h1, hr], rI _ _ _ _⟩
theorem op_shr {k' : IntKind} (hx : st.ev x = .int k m) (hy : st.ev y = .int k' q) (h0 : 0 ≤ q) (h1 : q ≤ k.bits) (hd : dok d n = true) : OpR P n ⟨d, .binOp .shr t x y t', ty, ps, af, g⟩ st (.int k (m / 2 ^ q.toNat)) :=
  .mk hd fun K a w G rr => by
    obtain ⟨e1, e2⟩ := ints2 rr hx hy
    exact ⟨_, fun w' _ => by simp [execOp, e1, e2, eqGuard_shr, binOp, shift_shr k k' m q h0 h1], rI _ _ _ _⟩
theorem eqGuard_ints (op : BinOp) (a b : Int) (w : World) : (eqGuard op t x y (.int k a) (.int k b)).run P w = .ok () w := by
  cases op <;> simp [eqGuard]
theorem op_cmp {op : BinOp} {b : Bool} (hx : st.ev x = .int k m) (hy : st.ev y = .int k q) (hb : (Op.intCmp op m q) = pure (.bool b)) (ho : (match op with | .eql | .neq | .lss | .leq | .gtr | .geq => true | _ => false) = true) (hd : dok d n = true) : OpR P n ⟨d, .binOp op t x y t', ty, ps, af, g⟩ st (.bool b) :=
  .mk hd fun K a w G rr => by
    obtain ⟨e1, e2⟩ := ints2 rr hx hy
    refine ⟨_, ?_, rB _ _ _⟩
    intro w' _
    cases op <;> first | (simp at ho; done) | simp [execOp, e1, e2, eqGuard_ints, binOp, hb]
theorem op_lss (hx : st.ev x = .int k m) (hy : st.ev y = .int k q) (hd : dok d n = true) : OpR P n ⟨d, .binOp .lss t x y t', ty, ps, af, g⟩ st (.bool (decide (m < q))) := op_cmp hx hy rfl rfl hd
theorem op_leq (hx : st.ev x = .int k m) (hy : st.ev y = .int k q) (hd : dok d n = true) : OpR P n ⟨d, .binOp .leq t x y t', ty, ps, af, g⟩ st (.bool (decide (m ≤ q))) := op_cmp hx hy rfl rfl hd
theorem op_gtr (hx : st.ev x = .int k m) (hy : st.ev y = .int k q) (hd : dok d n = true) : OpR P n ⟨d, .binOp .gtr t x y t', ty, ps, af, g⟩ st (.bool (decide (q < m))) := op_cmp hx hy rfl rfl hd
theorem op_geq (hx : st.ev x = .int k m) (hy : st.ev y = .int k q) (hd : dok d n = true) : OpR P n ⟨d, .binOp .geq t x y t', ty, ps, af, g⟩ st (.bool (decide (q ≤ m))) := op_cmp hx hy rfl rfl hd
theorem op_eql (hx : st.ev x = .int k m) (hy : st.ev y = .int k q) (hd : dok d n = true) : OpR P n ⟨d, .binOp .eql t x y t', ty, ps, af, g⟩ st (.bool (decide (m = q))) :=
  op_cmp hx hy (by rw [show decide (m = q) = (m == q) by by_cases h : m = q <;> simp [h]]; rfl) rfl hd
theorem op_neq (hx : st.ev x = .int k m) (hy : st.ev y = .int k q) (hd : dok d n = true) : OpR P n ⟨d, .binOp .neq t x y t', ty, ps, af, g⟩ st (.bool (decide (m ≠ q))) :=
  op_cmp hx hy (by rw [show decide (m ≠ q) = (m != q) by by_cases h : m = q <;> simp [h]]; rfl) rfl hd
theorem bools2 {K : Kn} {a : Act} {w : World} {G : Gh} (r : RelG K n st a w G) {x y : Operand} {b c : Bool} (hx : st.ev x = .bool b) (hy : st.ev y = .bool c) : a.eval x = .bool b ∧ a.eval y = .bool c := by
  have e1 := r.ev x
  have e2 := r.ev y
  rw [hx] at e1
  rw [hy] at e2
  exact ⟨e1.bool', e2.bool'⟩
theorem op_beql {b c : Bool} (hx : st.ev x = .bool b) (hy : st.ev y = .bool c) (hT : P.underlying t = some .bool) (hd : dok d n = true) : OpR P n ⟨d, .binOp .eql t x y t', ty, ps, af, g⟩ st (.bool (b == c)) :=
  .mk hd fun K a w G rr => by
    obtain ⟨e1, e2⟩ := bools2 rr hx hy
    exact ⟨_, fun w' _ => by simp [execOp, e1, e2, eqGuard, run_eql_bool w' t b c hT], rB _ _ _⟩
theorem op_bneq {b c : Bool} (hx : st.ev x = .bool b) (hy : st.ev y = .bool c) (hT : P.underlying t = some .bool) (hd : dok d n = true) : OpR P n ⟨d, .binOp .neq t x y t', ty, ps, af, g⟩ st (.bool (b != c)) :=
  .mk hd fun K a w G rr => by
    obtain ⟨e1, e2⟩ := bools2 rr hx hy
    refine ⟨_, ?_, rB _ _ _⟩
    intro w' _
    have h1 : (binOp .neq t (.bool b) (.bool c)).run P w' = .ok (.bool (b != c)) w' := by
      rw [show binOp .neq t (.bool b) (.bool c) = (do pure (.bool (!(← Op.equalIn (9999 + 1) t (.bool b) (.bool c))))) from rfl]
      rw [Sem.run_bind, run_equalIn_bool' w' 9999 t b c hT]
      cases b <;> cases c <;> rfl
    simp [execOp, e1, e2, eqGuard, h1]
theorem op_not {b : Bool} (hx : st.ev x = .bool b) (hd : dok d n = true) : OpR P n ⟨d, .unOp .not t x, ty, ps, af, g⟩ st (.bool (!b)) :=
  .mk hd fun K a w G rr => by
    have e1 := rr.ev x
    rw [hx] at e1
    have e1 := e1.bool'
    exact ⟨_, fun w' _ => by simp [execOp, e1, Op.unary], rB _ _ _⟩
theorem op_neg (hx : st.ev x = .int k m) (hr : k.wrap (-m) = r) (hd : dok d n = true) : OpR P n ⟨d, .unOp .neg t x, ty, ps, af, g⟩ st (.int k r) :=
  .mk hd fun K a w G rr => by
    have e1 := rr.ev x
    rw [hx] at e1
    have e1 := e1.int'
    exact ⟨_, fun w' _ => by simp [execOp, e1, Op.unary, Op.intArith, hr], rI _ _ _ _⟩
theorem op_conv {k' : IntKind} {s : TypeDesc} (hx : st.ev x = .int k m) (hs : P.underlying t = some s) (hT : P.underlying t' = some (.int k')) (hr : k'.wrap m = r) (hd : dok d n = true) : OpR P n ⟨d, .convert t t' x, ty, ps, af, g⟩ st (.int k' r) :=
  .mk hd fun K a w G rr => by
    have e1 := rr.ev x
    rw [hx] at e1
    have e1 := e1.int'
    exact ⟨_, fun w' _ => by simp [execOp, e1, convert, run_underlying hs, run_underlying hT, Conv.intToInt, hr], rI _ _ _ _⟩
theorem op_extract {i : Nat} {vs : List AV} {v : AV} (hx : st.ev x = .tup vs) (hi : vs[i]? = some v) (hd : dok d n = true) : OpR P n ⟨d, .extract x i, ty, ps, af, g⟩ st v :=
  .mk hd fun K a w G rr => by
    have e1 := rr.ev x
    rw [hx] at e1
    obtain ⟨us, e2, hl, h⟩ := e1.tup'
    have hlt : i < us.size := by rw [hl]; exact (List.getElem?_eq_some_iff.1 hi).1
    have hui : us[i]? = some us[i] := Array.getElem?_eq_getElem hlt
    exact ⟨us[i], fun w' _ => by simp [execOp, e2, Instr.extract, hlt], h i v us[i] hi hui⟩
end
end Go.Proofs.Ytnbmldnahacnlaa
