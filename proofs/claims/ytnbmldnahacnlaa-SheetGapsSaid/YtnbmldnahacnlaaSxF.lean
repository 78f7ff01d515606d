/- Symbolic walks: calls by contract, as the tactic uses them. No program in sight. -/
import Derived.Test.YtnbmldnahacnlaaSxE
namespace Go.Proofs.Ytnbmldnahacnlaa
open Go Go.RowKit

inductive EvL (st : ASt) : List Operand → List AV → Prop
  | nil : EvL st [] []
  | cons {o : Operand} {l : List Operand} {x : AV} {xs : List AV} (h : st.ev o = x) (t : EvL st l xs) : EvL st (o :: l) (x :: xs)
theorem EvL.eq {st : ASt} {l : List Operand} {xs : List AV} (h : EvL st l xs) : l.map st.ev ++ [] = xs := by
  induction h with
  | nil => rfl
  | cons h t ih => subst h; rw [List.map_cons, List.cons_append, ih]
theorem EvL.eqc {st : ASt} {l : List Operand} {xs caps ys : List AV} (h : EvL st l xs) (hy : xs ++ caps = ys) : l.map st.ev ++ caps = ys := by
  have := h.eq
  rw [List.append_nil] at this
  rw [this, hy]
inductive FrzL (hp : List (Nat × AB)) : List AV → List AV → Prop
  | nil : FrzL hp [] []
  | cons {a b : AV} {l m : List AV} (h : FrzA hp a b) (t : FrzL hp l m) : FrzL hp (a :: l) (b :: m)
theorem FrzL.len {hp : List (Nat × AB)} {l m : List AV} (h : FrzL hp l m) : l.length = m.length := by
  induction h with
  | nil => rfl
  | cons h t ih => simp [ih]
theorem FrzL.at {hp : List (Nat × AB)} {l m : List AV} (h : FrzL hp l m) : ∀ (i : Nat) (a b : AV), l[i]? = some a → m[i]? = some b → FrzA hp a b := by
  induction h with
  | nil => intro i a b h; simp at h
  | cons h t ih =>
    intro i a b ha hb
    cases i with
    | zero => simp at ha hb; subst ha; subst hb; exact h
    | succ i => exact ih i a b (by simpa using ha) (by simpa using hb)
theorem FrzA.int {hp : List (Nat × AB)} {k : IntKind} {m : Int} : FrzA hp (.int k m) (.int k m) := .dat _ rfl _ (by rw [AV.old])
theorem FrzA.intE {hp : List (Nat × AB)} {k : IntKind} {m m' : Int} (h : m = m') : FrzA hp (.int k m) (.int k m') := by subst h; exact .int
theorem FrzA.bool {hp : List (Nat × AB)} {b : Bool} : FrzA hp (.bool b) (.bool b) := .dat _ rfl _ (by rw [AV.old])
theorem FrzA.str {hp : List (Nat × AB)} {s : ByteArray} : FrzA hp (.str s) (.str s) := .dat _ rfl _ (by rw [AV.old])
theorem FrzA.ro' {hp : List (Nat × AB)} {fr : Bool} {sz : Nat} {rows : List (List AV)} (h : oldRR rows = rows) : FrzA hp (.ro fr sz rows) (.ro false sz rows) := .dat _ rfl _ (by rw [AV.old, h])
theorem isD_enc {α : Type} {f : α → List AV} (h : ∀ x, ∀ a ∈ f x, isD a = true) (xs : List α) : ∀ row ∈ xs.map f, ∀ a ∈ row, isD a = true := by
  intro row hr
  obtain ⟨x, _, rfl⟩ := List.mem_map.1 hr
  exact h x
theorem FrzA.osl' {hp : List (Nat × AB)} {id n sz : Nat} {rows : List (List AV)} {e : TypeId} (h : look .dead hp id = .row sz rows e) (hn : n = rows.length) (hd : ∀ row ∈ rows, ∀ a ∈ row, isD a = true) (hr : oldRR rows = rows) : FrzA hp (.osl id n) (.ro false sz rows) := .osl id n sz rows rows e h hn hd hr
theorem FrzA.agg' {hp : List (Nat × AB)} {cs cs' : List AV} (h : FrzL hp cs cs') : FrzA hp (.agg cs) (.agg cs') := .agg cs cs' h.len h.at
section
variable {P : Program} {n : Nat} {Q : Exit → ASt → Prop} {st : ASt} {ops : Array Oper} {l : List Oper} {d : Option Nat} {ty : TypeId} {ps : String} {af : Array Edge} {g : Option (Nat × Bool)} {cal : Operand} {args : Array Operand} {ats : Array TypeId} {F : FuncId} {caps xs xs0 xs' : List AV} {y : AV}
theorem AL.callF (hc : st.ev cal = .fn F []) (hxs : EvL st args.toList xs) (hF : callable P F = true) (hd : dok d n = true) (hfz : FrzL st.heap xs xs') (hAF : AF P F xs' y) (k : AL P n ops Q l (st.put d y)) :
    AL P n ops Q (⟨d, .call { callee := .value cal, args := args, argTypes := ats }, ty, ps, af, none⟩ :: l) st :=
  AL.call hc hxs.eq hF hd (AC.of_AF hAF hfz.len hfz.at k)
theorem AL.callFg {gd : Nat × Bool} {dj : Nat} {want : Bool} (hg : gdst ops ⟨d, .call { callee := .value cal, args := args, argTypes := ats }, ty, ps, af, some gd⟩ = some (dj, want)) (hb : look .any st.regs dj = .bool want)
    (hc : st.ev cal = .fn F []) (hxs : EvL st args.toList xs) (hF : callable P F = true) (hd : dok d n = true) (hfz : FrzL st.heap xs xs') (hAF : AF P F xs' y) (k : AL P n ops Q l (st.put d y)) :
    AL P n ops Q (⟨d, .call { callee := .value cal, args := args, argTypes := ats }, ty, ps, af, some gd⟩ :: l) st :=
  AL.callg hg hb hc hxs.eq hF hd (AC.of_AF hAF hfz.len hfz.at k)
/-- a call walked in place -/
theorem AL.callIn {fn : Func} {c : Code} {m : Nat} {rs : List ResultVar} (hc : st.ev cal = .fn F caps) (hxs : EvL st args.toList xs0) (hca : xs0 ++ caps = xs) (hF : callable P F = true) (hd : dok d n = true) (hf : P.funcs[F]? = some fn) (hb : fn.body = some c) (hm : fn.ntmps = m) (hrs : fn.results.toList = rs) (hle : Nat.ble xs.length m = true)
    (k : AW P m c (retQ P rs fun x hp nx => AL P n ops Q l (callSt st d x hp nx)) ⟨argR 0 xs, st.heap, st.nx⟩) :
    AL P n ops Q (⟨d, .call { callee := .value cal, args := args, argTypes := ats }, ty, ps, af, none⟩ :: l) st :=
  AL.call hc (hxs.eqc hca) hF hd (AC.body hf hb hm hrs hle k)
theorem AL.callIng {fn : Func} {c : Code} {m : Nat} {rs : List ResultVar} {gd : Nat × Bool} {dj : Nat} {want : Bool} (hg : gdst ops ⟨d, .call { callee := .value cal, args := args, argTypes := ats }, ty, ps, af, some gd⟩ = some (dj, want)) (hb' : look .any st.regs dj = .bool want)
    (hc : st.ev cal = .fn F caps) (hxs : EvL st args.toList xs0) (hca : xs0 ++ caps = xs) (hF : callable P F = true) (hd : dok d n = true) (hf : P.funcs[F]? = some fn) (hb : fn.body = some c) (hm : fn.ntmps = m) (hrs : fn.results.toList = rs) (hle : Nat.ble xs.length m = true)
    (k : AW P m c (retQ P rs fun x hp nx => AL P n ops Q l (callSt st d x hp nx)) ⟨argR 0 xs, st.heap, st.nx⟩) :
    AL P n ops Q (⟨d, .call { callee := .value cal, args := args, argTypes := ats }, ty, ps, af, some gd⟩ :: l) st :=
  AL.callg hg hb' hc (hxs.eqc hca) hF hd (AC.body hf hb hm hrs hle k)
theorem CallX.of (hc : st.ev cal = .fn F []) (hxs : EvL st args.toList xs) (hF : callable P F = true) (hd : dok d n = true) (hAF : AF P F xs' y) (hfz : FrzL st.heap xs xs') (he : exactA y = true) :
    CallX P n ⟨d, .call { callee := .value cal, args := args, argTypes := ats }, ty, ps, af, g⟩ st y := CallX.of_AF hc hxs.eq hF hd hAF hfz.len hfz.at he
end
theorem rows_ok {α : Type} {f : α → List AV} {sz : Nat} (h : ∀ x, (f x).length = sz ∧ allOne (f x) = true) (xs : List α) : ∀ row ∈ xs.map f, row.length = sz ∧ allOne row = true := by
  intro row hr
  obtain ⟨x, _, rfl⟩ := List.mem_map.1 hr
  exact h x
/-! old contracts -/
def Rdi (w : World) (A : Option Addr) (k : IntKind) (xs : List Int) : Prop := ∀ i x, xs[i]? = some x → ∃ b o, A = some ⟨b, o, none⟩ ∧ w.cell? ⟨b, o + i, none⟩ = some (.int k x)
theorem rdi_of {w : World} {own : Nat → Prop} {bs : Nat} {fr : Bool} {k : IntKind} {xs : List Int} {v : Value} (h : RelD w own bs (.ro fr 1 (xs.map (eI k))) v) : ∃ A c, v = .slice A xs.length c ∧ xs.length ≤ c ∧ c ≤ maxLen ∧ Rdi w A k xs := by
  cases h with
  | ro _ _ _ A c f hc hm h0 h1 h2 =>
    refine ⟨A, c, by simp, by simpa using hc, hm, fun i x hx => ?_⟩
    have g1 : (xs.map (eI k))[i]? = some (eI k x) := enc_at hx
    obtain ⟨b, o, e1, _, _, e4⟩ := h1 i _ 0 _ g1 rfl
    have e5 := h2 i _ 0 _ g1 rfl
    refine ⟨b, o, e1, ?_⟩
    rw [Nat.mul_one, Nat.add_zero] at e4
    rw [e4]
    generalize f i 0 = u at e5
    cases e5
    rfl
/-- a pointer to a box of the call's own, handed to a callee that only reads -/
theorem FrzA.peekB {hp : List (Nat × AB)} {id : Nat} {cs cs' : List AV} {e : TypeId} (h : look .dead hp id = .box cs e) (hD : (cs'.all isD) = true) (hne : cs' ≠ []) (hl : FrzL hp cs cs') : FrzA hp (.box id 0) (.peek cs' 0) :=
  .peekBox id cs cs' e h hl.len hl.at (fun b hb => List.all_eq_true.1 hD b hb) hne
theorem FrzA.peekP {hp : List (Nat × AB)} {j : Nat} {cs cs' : List AV} (hDa : (cs.all isD) = true) (hD : (cs'.all isD) = true) (hne : cs' ≠ []) (hl : FrzL hp cs cs') : FrzA hp (.peek cs j) (.peek cs' j) :=
  .peek cs cs' j hl.len hl.at (fun b hb => List.all_eq_true.1 hD b hb) hne (fun b hb => List.all_eq_true.1 hDa b hb)
end Go.Proofs.Ytnbmldnahacnlaa
