/- Symbolic walks: small laws that the walking tactic uses. No program in sight. -/
import Derived.Test.YtnbmldnahacnlaaSx8
namespace Go.Proofs.Ytnbmldnahacnlaa
open Go Go.RowKit

section
variable {P : Program} {n : Nat} {Q : Exit → ASt → Prop} {st : ASt} {K : ASt → Prop}
theorem thenA_ret (h : Q .ret st) : thenA K Q .ret st := h
theorem thenA_exit {id : Nat} (h : Q (.exit id) st) : thenA K Q (.exit id) st := h
theorem inA_n {id : Nat} (h : Q .normal st) : inBlockA id Q .normal st := h
theorem inA_ret {id : Nat} (h : Q .ret st) : inBlockA id Q .ret st := h
theorem inA_eq {id : Nat} (h : Q .normal st) : inBlockA id Q (.exit id) st := by unfold inBlockA; simp; exact h
theorem inA_ne {id id' : Nat} (hne : Nat.beq id' id = false) (h : Q (.exit id') st) : inBlockA id Q (.exit id') st := by
  unfold inBlockA
  have : ¬ id' = id := fun e => by subst e; simp at hne
  simp [this]; exact h
theorem AW.condT {c : Operand} {x y : Code} (hc : st.ev c = .bool true) (h : AW P n x Q st) : AW P n (.cond c x y) Q st := AW.cond hc (fun _ => h) (fun e => by cases e)
theorem AW.condF {c : Operand} {x y : Code} (hc : st.ev c = .bool false) (h : AW P n y Q st) : AW P n (.cond c x y) Q st := AW.cond hc (fun e => by cases e) (fun _ => h)
theorem AW.condP {c : Operand} {x y : Code} {p : Prop} [Decidable p] (hc : st.ev c = .bool (decide p)) (h1 : p → AW P n x Q st) (h2 : ¬ p → AW P n y Q st) : AW P n (.cond c x y) Q st :=
  AW.cond hc (fun e => h1 (of_decide_eq_true e)) (fun e => h2 (of_decide_eq_false e))
theorem AW.condN {c : Operand} {x y : Code} {p : Prop} [Decidable p] (hc : st.ev c = .bool (!decide p)) (h1 : ¬ p → AW P n x Q st) (h2 : p → AW P n y Q st) : AW P n (.cond c x y) Q st :=
  AW.cond hc (fun e => h1 (by simpa using e)) (fun e => h2 (by simpa using e))
theorem AL.same {ops : Array Oper} {l : List Oper} {st' : ASt} (h : AL P n ops Q l st') (hs : ∀ K a w, Rel K n st a w → Rel K n st' a w) : AL P n ops Q l st := .mk fun K a w r => h K a w (hs K a w r)
theorem Rel.known {K : Kn} {a : Act} {w : World} (r : Rel K n st a w) {d : Nat} {v : AV} (h : look .any st.regs d = v) : Rel K n (st.set d v) a w := by
  obtain ⟨G, r⟩ := r
  refine ⟨G, r.nx, r.hr, r.ext, r.size, r.defers, fun k => ?_⟩
  show RelV w G (look .any ((d, v) :: st.regs) k) _
  rw [look_cons]
  split
  · rename_i e; subst e; rw [← h]; exact r.regs d
  · exact r.regs k
/-- a guard that is not decided: both ways -/
theorem AL.splitP {ops : Array Oper} {l : List Oper} {o : Oper} {d : Nat} {want : Bool} {p : Prop} {inst : Decidable p} (_ : gdst ops o = some (d, want)) (hb : look .any st.regs d = .bool (decide p))
    (h1 : p → AL P n ops Q (o :: l) (st.set d (.bool true))) (h2 : ¬ p → AL P n ops Q (o :: l) (st.set d (.bool false))) : AL P n ops Q (o :: l) st := by
  by_cases h : p
  · exact (h1 h).same fun K a w r => r.known (by rw [hb, decide_eq_true h])
  · exact (h2 h).same fun K a w r => r.known (by rw [hb, decide_eq_false h])
theorem AL.splitB {ops : Array Oper} {l : List Oper} {o : Oper} {d : Nat} {want b : Bool} (_ : gdst ops o = some (d, want)) (hb : look .any st.regs d = .bool b)
    (h1 : b = true → AL P n ops Q (o :: l) (st.set d (.bool true))) (h2 : b = false → AL P n ops Q (o :: l) (st.set d (.bool false))) : AL P n ops Q (o :: l) st := by
  cases b with
  | true => exact (h1 rfl).same fun K a w r => r.known hb
  | false => exact (h2 rfl).same fun K a w r => r.known hb
end
theorem wr64 {x : Int} (h0 : -9223372036854775808 ≤ x) (h1 : x ≤ 9223372036854775807) : IntKind.i64.wrap x = x := by rw [IntKind.wrap_i64]; omega
theorem wru8 {x : Int} (h0 : 0 ≤ x) (h1 : x ≤ 255) : IntKind.u8.wrap x = x := by rw [IntKind.wrap_u8]; omega
theorem wru32 {x : Int} (h0 : 0 ≤ x) (h1 : x ≤ 4294967295) : IntKind.u32.wrap x = x := by rw [IntKind.wrap_u32]; omega
/-- an element's cells, by its index -/
theorem enc_at {α : Type} {f : α → List AV} {xs : List α} {i : Nat} {x : α} (h : xs[i]? = some x) : (xs.map f)[i]? = some (f x) := by rw [List.getElem?_map, h]; rfl
def eI (k : IntKind) (x : Int) : List AV := [.int k x]
def eB (x : Bool) : List AV := [.bool x]
theorem eI_ne (k : IntKind) (x : Int) : eI k x ≠ [] := by simp [eI]
theorem old_eI (k : IntKind) (x : Int) : oldR (eI k x) = eI k x := by simp [eI, oldR, AV.old]
theorem old_eB (x : Bool) : oldR (eB x) = eB x := by simp [eB, oldR, AV.old]
theorem rowsIds_enc {α : Type} {m : Nat} {f : α → List AV} (h : ∀ x, AV.ids.idsL m (f x) = true) (xs : List α) : ∀ row ∈ xs.map f, ∀ a ∈ row, a.ids m = true := by
  intro row hr a ha
  obtain ⟨x, _, rfl⟩ := List.mem_map.1 hr
  obtain ⟨i, hi⟩ := List.mem_iff_getElem?.1 ha
  exact idsL_at (h x) hi
section
variable {P : Program} {st : ASt} {post : AV → List (Nat × AB) → Nat → Prop}
theorem retQ0 (h : post (.tup []) st.heap st.nx) : retQ P [] post .ret st := ⟨.inl rfl, [], trivial, h⟩
theorem retQ0n (h : post (.tup []) st.heap st.nx) : retQ P [] post .normal st := ⟨.inr rfl, [], trivial, h⟩
theorem retQ1 {t : Nat} {x : AV} (hx : look .any st.regs t = x) (h : post x st.heap st.nx) : retQ P [.tmp t] post .ret st := ⟨.inl rfl, [x], ⟨hx, trivial⟩, h⟩
theorem retQ2 {t u : Nat} {x y : AV} (hx : look .any st.regs t = x) (hy : look .any st.regs u = y) (h : post (.tup [x, y]) st.heap st.nx) : retQ P [.tmp t, .tmp u] post .ret st := ⟨.inl rfl, [x, y], ⟨hx, hy, trivial⟩, h⟩
theorem retQ3 {t u v : Nat} {x y z : AV} (hx : look .any st.regs t = x) (hy : look .any st.regs u = y) (hz : look .any st.regs v = z) (h : post (.tup [x, y, z]) st.heap st.nx) : retQ P [.tmp t, .tmp u, .tmp v] post .ret st := ⟨.inl rfl, [x, y, z], ⟨hx, hy, hz, trivial⟩, h⟩
theorem retC1 {t ty id : Nat} {cs : List AV} {e : TypeId} {D : TypeDesc} {z : Option Value} {s b : Nat} {x : AV} (h1 : look .any st.regs t = .box id 0) (h2 : look .dead st.heap id = .box cs e) (h3 : P.underlying ty = some D) (h4 : tyI P ty = some (z, s, b)) (h5 : partA cs 0 s (aggB D) = some x) (h : post x st.heap st.nx) :
    retQ P [.cell t ty] post .ret st := ⟨.inl rfl, [x], ⟨⟨id, cs, e, D, z, s, b, h1, h2, h3, h4, h5⟩, trivial⟩, h⟩
theorem retC2 {t ty id u : Nat} {cs : List AV} {e : TypeId} {D : TypeDesc} {z : Option Value} {s b : Nat} {x y : AV} (h1 : look .any st.regs t = .box id 0) (h2 : look .dead st.heap id = .box cs e) (h3 : P.underlying ty = some D) (h4 : tyI P ty = some (z, s, b)) (h5 : partA cs 0 s (aggB D) = some x) (hy : look .any st.regs u = y) (h : post (.tup [x, y]) st.heap st.nx) :
    retQ P [.cell t ty, .tmp u] post .ret st := ⟨.inl rfl, [x, y], ⟨⟨id, cs, e, D, z, s, b, h1, h2, h3, h4, h5⟩, hy, trivial⟩, h⟩
end
theorem FrzR.int {hp : List (Nat × AB)} {k : IntKind} {m n : Int} (h : m = n) : FrzR hp (.int k m) (.int k n) := by subst h; exact .dat _ rfl (fun _ _ _ => by simp)
theorem FrzR.bool {hp : List (Nat × AB)} {b c : Bool} (h : b = c) : FrzR hp (.bool b) (.bool c) := by subst h; exact .dat _ rfl (fun _ _ _ => by simp)
theorem FrzR.tup2 {hp : List (Nat × AB)} {a b a' b' : AV} (h1 : FrzR hp a a') (h2 : FrzR hp b b') : FrzR hp (.tup [a, b]) (.tup [a', b']) := .tup _ _ rfl fun i x y hx hy => by
  match i with
  | 0 => simp at hx hy; subst hx; subst hy; exact h1
  | 1 => simp at hx hy; subst hx; subst hy; exact h2
  | i + 2 => simp at hx
theorem FrzR.tup3 {hp : List (Nat × AB)} {a b c a' b' c' : AV} (h1 : FrzR hp a a') (h2 : FrzR hp b b') (h3 : FrzR hp c c') : FrzR hp (.tup [a, b, c]) (.tup [a', b', c']) := .tup _ _ rfl fun i x y hx hy => by
  match i with
  | 0 => simp at hx hy; subst hx; subst hy; exact h1
  | 1 => simp at hx hy; subst hx; subst hy; exact h2
  | 2 => simp at hx hy; subst hx; subst hy; exact h3
  | i + 3 => simp at hx
end Go.Proofs.Ytnbmldnahacnlaa
