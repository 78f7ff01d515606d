/- Symbolic walks: function values, strings out of bytes, strings compared, least and greatest, elements of array values. No program in sight. -/
import Derived.Test.YtnbmldnahacnlaaSxW
import Derived.Laws.BytesArg
import Derived.Laws.Strings
namespace Go.Proofs.Ytnbmldnahacnlaa
open Go Go.RowKit

section
variable {P : Program} {n : Nat} {st : ASt} {d : Option Nat} {ty : TypeId} {ps : String} {af : Array Edge} {g : Option (Nat × Bool)} {x y : Operand} {t t' : TypeId}
theorem op_mkfunc {F : FuncId} {caps : Array Operand} (hd : dok d n = true) : OpR P n ⟨d, .makeFunc (.func F) #[] caps, ty, ps, af, g⟩ st (.fn F (caps.toList.map st.ev)) :=
  .mk hd fun K a w G rr => by
    refine ⟨.func (.func F) #[] (caps.map a.eval), fun w' _ => by simp [execOp, Instr.makeFunc], .fn _ _ _ _ rfl (by simp) fun i x v hx hv => ?_⟩
    refine list_ev rr caps.toList i x v hx ?_
    rw [List.getElem?_map, Array.getElem?_toList]
    rw [Array.getElem?_map] at hv
    exact hv
theorem op_min {k : IntKind} {m q : Int} {tt : Array TypeId} (hx : st.ev x = .int k m) (hy : st.ev y = .int k q) (hd : dok d n = true) :
    OpR P n ⟨d, .call { callee := .builtin .min, args := #[x, y], argTypes := tt }, ty, ps, af, g⟩ st (.int k (min m q)) :=
  .mk hd fun K a w G rr => by
    obtain ⟨e1, e2⟩ := ints2 rr hx hy
    refine ⟨.int k (min m q), fun w' _ => ?_, rI _ _ _ _⟩
    have : (if q < m then q else m) = min m q := by split <;> omega
    simp [execOp, resolve, invoke, builtin, e1, e2, Builtin.min_, Builtin.min2, this]
theorem op_max {k : IntKind} {m q : Int} {tt : Array TypeId} (hx : st.ev x = .int k m) (hy : st.ev y = .int k q) (hd : dok d n = true) :
    OpR P n ⟨d, .call { callee := .builtin .max, args := #[x, y], argTypes := tt }, ty, ps, af, g⟩ st (.int k (max m q)) :=
  .mk hd fun K a w G rr => by
    obtain ⟨e1, e2⟩ := ints2 rr hx hy
    refine ⟨.int k (max m q), fun w' _ => ?_, rI _ _ _ _⟩
    have : (if m < q then q else m) = max m q := by split <;> omega
    simp [execOp, resolve, invoke, builtin, e1, e2, Builtin.max_, Builtin.max2, this]
/-- bytes as numbers -/
def numsOf : List (List AV) → Option (List Int)
  | [] => some []
  | [.int .u8 m] :: l => match numsOf l with
    | some r => some (m :: r)
    | none => none
  | _ => none
theorem numsOf_eq : ∀ {rows : List (List AV)} {ns : List Int}, numsOf rows = some ns → rows = ns.map (eI .u8)
  | [], ns, h => by injection h with h; subst h; rfl
  | row :: l, ns, h => by
    unfold numsOf at h
    split at h
    · rename_i e; cases e
    · rename_i m l' e
      injection e with e1 e2
      subst e2
      cases hr : numsOf l with
      | none => rw [hr] at h; cases h
      | some r =>
        rw [hr] at h
        injection h with h
        subst h
        rw [List.map_cons, ← numsOf_eq hr, e1]
        rfl
    · cases h
theorem op_bytesStr {e : TypeId} {ns : List Int} (hs : SrcA st.heap 1 (st.ev x) (ns.map (eI .u8))) (hT : P.underlying t = some (.slice e)) (hE : P.underlying e = some (.int .u8)) (hT' : P.underlying t' = some .string) (hd : dok d n = true) :
    OpR P n ⟨d, .convert t t' x, ty, ps, af, g⟩ st (.str (strOfNums ns)) :=
  .mk hd fun K a w G rr => by
    obtain ⟨A, c, news, f1, f2, f3, f4, f5⟩ := hs.real rr (by omega) (rr.ev x)
    refine ⟨.string (strOfNums ns), fun w' hb => ?_, .dat (.str _)⟩
    have hcell : ∀ j, j < ns.length → ∃ b o, A = some ⟨b, o, none⟩ ∧ w.cell? ⟨b, o + j, none⟩ = some (.int .u8 (ns.getD j 0)) := by
      intro j hj
      have h1 : (ns.map (eI .u8))[j]? = some (eI .u8 ns[j]) := enc_at (List.getElem?_eq_getElem hj)
      obtain ⟨v, h2, h3⟩ := (f2.rel j _ h1).2 0 _ rfl
      rw [Nat.mul_one, Nat.add_zero] at h2
      obtain ⟨b, o, h4, h5⟩ := f5 j v h2
      have h3 := h3.int'
      subst h3
      exact ⟨b, o, h4, by rw [h5]; simp [List.getD, List.getElem?_eq_getElem hj]⟩
    have key : (convert t t' (.slice A (ns.map (eI .u8)).length c)).run P w' = .ok (.string (strOfNums ns)) w' := by
      cases A with
      | none =>
        have h0 := f3 rfl
        have : ns = [] := List.eq_nil_of_length_eq_zero (by simpa using h0)
        subst this
        rw [run_convert_bytes_nil w' t e hT hE _ _ t' hT']
        rfl
      | some ad =>
        rcases Nat.eq_zero_or_pos ns.length with h0 | h0
        · have : ns = [] := List.eq_nil_of_length_eq_zero h0
          subst this
          show (convert t t' (.slice (some ad) 0 c)).run P w' = _
          rw [run_convert_bytes_string w' t t' e (some ad) 0 c hT hE hT', run_bytesToString w' ad 0 c [] (by simp [loadCells, loadCellsFrom])]
          rfl
        · obtain ⟨b, o, h4, _⟩ := hcell 0 h0
          injection h4 with h4
          subst h4
          refine run_convert_bytes_arg w' t e hT hE b o _ c ns (by simp) (fun j hj => ?_) t' hT'
          obtain ⟨b', o', h5, h6⟩ := hcell j (by simpa using hj)
          injection h5 with h5
          injection h5 with h5 h7 _
          subst h5; subst h7
          exact (hb.cell (cell_lt h6)).trans h6
    simp only [execOp, f1, Sem.run_bind, key, Result.andThen_ok, Sem.run_pure]
/-- strings compared, byte by byte -/
def eqBy (a b : ByteArray) : Bool := decide (a.data.toList = b.data.toList)
theorem eqBy_ok (a b : ByteArray) : (a.toList == b.toList) = eqBy a b := by
  unfold eqBy
  rw [ByteArray.toList_eq, ByteArray.toList_eq, Bool.eq_iff_iff, beq_iff_eq, decide_eq_true_eq]
theorem op_streql {a b : ByteArray} (hx : st.ev x = .str a) (hy : st.ev y = .str b) (hd : dok d n = true) : OpR P n ⟨d, .binOp .eql t x y t', ty, ps, af, g⟩ st (.bool (eqBy a b)) :=
  .mk hd fun K a' w G rr => by
    have e1 := rr.ev x
    rw [hx] at e1
    have e2 := rr.ev y
    rw [hy] at e2
    refine ⟨.bool (eqBy a b), fun w' _ => ?_, rB _ _ _⟩
    simp [execOp, e1.str', e2.str', eqGuard, binOp_string_eql, ← eqBy_ok]
theorem op_strneq {a b : ByteArray} (hx : st.ev x = .str a) (hy : st.ev y = .str b) (hd : dok d n = true) : OpR P n ⟨d, .binOp .neq t x y t', ty, ps, af, g⟩ st (.bool (!eqBy a b)) :=
  .mk hd fun K a' w G rr => by
    have e1 := rr.ev x
    rw [hx] at e1
    have e2 := rr.ev y
    rw [hy] at e2
    refine ⟨.bool (!eqBy a b), fun w' _ => ?_, rB _ _ _⟩
    simp [execOp, e1.str', e2.str', eqGuard, binOp_string_neq, ← eqBy_ok]
theorem op_index_str {s : ByteArray} {k : IntKind} {i : Int} {c : UInt8} (hx : st.ev x = .str s) (hy : st.ev y = .int k i) (hT : P.underlying t = some .string) (h0 : 0 ≤ i) (hc : s.data.toList[i.toNat]? = some c) (hd : dok d n = true) :
    OpR P n ⟨d, .index t x y, ty, ps, af, g⟩ st (.int .u8 c.toNat) :=
  .mk hd fun K a' w G rr => by
    have e1 := rr.ev x
    rw [hx] at e1
    have e2 := rr.ev y
    rw [hy] at e2
    refine ⟨.int .u8 c.toNat, fun w' _ => ?_, rI _ _ _ _⟩
    have hlt : i.toNat < s.data.toList.length := (List.getElem?_eq_some_iff.1 hc).1
    have hlt2 : i.toNat < s.size := by
      have h1 : s.data.toList.length = s.size := Array.length_toList
      omega
    have hg : s[i.toNat] = c := by
      have := (List.getElem?_eq_some_iff.1 hc).2
      rw [Array.getElem_toList] at this
      exact this
    have := run_index_string (P := P) w' t s k i hT
    rw [dif_pos ⟨h0, by omega⟩] at this
    simp only [execOp, e1.str', e2.int', Sem.run_bind, this, Result.andThen_ok, Sem.run_pure, hg]
theorem op_index_agg {cs : List AV} {e : TypeId} {D : TypeDesc} {z : Option Value} {s b L : Nat} {k : IntKind} {i : Int} {v : AV} (hx : st.ev x = .agg cs) (hy : st.ev y = .int k i) (hT : P.underlying t = some (.array L e)) (hE : P.underlying e = some D) (hI : tyI P e = some (z, s, b)) (h0 : 0 ≤ i) (h1 : i < (L : Int)) (hv : partA cs (i.toNat * s) s (aggB D) = some v) (hd : dok d n = true) :
    OpR P n ⟨d, .index t x y, ty, ps, af, g⟩ st v :=
  .mk hd fun K a w G rr => by
    have e1 := rr.ev x
    rw [hx] at e1
    have e2 := rr.ev y
    rw [hy] at e2
    have e2 := e2.int'
    obtain ⟨us, e1, hl, hr⟩ := e1.agg'
    have hsz := run_sizeOf' hI
    cases hD : aggB D with
    | true =>
      rw [hD] at hv
      simp only [partA, if_true] at hv
      split at hv
      · rename_i hle
        injection hv with hv
        subst hv
        refine ⟨.agg (us.extract (i.toNat * s) (i.toNat * s + s)), fun w' _ => ?_, .agg _ _ (by simp; omega) fun j a u ha hu => ?_⟩
        · simp [execOp, e1, e2, Instr.index, asIntOf, run_underlying hT, h0, h1, hsz, part, run_isAgg' hE, hD]
        · rw [List.getElem?_take] at ha
          split at ha
          · rw [List.getElem?_drop] at ha
            rw [Array.getElem?_extract] at hu
            split at hu
            · exact hr _ a u ha hu
            · cases hu
          · cases ha
      · cases hv
    | false =>
      rw [hD] at hv
      simp only [partA, Bool.false_eq_true, if_false] at hv
      have hlt : i.toNat * s < us.size := by rw [hl]; exact (List.getElem?_eq_some_iff.1 hv).1
      refine ⟨us[i.toNat * s], fun w' _ => ?_, hr _ v _ hv (Array.getElem?_eq_getElem hlt)⟩
      simp [execOp, e1, e2, Instr.index, asIntOf, run_underlying hT, h0, h1, hsz, part, run_isAgg' hE, hD, hlt]
end
end Go.Proofs.Ytnbmldnahacnlaa
