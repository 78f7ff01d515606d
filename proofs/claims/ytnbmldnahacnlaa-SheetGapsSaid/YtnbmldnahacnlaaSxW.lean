/- Regions that draw their order: reads, calls by contract, new blocks in any order; a tail behind them. No program in sight. -/
import Derived.Test.YtnbmldnahacnlaaSxV
namespace Go.Proofs.Ytnbmldnahacnlaa
open Go Go.RowKit

/-- an operation that makes a block -/
structure OpN (P : Program) (n : Nat) (o : Oper) (st : ASt) (b : AB) : Prop where
  dst : dok o.dst n = true
  out : ∀ K a w G, RelG K n st a w G → ∃ v w', (execOp a.eval o).run P w = .ok (.value v) w' ∧ NewB w G b v w'
section
variable {P : Program} {n : Nat} {st : ASt} {d : Option Nat} {ty : TypeId} {ps : String} {af : Array Edge} {g : Option (Nat × Bool)} {x y : Operand} {t t' : TypeId}
theorem opN_alloc {e : TypeId} {z : Value} {s b : Nat} (hz : tyI P e = some (some z, s, b)) (h1 : allOne (z.cells.toList.map avOf) = true) (hd : dok d n = true) :
    OpN P n ⟨d, .alloc e, ty, ps, af, g⟩ st (.box (z.cells.toList.map avOf) e) := ⟨hd, fun K a w G r => by
  have _ := r
  exact ⟨_, _, by simp [execOp, Instr.alloc, run_zeroValue' hz, newVar, newRow], .box _ _ _ (cellsV_const w G h1)⟩⟩
theorem opN_box {e : TypeId} (h1 : allOne (st.ev x).cells = true) (hd : dok d n = true) :
    OpN P n ⟨d, .box e x, ty, ps, af, g⟩ st (.box (st.ev x).cells e) := ⟨hd, fun K a w G r => by
  exact ⟨_, _, by simp [execOp, Instr.box, newVar, newRow], .box _ _ _ ((r.ev x).cellsV h1)⟩⟩
theorem opN_make {e : TypeId} {z : Value} {sz b : Nat} {kl kc : IntKind} {L : Int} (hT : P.underlying t = some (.slice e)) (hI : tyI P e = some (some z, sz, b)) (hs : (z.cells.toList.map avOf).length = sz) (hs0 : 0 < sz) (h1 : allOne (z.cells.toList.map avOf) = true) (hx : st.ev x = .int kl L) (hy : st.ev y = .int kc L)
    (h0 : 0 ≤ L) (hb : (b : Int) * L ≤ 281474976710656) (hm : L ≤ 9223372036854775807) (hd : dok d n = true) :
    OpN P n ⟨d, .makeSlice t x y, ty, ps, af, g⟩ st (.row sz (List.replicate L.toNat (z.cells.toList.map avOf)) e) := ⟨hd, fun K a w G r => by
  obtain ⟨e1, e2⟩ : a.eval x = .int kl L ∧ a.eval y = .int kc L := by
    have e1 := r.ev x
    have e2 := r.ev y
    rw [hx] at e1
    rw [hy] at e2
    exact ⟨e1.int', e2.int'⟩
  obtain ⟨i, hi, hz0, hz1, hz2⟩ := tyI_info hI
  have hr := run_make (P := P) w t e i z hT hi hz0 kl kc L L h0 (Int.le_refl _) (by rw [hz2]; exact hb) hm
  have ho := World.ownsRow_lit (base := w.heap.size) (e := e) (size := sz) w (madeCells z.cells (L.toNat * sz)) L.toNat (Nat.le_refl _) (by simp [maxLen]; omega) (size_madeCells _ _)
  rw [hz1] at hr
  have hlr : (List.replicate L.toNat (z.cells.toList.map avOf)).length = L.toNat := by simp
  exact ⟨_, _, by simp [execOp, e1, e2, hr]; exact ⟨rfl, rfl⟩, .row _ _ _ _ _ _ (below_alloc' _ _) hs0 (by rw [hlr]; exact ho) (madeCells_rows rfl hs hs0 h1)⟩⟩
theorem opN_lit {e : TypeId} {z : Value} {sz b L : Nat} {parts : Array (Nat × Operand)} {out : List AV} (hT : P.underlying t = some (.slice e)) (hI : tyI P e = some (some z, sz, b)) (hz1 : allOne (z.cells.toList.map avOf) = true) (hzs : (z.cells.toList.map avOf).length = sz) (h0 : 0 < sz) (hL : Nat.ble (L * sz) 16777216 = true)
    (hf : fillA (fun i => some (i * sz, sz)) (zerosA (z.cells.toList.map avOf) L) (evParts st parts.toList) = some out) (hout : out.length = L * sz) (hd : dok d n = true) :
    OpN P n ⟨d, .buildSlice t L parts, ty, ps, af, g⟩ st (.row sz (chunk sz L out) e) := ⟨hd, fun K a w G r => by
  have hL := Nat.le_of_ble_eq_true hL
  have hzc : z.cells.size = sz := by simpa using hzs
  rw [evParts_map] at hf
  have hcz : CellsV w G (zerosA (z.cells.toList.map avOf) L) ((Array.range (L * sz)).map (z.cells[· % z.cells.size]!)) := by
    have hcv := cellsV_const w G hz1
    have hat : ∀ (i : Nat) (v : Value), ((Array.range (L * sz)).map (z.cells[· % z.cells.size]!))[i]? = some v → ∃ hk : i % z.cells.size < z.cells.size, v = z.cells[i % z.cells.size] := by
      intro i v hv
      have hk : i % z.cells.size < z.cells.size := Nat.mod_lt _ (by omega)
      refine ⟨hk, ?_⟩
      rw [Array.getElem?_map] at hv
      obtain ⟨k, h1, h2⟩ := Option.map_eq_some_iff.1 hv
      have : k = i := by
        have := Array.getElem?_eq_some_iff.1 h1
        obtain ⟨_, h⟩ := this
        simpa using h.symm
      subst this
      rw [← h2]
      simp [hk]
    refine ⟨by simp [zerosA_length, hzc], fun i v hv => ?_, fun i a v ha hv => ?_⟩
    · obtain ⟨hk, rfl⟩ := hat i v hv
      exact hcv.one _ _ (Array.getElem?_eq_getElem hk)
    · obtain ⟨hk, rfl⟩ := hat i v hv
      have hi : i < L * (z.cells.toList.map avOf).length := by
        have := (List.getElem?_eq_some_iff.1 ha).1
        rwa [zerosA_length] at this
      rw [zerosA_at _ (by rw [hzs]; exact h0) L i hi] at ha
      exact hcv.rel _ a _ (by simpa using ha) (by simp [hk])
  obtain ⟨os, g1, g2⟩ := fill_rel (fun i => some (i * sz, sz)) _ (parts.toList.map fun p => (p.1, a.eval p.2)) _ out _ (by simp) (fun j p u hp hu => parts_rel r parts.toList j p u hp hu) hcz hf
  have hos : os.size = L * sz := by rw [g2.size, hout]
  have ho := World.ownsRow_lit (base := w.heap.size) (e := e) (size := sz) w os L (Nat.le_refl _) (by simp [maxLen]; have : L ≤ L * sz := Nat.le_mul_of_pos_right _ h0; omega) hos
  have hRV := RowsV.of_cells g2 hout
  refine ⟨_, _, ?_, .row _ _ _ _ _ _ (below_alloc' _ _) h0 (by rw [chunk_length]; exact ho) hRV⟩
  have hng : ¬ (2 ^ 24 < L * sz) := by omega
  by_cases hn : L * sz = 0
  · have hL0 : L = 0 := by
      rcases Nat.eq_zero_or_pos L with h | h
      · exact h
      · have := Nat.mul_pos h h0; omega
    subst hL0
    simp only [Nat.zero_mul, Array.range_zero', Array.map_empty] at g1
    simp [execOp, Instr.buildSlice, run_underlying hT, run_sizeOf' hI, Array.range_zero', g1, newRow]
  · simp only [execOp, Instr.buildSlice, Sem.run_bind, run_underlying hT, Result.andThen_ok, run_sizeOf' hI]
    rw [if_neg (by omega), if_neg hn]
    simp only [Sem.run_bind, Sem.run_pure, Result.andThen_ok, run_zeroValue' hI, Array.toList_map, g1]
    simp [newRow]⟩
end
abbrev BO := Option (AB × Prop)
def withCellsB (v : AV) (k : List AV → BO) : BO := match v with
  | .agg cs => k cs
  | v => k [v]
theorem withCellsB_eq {v : AV} {k : List AV → BO} : withCellsB v k = k v.cells := by cases v <;> rfl
def makeB (T : Tab) (t : TypeId) (l c : AV) : BO := match lk T.und t, l, c with
  | some (.slice e), .int _ L, .int _ C => match lk T.inf e with
    | some (some z, sz, b) => bif allOne (z.cells.toList.map avOf) && Nat.beq (z.cells.toList.map avOf).length sz && Nat.blt 0 sz then
        some (.row sz (List.replicate L.toNat (z.cells.toList.map avOf)) e, C = L ∧ 0 ≤ L ∧ (b : Int) * L ≤ 281474976710656 ∧ L ≤ 9223372036854775807) else none
    | _ => none
  | _, _, _ => none
def litB (T : Tab) (st : ASt) (t : TypeId) (L : Nat) (parts : Array (Nat × Operand)) : BO := match lk T.und t with
  | some (.slice e) => match lk T.inf e with
    | some (some z, sz, _) => bif allOne (z.cells.toList.map avOf) && Nat.beq (z.cells.toList.map avOf).length sz && Nat.blt 0 sz && Nat.ble (L * sz) 16777216 then
        (match fillA (fun i => some (i * sz, sz)) (zerosA (z.cells.toList.map avOf) L) (evParts st parts.toList) with
        | some out => bif Nat.beq out.length (L * sz) then some (.row sz (chunk sz L out) e, True) else none
        | none => none) else none
    | _ => none
  | _ => none
def stepB (T : Tab) (st : ASt) : Op → BO
  | .alloc e => match lk T.inf e with
    | some (some z, _, _) => bif allOne (z.cells.toList.map avOf) then some (.box (z.cells.toList.map avOf) e, True) else none
    | _ => none
  | .box e x => withCellsB (st.ev x) fun c => bif allOne c then some (.box c e, True) else none
  | .makeSlice t l c => makeB T t (st.ev l) (st.ev c)
  | .buildSlice t L parts => litB T st t L parts
  | _ => none
section
variable {P : Program} {n : Nat} {T : Tab} {st : ASt} {o : Oper} {b : AB} {p : Prop}
theorem stepB_ok (hT : T.ok P) (h : stepB T st o.op = some (b, p)) (hp : p) (hd : dok o.dst n = true) : OpN P n o st b := by
  obtain ⟨d, op, ty, ps, af, g⟩ := o
  simp only at h
  have hd : dok d n = true := hd
  cases op <;> simp only [stepB] at h <;> try (cases h; done)
  case alloc e =>
    split at h
    · rename_i z s b h1
      cases h2 : allOne (z.cells.toList.map avOf) with
      | false => rw [h2] at h; cases h
      | true =>
        rw [h2] at h
        simp only [cond_true, Option.some.injEq, Prod.mk.injEq] at h
        obtain ⟨rfl, _⟩ := h
        exact opN_alloc (allP_at hT.inf h1) h2 hd
    · cases h
  case box e y =>
    rw [withCellsB_eq] at h
    cases h2 : allOne (st.ev y).cells with
    | false => rw [h2] at h; cases h
    | true =>
      rw [h2] at h
      simp only [cond_true, Option.some.injEq, Prod.mk.injEq] at h
      obtain ⟨rfl, _⟩ := h
      exact opN_box h2 hd
  case makeSlice t ll c =>
    unfold makeB at h
    split at h
    · rename_i e kl L kc C h1 h2 h3
      split at h
      · rename_i z sz b h4
        cases h5 : (allOne (z.cells.toList.map avOf) && Nat.beq (z.cells.toList.map avOf).length sz && Nat.blt 0 sz) with
        | false => rw [h5] at h; cases h
        | true =>
          rw [h5] at h
          simp only [Bool.and_eq_true] at h5
          simp only [cond_true, Option.some.injEq, Prod.mk.injEq] at h
          obtain ⟨rfl, rfl⟩ := h
          obtain ⟨rfl, p2, p3, p4⟩ := hp
          exact opN_make (allP_at hT.und h1) (allP_at hT.inf h4) (Nat.eq_of_beq_eq_true h5.1.2) (by simpa using h5.2) h5.1.1 h2 h3 p2 p3 p4 hd
      · cases h
    · cases h
  case buildSlice t L parts =>
    unfold litB at h
    split at h
    · rename_i e h1
      split at h
      · rename_i z sz b h4
        cases h5 : (allOne (z.cells.toList.map avOf) && Nat.beq (z.cells.toList.map avOf).length sz && Nat.blt 0 sz && Nat.ble (L * sz) 16777216) with
        | false => rw [h5] at h; cases h
        | true =>
          rw [h5] at h
          simp only [Bool.and_eq_true] at h5
          simp only [cond_true] at h
          split at h
          · rename_i out h6
            cases h7 : Nat.beq out.length (L * sz) with
            | false => rw [h7] at h; cases h
            | true =>
              rw [h7] at h
              simp only [cond_true, Option.some.injEq, Prod.mk.injEq] at h
              obtain ⟨rfl, _⟩ := h
              exact opN_lit (allP_at hT.und h1) (allP_at hT.inf h4) h5.1.1.1 (Nat.eq_of_beq_eq_true h5.1.1.2) (by simpa using h5.1.2) h5.2 h6 (Nat.eq_of_beq_eq_true h7) hd
          · cases h
      · cases h
    · cases h
end
/-- a call by its contract, in any order -/
structure OpF (P : Program) (n : Nat) (o : Oper) (st : ASt) (y : AV) : Prop where
  dst : dok o.dst n = true
  out : ∀ K a w G, RelG K n st a w G → ∃ F args, (execOp a.eval o).run P w = .ok (.enter F args) w ∧ Calls P F args w fun e w' => ∃ v, e = .returned v ∧ Below w.heap.size w w' ∧ RelV w' G y v
theorem relV_frz {K : Kn} {n : Nat} {st : ASt} {a : Act} {w w' : World} {G : Gh} (r : RelG K n st a w G) {y : AV} {v : Value} (h : RelV w' (Gh.frz w.heap.size) y v) : RelV w' G y v := by
  have hHR := r.hr
  have key : ∀ {a : AV} {u : Value}, RelD w' (Gh.frz w.heap.size).own (Gh.frz w.heap.size).bs a u → RelD w' G.own G.bs a u := by
    intro a u hd
    induction hd with
    | ro fr sz rows A c f hc hm h0 h1' h2' ih =>
      refine .ro fr sz rows A c f hc hm h0 (fun i row j a g1 g2 => ?_) ih
      obtain ⟨b, o, e1, e2, e3, e4⟩ := h1' i row j a g1 g2
      have e2 : ¬ b < w.heap.size := e2
      refine ⟨b, o, e1, fun ho => e2 (hHR.ownlt b ho).2, fun _ => ?_, e4⟩
      rw [hHR.bs]
      have := hHR.below.size
      omega
    | any v => exact .any v
    | und => exact .und
    | int k n => exact .int k n
    | bool b => exact .bool b
    | str s => exact .str s
    | nilp => exact .nilp
    | nils => exact .nils
    | nilf => exact .nilf
  induction h with
  | dat h => exact .dat (key h)
  | box id off g hid => exact absurd hid (Nat.not_lt_zero _)
  | elt id n i j v hid => exact absurd hid (Nat.not_lt_zero _)
  | osl id n v hid => exact absurd hid (Nat.not_lt_zero _)
  | peek row j b o f hr hb h1' h2' => exact .peek row j b o f hr (fun ho => hb (hHR.ownlt b ho).2) h1' (fun t a g => key (h2' t a g))
  | agg cs vs hl _ ih => exact .agg cs vs hl ih
  | tup cs vs hl _ ih => exact .tup cs vs hl ih
  | fn f cs fs vs hf hl _ ih => exact .fn f cs fs vs hf hl ih
theorem OpF.of {P : Program} {n : Nat} {st : ASt} {d : Option Nat} {ty : TypeId} {ps : String} {af : Array Edge} {g : Option (Nat × Bool)} {cal : Operand} {args : Array Operand} {ats : Array TypeId} {F : FuncId} {caps xs xs' : List AV} {y : AV}
    (hc : st.ev cal = .fn F caps) (hxs : args.toList.map st.ev ++ caps = xs) (hF : callable P F = true) (hd : dok d n = true) (hAF : AF P F xs' y) (hfz : FrzL st.heap xs xs') :
    OpF P n ⟨d, .call { callee := .value cal, args := args, argTypes := ats }, ty, ps, af, g⟩ st y := ⟨hd, fun K a w G r => by
  subst hxs
  have e1 := r.ev cal
  rw [hc] at e1
  obtain ⟨us, e2, hul, hr⟩ := e1.fn'
  have hargs : ArgsV w G (args.toList.map st.ev ++ caps) (args.map a.eval ++ us) := by
    refine ⟨by simp [hul], fun i x v hx hv => ?_⟩
    by_cases hi : i < args.size
    · rw [List.getElem?_append_left (by simpa using hi)] at hx
      rw [Array.getElem?_append_left (by simpa using hi)] at hv
      refine list_ev r args.toList i x v hx ?_
      rw [List.getElem?_map, Array.getElem?_toList]
      rw [Array.getElem?_map] at hv
      exact hv
    · rw [List.getElem?_append_right (by simp; omega)] at hx
      rw [Array.getElem?_append_right (by simp; omega)] at hv
      exact hr _ x v hx (by simpa using hv)
  refine ⟨F, args.map a.eval ++ us, by simp [execOp, resolve, e2, Deferred.ofValue, invoke, run_callFunc' hF], (hAF.out w _ ⟨by rw [hargs.size, hfz.len], fun i b v hb' hv => ?_⟩).mono fun e w' ⟨v, h1, h2, h3⟩ => ⟨v, h1, h2, relV_frz r h3⟩⟩
  have hi : i < (args.toList.map st.ev ++ caps).length := by rw [hfz.len]; exact (List.getElem?_eq_some_iff.1 hb').1
  have hxi := List.getElem?_eq_getElem hi
  exact (hfz.at i _ b hxi hb').rel r.hr (hargs.rel i _ v hxi hv)⟩

/-! ### The judgement -/
def vis (T : List (List Nat)) (nx0 i : Nat) (cr : List (Nat × Nat)) (id : Nat) : Bool := Nat.blt id nx0 || cr.any fun c => Nat.beq c.2 id && hasN (T.getD i []) c.1
/-- what an operation may look at -/
def lcl (ops : Array Oper) (T : List (List Nat)) (nx0 i : Nat) (cr : List (Nat × Nat)) (st : ASt) (o : Oper) (k : Nat) : ASt := ⟨(o.looksAt ops).map (fun t => (t, look .any st.regs t)), st.heap.filter (fun p => vis T nx0 i cr p.1), k⟩
inductive Loc (P : Program) (n : Nat) (ops : Array Oper) (T : List (List Nat)) (nx0 i : Nat) (cr : List (Nat × Nat)) (o : Oper) (st : ASt) : ASt → List (Nat × Nat) → Prop
  | read {x : AV} (hw : o.guard = none ∨ gst ops o (lcl ops T nx0 i cr st o 0) = some true) (h : ∀ k, OpR P n o (lcl ops T nx0 i cr st o k) x) (hn : x.nmd (vis T nx0 i cr) = true) : Loc P n ops T nx0 i cr o st (st.put o.dst x) cr
  | call {x : AV} (hw : o.guard = none ∨ gst ops o (lcl ops T nx0 i cr st o 0) = some true) (h : ∀ k, OpF P n o (lcl ops T nx0 i cr st o k) x) (hn : x.nmd (vis T nx0 i cr) = true) : Loc P n ops T nx0 i cr o st (st.put o.dst x) cr
  | new {b : AB} (hw : o.guard = none ∨ gst ops o (lcl ops T nx0 i cr st o 0) = some true) (h : ∀ k, OpN P n o (lcl ops T nx0 i cr st o k) b) (hn : b.nmd (vis T nx0 i cr) = true) : Loc P n ops T nx0 i cr o st ((st.hnew b).put o.dst (refB b st.nx)) ((i, st.nx) :: cr)
  | skip (hw : gst ops o (lcl ops T nx0 i cr st o 0) = some false) (hd : dok o.dst n = true) : Loc P n ops T nx0 i cr o st (st.put o.dst .und) cr
inductive AG (P : Program) (n : Nat) (ops : Array Oper) (T : List (List Nat)) (nx0 : Nat) (Kt : ASt → Prop) : Nat → List (Nat × Nat) → List Oper → ASt → Prop
  | nil {i : Nat} {cr : List (Nat × Nat)} {st : ASt} (h : Kt st) : AG P n ops T nx0 Kt i cr [] st
  | step {i : Nat} {cr cr' : List (Nat × Nat)} {o : Oper} {l : List Oper} {st st' : ASt} (h : Loc P n ops T nx0 i cr o st st' cr') (k : AG P n ops T nx0 Kt (i + 1) cr' l st') : AG P n ops T nx0 Kt i cr (o :: l) st
  | same {i : Nat} {cr : List (Nat × Nat)} {l : List Oper} {st st' : ASt} (h : Eqv st st') (k : AG P n ops T nx0 Kt i cr l st') : AG P n ops T nx0 Kt i cr l st
theorem Eqv.refl (st : ASt) : Eqv st st := ⟨fun _ => rfl, fun _ => rfl, rfl⟩
theorem Eqv.trans {a b c : ASt} (h : Eqv a b) (k : Eqv b c) : Eqv a c := ⟨fun d => (h.regs d).trans (k.regs d), fun d => (h.heap d).trans (k.heap d), h.nx.trans k.nx⟩
/-- the states between the operations -/
theorem AG.facts {P : Program} {n : Nat} {ops : Array Oper} {T : List (List Nat)} {nx0 : Nat} {Kt : ASt → Prop} {i : Nat} {cr : List (Nat × Nat)} {l : List Oper} {st : ASt} (h : AG P n ops T nx0 Kt i cr l st) :
    ∃ (S : Nat → ASt) (C : Nat → List (Nat × Nat)), Eqv st (S 0) ∧ C 0 = cr ∧ Kt (S l.length) ∧ ∀ j o, l[j]? = some o → ∃ s', Loc P n ops T nx0 (i + j) (C j) o (S j) s' (C (j + 1)) ∧ Eqv s' (S (j + 1)) := by
  induction h with
  | @nil i cr st h => exact ⟨fun _ => st, fun _ => cr, Eqv.refl _, rfl, h, fun j o hj => by simp at hj⟩
  | @step i cr cr' o l st st' h k ih =>
    obtain ⟨S, C, h1, h2, h3, h4⟩ := ih
    refine ⟨fun j => match j with | 0 => st | j + 1 => S j, fun j => match j with | 0 => cr | j + 1 => C j, Eqv.refl _, rfl, h3, fun j o' hj => ?_⟩
    cases j with
    | zero =>
      simp at hj
      subst hj
      exact ⟨st', by show Loc P n ops T nx0 i cr o st st' (C 0); rw [h2]; exact h, h1⟩
    | succ j =>
      obtain ⟨s', g1, g2⟩ := h4 j o' (by simpa using hj)
      exact ⟨s', by rw [show i + (j + 1) = i + 1 + j by omega]; exact g1, g2⟩
  | @same i cr l st st' h k ih =>
    obtain ⟨S, C, h1, h2, h3, h4⟩ := ih
    exact ⟨S, C, h.trans h1, h2, h3, h4⟩
/-! ### What the states say of one another -/
section
variable {P : Program} {n : Nat} {ops : Array Oper} {T : List (List Nat)} {nx0 i : Nat} {cr cr' : List (Nat × Nat)} {o : Oper} {st st' : ASt}
theorem put_nx (st : ASt) (d : Option Nat) (x : AV) : (st.put d x).nx = st.nx := by cases d <;> rfl
theorem put_regs (st : ASt) (d : Option Nat) (x : AV) (t : Nat) (h : d ≠ some t) : look .any (st.put d x).regs t = look .any st.regs t := by
  cases d with
  | none => rfl
  | some d => exact look_ne _ (fun e => h (by rw [e])) _ _
theorem put_self (st : ASt) (d : Nat) (x : AV) : look .any (st.put (some d) x).regs d = x := look_self _ _ _ _
theorem Loc.nx_le (h : Loc P n ops T nx0 i cr o st st' cr') : st.nx ≤ st'.nx ∧ st'.nx ≤ st.nx + 1 := by
  cases h with
  | read => rw [put_nx]; omega
  | call => rw [put_nx]; omega
  | new => rw [put_nx]; exact ⟨Nat.le_succ _, Nat.le_refl _⟩
  | skip => rw [put_nx]; omega
theorem Loc.regs (h : Loc P n ops T nx0 i cr o st st' cr') {t : Nat} (ht : o.dst ≠ some t) : look .any st'.regs t = look .any st.regs t := by
  cases h with
  | read => exact put_regs _ _ _ _ ht
  | call => exact put_regs _ _ _ _ ht
  | new => rw [put_regs _ _ _ _ ht]; rfl
  | skip => exact put_regs _ _ _ _ ht
theorem Loc.heap (h : Loc P n ops T nx0 i cr o st st' cr') {id : Nat} (hid : id ≠ st.nx) : look .dead st'.heap id = look .dead st.heap id := by
  cases h with
  | read => rw [put_heap]
  | call => rw [put_heap]
  | new => rw [put_heap]; exact look_ne _ (fun e => hid e.symm) _ _
  | skip => rw [put_heap]
theorem Loc.heapSame (h : Loc P n ops T nx0 i cr o st st' cr') (hn : st'.nx = st.nx) (id : Nat) : look .dead st'.heap id = look .dead st.heap id := by
  cases h with
  | read => rw [put_heap]
  | call => rw [put_heap]
  | new => rw [put_nx] at hn; exact absurd (show st.nx + 1 = st.nx from hn) (by omega)
  | skip => rw [put_heap]
theorem Loc.crm (h : Loc P n ops T nx0 i cr o st st' cr') : ∀ c ∈ cr', c ∈ cr ∨ (c = (i, st.nx) ∧ st'.nx = st.nx + 1) := by
  cases h with
  | read => intro c hc; exact .inl hc
  | call => intro c hc; exact .inl hc
  | new => intro c hc; rcases List.mem_cons.1 hc with h | h; exact .inr ⟨h, by rw [put_nx]; rfl⟩; exact .inl h
  | skip => intro c hc; exact .inl hc
end
theorem look_filt {β : Type} {dd : β} {f : Nat → Bool} {l : List (Nat × β)} {i : Nat} : look dd (l.filter fun p => f p.1) i = bif f i then look dd l i else dd := by
  induction l with
  | nil => cases f i <;> rfl
  | cons p l ih =>
    obtain ⟨j, v⟩ := p
    rw [List.filter_cons]
    cases hj : f j with
    | true =>
      simp only [if_true]
      rw [look_cons, look_cons, ih]
      split
      · rename_i e; subst e; rw [hj]; rfl
      · rfl
    | false =>
      simp only [Bool.false_eq_true, if_false]
      rw [ih, look_cons]
      split
      · rename_i e; subst e; rw [hj]; rfl
      · rfl
theorem look_pick {β : Type} {dd : β} {f : Nat → β} : ∀ {l : List Nat} {t : Nat}, look dd (l.map fun t => (t, f t)) t = f t ∨ look dd (l.map fun t => (t, f t)) t = dd
  | [], _ => .inr rfl
  | a :: l, t => by
    rw [List.map_cons, look_cons]
    split
    · rename_i e; subst e; exact .inl rfl
    · exact look_pick
theorem look_pick_in {β : Type} {dd : β} {f : Nat → β} : ∀ {l : List Nat} {t : Nat}, t ∉ l → look dd (l.map fun t => (t, f t)) t = dd
  | [], _, _ => rfl
  | a :: l, t, h => by
    rw [List.map_cons, look_cons, if_neg (fun e => h (by simp [e]))]
    exact look_pick_in fun e => h (List.mem_cons_of_mem _ e)
def lvD (S : Nat → ASt) (m nx0 : Nat) (d : Nat → Bool) (id : Nat) : Bool := Nat.blt id nx0 || (List.range m).any fun j => d j && (Nat.beq (S j).nx id && Nat.blt (S j).nx (S (j + 1)).nx)
theorem lvD_iff {S : Nat → ASt} {m nx0 : Nat} {d : Nat → Bool} {id : Nat} : lvD S m nx0 d id = true ↔ id < nx0 ∨ ∃ j, j < m ∧ d j = true ∧ (S j).nx = id ∧ (S j).nx < (S (j + 1)).nx := by
  unfold lvD
  rw [Bool.or_eq_true, List.any_eq_true]
  constructor
  · rintro (h | ⟨j, h1, h2⟩)
    · exact .inl (by simpa using h)
    · simp only [Bool.and_eq_true] at h2
      exact .inr ⟨j, List.mem_range.1 h1, h2.1, Nat.eq_of_beq_eq_true h2.2.1, by simpa using h2.2.2⟩
  · rintro (h | ⟨j, h1, h2, h3, h4⟩)
    · exact .inl (by simpa using h)
    · refine .inr ⟨j, List.mem_range.2 h1, ?_⟩
      subst h3
      simp [h2, h4]
/-- what has been done of a region -/
def InvG (K : Kn) (n : Nat) (l : List Oper) (S : Nat → ASt) (m nx0 : Nat) (d : Nat → Bool) (a : Act) (w : World) : Prop := ∃ R hp G, RelP K n R hp (S m).nx (lvD S m nx0 d) a w G ∧
  (∀ j o t, j < m → l[j]? = some o → d j = true → o.dst = some t → R t = look .any (S (j + 1)).regs t) ∧
  (∀ t, (∀ j o, j < m → l[j]? = some o → d j = true → o.dst ≠ some t) → R t = look .any (S 0).regs t) ∧
  (∀ id, lvD S m nx0 d id = true → look .dead hp id = look .dead (S m).heap id)
section
variable {P : Program} {n : Nat} {l : List Oper} {T : List (List Nat)} {S : Nat → ASt} {C : Nat → List (Nat × Nat)} {m : Nat}
theorem AG.step' (hp : ∀ i o, l.toArray[i]? = some o → PlanAt l.toArray n i o) (hT : AncOk l T) (hml : m ≤ l.length) (hC0 : C 0 = [])
    (hL : ∀ j o, j < m → l[j]? = some o → ∃ s', Loc P n l.toArray T (S 0).nx j (C j) o (S j) s' (C (j + 1)) ∧ Eqv s' (S (j + 1)))
    {K : Kn} {Q : Exit → Act → World → Prop} {i : Nat} {o : Oper} {d : Nat → Bool} {a : Act} {w : World} (hi : i < m) (ho : l[i]? = some o) (hd0 : d i = false) (hcl : ClosedD l d) (hdep : ∀ e ∈ o.after, Region.binds .any e = true → d e.on = true)
    (h : InvG K n l S m (S 0).nx d a w) : if Region.wanted o (yielded l.toArray a.tmps) then o.wp P a w (fun a' w' => InvG K n l S m (S 0).nx (upd d i) a' w') Q else InvG K n l S m (S 0).nx (upd d i) (a.put o.dst undef) w := by
  obtain ⟨R, hpp, G, hR, I1, I2, I3⟩ := h
  have hop : ∀ j, j < m → ∃ o, l[j]? = some o := fun j hj => ⟨l[j], List.getElem?_eq_getElem (by omega)⟩
  -- numbers of blocks only grow
  have nxS : ∀ j, j < m → (S j).nx ≤ (S (j + 1)).nx ∧ (S (j + 1)).nx ≤ (S j).nx + 1 := fun j hj => by
    obtain ⟨o, ho⟩ := hop j hj
    obtain ⟨s', h1, h2⟩ := hL j o hj ho
    rw [← h2.nx]
    exact h1.nx_le
  have nxM : ∀ q, q ≤ m → ∀ p, p ≤ q → (S p).nx ≤ (S q).nx := by
    intro q
    induction q with
    | zero => intro _ p hp; obtain rfl : p = 0 := (by omega); exact Nat.le_refl _
    | succ q ih =>
      intro hq p hp
      rcases Nat.lt_or_ge p (q + 1) with h | h
      · exact Nat.le_trans (ih (by omega) p (by omega)) (nxS q (by omega)).1
      · obtain rfl : p = q + 1 := by omega
        exact Nat.le_refl _
  have regM : ∀ t q, q ≤ m → ∀ p, p ≤ q → (∀ j o, p ≤ j → j < q → l[j]? = some o → o.dst ≠ some t) → look AV.any (S q).regs t = look .any (S p).regs t := by
    intro t q
    induction q with
    | zero => intro _ p hp _; obtain rfl : p = 0 := (by omega); rfl
    | succ q ih =>
      intro hq p hp hno
      rcases Nat.lt_or_ge p (q + 1) with h | h
      · obtain ⟨o, ho⟩ := hop q (by omega)
        obtain ⟨s', h1, h2⟩ := hL q o (by omega) ho
        rw [← h2.regs t, h1.regs (hno q o (by omega) (by omega) ho)]
        exact ih (by omega) p (by omega) fun j o hj1 hj2 => hno j o hj1 (by omega)
      · obtain rfl : p = q + 1 := by omega
        rfl
  have heapM : ∀ id q, q ≤ m → ∀ p, p ≤ q → id < (S p).nx → look AB.dead (S q).heap id = look .dead (S p).heap id := by
    intro id q
    induction q with
    | zero => intro _ p hp _; obtain rfl : p = 0 := (by omega); rfl
    | succ q ih =>
      intro hq p hp hlt
      rcases Nat.lt_or_ge p (q + 1) with h | h
      · obtain ⟨o, ho⟩ := hop q (by omega)
        obtain ⟨s', h1, h2⟩ := hL q o (by omega) ho
        have := nxM q (by omega) p (by omega)
        rw [← h2.heap id, h1.heap (by omega)]
        exact ih (by omega) p (by omega) hlt
      · obtain rfl : p = q + 1 := by omega
        rfl
  have crM : ∀ q, q ≤ m → ∀ c ∈ C q, c.1 < q ∧ c.2 = (S c.1).nx ∧ (S (c.1 + 1)).nx = (S c.1).nx + 1 := by
    intro q
    induction q with
    | zero => intro _ c hc; rw [hC0] at hc; cases hc
    | succ q ih =>
      intro hq c hc
      obtain ⟨o, ho⟩ := hop q (by omega)
      obtain ⟨s', h1, h2⟩ := hL q o (by omega) ho
      rcases h1.crm c hc with h | ⟨h, h'⟩
      · obtain ⟨g1, g2⟩ := ih (by omega) c h
        exact ⟨by omega, g2⟩
      · subst h
        exact ⟨by omega, rfl, by rw [← h2.nx]; exact h'⟩
  have pa := hp i o (by simpa using ho)
  -- the registers that the operation looks at
  have hlook : ∀ t, t ∈ o.looksAt l.toArray → R t = look .any (S i).regs t := by
    intro t ht
    by_cases hw : ∃ (j : Nat) (o' : Oper), l[j]? = some o' ∧ o'.dst = some t
    · obtain ⟨j, o', ho', hdst⟩ := hw
      obtain ⟨hj, e, hem, hb, hon⟩ := pa.look j o' t (by simpa using ho') hdst ht
      have hdj := hdep e hem hb
      rw [hon] at hdj
      rw [I1 j o' t (by omega) ho' hdj hdst]
      exact (regM t i (by omega) (j + 1) (by omega) fun j2 o2 h1 h2 ho2 => (hp j2 o2 (by simpa using ho2)).one j o' t (by simpa using ho') hdst (by omega)).symm
    · rw [I2 t fun j o' _ ho' _ hdst => hw ⟨j, o', ho', hdst⟩]
      exact (regM t i (by omega) 0 (Nat.zero_le _) fun j o' _ _ ho' hdst => hw ⟨j, o', ho', hdst⟩).symm
  have hvis : ∀ id, vis T (S 0).nx i (C i) id = true → lvD S m (S 0).nx d id = true ∧ id < (S i).nx := by
    intro id h
    unfold vis at h
    rw [Bool.or_eq_true, List.any_eq_true] at h
    rcases h with h | ⟨c, hc, h⟩
    · have h : id < (S 0).nx := by simpa using h
      have := nxM i (by omega) 0 (Nat.zero_le _)
      exact ⟨lvD_iff.2 (.inl h), by omega⟩
    · rw [Bool.and_eq_true] at h
      obtain ⟨g1, g2, g3⟩ := crM i (by omega) c hc
      have hid := Nat.eq_of_beq_eq_true h.1
      have hmem := hasN_mem h.2
      have hreach : Reach l i c.1 := by
        cases hTi : T[i]? with
        | none => rw [List.getD_eq_getElem?_getD, hTi] at hmem; simp at hmem
        | some A => rw [List.getD_eq_getElem?_getD, hTi] at hmem; exact hT i A hTi _ hmem
      have hdc := hreach.done hcl ho hdep
      have := nxM i (by omega) (c.1 + 1) (by omega)
      exact ⟨lvD_iff.2 (.inr ⟨c.1, by omega, hdc, by omega, by omega⟩), by omega⟩
  have hrel : RelG K n (lcl l.toArray T (S 0).nx i (C i) (S i) o (S m).nx) a w G := by
    refine hR.rel (fun t => ?_) (fun id => ?_) rfl
    · by_cases ht : t ∈ o.looksAt l.toArray
      · rw [hlook t ht]
        exact (look_pick (f := fun t => look AV.any (S i).regs t)).symm
      · exact .inl (look_pick_in ht)
    · show look .dead ((S i).heap.filter fun p => vis T (S 0).nx i (C i) p.1) id = _ ∨ look .dead ((S i).heap.filter fun p => vis T (S 0).nx i (C i) p.1) id = _
      rw [look_filt]
      cases hv : vis T (S 0).nx i (C i) id with
      | false => exact .inl rfl
      | true =>
        obtain ⟨h1, h2⟩ := hvis id hv
        right
        rw [I3 id h1, heapM id m (Nat.le_refl _) i (by omega) h2]
        rfl
  obtain ⟨s', hloc, heq⟩ := hL i o hi ho
  have hdone : ∀ j, upd d i j = true ↔ d j = true ∨ j = i := fun j => by simp [upd]
  -- the registers behind it
  have J1 : ∀ (x : AV), look AV.any (S (i + 1)).regs = look .any ((S i).put o.dst x).regs ∨ (∀ t, o.dst = some t → look .any (S (i + 1)).regs t = x) → ∀ j o' t, j < m → l[j]? = some o' → upd d i j = true → o'.dst = some t → updR R o.dst x t = look .any (S (j + 1)).regs t := by
    intro x hx j o' t hj ho' hdj hdst
    by_cases hji : j = i
    · subst hji
      rw [ho] at ho'
      cases ho'
      rw [hdst]
      show (if t = t then x else R t) = _
      rw [if_pos rfl]
      rcases hx with hx | hx
      · rw [hx, hdst, put_self]
      · exact (hx t hdst).symm
    · have hdj : d j = true := ((hdone j).1 hdj).resolve_right hji
      have hne : o.dst ≠ some t := pa.one j o' t (by simpa using ho') hdst (fun e => hji e.symm)
      have : updR R o.dst x t = R t := by
        cases hdd : o.dst with
        | none => rfl
        | some dd => exact if_neg (fun e => hne (by rw [hdd, e]))
      rw [this]
      exact I1 j o' t hj ho' hdj hdst
  have J2 : ∀ (x : AV) t, (∀ j o', j < m → l[j]? = some o' → upd d i j = true → o'.dst ≠ some t) → updR R o.dst x t = look .any (S 0).regs t := by
    intro x t hno
    have hne : o.dst ≠ some t := hno i o hi ho ((hdone i).2 (.inr rfl))
    have : updR R o.dst x t = R t := by
      cases hdd : o.dst with
      | none => rfl
      | some dd => exact if_neg (fun e => hne (by rw [hdd, e]))
    rw [this]
    exact I2 t fun j o' hj ho' hdj => hno j o' hj ho' ((hdone j).2 (.inl hdj))
  have lvSame : (S (i + 1)).nx = (S i).nx → lvD S m (S 0).nx (upd d i) = lvD S m (S 0).nx d := by
    intro hn
    funext id
    rw [Bool.eq_iff_iff, lvD_iff, lvD_iff]
    constructor
    · rintro (h | ⟨j, h1, h2, h3, h4⟩)
      · exact .inl h
      · rcases (hdone j).1 h2 with h2 | h2
        · exact .inr ⟨j, h1, h2, h3, h4⟩
        · subst h2; omega
    · rintro (h | ⟨j, h1, h2, h3, h4⟩)
      · exact .inl h
      · exact .inr ⟨j, h1, (hdone j).2 (.inl h2), h3, h4⟩
  have hwant : o.guard = none ∨ gst l.toArray o (lcl l.toArray T (S 0).nx i (C i) (S i) o 0) = some true → Region.wanted o (yielded l.toArray a.tmps) = true := by
    rintro (hg | hg)
    · exact wanted_none hg a
    · obtain ⟨dd, want, g1, g2⟩ := gst_yes hg
      exact wanted_of (st := lcl l.toArray T (S 0).nx i (C i) (S i) o (S m).nx) g1 g2 K a w G hrel
  have lvmono : ∀ id, vis T (S 0).nx i (C i) id = true → lvD S m (S 0).nx d id = true := fun id h => (hvis id h).1
  generalize C (i + 1) = cr' at hloc
  cases hloc with
  | @read x hw h hn =>
    rw [if_pos (hwant hw)]
    obtain ⟨v, h1, h2⟩ := (h (S m).nx).out K a w G hrel
    have hnx : (S (i + 1)).nx = (S i).nx := by rw [← heq.nx, put_nx]
    unfold Oper.wp
    rw [h1 w (Below.refl _ _)]
    exact ⟨_, hpp, G, by rw [lvSame hnx]; exact hR.put (h 0).dst h2 (nmd_mono lvmono _ hn), J1 x (.inr fun t ht => by rw [← heq.regs t, ht, put_self]), J2 x, by rw [lvSame hnx]; exact I3⟩
  | @call x hw h hn =>
    rw [if_pos (hwant hw)]
    obtain ⟨F, args, h1, h2⟩ := (h (S m).nx).out K a w G hrel
    have hnx : (S (i + 1)).nx = (S i).nx := by rw [← heq.nx, put_nx]
    unfold Oper.wp
    rw [h1]
    refine h2.mono fun e w' ⟨v, e1, e2, e3⟩ => ?_
    subst e1
    exact ⟨_, hpp, G, by rw [lvSame hnx]; exact (hR.same e2).put (h 0).dst e3 (nmd_mono lvmono _ hn), J1 x (.inr fun t ht => by rw [← heq.regs t, ht, put_self]), J2 x, by rw [lvSame hnx]; exact I3⟩
  | @skip hw hd =>
    obtain ⟨dd, want, g1, g2⟩ := gst_no hw
    rw [if_neg (by rw [unwanted_of (st := lcl l.toArray T (S 0).nx i (C i) (S i) o (S m).nx) g1 g2 hrel]; decide)]
    have hnx : (S (i + 1)).nx = (S i).nx := by rw [← heq.nx, put_nx]
    exact ⟨_, hpp, G, by rw [lvSame hnx]; exact hR.put hd (.dat .und) rfl, J1 .und (.inr fun t ht => by rw [← heq.regs t, ht, put_self]), J2 .und, by rw [lvSame hnx]; exact I3⟩
  | @new b hw h hn =>
    rw [if_pos (hwant hw)]
    obtain ⟨v, w', h1, h2⟩ := (h (S m).nx).out K a w G hrel
    have hnx : (S (i + 1)).nx = (S i).nx + 1 := by rw [← heq.nx, put_nx]; rfl
    have hge : (S 0).nx ≤ (S i).nx := nxM i (by omega) 0 (Nat.zero_le _)
    have hfree : lvD S m (S 0).nx d (S i).nx = false := by
      rw [Bool.eq_false_iff]
      intro hlv
      rcases lvD_iff.1 hlv with h | ⟨j, g1, g2, g3, g4⟩
      · omega
      · rcases Nat.lt_trichotomy j i with hlt | e | hlt
        · have := nxM i (by omega) (j + 1) (by omega); omega
        · subst e; rw [hd0] at g2; cases g2
        · have := nxM j (by omega) (i + 1) (by omega); omega
    have hlt : (S i).nx < (S m).nx := by have := nxM m (Nat.le_refl _) (i + 1) (by omega); omega
    have hlv' : lvD S m (S 0).nx (upd d i) = fun id => lvD S m (S 0).nx d id || Nat.beq id (S i).nx := by
      funext id
      rw [Bool.eq_iff_iff, lvD_iff, Bool.or_eq_true, lvD_iff]
      constructor
      · rintro (h | ⟨j, h1, h2, h3, h4⟩)
        · exact .inl (.inl h)
        · rcases (hdone j).1 h2 with h2 | h2
          · exact .inl (.inr ⟨j, h1, h2, h3, h4⟩)
          · subst h2; right; rw [h3]; simp
      · rintro ((h | ⟨j, h1, h2, h3, h4⟩) | h)
        · exact .inl h
        · exact .inr ⟨j, h1, (hdone j).2 (.inl h2), h3, h4⟩
        · have := Nat.eq_of_beq_eq_true h
          exact .inr ⟨i, hi, (hdone i).2 (.inr rfl), this.symm, by omega⟩
    obtain ⟨hR2, hv⟩ := hR.newAt hfree hlt h2 (abnmd_mono lvmono hn)
    unfold Oper.wp
    rw [h1]
    have hb : look AB.dead (S m).heap (S i).nx = b := by
      rw [heapM _ m (Nat.le_refl _) (i + 1) (by omega) (by omega), ← heq.heap, put_heap]
      exact look_self _ _ _ _
    refine ⟨_, ((S i).nx, b) :: hpp, G.at (S i).nx v (lnB b) (szB b), ?_, J1 (refB b (S i).nx) (.inr fun t ht => by rw [← heq.regs t, ht, put_self]), J2 _, fun id hid => ?_⟩
    · rw [hlv']
      refine hR2.put (h 0).dst hv ?_
      cases b with
      | dead => rfl
      | box cs e => simp [refB, AV.nmd]
      | row sz rows e => simp [refB, AV.nmd]
    · rw [hlv'] at hid
      rw [look_cons]
      split
      · rename_i e; subst e; exact hb.symm
      · rename_i e
        rw [Bool.or_eq_true] at hid
        exact I3 id (hid.resolve_right fun h => e (Nat.eq_of_beq_eq_true h).symm)
theorem AG.last (hp : ∀ i o, l.toArray[i]? = some o → PlanAt l.toArray n i o) (hml : m ≤ l.length)
    (hL : ∀ j o, j < m → l[j]? = some o → ∃ s' cr cr', Loc P n l.toArray T (S 0).nx j cr o (S j) s' cr' ∧ Eqv s' (S (j + 1))) (hdead : ∀ id, (S 0).nx ≤ id → look .dead (S 0).heap id = .dead)
    {K : Kn} {d : Nat → Bool} {a : Act} {w : World} (hall : ∀ i, i < m → d i = true) (h : InvG K n l S m (S 0).nx d a w) : ∃ G, RelG K n (S m) a w G := by
  obtain ⟨R, hpp, G, hR, I1, I2, I3⟩ := h
  have hop : ∀ j, j < m → ∃ o, l[j]? = some o := fun j hj => ⟨l[j], List.getElem?_eq_getElem (by omega)⟩
  have regM : ∀ t q, q ≤ m → ∀ p, p ≤ q → (∀ j o, p ≤ j → j < q → l[j]? = some o → o.dst ≠ some t) → look AV.any (S q).regs t = look .any (S p).regs t := by
    intro t q
    induction q with
    | zero => intro _ p hp _; obtain rfl : p = 0 := (by omega); rfl
    | succ q ih =>
      intro hq p hp hno
      rcases Nat.lt_or_ge p (q + 1) with h | h
      · obtain ⟨o, ho⟩ := hop q (by omega)
        obtain ⟨s', _, _, h1, h2⟩ := hL q o (by omega) ho
        rw [← h2.regs t, h1.regs (hno q o (by omega) (by omega) ho)]
        exact ih (by omega) p (by omega) fun j o hj1 hj2 => hno j o hj1 (by omega)
      · obtain rfl : p = q + 1 := by omega
        rfl
  have heapM : ∀ id, (¬ ∃ j, j < m ∧ (S j).nx = id ∧ (S j).nx < (S (j + 1)).nx) → ∀ q, q ≤ m → look AB.dead (S q).heap id = look .dead (S 0).heap id := by
    intro id hno q
    induction q with
    | zero => intro _; rfl
    | succ q ih =>
      intro hq
      obtain ⟨o, ho⟩ := hop q (by omega)
      obtain ⟨s', _, _, h1, h2⟩ := hL q o (by omega) ho
      rw [← h2.heap id, ← ih (by omega)]
      by_cases e : id = (S q).nx
      · have hn : ¬ (S q).nx < (S (q + 1)).nx := fun hlt => hno ⟨q, by omega, e.symm, hlt⟩
        have := h1.nx_le.1
        exact h1.heapSame (by have := h2.nx; omega) id
      · exact h1.heap e
  refine ⟨G, hR.rel (fun t => .inr ?_) (fun id => ?_) rfl⟩
  · by_cases hw : ∃ (j : Nat) (o' : Oper), j < m ∧ l[j]? = some o' ∧ o'.dst = some t
    · obtain ⟨j, o', hj, ho', hdst⟩ := hw
      rw [I1 j o' t hj ho' (hall j hj) hdst]
      exact regM t m (Nat.le_refl _) (j + 1) (by omega) fun j2 o2 h1 h2 ho2 => (hp j2 o2 (by simpa using ho2)).one j o' t (by simpa using ho') hdst (by omega)
    · rw [I2 t fun j o' hj ho' _ hdst => hw ⟨j, o', hj, ho', hdst⟩]
      exact regM t m (Nat.le_refl _) 0 (Nat.zero_le _) fun j o' _ hj ho' hdst => hw ⟨j, o', hj, ho', hdst⟩
  · cases hlv : lvD S m (S 0).nx d id with
    | true => exact .inr (I3 id hlv).symm
    | false =>
      left
      have hno : ¬ (id < (S 0).nx ∨ ∃ j, j < m ∧ d j = true ∧ (S j).nx = id ∧ (S j).nx < (S (j + 1)).nx) := fun h => by rw [lvD_iff.2 h] at hlv; cases hlv
      rw [heapM id (fun ⟨j, h1, h2⟩ => hno (.inr ⟨j, h1, hall j h1, h2⟩)) m (Nat.le_refl _)]
      exact hdead id (by omega)
end
/-- a region that draws: m operations in any order, the others behind them -/
theorem AW.drawG {P : Program} {n : Nat} {Q : Exit → ASt → Prop} {st : ASt} {id : Nat} {l : List Oper} (hm : P.follows .mixedOrders = true) (hk : planOk l.toArray n = true) (m : Nat) {l1 l2 : List Oper} {T : List (List Nat)} (hT : ancs l [] = T) (h1 : l.take m = l1) (h2 : l.drop m = l2) (htail : tailOk' T m l2 = true)
    (h : AG P n l.toArray T st.nx (fun s => AL P n l.toArray Q l2 s) 0 [] l1 st) : AW P n (.region id l.toArray true) Q st := .mk fun K a w ⟨G, r⟩ => by
  subst h1; subst h2
  have hpl := planOk_at hk
  have hT' : AncOk l T := by
    rw [← hT]
    exact ancs_ok l [] (fun i A hA => by simp at hA) rfl
  obtain ⟨S, C, e0, hC0, hK, hS⟩ := h.facts
  have hm' : (l.take m).length = min m l.length := by simp
  have r2 : RelG K n (S 0) a w.drew G := (r.same (below_drew' w)).eqv e0
  have hL : ∀ j o, j < (l.take m).length → l[j]? = some o → ∃ s', Loc P n l.toArray T (S 0).nx j (C j) o (S j) s' (C (j + 1)) ∧ Eqv s' (S (j + 1)) := by
    intro j o hj ho
    have := hS j o (by rw [List.getElem?_take, if_pos (by omega)]; exact ho)
    rw [Nat.zero_add, e0.nx] at this
    exact this
  have hdead : ∀ id, (S 0).nx ≤ id → look .dead (S 0).heap id = .dead := by
    intro id hid
    have hkk := r2.hr.blk id
    have hn := r2.nx
    cases hb : look AB.dead (S 0).heap id with
    | dead => rfl
    | box cs e => rw [hb] at hkk; have := hkk.1; omega
    | row sz rows e => rw [hb] at hkk; have := hkk.1; omega
  have hnxM : (S 0).nx ≤ (S (l.take m).length).nx := by
    have : ∀ q, q ≤ (l.take m).length → (S 0).nx ≤ (S q).nx := by
      intro q
      induction q with
      | zero => intro _; exact Nat.le_refl _
      | succ q ih =>
        intro hq
        have hql : q < l.length := by omega
        obtain ⟨s', g1, g2⟩ := hL q l[q] (by omega) (List.getElem?_eq_getElem hql)
        have := g1.nx_le.1
        have := g2.nx
        have := ih (by omega)
        omega
    exact this _ (Nat.le_refl _)
  have hdr : l.drop (l.take m).length = l.drop m := by
    rw [hm']
    rcases Nat.lt_or_ge m l.length with h | h
    · rw [Nat.min_eq_left (by omega)]
    · rw [Nat.min_eq_right h, List.drop_length, List.drop_eq_nil_of_le h]
  refine wp_region_inv (n := n) (Inv := InvG K n l S (l.take m).length (S 0).nx) hm hpl (l.take m).length (by omega) ?_ (fun i o d a w hi ho hd0 hcl hdep hI => AG.step' hpl hT' (by omega) hC0 hL hi ho hd0 hcl hdep hI) (fun d a w hall hI => ?_) (fun i hi hil j hj => ?_)
  · obtain ⟨G', hR⟩ := r2.reserve (Nat.le_trans r.ext.size (below_drew' w).size) (S (l.take m).length).nx hnxM
    have hlv : lvD S (l.take m).length (S 0).nx (fun _ => false) = fun id => Nat.blt id (S 0).nx := by
      funext id
      rw [Bool.eq_iff_iff, lvD_iff]
      constructor
      · rintro (h | ⟨j, _, h, _⟩)
        · simpa using h
        · cases h
      · intro h; exact .inl (by simpa using h)
    refine ⟨_, _, G', by rw [hlv]; exact hR, fun j o t _ _ h => absurd h (by simp), fun t _ => rfl, fun id hid => ?_⟩
    rw [hlv] at hid
    have hid : id < (S 0).nx := by simpa using hid
    have : ∀ q, q ≤ (l.take m).length → look AB.dead (S q).heap id = look .dead (S 0).heap id ∧ (S 0).nx ≤ (S q).nx := by
      intro q
      induction q with
      | zero => intro _; exact ⟨rfl, Nat.le_refl _⟩
      | succ q ih =>
        intro hq
        have hql : q < l.length := by omega
        obtain ⟨s', g1, g2⟩ := hL q l[q] (by omega) (List.getElem?_eq_getElem hql)
        obtain ⟨g3, g4⟩ := ih (by omega)
        have := g1.nx_le.1
        have := g2.nx
        exact ⟨by rw [← g2.heap id, g1.heap (by omega), g3], by omega⟩
    exact (this _ (Nat.le_refl _)).1.symm
  · obtain ⟨G', hr⟩ := AG.last hpl (by omega) (fun j o hj ho => by obtain ⟨s', g1, g2⟩ := hL j o hj ho; exact ⟨s', _, _, g1, g2⟩) hdead hall hI
    rw [hdr]
    exact AL.out hK K a w ⟨G', hr⟩
  · have hge : m ≤ i := by rw [hm'] at hi; omega
    have := tailOk_at htail (i - m) (by simp; omega) j (by omega)
    rw [show m + (i - m) = i by omega] at this
    cases hTi : T[i]? with
    | none => rw [List.getD_eq_getElem?_getD, hTi] at this; simp at this
    | some A => rw [List.getD_eq_getElem?_getD, hTi] at this; exact hT' i A hTi _ this
end Go.Proofs.Ytnbmldnahacnlaa
