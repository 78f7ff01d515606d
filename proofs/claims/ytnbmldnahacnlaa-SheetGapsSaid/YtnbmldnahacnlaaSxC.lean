/- Symbolic walks: structs and slices built, slices cut, structs compared; rows of encoded elements. No program in sight. -/
import Derived.Test.YtnbmldnahacnlaaSxB
namespace Go.Proofs.Ytnbmldnahacnlaa
open Go Go.RowKit

def sizeN (P : Program) (t : TypeId) : Nat := ((P.info? t).map (·.size)).getD 0
def aggN (P : Program) (t : TypeId) : Bool := ((P.underlying t).map aggB).getD false
theorem fieldsP_list {P : Program} {t : TypeId} {fl : List (Nat × Nat × Bool)} (h : fieldsP P t = some fl) : ∃ fs, P.underlying t = some (.struct fs) ∧ fl = fs.toList.map (fun f => (f.offset, sizeN P f.type, aggN P f.type)) ∧ ∀ f ∈ fs.toList, (∃ i, P.info? f.type = some i) ∧ ∃ D, P.underlying f.type = some D := by
  unfold fieldsP at h
  split at h
  · rename_i fs hfs
    refine ⟨fs, hfs, ?_⟩
    clear hfs
    generalize fs.toList = l at h
    induction l generalizing fl with
    | nil => simp at h; subst h; exact ⟨rfl, fun f hf => by cases hf⟩
    | cons x l ih =>
      rw [List.mapM_cons] at h
      cases hi : P.info? x.type with
      | none => simp [fieldF, hi] at h
      | some i =>
        cases hD : P.underlying x.type with
        | none => simp [fieldF, hi, hD] at h
        | some D =>
          simp only [fieldF, hi, hD] at h
          cases hr : (l.mapM (fieldF P)) with
          | none => rw [hr] at h; simp at h
          | some r =>
            rw [hr] at h
            simp at h
            subst h
            obtain ⟨h1, h2⟩ := ih hr
            refine ⟨by rw [List.map_cons, ← h1]; simp [sizeN, aggN, hi, hD], fun f hf => ?_⟩
            rcases List.mem_cons.1 hf with rfl | hf
            · exact ⟨⟨i, hi⟩, D, hD⟩
            · exact h2 f hf
  · cases h
section
variable {P : Program} {n : Nat} {st : ASt} {d : Option Nat} {ty : TypeId} {ps : String} {af : Array Edge} {g : Option (Nat × Bool)} {x y : Operand} {t t' : TypeId}
def placeS (fl : List (Nat × Nat × Bool)) (i : Nat) : Option (Nat × Nat) := match fl[i]? with | some (o, s, _) => some (o, s) | none => none
theorem parts_rel {K : Kn} {a : Act} {w : World} {G : Gh} (r : RelG K n st a w G) (l : List (Nat × Operand)) (j : Nat) (p : Nat × AV) (u : Nat × Value) (hp : (l.map fun p => (p.1, st.ev p.2))[j]? = some p) (hu : (l.map fun p => (p.1, a.eval p.2))[j]? = some u) : p.1 = u.1 ∧ RelV w G p.2 u.2 := by
  rw [List.getElem?_map] at hp hu
  cases h : l[j]? with
  | none => rw [h] at hp; cases hp
  | some q =>
    rw [h] at hp hu
    simp at hp hu
    subst hp; subst hu
    exact ⟨rfl, r.ev q.2⟩
def evParts (st : ASt) : List (Nat × Operand) → List (Nat × AV)
  | [] => []
  | (i, x) :: l => (i, st.ev x) :: evParts st l
theorem evParts_map (st : ASt) (l : List (Nat × Operand)) : evParts st l = l.map fun p => (p.1, st.ev p.2) := by
  induction l with
  | nil => rfl
  | cons p l ih => rw [evParts, ih]; rfl
theorem op_build {z : Value} {s b : Nat} {parts : Array (Nat × Operand)} {fl : List (Nat × Nat × Bool)} {zs out : List AV} (hI : tyI P t = some (some z, s, b)) (hz : z.cells.toList.map avOf = zs) (hz1 : allOne zs = true) (hF : fieldsP P t = some fl) (hf : fillA (placeS fl) zs (evParts st parts.toList) = some out) (hd : dok d n = true) :
    OpR P n ⟨d, .build t parts, ty, ps, af, g⟩ st (.agg out) :=
  .mk hd fun K a w G rr => by
    subst hz
    obtain ⟨fs, h1, h2, h3⟩ := fieldsP_list hF
    rw [evParts_map] at hf
    obtain ⟨os, g1, g2⟩ := fill_rel (placeS fl) _ (parts.toList.map fun p => (p.1, a.eval p.2)) _ out z.cells (by simp) (fun j p u hp hu => parts_rel rr parts.toList j p u hp hu) (cellsV_const w G hz1) hf
    have hpl : ∀ w' : World, (fs.mapM fun f => do pure (f.offset, ← sizeOf f.type) : Sem (Array (Nat × Nat))).run P w' = .ok (fs.map fun f => (f.offset, sizeN P f.type)) w' := by
      intro w'
      refine run_mapM_array _ _ fs fun f hf => ?_
      obtain ⟨⟨i, hi⟩, _⟩ := h3 f (by simpa using hf)
      simp [sizeOf, typeInfo, hi, sizeN]
    have hplace : (fun i => (fs.map fun f => (f.offset, sizeN P f.type))[i]?) = placeS fl := by
      funext i
      unfold placeS
      rw [h2, List.getElem?_map, Array.getElem?_map, Array.getElem?_toList]
      cases fs[i]? <;> rfl
    refine ⟨.agg os, ?_, .agg _ _ g2.size g2.rel⟩
    intro w' _
    simp only [execOp, Instr.build, Sem.run_bind, run_zeroValue' hI, Result.andThen_ok, run_underlying h1, hpl]
    rw [hplace]
    simp only [Array.toList_map, g1]
    rfl
/-- a literal slice -/
def chunk (sz : Nat) : Nat → List AV → List (List AV)
  | 0, _ => []
  | k + 1, cs => cs.take sz :: chunk sz k (cs.drop sz)
theorem chunk_length (sz : Nat) : ∀ (k : Nat) (cs : List AV), (chunk sz k cs).length = k
  | 0, _ => rfl
  | k + 1, cs => by rw [chunk, List.length_cons, chunk_length]
theorem chunk_at (sz : Nat) : ∀ (k : Nat) (cs : List AV) (i : Nat), i < k → (chunk sz k cs)[i]? = some ((cs.drop (i * sz)).take sz)
  | k + 1, cs, 0, _ => by simp [chunk]
  | k + 1, cs, i + 1, h => by
    rw [chunk, List.getElem?_cons_succ, chunk_at sz k _ i (by omega), List.drop_drop]
    congr 3
    rw [Nat.add_mul]; omega
def zerosA (zs : List AV) : Nat → List AV
  | 0 => []
  | k + 1 => zs ++ zerosA zs k
theorem RowsV.of_cells {w : World} {G : Gh} {cs : List AV} {vs : Array Value} (h : CellsV w G cs vs) {sz L : Nat} (hl : cs.length = L * sz) : RowsV w G sz (chunk sz L cs) vs.toList := by
  refine ⟨by rw [chunk_length]; simpa [hl] using h.size, fun v hv => ?_, fun i row hi => ?_⟩
  · obtain ⟨k, hk, rfl⟩ := List.getElem_of_mem hv
    exact h.one k _ (by simp)
  · have hil : i < L := by rw [← chunk_length sz L cs]; exact (List.getElem?_eq_some_iff.1 hi).1
    rw [chunk_at sz L cs i hil] at hi
    injection hi with hi
    subst hi
    have hle : (i + 1) * sz ≤ L * sz := Nat.mul_le_mul_right _ hil
    rw [Nat.add_mul] at hle
    refine ⟨by rw [List.length_take, List.length_drop, hl]; omega, fun j a hj => ?_⟩
    rw [List.getElem?_take] at hj
    split at hj
    · rw [List.getElem?_drop] at hj
      have hlt : i * sz + j < vs.size := by rw [h.size]; exact (List.getElem?_eq_some_iff.1 hj).1
      exact ⟨vs[i * sz + j], by simp [hlt], h.rel _ a _ hj (Array.getElem?_eq_getElem hlt)⟩
    · cases hj
theorem zerosA_length (zs : List AV) : ∀ k, (zerosA zs k).length = k * zs.length
  | 0 => by simp [zerosA]
  | k + 1 => by rw [zerosA, List.length_append, zerosA_length zs k, Nat.add_mul]; omega
theorem zerosA_at (zs : List AV) (h0 : 0 < zs.length) : ∀ k i, i < k * zs.length → (zerosA zs k)[i]? = zs[i % zs.length]?
  | 0, i, h => by simp at h
  | k + 1, i, h => by
    rw [zerosA]
    by_cases hi : i < zs.length
    · rw [List.getElem?_append_left hi, Nat.mod_eq_of_lt hi]
    · rw [List.getElem?_append_right (by omega), zerosA_at zs h0 k _ (by rw [Nat.succ_mul] at h; omega)]
      conv => rhs; rw [Nat.mod_eq_sub_mod (show zs.length ≤ i by omega)]
theorem op_buildSlice {e : TypeId} {z : Value} {sz b L : Nat} {parts : Array (Nat × Operand)} {zs out : List AV} {rows : List (List AV)} (hT : P.underlying t = some (.slice e)) (hI : tyI P e = some (some z, sz, b)) (hz : z.cells.toList.map avOf = zs) (hz1 : allOne zs = true) (hzs : zs.length = sz) (h0 : 0 < sz) (hL : Nat.ble (L * sz) 16777216 = true)
    (hf : fillA (fun i => some (i * sz, sz)) (zerosA zs L) (evParts st parts.toList) = some out) (hout : out.length = L * sz) (hr : chunk sz L out = rows) (hd : dok d n = true) :
    OpV P n ⟨d, .buildSlice t L parts, ty, ps, af, g⟩ st ((st.hnew (.row sz rows e)).put d (.osl st.nx L)) := .mk fun K a w ⟨G, r⟩ => by
  subst hr
  subst hz
  have hL := Nat.le_of_ble_eq_true hL
  have hzc : z.cells.size = sz := by simpa using hzs
  rw [evParts_map] at hf
  have hcz : CellsV w G (zerosA (z.cells.toList.map avOf) L) ((Array.range (L * sz)).map (z.cells[· % z.cells.size]!)) := by
    have hcv := cellsV_const w G hz1
    have hat : ∀ (i : Nat) (v : Value), ((Array.range (L * sz)).map (z.cells[· % z.cells.size]!))[i]? = some v → ∃ hk : i % z.cells.size < z.cells.size, v = z.cells[i % z.cells.size] := by
      intro i v hv
      have hk : i % z.cells.size < z.cells.size := Nat.mod_lt _ (by omega)
      refine ⟨hk, ?_⟩
      rw [Array.getElem?_map] at hv
      obtain ⟨k, h1, h2⟩ := Option.map_eq_some_iff.1 hv
      have : k = i := by
        have := Array.getElem?_eq_some_iff.1 h1
        obtain ⟨_, h⟩ := this
        simpa using h.symm
      subst this
      rw [← h2]
      simp [hk]
    refine ⟨by simp [zerosA_length, hzc], fun i v hv => ?_, fun i a v ha hv => ?_⟩
    · obtain ⟨hk, rfl⟩ := hat i v hv
      exact hcv.one _ _ (Array.getElem?_eq_getElem hk)
    · obtain ⟨hk, rfl⟩ := hat i v hv
      have hi : i < L * (z.cells.toList.map avOf).length := by
        have := (List.getElem?_eq_some_iff.1 ha).1
        rwa [zerosA_length] at this
      rw [zerosA_at _ (by rw [hzs]; exact h0) L i hi] at ha
      exact hcv.rel _ a _ (by simpa using ha) (by simp [hk])
  obtain ⟨os, g1, g2⟩ := fill_rel (fun i => some (i * sz, sz)) _ (parts.toList.map fun p => (p.1, a.eval p.2)) _ out _ (by simp) (fun j p u hp hu => parts_rel r parts.toList j p u hp hu) hcz hf
  have hos : os.size = L * sz := by rw [g2.size, hout]
  have ho := World.ownsRow_lit (base := w.heap.size) (e := e) (size := sz) w os L (Nat.le_refl _) (by simp [maxLen]; have : L ≤ L * sz := Nat.le_mul_of_pos_right _ h0; omega) hos
  have hRV := RowsV.of_cells g2 hout
  obtain ⟨r2, hv⟩ := r.newRow (below_alloc' _ _) (rows := chunk sz L out) (sz := sz) (e := e) h0 (by rw [chunk_length]; exact ho) hRV
  rw [chunk_length] at hv r2
  refine ⟨_, _, .inl ?_, _, r2.put (dok_lt hd) hv⟩
  have hng : ¬ (2 ^ 24 < L * sz) := by omega
  by_cases hn : L * sz = 0
  · have hL0 : L = 0 := by
      rcases Nat.eq_zero_or_pos L with h | h
      · exact h
      · have := Nat.mul_pos h h0; omega
    subst hL0
    simp only [Nat.zero_mul, Array.range_zero', Array.map_empty] at g1
    simp [execOp, Instr.buildSlice, run_underlying hT, run_sizeOf' hI, Array.range_zero', g1, newRow]
  · simp only [execOp, Instr.buildSlice, Sem.run_bind, run_underlying hT, Result.andThen_ok, run_sizeOf' hI]
    rw [if_neg (by omega), if_neg hn]
    simp only [Sem.run_bind, Sem.run_pure, Result.andThen_ok, run_zeroValue' hI, Array.toList_map, g1]
    simp [newRow]
end
end Go.Proofs.Ytnbmldnahacnlaa
