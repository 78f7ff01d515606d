/- Symbolic walks: rows of encoded elements; calls by contract; structs compared; slices cut; arguments and old contracts. No program in sight. -/
import Derived.Test.YtnbmldnahacnlaaSxD
namespace Go.Proofs.Ytnbmldnahacnlaa
open Go Go.RowKit

section
variable {P : Program} {n : Nat} {Q : Exit → ASt → Prop} {st : ASt} {d : Option Nat} {ty : TypeId} {ps : String} {af : Array Edge} {g : Option (Nat × Bool)} {x y : Operand} {t t' : TypeId} {α : Type} {f : α → List AV} {xs : List α}
theorem op_len_enc {fr : Bool} {sz : Nat} {e : TypeId} (hx : st.ev x = .ro fr sz (xs.map f)) (hT : P.underlying t = some (.slice e)) (hd : dok d n = true) :
    OpR P n ⟨d, .call { callee := .builtin .len, args := #[x], argTypes := #[t] }, ty, ps, af, g⟩ st (.int .i64 xs.length) :=
  op_len (m := xs.length) (by rw [hx]; simp [AV.lenA]) hT hd
theorem op_index_enc {fr : Bool} {e : TypeId} {z : Option Value} {sz b k : Nat} {kk : IntKind} {i : Int} {v : α} (hx : st.ev x = .ro fr sz (xs.map f)) (hy : st.ev y = .int kk i) (hT : P.underlying t = some (.slice e)) (hI : tyI P e = some (z, sz, b)) (hi : i = (k : Int)) (hk : xs[k]? = some v) (hne : f v ≠ []) (hd : dok d n = true) :
    OpR P n ⟨d, .indexAddr t x y, ty, ps, af, g⟩ st (.peek (f v) 0) := by
  subst hi
  exact op_index_ro hx hy hT hI (by omega) (enc_at (by simpa using hk)) hne hd
theorem op_index_own {e e' : TypeId} {z : Option Value} {sz sz' b id m k : Nat} {rows : List (List AV)} {kk : IntKind} {i : Int} (hx : st.ev x = .osl id m) (hb : look .dead st.heap id = .row sz rows e') (hm : m = rows.length) (hy : st.ev y = .int kk i) (hT : P.underlying t = some (.slice e)) (hI : tyI P e = some (z, sz', b)) (hsz : sz' = sz) (hi : i = (k : Int)) (hlt : k < m) (hd : dok d n = true) :
    OpR P n ⟨d, .indexAddr t x y, ty, ps, af, g⟩ st (.elt id m k 0) := by
  subst hi
  have := op_index_osl (d := d) (ty := ty) (ps := ps) (af := af) (g := g) hx hb hm hy hT hI hsz (by omega) (by omega) hd
  simpa using this
theorem op_load_own {D : TypeDesc} {z : Option Value} {s b : Nat} {id m i o sz : Nat} {e : TypeId} {w : α} {v : AV} (hx : st.ev x = .elt id m i o) (hb : look .dead st.heap id = .row sz (xs.map f) e) (hm : m = (xs.map f).length) (hr : xs[i]? = some w) (hT : P.underlying t = some D) (hI : tyI P t = some (z, s, b)) (hv : partA (f w) o s (aggB D) = some v) (hd : dok d n = true) :
    OpR P n ⟨d, .load t x, ty, ps, af, g⟩ st v := op_load_elt hx hb hm (enc_at hr) hT hI hv hd
theorem set_enc {i : Nat} {v : α} {row : List AV} (h : row = f v) : (xs.map f).set i row = (xs.set i v).map f := by subst h; simp
theorem app_enc {v : α} {row : List AV} (h : row = f v) : xs.map f ++ [row] = (xs ++ [v]).map f := by subst h; simp
theorem app_encs {ys : List α} : xs.map f ++ ys.map f = (xs ++ ys).map f := by simp
theorem op_store_own {z : Option Value} {s b : Nat} {id m i o sz : Nat} {rows rows' : List (List AV)} {e : TypeId} {row vs : List AV} (hx : st.ev x = .elt id m i o) (hb : look .dead st.heap id = .row sz rows e) (hm : m = rows.length) (hr : rows[i]? = some row) (hy : (st.ev y).cells = vs) (h1 : allOne vs = true) (hI : tyI P t = some (z, s, b)) (hs : vs.length = s) (hle : Nat.ble (o + s) sz = true) (hrr : rows.set i (setR row o vs) = rows') :
    OpV P n ⟨none, .store t x y, ty, ps, af, g⟩ st (st.hset id (.row sz rows' e)) := by subst hrr; exact op_store_elt hx hb hm hr hy h1 hI hs (Nat.le_of_ble_eq_true hle)
theorem op_app {e : TypeId} {z : Value} {sz b id m L : Nat} {e' : TypeId} {rows new rows' : List (List AV)} {xv : AV} (hx : st.ev x = .osl id m) (hb : look .dead st.heap id = .row sz rows e') (he : e' = e) (hm : m = rows.length) (hy : st.ev y = xv) (hs : SrcA st.heap sz xv new)
    (hT : P.underlying t = some (.slice e)) (hI : tyI P e = some (some z, sz, b)) (hz : z.cells.size = sz) (hrr : rows ++ new = rows') (hL : rows'.length = L) (h63 : L * (b + 1) ≤ 140737488355328) (hd : dok d n = true) :
    OpV P n ⟨d, .call { callee := .builtin .append, args := #[x, y], argTypes := #[t, t] }, ty, ps, af, g⟩ st ((st.hset id (.row sz rows' e)).put d (.osl id L)) := by
  subst hrr
  subst hL
  rw [List.length_append] at h63 ⊢
  exact op_append hx hb he hm hy hs hT hI hz h63 hd
/-- a nil slice as a row of the call's own -/
theorem AW.nilrow {c : Code} {dd : Nat} {sz : Nat} (e : TypeId) (h0 : 0 < sz) (hx : look .any st.regs dd = .nils) (h : AW P n c Q ((st.hnew (.row sz [] e)).set dd (.osl st.nx 0))) : AW P n c Q st := .mk fun K a w ⟨G, r⟩ => by
  obtain ⟨r2, hv⟩ := r.newRow (Below.refl _ _) (rows := []) (sz := sz) (e := e) h0 (World.ownsRow_nil w _ _ _) (RowsV.nil _ _ _)
  have e1 := r.regs dd
  rw [hx] at e1
  have e1 := e1.nils'
  refine h K a w ⟨_, r2.nx, r2.hr, r2.ext, r2.size, r2.defers, fun k => ?_⟩
  show RelV w _ (look .any ((dd, .osl st.nx 0) :: st.regs) k) _
  rw [look_cons]
  split
  · rename_i e; subst e; rw [e1]; exact hv
  · exact r2.regs k

/-! ### Structs of numbers compared -/
def eqInts (P : Program) (t : TypeId) : Bool :=
  match P.underlying t with
  | some (.struct fs) => !P.stoodInHeld t && !P.eqGuardType P.depth t && (fs.toList.zipIdx.all fun (f, i) => f.name != "_" && f.offset == i && (match P.underlying f.type with | some (.int _) => true | _ => false))
  | _ => false
def intsOf (k : IntKind) : List AV → Option (List Int)
  | [] => some []
  | .int k' m :: l => if k' = k then (match intsOf k l with | some r => some (m :: r) | none => none) else none
  | _ => none
theorem intsOf_eq {k : IntKind} : ∀ {cs : List AV} {ns : List Int}, intsOf k cs = some ns → cs = ns.map (AV.int k)
  | [], ns, h => by simp [intsOf] at h; subst h; rfl
  | a :: l, ns, h => by
    cases a with
    | int k' m =>
      simp only [intsOf] at h
      split at h
      · rename_i e
        subst e
        cases hr : intsOf k' l with
        | none => rw [hr] at h; cases h
        | some r => rw [hr] at h; injection h with h; subst h; rw [List.map_cons, ← intsOf_eq hr]
      · cases h
    | _ => simp [intsOf] at h
theorem eqFields_run {k : IntKind} {w : World} (dd : Nat) (us vs : Array Value) (ns ms : List Int) (hu : us = (ns.map (Value.int k)).toArray) (hv : vs = (ms.map (Value.int k)).toArray) : ∀ (l : List Field) (i : Nat), (∀ (j : Nat) (f : Field), l[j]? = some f → f.name ≠ "_" ∧ f.offset = i + j ∧ ∃ k', P.underlying f.type = some (.int k')) → i + l.length = ns.length → i + l.length = ms.length →
    (Op.eqFields (dd + 1) us vs l).run P w = .ok (decide (ns.drop i = ms.drop i)) w := by
  intro l
  induction l with
  | nil =>
    intro i _ h1 h2
    have e1 : ns.drop i = [] := List.drop_eq_nil_of_le (by simp at h1; omega)
    have e2 : ms.drop i = [] := List.drop_eq_nil_of_le (by simp at h2; omega)
    simp [Op.eqFields, e1, e2]
  | cons f l ih =>
    intro i hf h1 h2
    obtain ⟨g1, g2, k', g3⟩ := hf 0 f rfl
    rw [Nat.add_zero] at g2
    have hi1 : i < ns.length := by simp at h1; omega
    have hi2 : i < ms.length := by simp at h2; omega
    have p1 : (part f.type us f.offset).run P w = .ok (.int k ns[i]) w := by simp [part, run_isAgg' g3, aggB, g2, hu, hi1]
    have p2 : (part f.type vs f.offset).run P w = .ok (.int k ms[i]) w := by simp [part, run_isAgg' g3, aggB, g2, hv, hi2]
    have p3 : (Op.equalIn (dd + 1) f.type (.int k ns[i]) (.int k ms[i])).run P w = .ok (ns[i] == ms[i]) w := run_equalIn_int w dd f.type k k' _ _ g3
    simp only [Op.eqFields]
    rw [if_pos g1, Sem.run_bind, p1]
    simp only [Result.andThen_ok]
    rw [Sem.run_bind, p2]
    simp only [Result.andThen_ok]
    rw [Sem.run_bind, p3]
    simp only [Result.andThen_ok]
    have hdr : (ns.drop i = ms.drop i) ↔ (ns[i] = ms[i] ∧ ns.drop (i + 1) = ms.drop (i + 1)) := by
      rw [List.drop_eq_getElem_cons hi1, List.drop_eq_getElem_cons hi2, List.cons.injEq]
    by_cases e : ns[i] = ms[i]
    · rw [if_neg (by simp [e]), ih (i + 1) (fun j f hj => by
        obtain ⟨a1, a2, a3⟩ := hf (j + 1) f (by simpa using hj)
        exact ⟨a1, by omega, a3⟩) (by simp at h1; omega) (by simp at h2; omega)]
      congr 1
      rw [decide_eq_decide, hdr]
      exact ⟨fun h => ⟨e, h⟩, fun h => h.2⟩
    · rw [if_pos (by simp [e])]
      have : ¬ ns.drop i = ms.drop i := fun h => e (hdr.1 h).1
      simp only [Sem.run_pure, decide_eq_false this]
theorem agg_ints {k : IntKind} {K : Kn} {a : Act} {w : World} {G : Gh} (r : RelG K n st a w G) {x : Operand} {cs : List AV} {ns : List Int} (hx : st.ev x = .agg cs) (hn : intsOf k cs = some ns) : a.eval x = .agg (ns.map (Value.int k)).toArray := by
  have e1 := r.ev x
  rw [hx] at e1
  obtain ⟨us, e2, hl, hr⟩ := e1.agg'
  rw [e2]
  congr 1
  have hc := intsOf_eq hn
  apply Array.ext
  · rw [hl, hc]; simp
  · intro i h1 h2
    have hlt : i < ns.length := by simpa using h2
    have := hr i (.int k ns[i]) us[i] (by rw [hc]; simp [hlt]) (Array.getElem?_eq_getElem h1)
    rw [this.int']
    simp
theorem op_eqs {k : IntKind} {neq : Bool} {cs cs' : List AV} {ns ms : List Int} {L : Nat} (hx : st.ev x = .agg cs) (hy : st.ev y = .agg cs') (hn : intsOf k cs = some ns) (hm : intsOf k cs' = some ms) (hE : eqInts P t = true) (hF : (match P.underlying t with | some (.struct fs) => fs.size | _ => 0) = L) (hl1 : ns.length = L) (hl2 : ms.length = L) (hd : dok d n = true) :
    OpR P n ⟨d, .binOp (bif neq then .neq else .eql) t x y t', ty, ps, af, g⟩ st (.bool (bif neq then !decide (ns = ms) else decide (ns = ms))) := .mk hd fun K a w G rr => by
  have e1 := agg_ints rr hx hn
  have e2 := agg_ints rr hy hm
  unfold eqInts at hE
  cases hT : P.underlying t with
  | none => rw [hT] at hE; cases hE
  | some D =>
    rw [hT] at hE hF
    cases D with
    | struct fs =>
      simp only [Bool.and_eq_true, Bool.not_eq_true'] at hE
      obtain ⟨⟨h1, h2⟩, h3⟩ := hE
      simp only at hF
      have hfo : P.fieldsOf t = fs := by simp [Program.fieldsOf, hT]
      have hTs : P.underlying t = some (.struct (P.fieldsOf t)) := by rw [hfo]; exact hT
      have hfs : ∀ (j : Nat) (f : Field), fs.toList[j]? = some f → f.name ≠ "_" ∧ f.offset = 0 + j ∧ ∃ k', P.underlying f.type = some (.int k') := by
        intro j f hj
        have := List.all_eq_true.1 h3 (f, j) (by
          rw [List.mem_iff_getElem?]
          exact ⟨j, by rw [List.getElem?_zipIdx, hj]; simp⟩)
        simp only [Bool.and_eq_true, bne_iff_ne, ne_eq, beq_iff_eq] at this
        obtain ⟨⟨a1, a2⟩, a3⟩ := this
        refine ⟨a1, by omega, ?_⟩
        split at a3
        · rename_i k' hk'; exact ⟨k', hk'⟩
        · cases a3
      have heq : ∀ w' : World, (Op.equalIn 10000 t (.agg (ns.map (Value.int k)).toArray) (.agg (ms.map (Value.int k)).toArray)).run P w' = .ok (decide (ns = ms)) w' := by
        intro w'
        rw [show (10000 : Nat) = 9999 + 1 from rfl, run_equalIn_struct w' 9999 t _ _ hTs h1, hfo]
        have := eqFields_run (P := P) (k := k) (w := w') 9998 (ns.map (Value.int k)).toArray (ms.map (Value.int k)).toArray ns ms rfl rfl fs.toList 0 hfs (by simp; omega) (by simp; omega)
        simpa using this
      cases neq with
      | false => exact ⟨_, fun w' _ => by
          simp only [execOp, e1, e2, Sem.run_bind, run_eqGuard_agg w' .eql t x y _ _ h2, Result.andThen_ok, cond_false, run_eql_struct, heq, Sem.run_pure], rB _ _ _⟩
      | true => exact ⟨_, fun w' _ => by
          simp only [execOp, e1, e2, Sem.run_bind, run_eqGuard_agg w' .neq t x y _ _ h2, Result.andThen_ok, cond_true, run_neq_struct, heq, Sem.run_pure], rB _ _ _⟩
    | _ => cases hE
end
end Go.Proofs.Ytnbmldnahacnlaa
