/- Symbolic walks: the operations that make or write memory, carried out by one function; the laws of the tactic. No program in sight. -/
import Derived.Test.YtnbmldnahacnlaaSxG
namespace Go.Proofs.Ytnbmldnahacnlaa
open Go Go.RowKit

abbrev SO := Option (ASt × Prop)
def withCells (v : AV) (k : List AV → SO) : SO := match v with
  | .agg cs => k cs
  | v => k [v]
theorem withCells_eq {v : AV} {k : List AV → SO} : withCells v k = k v.cells := by cases v <;> rfl
def storeM (T : Tab) (st : ASt) (t : TypeId) (a v : AV) : SO := match a, lk T.inf t with
  | .box id o, some (_, s, _) => match look .dead st.heap id with
    | .box cs e => withCells v fun vs => bif allOne vs && Nat.beq vs.length s && Nat.ble (o + s) cs.length then some (st.hset id (.box (setR cs o vs) e), True) else none
    | _ => none
  | _, _ => none
def makeM (T : Tab) (st : ASt) (d : Option Nat) (t : TypeId) (l c : AV) : SO := match lk T.und t, l, c with
  | some (.slice e), .int _ L, .int _ C => match lk T.inf e with
    | some (some z, sz, b) => bif allOne (z.cells.toList.map avOf) && Nat.beq (z.cells.toList.map avOf).length sz && Nat.blt 0 sz then
        some ((st.hnew (.row sz (List.replicate L.toNat (z.cells.toList.map avOf)) e)).put d (.osl st.nx L.toNat), C = L ∧ 0 ≤ L ∧ (b : Int) * L ≤ 281474976710656 ∧ L ≤ 9223372036854775807) else none
    | _ => none
  | _, _, _ => none
def litM (T : Tab) (st : ASt) (d : Option Nat) (t : TypeId) (L : Nat) (parts : Array (Nat × Operand)) : SO := match lk T.und t with
  | some (.slice e) => match lk T.inf e with
    | some (some z, sz, _) => bif allOne (z.cells.toList.map avOf) && Nat.beq (z.cells.toList.map avOf).length sz && Nat.blt 0 sz && Nat.ble (L * sz) 16777216 then
        (match fillA (fun i => some (i * sz, sz)) (zerosA (z.cells.toList.map avOf) L) (evParts st parts.toList) with
        | some out => bif Nat.beq out.length (L * sz) then some ((st.hnew (.row sz (chunk sz L out) e)).put d (.osl st.nx L), True) else none
        | none => none) else none
    | _ => none
  | _ => none
def stepM (T : Tab) (st : ASt) (d : Option Nat) : Op → SO
  | .alloc e => match lk T.inf e with
    | some (some z, _, _) => bif allOne (z.cells.toList.map avOf) then some ((st.hnew (.box (z.cells.toList.map avOf) e)).put d (.box st.nx 0), True) else none
    | _ => none
  | .box e x => withCells (st.ev x) fun c => bif allOne c then some ((st.hnew (.box c e)).put d (.box st.nx 0), True) else none
  | .store t a v => match d with
    | none => storeM T st t (st.ev a) (st.ev v)
    | some _ => none
  | .makeSlice t l c => makeM T st d t (st.ev l) (st.ev c)
  | .buildSlice t L parts => litM T st d t L parts
  | _ => none
section
variable {P : Program} {n : Nat} {T : Tab} {st st' : ASt} {o : Oper} {x : AV} {p : Prop} {Q : Exit → ASt → Prop} {ops : Array Oper} {l : List Oper}
theorem stepM_ok (hT : T.ok P) (h : stepM T st o.dst o.op = some (st', p)) (hp : p) (hd : dok o.dst n = true) : OpV P n o st st' := by
  obtain ⟨d, op, ty, ps, af, g⟩ := o
  simp only at h
  have hd : dok d n = true := hd
  cases op <;> simp only [stepM] at h <;> try (cases h; done)
  case alloc e =>
    split at h
    · rename_i z s b h1
      cases h2 : allOne (z.cells.toList.map avOf) with
      | false => rw [h2] at h; cases h
      | true =>
        rw [h2] at h
        simp only [cond_true, Option.some.injEq, Prod.mk.injEq] at h
        obtain ⟨rfl, _⟩ := h
        exact op_alloc (allP_at hT.inf h1) rfl h2 hd
    · cases h
  case box e y =>
    rw [withCells_eq] at h
    cases h2 : allOne (st.ev y).cells with
    | false => rw [h2] at h; cases h
    | true =>
      rw [h2] at h
      simp only [cond_true, Option.some.injEq, Prod.mk.injEq] at h
      obtain ⟨rfl, _⟩ := h
      exact op_box rfl h2 hd
  case store t a v =>
    split at h
    · unfold storeM at h
      split at h
      · rename_i id oo q s b h1 h2
        split at h
        · rename_i cs e h3
          rw [withCells_eq] at h
          cases h4 : (allOne (st.ev v).cells && Nat.beq (st.ev v).cells.length s && Nat.ble (oo + s) cs.length) with
          | false => rw [h4] at h; cases h
          | true =>
            rw [h4] at h
            simp only [Bool.and_eq_true] at h4
            simp only [cond_true, Option.some.injEq, Prod.mk.injEq] at h
            obtain ⟨rfl, _⟩ := h
            exact op_store_box h1 h3 rfl h4.1.1 (allP_at hT.inf h2) (Nat.eq_of_beq_eq_true h4.1.2) (Nat.le_of_ble_eq_true h4.2)
        · cases h
      · cases h
    · cases h
  case makeSlice t ll c =>
    unfold makeM at h
    split at h
    · rename_i e kl L kc C h1 h2 h3
      split at h
      · rename_i z sz b h4
        cases h5 : (allOne (z.cells.toList.map avOf) && Nat.beq (z.cells.toList.map avOf).length sz && Nat.blt 0 sz) with
        | false => rw [h5] at h; cases h
        | true =>
          rw [h5] at h
          simp only [Bool.and_eq_true] at h5
          simp only [cond_true, Option.some.injEq, Prod.mk.injEq] at h
          obtain ⟨rfl, rfl⟩ := h
          obtain ⟨rfl, p2, p3, p4⟩ := hp
          exact op_make (allP_at hT.und h1) (allP_at hT.inf h4) rfl (Nat.eq_of_beq_eq_true h5.1.2) (by simpa using h5.2) h5.1.1 h2 h3 p2 p3 p4 hd
      · cases h
    · cases h
  case buildSlice t L parts =>
    unfold litM at h
    split at h
    · rename_i e h1
      split at h
      · rename_i z sz b h4
        cases h5 : (allOne (z.cells.toList.map avOf) && Nat.beq (z.cells.toList.map avOf).length sz && Nat.blt 0 sz && Nat.ble (L * sz) 16777216) with
        | false => rw [h5] at h; cases h
        | true =>
          rw [h5] at h
          simp only [Bool.and_eq_true] at h5
          simp only [cond_true] at h
          split at h
          · rename_i out h6
            cases h7 : Nat.beq out.length (L * sz) with
            | false => rw [h7] at h; cases h
            | true =>
              rw [h7] at h
              simp only [cond_true, Option.some.injEq, Prod.mk.injEq] at h
              obtain ⟨rfl, _⟩ := h
              exact op_buildSlice (allP_at hT.und h1) (allP_at hT.inf h4) rfl h5.1.1.1 (Nat.eq_of_beq_eq_true h5.1.1.2) (by simpa using h5.1.2) h5.2 h6 (Nat.eq_of_beq_eq_true h7) rfl hd
          · cases h
      · cases h
    · cases h

/-! ### The laws of the tactic -/
theorem AL.sr {d : Option Nat} {op : Op} {ty : TypeId} {ps : String} {af : Array Edge} (hT : T.ok P) (h : stepR T st op = some (x, p)) (hd : dok d n = true) (hp : p) (k : AL P n ops Q l (st.put d x)) : AL P n ops Q (⟨d, op, ty, ps, af, none⟩ :: l) st := AL.opr rfl (stepR_ok (o := ⟨d, op, ty, ps, af, none⟩) hT h hp hd) k
theorem AL.sm {d : Option Nat} {op : Op} {ty : TypeId} {ps : String} {af : Array Edge} (hT : T.ok P) (h : stepM T st d op = some (st', p)) (hd : dok d n = true) (hp : p) (k : AL P n ops Q l st') : AL P n ops Q (⟨d, op, ty, ps, af, none⟩ :: l) st := AL.op rfl (stepM_ok (o := ⟨d, op, ty, ps, af, none⟩) hT h hp hd) k
/-- what a guard says: none, yes, no -/
def gst (ops : Array Oper) (o : Oper) (st : ASt) : Option Bool := match gdst ops o with
  | none => none
  | some (d, want) => match look .any st.regs d, want with
    | .bool true, true => some true
    | .bool false, false => some true
    | .bool true, false => some false
    | .bool false, true => some false
    | .und, _ => some false
    | _, _ => none
theorem gst_yes (h : gst ops o st = some true) : ∃ d want, gdst ops o = some (d, want) ∧ look .any st.regs d = .bool want := by
  unfold gst at h
  split at h
  · cases h
  · rename_i d want h1
    split at h <;> first | (cases h; done) | (rename_i h2; exact ⟨d, _, h1, h2⟩)
theorem gst_no (h : gst ops o st = some false) : ∃ d want, gdst ops o = some (d, want) ∧ (look .any st.regs d = .bool (!want) ∨ look .any st.regs d = .und) := by
  unfold gst at h
  split at h
  · cases h
  · rename_i d want h1
    split at h <;> first | (cases h; done) | (rename_i h2; exact ⟨d, _, h1, .inl h2⟩) | (rename_i h2; exact ⟨d, _, h1, .inr h2⟩)
variable {d : Option Nat} {op : Op} {ty : TypeId} {ps : String} {af : Array Edge} {gd : Nat × Bool}
theorem AL.srg (hT : T.ok P) (hg : gst ops ⟨d, op, ty, ps, af, some gd⟩ st = some true) (h : stepR T st op = some (x, p)) (hd : dok d n = true) (hp : p) (k : AL P n ops Q l (st.put d x)) : AL P n ops Q (⟨d, op, ty, ps, af, some gd⟩ :: l) st := by
  obtain ⟨_, want, h1, h2⟩ := gst_yes hg
  exact AL.oprg h1 h2 (stepR_ok (o := ⟨d, op, ty, ps, af, some gd⟩) hT h hp hd) k
theorem AL.smg (hT : T.ok P) (hg : gst ops ⟨d, op, ty, ps, af, some gd⟩ st = some true) (h : stepM T st d op = some (st', p)) (hd : dok d n = true) (hp : p) (k : AL P n ops Q l st') : AL P n ops Q (⟨d, op, ty, ps, af, some gd⟩ :: l) st := by
  obtain ⟨_, want, h1, h2⟩ := gst_yes hg
  exact AL.opg h1 h2 (stepM_ok (o := ⟨d, op, ty, ps, af, some gd⟩) hT h hp hd) k
theorem AL.sk (hg : gst ops ⟨d, op, ty, ps, af, some gd⟩ st = some false) (hd : dok d n = true) (k : AL P n ops Q l (st.put d .und)) : AL P n ops Q (⟨d, op, ty, ps, af, some gd⟩ :: l) st := by
  obtain ⟨_, want, h1, h2⟩ := gst_no hg
  exact AL.skipg h1 hd h2 k
theorem AL.spP {pp : Prop} {inst : Decidable pp} {dj : Nat} {want : Bool} (hg : gdst ops ⟨d, op, ty, ps, af, some gd⟩ = some (dj, want)) (hb : look .any st.regs dj = .bool (decide pp)) (h1 : pp → AL P n ops Q (⟨d, op, ty, ps, af, some gd⟩ :: l) (st.set dj (.bool true))) (h2 : ¬ pp → AL P n ops Q (⟨d, op, ty, ps, af, some gd⟩ :: l) (st.set dj (.bool false))) : AL P n ops Q (⟨d, op, ty, ps, af, some gd⟩ :: l) st := AL.splitP hg hb h1 h2
theorem AL.spB {b : Bool} {dj : Nat} {want : Bool} (hg : gdst ops ⟨d, op, ty, ps, af, some gd⟩ = some (dj, want)) (hb : look .any st.regs dj = .bool b) (h1 : b = true → AL P n ops Q (⟨d, op, ty, ps, af, some gd⟩ :: l) (st.set dj (.bool true))) (h2 : b = false → AL P n ops Q (⟨d, op, ty, ps, af, some gd⟩ :: l) (st.set dj (.bool false))) : AL P n ops Q (⟨d, op, ty, ps, af, some gd⟩ :: l) st := AL.splitB hg hb h1 h2
theorem AD.sr {Kt : ASt → Prop} (hT : T.ok P) (h : stepR T st op = some (x, p)) (hd : dok d n = true) (hp : p) (k : AD P n ops Kt l (st.put d x)) : AD P n ops Kt (⟨d, op, ty, ps, af, none⟩ :: l) st := .op rfl (stepR_ok (o := ⟨d, op, ty, ps, af, none⟩) hT h hp hd) k
theorem AD.srg {Kt : ASt → Prop} (hT : T.ok P) (hg : gst ops ⟨d, op, ty, ps, af, some gd⟩ st = some true) (h : stepR T st op = some (x, p)) (hd : dok d n = true) (hp : p) (k : AD P n ops Kt l (st.put d x)) : AD P n ops Kt (⟨d, op, ty, ps, af, some gd⟩ :: l) st := by
  obtain ⟨_, want, h1, h2⟩ := gst_yes hg
  exact .opg h1 h2 (stepR_ok (o := ⟨d, op, ty, ps, af, some gd⟩) hT h hp hd) k
theorem AD.sk {Kt : ASt → Prop} (hg : gst ops ⟨d, op, ty, ps, af, some gd⟩ st = some false) (hd : dok d n = true) (k : AD P n ops Kt l (st.put d .und)) : AD P n ops Kt (⟨d, op, ty, ps, af, some gd⟩ :: l) st := by
  obtain ⟨_, want, h1, h2⟩ := gst_no hg
  exact .skip h1 hd h2 k
theorem AD.spP {Kt : ASt → Prop} {pp : Prop} {inst : Decidable pp} {dj : Nat} {want : Bool} (hg : gdst ops ⟨d, op, ty, ps, af, some gd⟩ = some (dj, want)) (hb : look .any st.regs dj = .bool (decide pp)) (h1 : pp → AD P n ops Kt (⟨d, op, ty, ps, af, some gd⟩ :: l) (st.set dj (.bool true))) (h2 : ¬ pp → AD P n ops Kt (⟨d, op, ty, ps, af, some gd⟩ :: l) (st.set dj (.bool false))) : AD P n ops Kt (⟨d, op, ty, ps, af, some gd⟩ :: l) st := AD.splitP hg hb h1 h2
theorem AD.spB {Kt : ASt → Prop} {b : Bool} {dj : Nat} {want : Bool} (hg : gdst ops ⟨d, op, ty, ps, af, some gd⟩ = some (dj, want)) (hb : look .any st.regs dj = .bool b) (h1 : b = true → AD P n ops Kt (⟨d, op, ty, ps, af, some gd⟩ :: l) (st.set dj (.bool true))) (h2 : b = false → AD P n ops Kt (⟨d, op, ty, ps, af, some gd⟩ :: l) (st.set dj (.bool false))) : AD P n ops Kt (⟨d, op, ty, ps, af, some gd⟩ :: l) st := AD.splitB hg hb h1 h2
theorem AD.cf {Kt : ASt → Prop} {cal : Operand} {args : Array Operand} {ats : Array TypeId} {F : FuncId} {xs xs' : List AV} {y : AV} (hc : st.ev cal = .fn F []) (hxs : EvL st args.toList xs) (hF : callable P F = true) (hd : dok d n = true) (hfz : FrzL st.heap xs xs') (hAF : AF P F xs' y) (he : exactA y = true) (k : AD P n ops Kt l (st.put d y)) :
    AD P n ops Kt (⟨d, .call { callee := .value cal, args := args, argTypes := ats }, ty, ps, af, none⟩ :: l) st := .call rfl (CallX.of hc hxs hF hd hAF hfz he) k
theorem AD.cfg {Kt : ASt → Prop} {cal : Operand} {args : Array Operand} {ats : Array TypeId} {F : FuncId} {xs xs' : List AV} {y : AV} (hg : gst ops ⟨d, .call { callee := .value cal, args := args, argTypes := ats }, ty, ps, af, some gd⟩ st = some true) (hc : st.ev cal = .fn F []) (hxs : EvL st args.toList xs) (hF : callable P F = true) (hd : dok d n = true) (hfz : FrzL st.heap xs xs') (hAF : AF P F xs' y) (he : exactA y = true) (k : AD P n ops Kt l (st.put d y)) :
    AD P n ops Kt (⟨d, .call { callee := .value cal, args := args, argTypes := ats }, ty, ps, af, some gd⟩ :: l) st := by
  obtain ⟨_, want, h1, h2⟩ := gst_yes hg
  exact .callg h1 h2 (CallX.of hc hxs hF hd hAF hfz he) k
theorem AL.cfg {cal : Operand} {args : Array Operand} {ats : Array TypeId} {F : FuncId} {xs xs' : List AV} {y : AV} (hg : gst ops ⟨d, .call { callee := .value cal, args := args, argTypes := ats }, ty, ps, af, some gd⟩ st = some true) (hc : st.ev cal = .fn F []) (hxs : EvL st args.toList xs) (hF : callable P F = true) (hd : dok d n = true) (hfz : FrzL st.heap xs xs') (hAF : AF P F xs' y) (k : AL P n ops Q l (st.put d y)) :
    AL P n ops Q (⟨d, .call { callee := .value cal, args := args, argTypes := ats }, ty, ps, af, some gd⟩ :: l) st := by
  obtain ⟨_, want, h1, h2⟩ := gst_yes hg
  exact AL.callFg h1 h2 hc hxs hF hd hfz hAF k
end
end Go.Proofs.Ytnbmldnahacnlaa
