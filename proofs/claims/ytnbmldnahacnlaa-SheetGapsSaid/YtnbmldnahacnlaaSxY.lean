/- A run of the abstract machine by one computed function: lengths, elements, append; regions, loops, calls. No program in sight. -/
import Derived.Test.YtnbmldnahacnlaaSxX
namespace Go.Proofs.Ytnbmldnahacnlaa
open Go Go.RowKit

def lenR (T : Tab) (st : ASt) (t : TypeId) (x : Operand) : Option AV := match lk T.und t with
  | some (.slice _) => match (st.ev x).lenA with
    | some m => some (.int .i64 m)
    | none => none
  | some .string => match st.ev x with
    | .str s => some (.int .i64 s.size)
    | _ => none
  | _ => none
def idxR (T : Tab) (st : ASt) (t : TypeId) (x y : Operand) : Option AV := match st.ev y, lk T.und t with
  | .int _ i, some (.slice e) => match lk T.inf e with
    | some (_, sz, _) => match st.ev x with
      | .ro _ sz' rows => bif decide (0 ≤ i) && Nat.beq sz sz' then (match rows[i.toNat]? with
        | some (a :: l) => some (.peek (a :: l) 0)
        | _ => none) else none
      | .osl id m => match look .dead st.heap id with
        | .row sz' rows _ => bif decide (0 ≤ i) && (decide (i < (m : Int)) && (Nat.beq sz sz' && Nat.beq m rows.length)) then some (.elt id m i.toNat 0) else none
        | _ => none
      | _ => none
    | none => none
  | _, _ => none
def ldE (T : Tab) (st : ASt) (t : TypeId) (x : Operand) : Option AV := match st.ev x with
  | .elt id m i o => match look .dead st.heap id, lk T.und t, lk T.inf t with
    | .row _ rows _, some D, some (_, s, _) => bif Nat.beq m rows.length then (match rows[i]? with
      | some row => partA row o s (aggB D)
      | none => none) else none
    | _, _, _ => none
  | _ => none
def stepXR (T : Tab) (st : ASt) : Op → Option AV
  | .call ⟨.builtin .len, ⟨[x]⟩, ⟨[t]⟩⟩ => lenR T st t x
  | .indexAddr t x y => idxR T st t x y
  | .load t x => ldE T st t x
  | _ => none
def stE (T : Tab) (st : ASt) (t : TypeId) (a v : Operand) : Option ASt := match st.ev a with
  | .elt id m i o => match look .dead st.heap id, lk T.inf t with
    | .row sz rows e, some (_, s, _) => match rows[i]? with
      | some row => bif Nat.beq m rows.length && (allOne (st.ev v).cells && (Nat.beq (st.ev v).cells.length s && Nat.ble (o + s) sz)) then
          some (st.hset id (.row sz (rows.set i (setR row o (st.ev v).cells)) e)) else none
      | none => none
    | _, _ => none
  | _ => none
def rowsB (sz : Nat) : List (List AV) → Bool
  | [] => true
  | row :: l => (Nat.beq row.length sz && allOne row) && rowsB sz l
def srcRows (st : ASt) (sz : Nat) : AV → Option (List (List AV))
  | .ro _ sz' rows => bif Nat.beq sz' sz && rowsB sz rows then some rows else none
  | .osl id n => match look .dead st.heap id with
    | .row sz' rows _ => bif Nat.beq sz' sz && Nat.beq n rows.length then some rows else none
    | _ => none
  | .nils => some []
  | _ => none
def appM (T : Tab) (st : ASt) (d : Option Nat) (t : TypeId) (x y : Operand) : Option ASt := match lk T.und t with
  | some (.slice e) => match lk T.inf e with
    | some (some z, sz, b) => bif Nat.beq z.cells.size sz && Nat.blt 0 sz then (match srcRows st sz (st.ev y) with
      | some new => match st.ev x with
        | .osl id m => match look .dead st.heap id with
          | .row sz' rows e' => bif (Nat.beq e' e && Nat.beq sz' sz) && (Nat.beq m rows.length && Nat.ble ((rows.length + new.length) * (b + 1)) 140737488355328) then
              some ((st.hset id (.row sz (rows ++ new) e)).put d (.osl id (rows.length + new.length))) else none
          | _ => none
        | .nils => bif Nat.ble (new.length * (b + 1)) 140737488355328 then some ((st.hnew (.row sz new e)).put d (.osl st.nx new.length)) else none
        | _ => none
      | none => none) else none
    | _ => none
  | _ => none
def stepXM (T : Tab) (st : ASt) (d : Option Nat) : Op → Option ASt
  | .store t a v => match d with
    | none => stE T st t a v
    | some _ => none
  | .call ⟨.builtin .append, ⟨[x, y]⟩, ⟨[t, t']⟩⟩ => bif Nat.beq t' t then appM T st d t x y else none
  | _ => none
section
variable {P : Program} {n : Nat} {T : Tab} {st st' : ASt} {o : Oper} {x : AV} {Q : Exit → ASt → Prop} {ops : Array Oper} {l : List Oper}
theorem stepXR_ok (hT : T.ok P) (h : stepXR T st o.op = some x) (hd : dok o.dst n = true) : OpR P n o st x := by
  obtain ⟨d, op, ty, ps, af, g⟩ := o
  simp only at h
  have hd : dok d n = true := hd
  unfold stepXR at h
  split at h
  · rename_i y t
    unfold lenR at h
    split at h
    · rename_i e h1
      split at h
      · rename_i m h2
        injection h with h
        subst h
        exact op_len h2 (allP_at hT.und h1) hd
      · cases h
    · rename_i h1
      split at h
      · rename_i s h2
        injection h with h
        subst h
        exact op_len_str h2 (allP_at hT.und h1) hd
      · cases h
    · cases h
  · rename_i t y z
    unfold idxR at h
    split at h
    · rename_i kk i e h1 h2
      split at h
      · rename_i q sz b h3
        split at h
        · rename_i fr sz' rows h4
          cases hc : (decide (0 ≤ i) && Nat.beq sz sz') with
          | false => rw [hc] at h; cases h
          | true =>
            rw [hc] at h
            rw [Bool.and_eq_true] at hc
            have hs := Nat.eq_of_beq_eq_true hc.2
            subst hs
            simp only [cond_true] at h
            split at h
            · rename_i a l h5
              injection h with h
              subst h
              exact op_index_ro h4 h1 (allP_at hT.und h2) (allP_at hT.inf h3) (of_decide_eq_true hc.1) h5 (by simp) hd
            · cases h
        · rename_i id m h4
          split at h
          · rename_i sz' rows e' h5
            cases hc : (decide (0 ≤ i) && (decide (i < (m : Int)) && (Nat.beq sz sz' && Nat.beq m rows.length))) with
            | false => rw [hc] at h; cases h
            | true =>
              rw [hc] at h
              simp only [Bool.and_eq_true, decide_eq_true_eq] at hc
              simp only [cond_true] at h
              injection h with h
              subst h
              exact op_index_osl h4 h5 (Nat.eq_of_beq_eq_true hc.2.2.2) h1 (allP_at hT.und h2) (allP_at hT.inf h3) (Nat.eq_of_beq_eq_true hc.2.2.1) hc.1 hc.2.1 hd
          · cases h
        · cases h
      · cases h
    · cases h
  · rename_i t y
    unfold ldE at h
    split at h
    · rename_i id m i o h1
      split at h
      · rename_i sz rows e D q s b h2 h3 h4
        cases hc : Nat.beq m rows.length with
        | false => rw [hc] at h; cases h
        | true =>
          rw [hc] at h
          simp only [cond_true] at h
          split at h
          · rename_i row h5
            exact op_load_elt h1 h2 (Nat.eq_of_beq_eq_true hc) h5 (allP_at hT.und h3) (allP_at hT.inf h4) h hd
          · cases h
      · cases h
    · cases h
  · cases h
theorem rowsB_ok {sz : Nat} {rows : List (List AV)} (h : rowsB sz rows = true) : ∀ row ∈ rows, row.length = sz ∧ allOne row = true := by
  induction rows with
  | nil => intro row hr; cases hr
  | cons a l ih =>
    rw [rowsB, Bool.and_eq_true, Bool.and_eq_true] at h
    intro row hr
    rcases List.mem_cons.1 hr with rfl | hr
    · exact ⟨Nat.eq_of_beq_eq_true h.1.1, h.1.2⟩
    · exact ih h.2 row hr
theorem srcRows_ok {sz : Nat} {a : AV} {rows : List (List AV)} (h : srcRows st sz a = some rows) : SrcA st.heap sz a rows := by
  unfold srcRows at h
  split at h
  · rename_i fr sz' rows'
    cases hc : (Nat.beq sz' sz && rowsB sz rows') with
    | false => rw [hc] at h; cases h
    | true =>
      rw [hc] at h
      rw [Bool.and_eq_true] at hc
      injection h with h
      subst h
      have := Nat.eq_of_beq_eq_true hc.1
      subst this
      exact .ro _ _ (rowsB_ok hc.2)
  · rename_i id n
    split at h
    · rename_i sz' rows' e h1
      cases hc : (Nat.beq sz' sz && Nat.beq n rows'.length) with
      | false => rw [hc] at h; cases h
      | true =>
        rw [hc] at h
        rw [Bool.and_eq_true] at hc
        injection h with h
        subst h
        have := Nat.eq_of_beq_eq_true hc.1
        subst this
        exact .osl _ _ _ _ h1 (Nat.eq_of_beq_eq_true hc.2)
    · cases h
  · injection h with h
    subst h
    exact .nils
  · cases h
theorem stepXM_ok (hT : T.ok P) (h : stepXM T st o.dst o.op = some st') (hd : dok o.dst n = true) : OpV P n o st st' := by
  obtain ⟨d, op, ty, ps, af, g⟩ := o
  simp only at h
  have hd : dok d n = true := hd
  unfold stepXM at h
  split at h
  · rename_i t a v
    split at h
    · unfold stE at h
      split at h
      · rename_i id m i o h1
        split at h
        · rename_i sz rows e q s b h2 h3
          split at h
          · rename_i row h4
            cases hc : (Nat.beq m rows.length && (allOne (st.ev v).cells && (Nat.beq (st.ev v).cells.length s && Nat.ble (o + s) sz))) with
            | false => rw [hc] at h; cases h
            | true =>
              rw [hc] at h
              simp only [Bool.and_eq_true] at hc
              simp only [cond_true] at h
              injection h with h
              subst h
              exact op_store_elt h1 h2 (Nat.eq_of_beq_eq_true hc.1) h4 rfl hc.2.1 (allP_at hT.inf h3) (Nat.eq_of_beq_eq_true hc.2.2.1) (Nat.le_of_ble_eq_true hc.2.2.2)
          · cases h
        · cases h
      · cases h
    · cases h
  · rename_i y z t t'
    cases ht : Nat.beq t' t with
    | false => rw [ht] at h; cases h
    | true =>
      rw [ht] at h
      have ht := Nat.eq_of_beq_eq_true ht
      subst ht
      simp only [cond_true] at h
      unfold appM at h
      split at h
      · rename_i e h1
        split at h
        · rename_i zz sz b h2
          cases hc : (Nat.beq zz.cells.size sz && Nat.blt 0 sz) with
          | false => rw [hc] at h; cases h
          | true =>
            rw [hc] at h
            rw [Bool.and_eq_true] at hc
            simp only [cond_true] at h
            have c1 := Nat.eq_of_beq_eq_true hc.1
            have c2 : 0 < sz := by simpa using hc.2
            split at h
            · rename_i new h3
              split at h
              · rename_i id m h4
                split at h
                · rename_i sz' rows e' h5
                  cases hk : ((Nat.beq e' e && Nat.beq sz' sz) && (Nat.beq m rows.length && Nat.ble ((rows.length + new.length) * (b + 1)) 140737488355328)) with
                  | false => rw [hk] at h; cases h
                  | true =>
                    rw [hk] at h
                    simp only [Bool.and_eq_true] at hk
                    simp only [cond_true] at h
                    injection h with h
                    subst h
                    have k1 := Nat.eq_of_beq_eq_true hk.1.2
                    subst k1
                    exact op_append h4 h5 (Nat.eq_of_beq_eq_true hk.1.1) (Nat.eq_of_beq_eq_true hk.2.1) rfl (srcRows_ok h3) (allP_at hT.und h1) (allP_at hT.inf h2) c1 (Nat.le_of_ble_eq_true hk.2.2) hd
                · cases h
              · rename_i h4
                cases hk : Nat.ble (new.length * (b + 1)) 140737488355328 with
                | false => rw [hk] at h; cases h
                | true =>
                  rw [hk] at h
                  simp only [cond_true] at h
                  injection h with h
                  subst h
                  exact op_append_nil h4 rfl (srcRows_ok h3) (allP_at hT.und h1) (allP_at hT.inf h2) c2 c1 (Nat.le_of_ble_eq_true hk) hd
              · cases h
            · cases h
        · cases h
      · cases h
  · cases h
def obM (T : Tab) (st : ASt) : Op → Bool
  | .makeSlice t l c => match lk T.und t, st.ev l, st.ev c with
    | some (.slice e), .int _ L, .int _ C => match lk T.inf e with
      | some (_, _, b) => decide (C = L ∧ 0 ≤ L ∧ (b : Int) * L ≤ 281474976710656 ∧ L ≤ 9223372036854775807)
      | _ => true
    | _, _, _ => true
  | _ => true
theorem obM_ok {d : Option Nat} {op : Op} {p : Prop} (h : stepM T st d op = some (st', p)) (hb : obM T st op = true) : p := by
  cases op <;> simp only [stepM] at h <;> try (cases h; done)
  case alloc e =>
    split at h
    · rename_i z s b h1
      cases h2 : allOne (z.cells.toList.map avOf) with
      | false => rw [h2] at h; cases h
      | true =>
        rw [h2] at h
        simp only [cond_true, Option.some.injEq, Prod.mk.injEq] at h
        obtain ⟨_, rfl⟩ := h; trivial
    · cases h
  case box e y =>
    rw [withCells_eq] at h
    cases h2 : allOne (st.ev y).cells with
    | false => rw [h2] at h; cases h
    | true =>
      rw [h2] at h
      simp only [cond_true, Option.some.injEq, Prod.mk.injEq] at h
      obtain ⟨_, rfl⟩ := h; trivial
  case store t a v =>
    split at h
    · unfold storeM at h
      split at h
      · rename_i id oo q s b h1 h2
        split at h
        · rename_i cs e h3
          rw [withCells_eq] at h
          cases h4 : (allOne (st.ev v).cells && Nat.beq (st.ev v).cells.length s && Nat.ble (oo + s) cs.length) with
          | false => rw [h4] at h; cases h
          | true =>
            rw [h4] at h
            simp only [cond_true, Option.some.injEq, Prod.mk.injEq] at h
            obtain ⟨_, rfl⟩ := h; trivial
        · cases h
      · cases h
    · cases h
  case makeSlice t ll c =>
    unfold makeM at h
    split at h
    · rename_i e kl L kc C h1 h2 h3
      split at h
      · rename_i z sz b h4
        cases h5 : (allOne (z.cells.toList.map avOf) && Nat.beq (z.cells.toList.map avOf).length sz && Nat.blt 0 sz) with
        | false => rw [h5] at h; cases h
        | true =>
          rw [h5] at h
          simp only [cond_true, Option.some.injEq, Prod.mk.injEq] at h
          obtain ⟨_, rfl⟩ := h
          simp only [obM, h1, h2, h3, h4] at hb
          exact of_decide_eq_true hb
      · cases h
    · cases h
  case buildSlice t L parts =>
    unfold litM at h
    split at h
    · rename_i e h1
      split at h
      · rename_i z sz b h4
        cases h5 : (allOne (z.cells.toList.map avOf) && Nat.beq (z.cells.toList.map avOf).length sz && Nat.blt 0 sz && Nat.ble (L * sz) 16777216) with
        | false => rw [h5] at h; cases h
        | true =>
          rw [h5] at h
          simp only [cond_true] at h
          split at h
          · rename_i out h6
            cases h7 : Nat.beq out.length (L * sz) with
            | false => rw [h7] at h; cases h
            | true =>
              rw [h7] at h
              simp only [cond_true, Option.some.injEq, Prod.mk.injEq] at h
              obtain ⟨_, rfl⟩ := h; trivial
          · cases h
      · cases h
    · cases h

/-! ### Calls -/
structure Ctx where
  T : Tab
  fns : List (Nat × Func)
  cas : List (Nat × Nat)
structure Ctx.ok (P : Program) (C : Ctx) : Prop where
  T : C.T.ok P
  fns : allP (fun k f => P.funcs[k]? = some f) C.fns
  cas : allP (fun k _ => callable P k = true) C.cas
  mixed : P.follows .mixedOrders = true
abbrev SelfT := Nat → List AV → List (Nat × AB) → Nat → Option (AV × List (Nat × AB) × Nat)
def SelfOk (P : Program) (self : SelfT) : Prop := ∀ F xs hp nx x hp' nx', self F xs hp nx = some (x, hp', nx') → AC P F xs hp nx (fun x1 hp1 nx1 => x1 = x ∧ hp1 = hp' ∧ nx1 = nx')
def evL (st : ASt) : List Operand → List AV → List AV
  | [], c => c
  | o :: l, c => st.ev o :: evL st l c
theorem evL_eq (l : List Operand) (c : List AV) : evL st l c = l.map st.ev ++ c := by
  induction l with
  | nil => rfl
  | cons o l ih => rw [evL, ih]; rfl
def callC (C : Ctx) (self : SelfT) (st : ASt) (d : Option Nat) : Op → Option ASt
  | .call ⟨.value cal, args, _⟩ => match st.ev cal with
    | .fn F caps => match lk C.cas F with
      | some _ => match self F (evL st args.toList caps) st.heap st.nx with
        | some (x, hp, nx) => some (callSt st d x hp nx)
        | none => none
      | none => none
    | _ => none
  | _ => none
theorem AC.mono {F : FuncId} {xs : List AV} {hp : List (Nat × AB)} {nx : Nat} {post post' : AV → List (Nat × AB) → Nat → Prop} (h : AC P F xs hp nx post) (hm : ∀ x hp nx, post x hp nx → post' x hp nx) : AC P F xs hp nx post' := fun w0 w G vs hHR hnx ha =>
  (h w0 w G vs hHR hnx ha).mono fun _ _ ⟨v, x, hp', nx', G', e1, e2, e3⟩ => ⟨v, x, hp', nx', G', e1, hm _ _ _ e2, e3⟩
theorem AL.opw (hw : ∀ (K : Kn) (a : Act) (w : World) (G : Gh), RelG K n st a w G → Region.wanted o (yielded ops a.tmps) = true) (h : OpV P n o st st') (k : AL P n ops Q l st') : AL P n ops Q (o :: l) st := .mk fun K a w ⟨G, rg⟩ =>
  wpList_step fun K' hK' => by
    rw [if_pos (hw K a w G rg)]
    obtain ⟨v, w', hr, h2⟩ := h K a w ⟨G, rg⟩
    exact oper_of_run hr (hK' _ _ (k K _ _ h2))
def cStep (C : Ctx) (self : SelfT) (n : Nat) (st : ASt) (o : Oper) : Option ASt := bif dok o.dst n then (match stepR C.T st o.op with
    | some (x, _) => bif obR C.T st o.op then some (st.put o.dst x) else none
    | none => match stepXR C.T st o.op with
      | some x => some (st.put o.dst x)
      | none => match stepM C.T st o.dst o.op with
        | some (st', _) => bif obM C.T st o.op then some st' else none
        | none => match stepXM C.T st o.dst o.op with
          | some st' => some st'
          | none => callC C self st o.dst o.op) else none
theorem cStep_ok {C : Ctx} {self : SelfT} (hC : C.ok P) (hS : SelfOk P self) (h : cStep C self n st o = some st') (hw : ∀ (K : Kn) (a : Act) (w : World) (G : Gh), RelG K n st a w G → Region.wanted o (yielded ops a.tmps) = true) (k : AL P n ops Q l st') : AL P n ops Q (o :: l) st := by
  unfold cStep at h
  cases hd : dok o.dst n with
  | false => rw [hd] at h; cases h
  | true =>
    rw [hd] at h
    simp only [cond_true] at h
    split at h
    · rename_i x p h1
      cases hb : obR C.T st o.op with
      | false => rw [hb] at h; cases h
      | true =>
        rw [hb] at h
        simp only [cond_true] at h
        injection h with h
        subst h
        exact AL.opw hw (stepR_ok hC.T h1 (obR_ok h1 hb) hd).opv k
    · split at h
      · rename_i x h1
        injection h with h
        subst h
        exact AL.opw hw (stepXR_ok hC.T h1 hd).opv k
      · split at h
        · rename_i s p h1
          cases hb : obM C.T st o.op with
          | false => rw [hb] at h; cases h
          | true =>
            rw [hb] at h
            simp only [cond_true] at h
            injection h with h
            subst h
            exact AL.opw hw (stepM_ok hC.T h1 (obM_ok h1 hb) hd) k
        · split at h
          · rename_i s h1
            injection h with h
            subst h
            exact AL.opw hw (stepXM_ok hC.T h1 hd) k
          · obtain ⟨d, op, ty, ps, af, g⟩ := o
            simp only at h
            unfold callC at h
            split at h
            · rename_i cal args ats _ _ _ _
              split at h
              · rename_i F caps h1
                split at h
                · rename_i q h2
                  split at h
                  · rename_i x hp nx h3
                    injection h with h
                    subst h
                    refine AL.call' hw rfl h1 (evL_eq (st := st) args.toList caps).symm (allP_at hC.cas h2) hd ((hS _ _ _ _ _ _ _ h3).mono ?_)
                    rintro x1 hp1 nx1 ⟨rfl, rfl, rfl⟩
                    exact k
                  · cases h
                · cases h
              · cases h
            · cases h

/-! ### Regions -/
def runL (C : Ctx) (self : SelfT) (n : Nat) (ops : Array Oper) : List Oper → ASt → Option ASt
  | [], st => some st
  | o :: l, st => match o.guard with
    | none => match cStep C self n st o with
      | some st' => nm st' (runL C self n ops l)
      | none => none
    | some _ => match gst ops o st with
      | some true => match cStep C self n st o with
        | some st' => nm st' (runL C self n ops l)
        | none => none
      | some false => bif dok o.dst n then nm (st.put o.dst .und) (runL C self n ops l) else none
      | none => none
theorem runL_ok {C : Ctx} {self : SelfT} (hC : C.ok P) (hS : SelfOk P self) : ∀ (l : List Oper) (st st' : ASt), runL C self n ops l st = some st' → Q .normal st' → AL P n ops Q l st
  | [], st, st', h, hq => by
    injection h with h
    subst h
    exact AL.nil hq
  | o :: l, st, st', h, hq => by
    rw [runL] at h
    have key : ∀ s, nm s (runL C self n ops l) = some st' → AL P n ops Q l s := by
      intro s hs
      obtain ⟨s', e1, e2⟩ := nm_eq s
      rw [e2] at hs
      exact AL.eqv e1 (runL_ok hC hS l s' st' hs hq)
    split at h
    · rename_i hg
      split at h
      · rename_i s h1
        exact cStep_ok hC hS h1 (fun _ a _ _ _ => wanted_none hg a) (key s h)
      · cases h
    · split at h
      · rename_i h0
        split at h
        · rename_i s h1
          obtain ⟨d, want, g1, g2⟩ := gst_yes h0
          exact cStep_ok hC hS h1 (wanted_of g1 g2) (key s h)
        · cases h
      · rename_i h0
        obtain ⟨d, want, g1, g2⟩ := gst_no h0
        cases hd : dok o.dst n with
        | false => rw [hd] at h; cases h
        | true =>
          rw [hd] at h
          simp only [cond_true] at h
          exact AL.skipg g1 hd g2 (key _ h)
      · cases h
end
end Go.Proofs.Ytnbmldnahacnlaa
