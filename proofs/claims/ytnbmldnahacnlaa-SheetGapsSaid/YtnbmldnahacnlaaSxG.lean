/- Symbolic walks: one function that carries out an operation, and what it asks for. No program in sight. -/
import Derived.Test.YtnbmldnahacnlaaSxF
namespace Go.Proofs.Ytnbmldnahacnlaa
open Go Go.RowKit

def lk {α : Type} : List (Nat × α) → Nat → Option α
  | [], _ => none
  | (j, v) :: l, i => bif Nat.beq j i then some v else lk l i
theorem lk_mem {α : Type} {l : List (Nat × α)} {i : Nat} {x : α} (h : lk l i = some x) : (i, x) ∈ l := by
  induction l with
  | nil => cases h
  | cons p l ih =>
    obtain ⟨j, v⟩ := p
    rw [lk] at h
    cases hb : Nat.beq j i with
    | true => rw [hb] at h; have := Nat.eq_of_beq_eq_true hb; subst this; simp at h; subst h; simp
    | false => rw [hb] at h; exact List.mem_cons_of_mem _ (ih h)
/-- what is known of a program's types -/
structure Tab where
  und : List (Nat × TypeDesc)
  inf : List (Nat × (Option Value × Nat × Nat))
  fld : List (Nat × List (Nat × Nat × Bool))
  eqs : List (Nat × Nat)
def allP {α : Type} (R : Nat → α → Prop) : List (Nat × α) → Prop
  | [] => True
  | (k, x) :: l => R k x ∧ allP R l
theorem allP_at {α : Type} {R : Nat → α → Prop} {l : List (Nat × α)} (h : allP R l) {k : Nat} {x : α} (hk : lk l k = some x) : R k x := by
  have hm := lk_mem hk
  clear hk
  induction l with
  | nil => cases hm
  | cons p l ih =>
    obtain ⟨j, v⟩ := p
    rcases List.mem_cons.1 hm with e | hm
    · injection e with e1 e2; subst e1; subst e2; exact h.1
    · exact ih h.2 hm
structure Tab.ok (P : Program) (T : Tab) : Prop where
  und : allP (fun k D => P.underlying k = some D) T.und
  inf : allP (fun k x => tyI P k = some x) T.inf
  fld : allP (fun k x => fieldsP P k = some x) T.fld
  eqs : allP (fun k L => eqInts P k = true ∧ (match P.underlying k with | some (.struct fs) => fs.size | _ => 0) = L) T.eqs

abbrev RO := Option (AV × Prop)
def retA (v : AV) (p : Prop) : RO := match v with
  | .any => some (.any, p)
  | .und => some (.und, p)
  | .int k n => some (.int k n, p)
  | .bool b => some (.bool b, p)
  | .str s => some (.str s, p)
  | .nilp => some (.nilp, p)
  | .nils => some (.nils, p)
  | .nilf => some (.nilf, p)
  | .box id o => some (.box id o, p)
  | .elt id n i j => some (.elt id n i j, p)
  | .peek row j => some (.peek row j, p)
  | .osl id n => some (.osl id n, p)
  | .ro fr sz rows => some (.ro fr sz rows, p)
  | .agg cs => some (.agg cs, p)
  | .tup vs => some (.tup vs, p)
  | .fn f cs => some (.fn f cs, p)
theorem retA_eq {v x : AV} {p q : Prop} (h : retA v p = some (x, q)) : v = x ∧ p = q := by
  cases v <;> · simp only [retA, Option.some.injEq, Prod.mk.injEq] at h; exact h
def in64 (x : Int) : Prop := -9223372036854775808 ≤ x ∧ x ≤ 9223372036854775807
def intOp (k : IntKind) (r : Int) : RO := match k with
  | .i64 => some (.int .i64 r, in64 r)
  | k => some (.int k (k.wrap r), True)
theorem intOp_eq {k : IntKind} {r : Int} {x : AV} {p : Prop} (h : intOp k r = some (x, p)) (hp : p) : ∃ q, x = .int k q ∧ k.wrap r = q := by
  cases k <;> simp only [intOp, Option.some.injEq, Prod.mk.injEq] at h <;> obtain ⟨rfl, rfl⟩ := h
  case i64 => exact ⟨r, rfl, wr64 hp.1 hp.2⟩
  all_goals exact ⟨_, rfl, rfl⟩
def binR (T : Tab) (op : BinOp) (t : TypeId) : AV → AV → RO
  | .int k m, .int k' q =>
    match op with
    | .shl => match k with
      | .i64 => some (.int .i64 (m * 2 ^ q.toNat), (0 ≤ q ∧ q ≤ 64) ∧ in64 (m * 2 ^ q.toNat))
      | k => some (.int k (k.wrap (m * 2 ^ q.toNat)), 0 ≤ q ∧ q ≤ (k.bits : Int))
    | .shr => some (.int k (m / 2 ^ q.toNat), 0 ≤ q ∧ q ≤ (k.bits : Int))
    | op => if k = k' then (match op with
      | .add => intOp k (m + q)
      | .sub => intOp k (m - q)
      | .mul => intOp k (m * q)
      | .quo => match k with
        | .i64 => some (.int .i64 (m.tdiv q), q ≠ 0 ∧ (-9223372036854775807 ≤ m ∧ m ≤ 9223372036854775807))
        | k => some (.int k (k.wrap (m.tdiv q)), q ≠ 0)
      | .rem => some (.int k (m.tmod q), q ≠ 0)
      | .lss => some (.bool (decide (m < q)), True)
      | .leq => some (.bool (decide (m ≤ q)), True)
      | .gtr => some (.bool (decide (q < m)), True)
      | .geq => some (.bool (decide (q ≤ m)), True)
      | .eql => some (.bool (decide (m = q)), True)
      | .neq => some (.bool (decide (m ≠ q)), True)
      | .and => some (.int k (bits .and k m q), True)
      | .or => some (.int k (bits .or k m q), True)
      | .xor => some (.int k (bits .xor k m q), True)
      | .andNot => some (.int k (bits .andNot k m q), True)
      | _ => none) else none
  | .bool b, .bool c => match op, lk T.und t with
    | .eql, some .bool => some (.bool (b == c), True)
    | .neq, some .bool => some (.bool (b != c), True)
    | _, _ => none
  | .agg cs, .agg cs' => match lk T.eqs t, intsOf .i64 cs, intsOf .i64 cs' with
    | some L, some ns, some ms => bif Nat.beq ns.length L && Nat.beq ms.length L then (match op with
      | .eql => some (.bool (decide (ns = ms)), True)
      | .neq => some (.bool (!decide (ns = ms)), True)
      | _ => none) else none
    | _, _, _ => none
  | _, _ => none
def loadR (T : Tab) (st : ASt) (t : TypeId) : AV → RO
  | .box id o => match look .dead st.heap id, lk T.und t, lk T.inf t with
    | .box cs _, some D, some (_, s, _) => match partA cs o s (aggB D) with
      | some v => retA v True
      | none => none
    | _, _, _ => none
  | .peek row o => match lk T.und t, lk T.inf t with
    | some D, some (_, s, _) => match partA row o s (aggB D) with
      | some v => retA v True
      | none => none
    | _, _ => none
  | _ => none
def fldR (T : Tab) (st : ASt) (t : TypeId) (f : Nat) : AV → RO
  | .box id o => match lk T.fld t with
    | some fl => match fl[f]? with
      | some (off, s, _) => bif Nat.beq s 0 then none else some (.box id (o + off), True)
      | none => none
    | none => none
  | .peek row o => match lk T.fld t with
    | some fl => match fl[f]? with
      | some (off, s, _) => bif Nat.beq s 0 then none else some (.peek row (o + off), True)
      | none => none
    | none => none
  | .elt id m i o => match lk T.fld t, look .dead st.heap id with
    | some fl, .row _ rows _ => match fl[f]? with
      | some (off, s, _) => bif Nat.beq s 0 then none else some (.elt id m i (o + off), m = rows.length)
      | none => none
    | _, _ => none
  | _ => none
def stepR (T : Tab) (st : ASt) : Op → RO
  | .move x | .assign x => retA (st.ev x) True
  | .pick c a b => match st.ev c with
    | .bool true => retA (st.ev a) True
    | .bool false => retA (st.ev b) True
    | _ => none
  | .binOp op t x y _ => binR T op t (st.ev x) (st.ev y)
  | .unOp .not _ x => match st.ev x with
    | .bool b => some (.bool (!b), True)
    | _ => none
  | .unOp .neg _ x => match st.ev x with
    | .int k m => intOp k (-m)
    | _ => none
  | .convert t t' x => match st.ev x, lk T.und t, lk T.und t' with
    | .int _ m, some _, some (.int k') => intOp k' m
    | _, _, _ => none
  | .extract x i => match st.ev x with
    | .tup vs => match vs[i]? with
      | some v => retA v True
      | none => none
    | _ => none
  | .fieldAddr t x f => fldR T st t f (st.ev x)
  | .nilCheck x => match st.ev x with
    | .box id o => some (.box id o, True)
    | .peek row o => some (.peek row o, True)
    | .elt id m i o => some (.elt id m i o, True)
    | _ => none
  | .field t x f => match st.ev x, lk T.fld t with
    | .agg cs, some fl => match fl[f]? with
      | some (off, s, b) => match partA cs off s b with
        | some v => retA v True
        | none => none
      | none => none
    | _, _ => none
  | .load t x => loadR T st t (st.ev x)
  | .build t parts => match lk T.inf t, lk T.fld t with
    | some (some z, _, _), some fl => bif allOne (z.cells.toList.map avOf) then (match fillA (placeS fl) (z.cells.toList.map avOf) (evParts st parts.toList) with
      | some out => some (.agg out, True)
      | none => none) else none
    | _, _ => none
  | _ => none
section
variable {P : Program} {n : Nat} {T : Tab} {st : ASt} {o : Oper} {x : AV} {p : Prop}
theorem binR_ok {d : Option Nat} {ty t t' : TypeId} {ps : String} {af : Array Edge} {g : Option (Nat × Bool)} {op : BinOp} {y z : Operand} {a b : AV} (hT : T.ok P) (ha : st.ev y = a) (hb : st.ev z = b) (h : binR T op t a b = some (x, p)) (hp : p) (hd : dok d n = true) : OpR P n ⟨d, .binOp op t y z t', ty, ps, af, g⟩ st x := by
  unfold binR at h
  split at h
  · rename_i k m k' q
    split at h
    · split at h
      · simp only [Option.some.injEq, Prod.mk.injEq] at h
        obtain ⟨rfl, rfl⟩ := h
        exact op_shl ha hb hp.1.1 hp.1.2 (wr64 hp.2.1 hp.2.2) hd
      · simp only [Option.some.injEq, Prod.mk.injEq] at h
        obtain ⟨rfl, rfl⟩ := h
        exact op_shl ha hb hp.1 hp.2 rfl hd
    · simp only [Option.some.injEq, Prod.mk.injEq] at h
      obtain ⟨rfl, rfl⟩ := h
      exact op_shr ha hb hp.1 hp.2 hd
    · split at h
      · rename_i hk
        subst hk
        split at h
        · obtain ⟨r, rfl, hr⟩ := intOp_eq h hp; exact op_add ha hb hr hd
        · obtain ⟨r, rfl, hr⟩ := intOp_eq h hp; exact op_sub ha hb hr hd
        · obtain ⟨r, rfl, hr⟩ := intOp_eq h hp; exact op_mul ha hb hr hd
        · split at h
          · simp only [Option.some.injEq, Prod.mk.injEq] at h
            obtain ⟨rfl, rfl⟩ := h
            refine op_quo ha hb hp.1 (wr64 ?_ ?_) hd
            · have := Int.natAbs_tdiv_le_natAbs m q; omega
            · have := Int.natAbs_tdiv_le_natAbs m q; omega
          · simp only [Option.some.injEq, Prod.mk.injEq] at h
            obtain ⟨rfl, rfl⟩ := h
            exact op_quo ha hb hp rfl hd
        all_goals first
          | cases h; done
          | (simp only [Option.some.injEq, Prod.mk.injEq] at h
             obtain ⟨rfl, rfl⟩ := h
             first
               | exact op_rem ha hb hp hd
               | exact op_lss ha hb hd
               | exact op_leq ha hb hd
               | exact op_gtr ha hb hd
               | exact op_geq ha hb hd
               | exact op_eql ha hb hd
               | exact op_neq ha hb hd
               | exact op_bits (by simp) ha hb rfl hd)
      · cases h
  · split at h
    · rename_i h1
      simp only [Option.some.injEq, Prod.mk.injEq] at h
      obtain ⟨rfl, rfl⟩ := h
      exact op_beql ha hb (allP_at hT.und h1) hd
    · rename_i h1
      simp only [Option.some.injEq, Prod.mk.injEq] at h
      obtain ⟨rfl, rfl⟩ := h
      exact op_bneq ha hb (allP_at hT.und h1) hd
    · cases h
  · split at h
    · rename_i L ns ms h1 h2 h3
      cases hl : (Nat.beq ns.length L && Nat.beq ms.length L) with
      | false => rw [hl] at h; cases h
      | true =>
        rw [hl] at h
        rw [Bool.and_eq_true] at hl
        have l1 := Nat.eq_of_beq_eq_true hl.1
        have l2 := Nat.eq_of_beq_eq_true hl.2
        obtain ⟨e1, e2⟩ := allP_at hT.eqs h1
        simp only [cond_true] at h
        split at h
        · simp only [Option.some.injEq, Prod.mk.injEq] at h
          obtain ⟨rfl, rfl⟩ := h
          exact op_eqs (neq := false) ha hb h2 h3 e1 e2 l1 l2 hd
        · simp only [Option.some.injEq, Prod.mk.injEq] at h
          obtain ⟨rfl, rfl⟩ := h
          exact op_eqs (neq := true) ha hb h2 h3 e1 e2 l1 l2 hd
        · cases h
    · cases h
  · cases h
theorem stepR_ok (hT : T.ok P) (h : stepR T st o.op = some (x, p)) (hp : p) (hd : dok o.dst n = true) : OpR P n o st x := by
  obtain ⟨d, op, ty, ps, af, g⟩ := o
  simp only at h
  have hd : dok d n = true := hd
  cases op <;> simp only [stepR] at h <;> try (cases h; done)
  case move y =>
    obtain ⟨h1, _⟩ := retA_eq h
    exact op_move h1 hd
  case assign y =>
    obtain ⟨h1, _⟩ := retA_eq h
    exact op_assign h1 hd
  case pick c a b =>
    split at h
    · rename_i hc
      obtain ⟨h1, _⟩ := retA_eq h
      exact op_pick hc h1 hd
    · rename_i hc
      obtain ⟨h1, _⟩ := retA_eq h
      exact op_pick hc h1 hd
    · cases h
  case binOp op t y z t' =>
    exact binR_ok hT rfl rfl h hp hd
  case unOp op t y =>
    cases op <;> simp only at h
    case not =>
      split at h
      · rename_i b h1
        simp only [Option.some.injEq, Prod.mk.injEq] at h
        obtain ⟨rfl, _⟩ := h
        exact op_not h1 hd
      · cases h
    case neg =>
      split at h
      · rename_i k m h1
        obtain ⟨q, rfl, hq⟩ := intOp_eq h hp
        exact op_neg h1 hq hd
      · cases h
    all_goals cases h
  case convert t t' y =>
    split at h
    · rename_i k m s k' h1 h2 h3
      obtain ⟨q, rfl, hq⟩ := intOp_eq h hp
      exact op_conv h1 (allP_at hT.und h2) (allP_at hT.und h3) hq hd
    · cases h
  case extract y i =>
    split at h
    · rename_i vs h1
      split at h
      · rename_i v h2
        obtain ⟨rfl, _⟩ := retA_eq h
        exact op_extract h1 h2 hd
      · cases h
    · cases h
  case fieldAddr t y f =>
    cases hv : st.ev y <;> rw [hv] at h <;> simp only [fldR] at h <;> try (cases h; done)
    case box id o =>
      split at h
      · rename_i fl h1
        split at h
        · rename_i off s b h2
          cases hs : Nat.beq s 0 with
          | true => rw [hs] at h; cases h
          | false =>
            rw [hs] at h
            simp only [cond_false, Option.some.injEq, Prod.mk.injEq] at h
            obtain ⟨rfl, _⟩ := h
            exact op_fieldAddr_box hv (allP_at hT.fld h1) h2 (by intro e; subst e; simp at hs) hd
        · cases h
      · cases h
    case peek row o =>
      split at h
      · rename_i fl h1
        split at h
        · rename_i off s b h2
          cases hs : Nat.beq s 0 with
          | true => rw [hs] at h; cases h
          | false =>
            rw [hs] at h
            simp only [cond_false, Option.some.injEq, Prod.mk.injEq] at h
            obtain ⟨rfl, _⟩ := h
            exact op_fieldAddr_peek hv (allP_at hT.fld h1) h2 (by intro e; subst e; simp at hs) hd
        · cases h
      · cases h
    case elt id m i o =>
      split at h
      · rename_i fl sz rows e h1 hb
        split at h
        · rename_i off s b h2
          cases hs : Nat.beq s 0 with
          | true => rw [hs] at h; cases h
          | false =>
            rw [hs] at h
            simp only [cond_false, Option.some.injEq, Prod.mk.injEq] at h
            obtain ⟨rfl, rfl⟩ := h
            exact op_fieldAddr_elt hv (allP_at hT.fld h1) h2 (by intro e; subst e; simp at hs) ⟨_, _, _, hb, hp⟩ hd
        · cases h
      · cases h
  case nilCheck y =>
    cases hv : st.ev y <;> rw [hv] at h <;> simp only at h <;> try (cases h; done)
    case box id o =>
      simp only [Option.some.injEq, Prod.mk.injEq] at h
      obtain ⟨rfl, _⟩ := h
      exact op_nilCheck_box hv hd
    case peek row o =>
      simp only [Option.some.injEq, Prod.mk.injEq] at h
      obtain ⟨rfl, _⟩ := h
      exact op_nilCheck_peek hv hd
    case elt id m i o =>
      simp only [Option.some.injEq, Prod.mk.injEq] at h
      obtain ⟨rfl, _⟩ := h
      exact op_nilCheck_elt hv hd
  case field t y f =>
    split at h
    · rename_i cs fl h1 h2
      split at h
      · rename_i off s b h3
        split at h
        · rename_i v h4
          obtain ⟨rfl, _⟩ := retA_eq h
          exact op_field h1 (allP_at hT.fld h2) h3 h4 hd
        · cases h
      · cases h
    · cases h
  case load t y =>
    cases hv : st.ev y <;> rw [hv] at h <;> simp only [loadR] at h <;> try (cases h; done)
    case box id o =>
      split at h
      · rename_i cs e D z s b h1 h2 h3
        split at h
        · rename_i v h4
          obtain ⟨rfl, _⟩ := retA_eq h
          exact op_load_box hv h1 (allP_at hT.und h2) (allP_at hT.inf h3) h4 hd
        · cases h
      · cases h
    case peek row o =>
      split at h
      · rename_i D z s b h2 h3
        split at h
        · rename_i v h4
          obtain ⟨rfl, _⟩ := retA_eq h
          exact op_load_peek hv (allP_at hT.und h2) (allP_at hT.inf h3) h4 hd
        · cases h
      · cases h
  case build t parts =>
    split at h
    · rename_i z s b fl h1 h2
      cases h3 : allOne (z.cells.toList.map avOf) with
      | false => rw [h3] at h; cases h
      | true =>
        rw [h3] at h
        simp only [cond_true] at h
        split at h
        · rename_i out h4
          simp only [Option.some.injEq, Prod.mk.injEq] at h
          obtain ⟨rfl, _⟩ := h
          exact op_build (allP_at hT.inf h1) rfl h3 (allP_at hT.fld h2) h4 hd
        · cases h
    · cases h
end
end Go.Proofs.Ytnbmldnahacnlaa
