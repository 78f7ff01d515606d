/- A run of the abstract machine by one computed function: operations. No program in sight. -/
import Derived.Test.YtnbmldnahacnlaaSxS
namespace Go.Proofs.Ytnbmldnahacnlaa
open Go Go.RowKit

/-! ### Values brought to their normal form before they are kept -/
def fN {α : Type} : Nat → (Nat → α) → α
  | 0, k => k 0
  | n + 1, k => k (Nat.succ n)
theorem fN_eq {α : Type} (n : Nat) (k : Nat → α) : fN n k = k n := by cases n <;> rfl
def fI {α : Type} : Int → (Int → α) → α
  | .ofNat n, k => fN n fun n => k (.ofNat n)
  | .negSucc n, k => fN n fun n => k (.negSucc n)
theorem fI_eq {α : Type} (n : Int) (k : Int → α) : fI n k = k n := by cases n <;> simp only [fI, fN_eq]
def fA0 {α : Type} : AV → (AV → α) → α
  | .int kk n, k => fI n fun n => k (.int kk n)
  | .bool true, k => k (.bool true)
  | .bool false, k => k (.bool false)
  | .box a b, k => fN a fun a => fN b fun b => k (.box a b)
  | .elt a b c d, k => fN a fun a => fN b fun b => fN c fun c => fN d fun d => k (.elt a b c d)
  | .osl a b, k => fN a fun a => fN b fun b => k (.osl a b)
  | .peek r j, k => fN j fun j => k (.peek r j)
  | v, k => k v
theorem fA0_eq {α : Type} (v : AV) (k : AV → α) : fA0 v k = k v := by
  cases v <;> simp only [fA0, fN_eq, fI_eq]
  case bool b => cases b <;> rfl
def fL0 {α : Type} : List AV → (List AV → α) → α
  | [], k => k []
  | a :: l, k => fA0 a fun a => fL0 l fun l => k (a :: l)
theorem fL0_eq {α : Type} (l : List AV) : ∀ (k : List AV → α), fL0 l k = k l := by
  induction l with
  | nil => intro k; rfl
  | cons a l ih => intro k; rw [fL0, fA0_eq, ih]
def fA1 {α : Type} : AV → (AV → α) → α
  | .agg cs, k => fL0 cs fun cs => k (.agg cs)
  | .tup cs, k => fL0 cs fun cs => k (.tup cs)
  | .fn f cs, k => fL0 cs fun cs => k (.fn f cs)
  | v, k => fA0 v k
theorem fA1_eq {α : Type} (v : AV) (k : AV → α) : fA1 v k = k v := by
  cases v <;> simp only [fA1, fL0_eq, fA0_eq]
def fLL {α : Type} : List (List AV) → (List (List AV) → α) → α
  | [], k => k []
  | a :: l, k => fL0 a fun a => fLL l fun l => k (a :: l)
theorem fLL_eq {α : Type} (l : List (List AV)) : ∀ (k : List (List AV) → α), fLL l k = k l := by
  induction l with
  | nil => intro k; rfl
  | cons a l ih => intro k; rw [fLL, fL0_eq, ih]
def fB {α : Type} : AB → (AB → α) → α
  | .dead, k => k .dead
  | .box cs e, k => fL0 cs fun cs => k (.box cs e)
  | .row sz rows e, k => fLL rows fun rows => k (.row sz rows e)
theorem fB_eq {α : Type} (v : AB) (k : AB → α) : fB v k = k v := by
  cases v <;> simp only [fB, fL0_eq, fLL_eq]
/-- put in place -/
def setK {β α : Type} (d : Nat) (v : β) : List (Nat × β) → (List (Nat × β) → α) → α
  | [], k => k [(d, v)]
  | (j, x) :: l, k => bif Nat.beq j d then k ((d, v) :: l) else setK d v l fun l => k ((j, x) :: l)
def setA {β : Type} (d : Nat) (v : β) : List (Nat × β) → List (Nat × β)
  | [] => [(d, v)]
  | (j, x) :: l => bif Nat.beq j d then (d, v) :: l else (j, x) :: setA d v l
theorem setK_eq {β α : Type} (d : Nat) (v : β) (l : List (Nat × β)) : ∀ (k : List (Nat × β) → α), setK d v l k = k (setA d v l) := by
  induction l with
  | nil => intro k; rfl
  | cons p l ih =>
    intro k
    obtain ⟨j, x⟩ := p
    rw [setK, setA]
    cases Nat.beq j d with
    | true => rfl
    | false => simp only [cond_false]; rw [ih]
theorem look_setA {β : Type} (dd : β) (d : Nat) (v : β) (l : List (Nat × β)) (i : Nat) : look dd (setA d v l) i = look dd ((d, v) :: l) i := by
  induction l with
  | nil => rfl
  | cons p l ih =>
    obtain ⟨j, x⟩ := p
    rw [setA]
    cases h : Nat.beq j d with
    | true =>
      have := Nat.eq_of_beq_eq_true h
      subst this
      simp only [cond_true]
      rw [look_cons, look_cons, look_cons]
      split <;> rfl
    | false =>
      simp only [cond_false]
      rw [look_cons, ih, look_cons, look_cons, look_cons]
      have hne : j ≠ d := fun e => by subst e; simp at h
      by_cases e1 : j = i
      · subst e1
        rw [if_pos rfl, if_neg (fun e => hne e.symm), if_pos rfl]
      · rw [if_neg e1]
        by_cases e2 : d = i
        · rw [if_pos e2, if_pos e2]
        · rw [if_neg e2, if_neg e2, if_neg e1]
def nmR {α : Type} : List (Nat × AV) → (List (Nat × AV) → α) → α
  | [], k => k []
  | (d, v) :: l, k => fA1 v fun v => setK d v l k
def nmH {α : Type} : List (Nat × AB) → (List (Nat × AB) → α) → α
  | [], k => k []
  | (d, v) :: l, k => fB v fun v => setK d v l k
def nm {α : Type} (st : ASt) (k : ASt → α) : α := nmR st.regs fun r => nmH st.heap fun h => fN st.nx fun x => k ⟨r, h, x⟩
/-- states that say the same -/
structure Eqv (st st' : ASt) : Prop where
  regs : ∀ d, look .any st.regs d = look .any st'.regs d
  heap : ∀ d, look .dead st.heap d = look .dead st'.heap d
  nx : st.nx = st'.nx
theorem nm_eq (st : ASt) : ∃ st', Eqv st st' ∧ ∀ {α : Type} (k : ASt → α), nm st k = k st' := by
  obtain ⟨r, h, x⟩ := st
  have h1 : ∃ r', (∀ d, look AV.any r d = look .any r' d) ∧ ∀ {α : Type} (k : List (Nat × AV) → α), nmR r k = k r' := by
    cases r with
    | nil => exact ⟨[], fun _ => rfl, fun _ => rfl⟩
    | cons p l => exact ⟨setA p.1 p.2 l, fun d => (look_setA _ _ _ _ _).symm, fun k => by obtain ⟨d, v⟩ := p; rw [nmR, fA1_eq, setK_eq]⟩
  have h2 : ∃ r', (∀ d, look AB.dead h d = look .dead r' d) ∧ ∀ {α : Type} (k : List (Nat × AB) → α), nmH h k = k r' := by
    cases h with
    | nil => exact ⟨[], fun _ => rfl, fun _ => rfl⟩
    | cons p l => exact ⟨setA p.1 p.2 l, fun d => (look_setA _ _ _ _ _).symm, fun k => by obtain ⟨d, v⟩ := p; rw [nmH, fB_eq, setK_eq]⟩
  obtain ⟨r', a1, a2⟩ := h1
  obtain ⟨h', b1, b2⟩ := h2
  exact ⟨⟨r', h', x⟩, ⟨a1, b1, rfl⟩, fun k => by unfold nm; simp only [a2, b2, fN_eq]⟩
section
variable {P : Program} {n : Nat} {st st' : ASt} {Q : Exit → ASt → Prop}
theorem RelG.eqv {K : Kn} {a : Act} {w : World} {G : Gh} (r : RelG K n st a w G) (h : Eqv st st') : RelG K n st' a w G :=
  ⟨r.nx.trans h.nx, r.hr.congr (fun id => (h.heap id).symm), r.ext, r.size, r.defers, fun d => by rw [← h.regs d]; exact r.regs d⟩
theorem AL.eqv {ops : Array Oper} {l : List Oper} (e : Eqv st st') (h : AL P n ops Q l st') : AL P n ops Q l st := .mk fun K a w ⟨G, r⟩ => h K a w ⟨G, r.eqv e⟩
end

/-! ### What the operations ask for, tested -/
def in64B (x : Int) : Bool := decide (-9223372036854775808 ≤ x) && decide (x ≤ 9223372036854775807)
theorem in64B_ok {x : Int} (h : in64B x = true) : in64 x := by
  rw [in64B, Bool.and_eq_true] at h
  exact ⟨of_decide_eq_true h.1, of_decide_eq_true h.2⟩
def obInt (k : IntKind) (r : Int) : Bool := match k with
  | .i64 => in64B r
  | _ => true
theorem obInt_ok {k : IntKind} {r : Int} {x : AV} {p : Prop} (h : intOp k r = some (x, p)) (hb : obInt k r = true) : p := by
  cases k <;> simp only [intOp, Option.some.injEq, Prod.mk.injEq] at h <;> obtain ⟨rfl, rfl⟩ := h
  case i64 => exact in64B_ok hb
  all_goals trivial
def obOp (op : BinOp) (k : IntKind) (m q : Int) : Bool := match op with
  | .shl => decide (0 ≤ q) && (decide (q ≤ (k.bits : Int)) && obInt k (m * 2 ^ q.toNat))
  | .shr => decide (0 ≤ q) && decide (q ≤ (k.bits : Int))
  | .add => obInt k (m + q)
  | .sub => obInt k (m - q)
  | .mul => obInt k (m * q)
  | .quo => decide (q ≠ 0) && (decide (-9223372036854775807 ≤ m) && decide (m ≤ 18446744073709551615)) && (match k with | .i64 => decide (m ≤ 9223372036854775807) | _ => true)
  | .rem => decide (q ≠ 0)
  | _ => true
def obB (op : BinOp) : AV → AV → Bool
  | .int k m, .int _ q => obOp op k m q
  | _, _ => true
theorem obB_ok {T : Tab} {op : BinOp} {t : TypeId} {a b x : AV} {p : Prop} (h : binR T op t a b = some (x, p)) (hb : obB op a b = true) : p := by
  unfold binR at h
  split at h
  · rename_i k m k' q
    simp only [obB] at hb
    split at h
    · simp only [obOp, Bool.and_eq_true, decide_eq_true_eq] at hb
      obtain ⟨h1, h2, h3⟩ := hb
      split at h
      · simp only [Option.some.injEq, Prod.mk.injEq] at h
        obtain ⟨rfl, rfl⟩ := h
        exact ⟨⟨h1, h2⟩, in64B_ok h3⟩
      · simp only [Option.some.injEq, Prod.mk.injEq] at h
        obtain ⟨rfl, rfl⟩ := h
        exact ⟨h1, h2⟩
    · simp only [obOp, Bool.and_eq_true, decide_eq_true_eq] at hb
      simp only [Option.some.injEq, Prod.mk.injEq] at h
      obtain ⟨rfl, rfl⟩ := h
      exact hb
    · split at h
      · split at h
        · exact obInt_ok h hb
        · exact obInt_ok h hb
        · exact obInt_ok h hb
        · simp only [obOp, Bool.and_eq_true, decide_eq_true_eq] at hb
          split at h
          · simp only [Option.some.injEq, Prod.mk.injEq] at h
            obtain ⟨rfl, rfl⟩ := h
            exact ⟨hb.1.1, hb.1.2.1, by simpa using hb.2⟩
          · simp only [Option.some.injEq, Prod.mk.injEq] at h
            obtain ⟨rfl, rfl⟩ := h
            exact hb.1.1
        · simp only [obOp, decide_eq_true_eq] at hb
          simp only [Option.some.injEq, Prod.mk.injEq] at h
          obtain ⟨rfl, rfl⟩ := h
          exact hb
        all_goals first
          | cases h; done
          | (simp only [Option.some.injEq, Prod.mk.injEq] at h
             obtain ⟨rfl, rfl⟩ := h
             trivial)
      · cases h
  · split at h
    · simp only [Option.some.injEq, Prod.mk.injEq] at h; obtain ⟨rfl, rfl⟩ := h; trivial
    · simp only [Option.some.injEq, Prod.mk.injEq] at h; obtain ⟨rfl, rfl⟩ := h; trivial
    · cases h
  · split at h
    · rename_i L ns ms h1 h2 h3
      cases hl : (Nat.beq ns.length L && Nat.beq ms.length L) with
      | false => rw [hl] at h; cases h
      | true =>
        rw [hl] at h
        simp only [cond_true] at h
        split at h
        · simp only [Option.some.injEq, Prod.mk.injEq] at h; obtain ⟨rfl, rfl⟩ := h; trivial
        · simp only [Option.some.injEq, Prod.mk.injEq] at h; obtain ⟨rfl, rfl⟩ := h; trivial
        · cases h
    · cases h
  · cases h
def obR (T : Tab) (st : ASt) : Op → Bool
  | .binOp op _ x y _ => obB op (st.ev x) (st.ev y)
  | .unOp .neg _ x => match st.ev x with
    | .int k m => obInt k (-m)
    | _ => true
  | .convert _ t' x => match st.ev x, lk T.und t' with
    | .int _ m, some (.int k') => obInt k' m
    | _, _ => true
  | .fieldAddr _ x _ => match st.ev x with
    | .elt id m _ _ => match look .dead st.heap id with
      | .row _ rows _ => Nat.beq m rows.length
      | _ => true
    | _ => true
  | _ => true
theorem obR_ok {T : Tab} {st : ASt} {op : Op} {x : AV} {p : Prop} (h : stepR T st op = some (x, p)) (hb : obR T st op = true) : p := by
  cases op <;> simp only [stepR] at h <;> try (cases h; done)
  case move y => obtain ⟨_, rfl⟩ := retA_eq h; trivial
  case assign y => obtain ⟨_, rfl⟩ := retA_eq h; trivial
  case pick c a b =>
    split at h
    · obtain ⟨_, rfl⟩ := retA_eq h; trivial
    · obtain ⟨_, rfl⟩ := retA_eq h; trivial
    · cases h
  case binOp op t y z t' => exact obB_ok h hb
  case unOp op t y =>
    cases op <;> simp only at h
    case not =>
      split at h
      · simp only [Option.some.injEq, Prod.mk.injEq] at h; obtain ⟨_, rfl⟩ := h; trivial
      · cases h
    case neg =>
      split at h
      · rename_i k m h1
        simp only [obR, h1] at hb
        exact obInt_ok h hb
      · cases h
    all_goals cases h
  case convert t t' y =>
    split at h
    · rename_i k m s k' h1 h2 h3
      simp only [obR, h1, h3] at hb
      exact obInt_ok h hb
    · cases h
  case extract y i =>
    split at h
    · split at h
      · obtain ⟨_, rfl⟩ := retA_eq h; trivial
      · cases h
    · cases h
  case fieldAddr t y f =>
    cases hv : st.ev y <;> rw [hv] at h <;> simp only [fldR] at h <;> try (cases h; done)
    case box id o =>
      split at h
      · split at h
        · rename_i off s b h2
          cases hs : Nat.beq s 0 with
          | true => rw [hs] at h; cases h
          | false =>
            rw [hs] at h
            simp only [cond_false, Option.some.injEq, Prod.mk.injEq] at h
            obtain ⟨_, rfl⟩ := h; trivial
        · cases h
      · cases h
    case peek row o =>
      split at h
      · split at h
        · rename_i off s b h2
          cases hs : Nat.beq s 0 with
          | true => rw [hs] at h; cases h
          | false =>
            rw [hs] at h
            simp only [cond_false, Option.some.injEq, Prod.mk.injEq] at h
            obtain ⟨_, rfl⟩ := h; trivial
        · cases h
      · cases h
    case elt id m i o =>
      split at h
      · rename_i fl sz rows e h1 hbk
        split at h
        · rename_i off s b h2
          cases hs : Nat.beq s 0 with
          | true => rw [hs] at h; cases h
          | false =>
            rw [hs] at h
            simp only [cond_false, Option.some.injEq, Prod.mk.injEq] at h
            obtain ⟨_, rfl⟩ := h
            simp only [obR, hv, hbk] at hb
            exact Nat.eq_of_beq_eq_true hb
        · cases h
      · cases h
  case nilCheck y =>
    cases hv : st.ev y <;> rw [hv] at h <;> simp only at h <;> try (cases h; done)
    all_goals
      simp only [Option.some.injEq, Prod.mk.injEq] at h
      obtain ⟨_, rfl⟩ := h; trivial
  case field t y f =>
    split at h
    · split at h
      · split at h
        · obtain ⟨_, rfl⟩ := retA_eq h; trivial
        · cases h
      · cases h
    · cases h
  case load t y =>
    cases hv : st.ev y <;> rw [hv] at h <;> simp only [loadR] at h <;> try (cases h; done)
    case box id o =>
      split at h
      · split at h
        · obtain ⟨_, rfl⟩ := retA_eq h; trivial
        · cases h
      · cases h
    case peek row o =>
      split at h
      · split at h
        · obtain ⟨_, rfl⟩ := retA_eq h; trivial
        · cases h
      · cases h
  case build t parts =>
    split at h
    · rename_i z _ _ fl h1 h2
      cases h3 : allOne (z.cells.toList.map avOf) with
      | false => rw [h3] at h; cases h
      | true =>
        rw [h3] at h
        simp only [cond_true] at h
        split at h
        · simp only [Option.some.injEq, Prod.mk.injEq] at h; obtain ⟨_, rfl⟩ := h; trivial
        · cases h
    · cases h
end Go.Proofs.Ytnbmldnahacnlaa
