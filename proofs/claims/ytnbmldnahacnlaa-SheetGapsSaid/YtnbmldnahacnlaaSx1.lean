/- Symbolic walks: abstract values, an abstract memory of what the call owns, and what both say of the real ones. No program in sight. -/
import Derived.Test.YtnbmldnahacnlaaReg
import Derived.Below
import Derived.WalkSmall
namespace Go.Proofs.Ytnbmldnahacnlaa
open Go Go.RowKit

inductive AV where
  | any
  | und
  | int (k : IntKind) (n : Int)
  | bool (b : Bool)
  | str (s : ByteArray)
  | nilp
  | nils
  | nilf
  | box (id off : Nat)
  | elt (id n i j : Nat)
  | peek (row : List AV) (j : Nat)
  | osl (id n : Nat)
  | ro (fr : Bool) (sz : Nat) (rows : List (List AV))
  | agg (cs : List AV)
  | tup (vs : List AV)
  | fn (f : FuncId) (caps : List AV)

inductive AB where
  | dead
  | box (cs : List AV) (e : TypeId)
  | row (sz : Nat) (rows : List (List AV)) (e : TypeId)

def look {α : Type} (d : α) : List (Nat × α) → Nat → α
  | [], _ => d
  | (j, v) :: l, i => bif Nat.beq j i then v else look d l i
theorem look_cons {α : Type} (d : α) (j : Nat) (v : α) (l : List (Nat × α)) (i : Nat) : look d ((j, v) :: l) i = if j = i then v else look d l i := by
  show (bif Nat.beq j i then v else look d l i) = _
  by_cases h : j = i
  · subst h; simp
  · rw [if_neg h, show Nat.beq j i = false by rw [← Bool.not_eq_true]; intro e; exact h (Nat.eq_of_beq_eq_true e)]; rfl
theorem look_self {α : Type} (d : α) (j : Nat) (v : α) (l : List (Nat × α)) : look d ((j, v) :: l) j = v := by rw [look_cons, if_pos rfl]
theorem look_ne {α : Type} (d : α) {j i : Nat} (h : j ≠ i) (v : α) (l : List (Nat × α)) : look d ((j, v) :: l) i = look d l i := by rw [look_cons, if_neg h]

/-- registers; memory of the call's own; the number of the next block of its own -/
structure ASt where
  regs : List (Nat × AV)
  heap : List (Nat × AB)
  nx : Nat
def ASt.set (st : ASt) (d : Nat) (v : AV) : ASt := ⟨(d, v) :: st.regs, st.heap, st.nx⟩
def ASt.put (st : ASt) (d : Option Nat) (v : AV) : ASt := match d with | some d => st.set d v | none => st
def ASt.hset (st : ASt) (id : Nat) (b : AB) : ASt := ⟨st.regs, (id, b) :: st.heap, st.nx⟩
def ASt.hnew (st : ASt) (b : AB) : ASt := ⟨st.regs, (st.nx, b) :: st.heap, st.nx + 1⟩

def avOf : Value → AV
  | .int k n => .int k n
  | .bool b => .bool b
  | .string s => .str s
  | .pointer none => .nilp
  | .slice none 0 0 => .nils
  | .nilFunc => .nilf
  | _ => .any
def ASt.ev (st : ASt) : Operand → AV
  | .tmp t => look .any st.regs t
  | .const v => avOf v
  | .global _ => .any
  | .func f => .fn f []

/-- data that is only read -/
inductive RelD (w : World) (own : Nat → Prop) (bs : Nat) : AV → Value → Prop
  | any (v : Value) : RelD w own bs .any v
  | und : RelD w own bs .und undef
  | int (k : IntKind) (n : Int) : RelD w own bs (.int k n) (.int k n)
  | bool (b : Bool) : RelD w own bs (.bool b) (.bool b)
  | str (s : ByteArray) : RelD w own bs (.str s) (.string s)
  | nilp : RelD w own bs .nilp (.pointer none)
  | nils : RelD w own bs .nils (.slice none 0 0)
  | nilf : RelD w own bs .nilf .nilFunc
  | ro (fr : Bool) (sz : Nat) (rows : List (List AV)) (A : Option Addr) (c : Nat) (f : Nat → Nat → Value) (hc : rows.length ≤ c) (hm : c ≤ maxLen)
      (h0 : ∀ i, i < rows.length → A ≠ none)
      (h1 : ∀ (i : Nat) (row : List AV) (j : Nat) (a : AV), rows[i]? = some row → row[j]? = some a → ∃ b o, A = some ⟨b, o, none⟩ ∧ ¬ own b ∧ (fr = true → bs ≤ b) ∧ w.cell? ⟨b, o + i * sz + j, none⟩ = some (f i j))
      (h2 : ∀ (i : Nat) (row : List AV) (j : Nat) (a : AV), rows[i]? = some row → row[j]? = some a → RelD w own bs a (f i j)) : RelD w own bs (.ro fr sz rows) (.slice A rows.length c)

def ownBlk : Value → Option Nat
  | .slice (some a) _ _ => some a.block
  | .pointer (some a) => some a.block
  | _ => none

/-- what the abstract blocks stand for -/
structure Gh where
  ρ : Nat → Value
  own : Nat → Prop
  ln : Nat → Nat
  sz : Nat → Nat
  nx : Nat
  bs : Nat

inductive RelV (w : World) (G : Gh) : AV → Value → Prop
  | dat {a : AV} {v : Value} (h : RelD w G.own G.bs a v) : RelV w G a v
  | box (id off g : Nat) (hid : id < G.nx) (hs : G.sz id = 0) (h : G.ρ id = .pointer (some ⟨g, 0, none⟩)) : RelV w G (.box id off) (.pointer (some ⟨g, off, none⟩))
  | elt (id n i j : Nat) (v : Value) (hid : id < G.nx) (hs : 0 < G.sz id) (hn : n ≤ G.ln id) (hv : ∃ p, v = .pointer (some p))
      (h : n = G.ln id → ∃ g c, G.ρ id = .slice (some ⟨g, 0, none⟩) n c ∧ v = .pointer (some ⟨g, i * G.sz id + j, none⟩)) : RelV w G (.elt id n i j) v
  | osl (id n : Nat) (v : Value) (hid : id < G.nx) (hs : 0 < G.sz id) (hn : n ≤ G.ln id) (hv : ∃ A c, v = .slice A n c) (h : n = G.ln id → v = G.ρ id) : RelV w G (.osl id n) v
  | peek (row : List AV) (j b o : Nat) (f : Nat → Value) (hr : row ≠ []) (hb : ¬ G.own b) (h1 : ∀ (t : Nat) (a : AV), row[t]? = some a → w.cell? ⟨b, o + t, none⟩ = some (f t)) (h2 : ∀ (t : Nat) (a : AV), row[t]? = some a → RelD w G.own G.bs a (f t)) :
      RelV w G (.peek row j) (.pointer (some ⟨b, o + j, none⟩))
  | agg (cs : List AV) (vs : Array Value) (hl : vs.size = cs.length) (h : ∀ (i : Nat) (a : AV) (v : Value), cs[i]? = some a → vs[i]? = some v → RelV w G a v) : RelV w G (.agg cs) (.agg vs)
  | tup (cs : List AV) (vs : Array Value) (hl : vs.size = cs.length) (h : ∀ (i : Nat) (a : AV) (v : Value), cs[i]? = some a → vs[i]? = some v → RelV w G a v) : RelV w G (.tup cs) (.tuple vs)
  | fn (f : FuncId) (cs : List AV) (fs vs : Array Value) (hf : fs = #[]) (hl : vs.size = cs.length) (h : ∀ (i : Nat) (a : AV) (v : Value), cs[i]? = some a → vs[i]? = some v → RelV w G a v) : RelV w G (.fn f cs) (.func (.func f) fs vs)

/-- from one world (and what the blocks stand for) to a later one -/
structure Ext (w : World) (G : Gh) (w' : World) (G' : Gh) : Prop where
  size : w.heap.size ≤ w'.heap.size
  keep : ∀ b, ¬ G.own b → b < w.heap.size → w'.heap[b]? = w.heap[b]?
  own1 : ∀ b, G.own b → G'.own b
  own2 : ∀ b, G'.own b → G.own b ∨ w.heap.size ≤ b
  nx : G.nx ≤ G'.nx
  bs : G'.bs = G.bs
  gh : ∀ id, id < G.nx → G.ln id ≤ G'.ln id ∧ G.sz id = G'.sz id ∧ (G'.ln id = G.ln id → G'.ρ id = G.ρ id) ∧ (G.sz id = 0 → G'.ln id = G.ln id)
theorem Ext.refl (w : World) (G : Gh) : Ext w G w G := ⟨Nat.le_refl _, fun _ _ _ => rfl, fun _ h => h, fun _ h => .inl h, Nat.le_refl _, rfl, fun _ _ => ⟨Nat.le_refl _, rfl, fun _ => rfl, fun _ => rfl⟩⟩
theorem Ext.trans {w w' w'' : World} {G G' G'' : Gh} (h : Ext w G w' G') (k : Ext w' G' w'' G'') : Ext w G w'' G'' := by
  refine ⟨Nat.le_trans h.size k.size, fun b hb hl => ?_, fun b hb => k.own1 b (h.own1 b hb), fun b hb => ?_, Nat.le_trans h.nx k.nx, k.bs.trans h.bs, fun id hid => ?_⟩
  · rw [k.keep b (fun e => (h.own2 b e).elim hb (by omega)) (by have := h.size; omega), h.keep b hb hl]
  · rcases k.own2 b hb with h1 | h1
    · exact h.own2 b h1
    · have := h.size; right; omega
  · obtain ⟨a1, a2, a3, a4⟩ := h.gh id hid
    obtain ⟨b1, b2, b3, b4⟩ := k.gh id (by have := h.nx; omega)
    refine ⟨by omega, by omega, fun e => ?_, fun e => ?_⟩
    · rw [b3 (by omega), a3 (by omega)]
    · rw [b4 (by omega), a4 e]

theorem cell_lt {w : World} {a : Addr} {v : Value} (h : w.cell? a = some v) : a.block < w.heap.size := by
  rcases Nat.lt_or_ge a.block w.heap.size with h' | h'
  · exact h'
  · have : w.heap[a.block]? = none := Array.getElem?_eq_none h'
    simp [World.cell?, this] at h
theorem Ext.cell {w w' : World} {G G' : Gh} (h : Ext w G w' G') {a : Addr} {v : Value} (ho : ¬ G.own a.block) (hc : w.cell? a = some v) : w'.cell? a = some v :=
  (World.cell?_of_block (h.keep _ ho (cell_lt hc))).trans hc
theorem RelD.ext {w w' : World} {G G' : Gh} (h : Ext w G w' G') {a : AV} {v : Value} (r : RelD w G.own G.bs a v) : RelD w' G'.own G'.bs a v := by
  induction r with
  | any v => exact .any v
  | und => exact .und
  | int k n => exact .int k n
  | bool b => exact .bool b
  | str s => exact .str s
  | nilp => exact .nilp
  | nils => exact .nils
  | nilf => exact .nilf
  | ro fr sz rows A c f hc hm h0 h1 h2 ih =>
    refine .ro fr sz rows A c f hc hm h0 (fun i row j a g1 g2 => ?_) ih
    obtain ⟨b, o, e, ho, hfr, hcell⟩ := h1 i row j a g1 g2
    exact ⟨b, o, e, fun ho' => (h.own2 b ho').elim ho (fun hge => by have := cell_lt hcell; simp at this; omega), fun e => (by rw [h.bs]; exact hfr e), h.cell (a := ⟨b, _, none⟩) ho hcell⟩
theorem RelV.ext {w w' : World} {G G' : Gh} (h : Ext w G w' G') {a : AV} {v : Value} (r : RelV w G a v) : RelV w' G' a v := by
  induction r with
  | dat r => exact .dat (r.ext h)
  | box id off g hid hs hr =>
    obtain ⟨_, a2, a3, a4⟩ := h.gh id hid
    exact .box id off g (Nat.lt_of_lt_of_le hid h.nx) (a2 ▸ hs) (by rw [a3 (a4 hs)]; exact hr)
  | elt id n i j v hid hs hn hv hr =>
    obtain ⟨a1, a2, a3, _⟩ := h.gh id hid
    refine .elt id n i j v (Nat.lt_of_lt_of_le hid h.nx) (a2 ▸ hs) (by omega) hv (fun e => ?_)
    obtain ⟨g, c, e1, e2⟩ := hr (by omega)
    exact ⟨g, c, by rw [a3 (by omega)]; exact e1, by rw [← a2]; exact e2⟩
  | osl id n v hid hs hn hv hr =>
    obtain ⟨a1, a2, a3, _⟩ := h.gh id hid
    refine .osl id n v (Nat.lt_of_lt_of_le hid h.nx) (a2 ▸ hs) (by omega) hv (fun e => ?_)
    rw [a3 (by omega)]; exact hr (by omega)
  | peek row j b o f hr hb h1 h2 =>
    obtain ⟨x, l, rfl⟩ := List.exists_cons_of_ne_nil hr
    have hc := h1 0 x rfl
    exact .peek _ j b o f hr (fun ho' => (h.own2 b ho').elim hb (fun hge => by have := cell_lt hc; simp at this; omega)) (fun t a g => h.cell (a := ⟨b, _, none⟩) hb (h1 t a g)) (fun t a g => (h2 t a g).ext h)
  | agg cs vs hl _ ih => exact .agg cs vs hl ih
  | tup cs vs hl _ ih => exact .tup cs vs hl ih
  | fn f cs fs vs hf hl _ ih => exact .fn f cs fs vs hf hl ih
end Go.Proofs.Ytnbmldnahacnlaa
