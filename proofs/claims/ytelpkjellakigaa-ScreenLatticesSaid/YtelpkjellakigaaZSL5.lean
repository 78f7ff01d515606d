/- Regions that draw their order: operations and calls that write, in any order that the edges allow; blocks that are written beside an operation are seen by the cells that stay. No program in sight. -/
import Derived.Test.YtelpkjellakigaaZSL4
import Derived.Lib.ConvBytes
import Derived.Lib.AppendStr
import Derived.Lib.AppendZerosOnto
import Derived.Below
/- Regions that draw their order: operations and calls that write, in any order that the edges allow; blocks that are written beside an operation are seen by the cells that stay. No program in sight. -/
namespace Go.Proofs.Ytelpkjellakigaa.Rn
open Go Go.RowKit Go.Proofs.Ytelpkjellakigaa Go.Proofs.Ytelpkjellakigaa.Dr

theorem pf_nmd {p : Nat → Bool} : ∀ (a : AV), pf p a = true → a.nmd p = true
  | .box .., h => by simpa only [pf, AV.nmd] using h
  | .elt .., h => by simpa only [pf, AV.nmd] using h
  | .osl .., h => by simpa only [pf, AV.nmd] using h
  | .vsl .., h => by simpa only [pf, AV.nmd] using h
  | .agg cs, h => by simp only [pf, AV.nmd] at h ⊢; exact pf_nmdL cs h
  | .tup cs, h => by simp only [pf, AV.nmd] at h ⊢; exact pf_nmdL cs h
  | .fn _ cs, h => by simp only [pf, AV.nmd] at h ⊢; exact pf_nmdL cs h
  | .any, _ => rfl
  | .und, _ => rfl
  | .int .., _ => rfl
  | .bool .., _ => rfl
  | .str .., _ => rfl
  | .nilp, _ => rfl
  | .nils, _ => rfl
  | .nilf, _ => rfl
  | .peek .., _ => rfl
  | .ro .., _ => rfl
where pf_nmdL {p : Nat → Bool} : ∀ (cs : List AV), pf.go p cs = true → AV.nmd.go p cs = true
  | [], _ => rfl
  | a :: l, h => by
    rw [pf.go, Bool.and_eq_true] at h
    rw [AV.nmd.go, pf_nmd a h.1, pf_nmdL l h.2]; rfl
theorem pfB_nmd {p : Nat → Bool} {b : AB} (h : pfB p b = true) : b.nmd p = true := by
  cases b with
  | dead => rfl
  | box cs e => exact pf_nmd.pf_nmdL cs h
  | row sz rows e => exact List.all_eq_true.2 fun row hr => pf_nmd.pf_nmdL row (List.all_eq_true.1 h row hr)
/-- the blocks of a list, as f has them, ahead of others -/
def onL (L : List Nat) (f : Nat → AB) (hp : List (Nat × AB)) : List (Nat × AB) := L.map (fun j => (j, f j)) ++ hp
theorem onL_in {L : List Nat} {f : Nat → AB} {hp : List (Nat × AB)} {j : Nat} (hj : j ∈ L) : look .dead (onL L f hp) j = f j := by
  unfold onL
  rw [look_append]
  induction L with
  | nil => cases hj
  | cons c L ih =>
    rw [List.map_cons, look_cons]
    by_cases e : c = j
    · subst e; rw [if_pos rfl]
    · rw [if_neg e]
      exact ih ((List.mem_cons.1 hj).resolve_left fun e' => e e'.symm)
theorem onL_out {L : List Nat} {f : Nat → AB} {hp : List (Nat × AB)} {j : Nat} (hj : j ∉ L) : look .dead (onL L f hp) j = look .dead hp j := by
  unfold onL
  rw [look_append]
  induction L with
  | nil => rfl
  | cons c L ih =>
    rw [List.map_cons, look_cons, if_neg (fun e => hj (by simp [e]))]
    exact ih fun h => hj (List.mem_cons_of_mem _ h)
/-- what an operation may look at: the blocks whose state is settled, of the others the cells that stay -/
def lcl (ops : Array Oper) (T : List (List Nat)) (W : List (Nat × Nat)) (M : List (Nat × AB)) (nx0 i : Nat) (cr : List (Nat × Nat)) (st : ASt) (o : Oper) (k : Nat) : ASt :=
  ⟨lregs ops st o, M.filter (fun p => !visW T W nx0 i cr p.1) ++ st.heap.filter (fun p => visW T W nx0 i cr p.1), k⟩
theorem lcl_heap {ops : Array Oper} {T : List (List Nat)} {W : List (Nat × Nat)} {M : List (Nat × AB)} {nx0 i : Nat} {cr : List (Nat × Nat)} {st : ASt} {o : Oper} {k : Nat} (id : Nat) :
    look .dead (lcl ops T W M nx0 i cr st o k).heap id = bif visW T W nx0 i cr id then look .dead st.heap id else look .dead M id := by
  show look .dead (M.filter (fun p => !visW T W nx0 i cr p.1) ++ st.heap.filter (fun p => visW T W nx0 i cr p.1)) id = _
  rw [look_append, look_filt (f := fun id => visW T W nx0 i cr id), look_filt (f := fun id => !visW T W nx0 i cr id)]
  cases hv : visW T W nx0 i cr id with
  | true => rfl
  | false =>
    simp only [Bool.not_false, cond_true, cond_false]
/-- the new numbers -/
def news (k k2 : Nat) : List Nat := List.range' k (k2 - k)
theorem news_mem {k k2 id : Nat} : id ∈ news k k2 ↔ k ≤ id ∧ id < k2 := by
  unfold news
  rw [List.mem_range'_1]
  omega
/-- the blocks that are there when the done operations are done -/
def lvD (S : Nat → ASt) (m nx0 : Nat) (d : Nat → Bool) (id : Nat) : Bool := Nat.blt id nx0 || (List.range m).any fun j => d j && (Nat.ble (S j).nx id && Nat.blt id (S (j + 1)).nx)
theorem lvD_iff {S : Nat → ASt} {m nx0 : Nat} {d : Nat → Bool} {id : Nat} : lvD S m nx0 d id = true ↔ id < nx0 ∨ ∃ j, j < m ∧ d j = true ∧ (S j).nx ≤ id ∧ id < (S (j + 1)).nx := by
  unfold lvD
  rw [Bool.or_eq_true, List.any_eq_true]
  constructor
  · rintro (h | ⟨j, h1, h2⟩)
    · exact .inl (by simpa using h)
    · simp only [Bool.and_eq_true] at h2
      exact .inr ⟨j, List.mem_range.1 h1, h2.1, by simpa using h2.2.1, by simpa using h2.2.2⟩
  · rintro (h | ⟨j, h1, h2, h3, h4⟩)
    · exact .inl (by simpa using h)
    · refine .inr ⟨j, List.mem_range.2 h1, ?_⟩
      simp [h2, h3, h4]
/-- what has been done of a region -/
def InvG (K : Kn) (n : Nat) (l : List Oper) (W : List (Nat × Nat)) (S : Nat → ASt) (m nx0 : Nat) (d : Nat → Bool) (a : Act) (w : World) : Prop := ∃ R hp G, RelP K n R hp (S m).nx (lvD S m nx0 d) a w G ∧
  (∀ j o t, j < m → l[j]? = some o → d j = true → o.dst = some t → Les (look .any (S (j + 1)).regs t) (R t)) ∧
  (∀ t, (∀ j o, j < m → l[j]? = some o → d j = true → o.dst ≠ some t) → Les (look .any (S 0).regs t) (R t)) ∧
  (∀ id, lvD S m nx0 d id = true → ∃ p, p ≤ m ∧ id < (S p).nx ∧ LesB (look .dead (S p).heap id) (look .dead hp id) ∧ (∀ j, (j, id) ∈ W → j < p → d j = true) ∧ (∀ j, (j, id) ∈ W → p ≤ j → d j = false) ∧ (p = 0 ∨ ∃ q, p = q + 1 ∧ d q = true ∧ ((q, id) ∈ W ∨ (S q).nx ≤ id)))
inductive Loc (P : Program) (n : Nat) (ops : Array Oper) (T : List (List Nat)) (W : List (Nat × Nat)) (M : List (Nat × AB)) (nx0 i : Nat) (cr : List (Nat × Nat)) (o : Oper) (st : ASt) : ASt → List (Nat × Nat) → Prop
  | read {x : AV} (hW : noW W i = true) (hw : o.guard = none ∨ gst ops o (lcl ops T W M nx0 i cr st o 0) = some true) (h : ∀ k, OpR P n o (lcl ops T W M nx0 i cr st o k) x) (hn : x.nmd (vis T nx0 i cr) = true) : Loc P n ops T W M nx0 i cr o st (st.put o.dst x) cr
  | call {x : AV} (hW : noW W i = true) (hw : o.guard = none ∨ gst ops o (lcl ops T W M nx0 i cr st o 0) = some true) (h : ∀ k, OpF P n o (lcl ops T W M nx0 i cr st o k) x) (hn : x.nmd (vis T nx0 i cr) = true) : Loc P n ops T W M nx0 i cr o st (st.put o.dst x) cr
  | new {b : AB} (hW : noW W i = true) (hN : newW T W i st.nx = true) (hw : o.guard = none ∨ gst ops o (lcl ops T W M nx0 i cr st o 0) = some true) (h : ∀ k, OpN P n o (lcl ops T W M nx0 i cr st o k) b) (hn : b.nmd (vis T nx0 i cr) = true) : Loc P n ops T W M nx0 i cr o st ((st.hnew b).put o.dst (refB b st.nx)) ((i, st.nx) :: cr)
  | skip (hW : noW W i = true) (hw : gst ops o (lcl ops T W M nx0 i cr st o 0) = some false) (hd : dok o.dst n = true) : Loc P n ops T W M nx0 i cr o st (st.put o.dst .und) cr
  | write {id : Nat} {b : AB} {x : AV} (L : List Nat) (hL : ∀ j ∈ L, visW T W nx0 i cr j = true ∧ (look .dead st.heap j).nmd (vis T nx0 i cr) = true) (hw : o.guard = none ∨ gst ops o (lcl ops T W M nx0 i cr st o 0) = some true) (hv : visW T W nx0 i cr id = true) (hm : (i, id) ∈ W) (hu : onlyW W i id = true)
      (h : ∀ hp k, (∀ j ∈ L, look .dead hp j = look .dead st.heap j) → OpWr P n o ⟨lregs ops st o, hp, k⟩ id b x) (hb : b.nmd (vis T nx0 i cr) = true) (hn : x.nmd (vis T nx0 i cr) = true) (hM : LesB (look .dead M id) b) : Loc P n ops T W M nx0 i cr o st ((st.hset id b).put o.dst x) cr
  | op {st2 : ASt} (L : List Nat) (hp : List (Nat × AB)) (hw : o.guard = none ∨ gst ops o (lcl ops T W M nx0 i cr st o 0) = some true) (h : OpY P n o ⟨lregs ops st o, hp, st.nx⟩ st2) (hd : dok o.dst n = true) (hn : st.nx ≤ st2.nx) (hN : ∀ id, st.nx ≤ id → id < st2.nx → newW T W i id = true)
      (hv : ∀ id ∈ L, id < st.nx ∧ visW T W nx0 i cr id = true) (hs : ∀ id, look .dead hp id = .dead ∨ (id ∈ L ∧ look .dead hp id = look .dead st.heap id ∧ (look .dead hp id).nmd (hasN L) = true))
      (ht : ∀ id, look .dead st2.heap id = .dead ∨ (orN (hasN L) st.nx st2.nx id = true ∧ pfB (orN (hasN L) st.nx st2.nx) (look .dead st2.heap id) = true)) (hr : ∀ t, (look .any (lregs ops st o) t).nmd (hasN L) = true) (hx : pf (orN (hasN L) st.nx st2.nx) (dstV st2 o.dst) = true)
      (hW : ∀ id, (i, id) ∈ W → id ∈ L) (hu : ∀ id ∈ L, (i, id) ∈ W ∨ look .dead st2.heap id = look .dead st.heap id) (hM : ∀ id, (i, id) ∈ W → LesB (look .dead M id) (look .dead st2.heap id)) :
      Loc P n ops T W M nx0 i cr o st ((⟨st.regs, onL (L ++ news st.nx st2.nx) (look .dead st2.heap) st.heap, st2.nx⟩ : ASt).put o.dst (dstV st2 o.dst)) ((news st.nx st2.nx).map (fun id => (i, id)) ++ cr)
inductive AG (P : Program) (n : Nat) (ops : Array Oper) (T : List (List Nat)) (W : List (Nat × Nat)) (M : List (Nat × AB)) (nx0 : Nat) (Kt : ASt → Prop) : Nat → List (Nat × Nat) → List Oper → ASt → Prop
  | nil {i : Nat} {cr : List (Nat × Nat)} {st : ASt} (h : Kt st) : AG P n ops T W M nx0 Kt i cr [] st
  | step {i : Nat} {cr cr' : List (Nat × Nat)} {o : Oper} {l : List Oper} {st st' : ASt} (h : Loc P n ops T W M nx0 i cr o st st' cr') (k : AG P n ops T W M nx0 Kt (i + 1) cr' l st') : AG P n ops T W M nx0 Kt i cr (o :: l) st
  | same {i : Nat} {cr : List (Nat × Nat)} {l : List Oper} {st st' : ASt} (h : Eqv st st') (k : AG P n ops T W M nx0 Kt i cr l st') : AG P n ops T W M nx0 Kt i cr l st
theorem AG.facts {P : Program} {n : Nat} {ops : Array Oper} {T : List (List Nat)} {W : List (Nat × Nat)} {M : List (Nat × AB)} {nx0 : Nat} {Kt : ASt → Prop} {i : Nat} {cr : List (Nat × Nat)} {l : List Oper} {st : ASt} (h : AG P n ops T W M nx0 Kt i cr l st) :
    ∃ (S : Nat → ASt) (C : Nat → List (Nat × Nat)), Eqv st (S 0) ∧ C 0 = cr ∧ Kt (S l.length) ∧ ∀ j o, l[j]? = some o → ∃ s', Loc P n ops T W M nx0 (i + j) (C j) o (S j) s' (C (j + 1)) ∧ Eqv s' (S (j + 1)) := by
  induction h with
  | @nil i cr st h => exact ⟨fun _ => st, fun _ => cr, Eqv.refl _, rfl, h, fun j o hj => by simp at hj⟩
  | @step i cr cr' o l st st' h k ih =>
    obtain ⟨S, C, h1, h2, h3, h4⟩ := ih
    refine ⟨fun j => match j with | 0 => st | j + 1 => S j, fun j => match j with | 0 => cr | j + 1 => C j, Eqv.refl _, rfl, h3, fun j o' hj => ?_⟩
    cases j with
    | zero =>
      simp at hj
      subst hj
      exact ⟨st', by show Loc P n ops T W M nx0 i cr o st st' (C 0); rw [h2]; exact h, h1⟩
    | succ j =>
      obtain ⟨s', g1, g2⟩ := h4 j o' (by simpa using hj)
      exact ⟨s', by rw [show i + (j + 1) = i + 1 + j by omega]; exact g1, g2⟩
  | @same i cr l st st' h k ih =>
    obtain ⟨S, C, h1, h2, h3, h4⟩ := ih
    exact ⟨S, C, h.trans h1, h2, h3, h4⟩
section
variable {P : Program} {n : Nat} {ops : Array Oper} {T : List (List Nat)} {W : List (Nat × Nat)} {M : List (Nat × AB)} {nx0 i : Nat} {cr cr' : List (Nat × Nat)} {o : Oper} {st st' : ASt}
theorem Loc.nx_le (h : Loc P n ops T W M nx0 i cr o st st' cr') : st.nx ≤ st'.nx := by
  cases h with
  | read => rw [put_nx]; exact Nat.le_refl _
  | call => rw [put_nx]; exact Nat.le_refl _
  | new => rw [put_nx]; exact Nat.le_succ _
  | skip => rw [put_nx]; exact Nat.le_refl _
  | write => rw [put_nx]; exact Nat.le_refl _
  | op _ _ _ _ _ hn => rw [put_nx]; exact hn
theorem Loc.regs (h : Loc P n ops T W M nx0 i cr o st st' cr') {t : Nat} (ht : o.dst ≠ some t) : look .any st'.regs t = look .any st.regs t := by
  cases h with
  | read => exact put_regs _ _ _ _ ht
  | call => exact put_regs _ _ _ _ ht
  | new => rw [put_regs _ _ _ _ ht]; rfl
  | skip => exact put_regs _ _ _ _ ht
  | write => rw [put_regs _ _ _ _ ht]; rfl
  | op => rw [put_regs _ _ _ _ ht]
theorem Loc.heap (h : Loc P n ops T W M nx0 i cr o st st' cr') {id : Nat} (hid : id < st.nx ∨ st'.nx ≤ id) (hw : (i, id) ∉ W) : look .dead st'.heap id = look .dead st.heap id := by
  cases h with
  | read => rw [put_heap']
  | call => rw [put_heap']
  | @new b =>
    rw [put_nx] at hid
    have hid : id < st.nx ∨ st.nx + 1 ≤ id := hid
    rw [put_heap']; exact look_ne _ (fun e => by omega) _ _
  | skip => rw [put_heap']
  | @write id' b x L hL _ hv hm => rw [put_heap']; exact look_ne _ (fun e => hw (by rw [← e]; exact hm)) _ _
  | @op st2 L hp hwa h hd hn hN hv hs htt hr hx hW hu =>
    rw [put_nx] at hid
    have hid : id < st.nx ∨ st2.nx ≤ id := hid
    rw [put_heap']
    show look .dead (onL (L ++ news st.nx st2.nx) _ _) id = _
    by_cases e : id ∈ L ++ news st.nx st2.nx
    · rw [onL_in e]
      rcases List.mem_append.1 e with e | e
      · exact (hu id e).resolve_left hw
      · have := news_mem.1 e; omega
    · exact onL_out e
theorem Loc.heap2 (h : Loc P n ops T W M nx0 i cr o st st' cr') (id : Nat) : look .dead st'.heap id = look .dead st.heap id ∨ (st.nx ≤ id ∧ id < st'.nx) ∨ vis T nx0 i cr id = true := by
  cases h with
  | read => left; rw [put_heap']
  | call => left; rw [put_heap']
  | skip => left; rw [put_heap']
  | @new b =>
    by_cases e : id = st.nx
    · exact .inr (.inl ⟨by omega, by rw [put_nx]; show id < st.nx + 1; omega⟩)
    · left; rw [put_heap']; exact look_ne _ (fun e' => e e'.symm) _ _
  | @write id' b x L hL _ hv hm =>
    by_cases e : id' = id
    · subst e
      unfold visW at hv
      rw [Bool.and_eq_true] at hv
      exact .inr (.inr hv.1)
    · left; rw [put_heap']; exact look_ne _ e _ _
  | @op st2 L hp hwa h hd hn hN hv hs htt hr hx hW hu =>
    by_cases e : id ∈ L ++ news st.nx st2.nx
    · rcases List.mem_append.1 e with e | e
      · have := (hv id e).2
        unfold visW at this
        rw [Bool.and_eq_true] at this
        exact .inr (.inr this.1)
      · exact .inr (.inl ⟨(news_mem.1 e).1, by rw [put_nx]; exact (news_mem.1 e).2⟩)
    · left
      rw [put_heap']
      exact onL_out e
theorem Loc.crm (h : Loc P n ops T W M nx0 i cr o st st' cr') : ∀ c ∈ cr', c ∈ cr ∨ (c.1 = i ∧ st.nx ≤ c.2 ∧ c.2 < st'.nx) := by
  cases h with
  | read => intro c hc; exact .inl hc
  | call => intro c hc; exact .inl hc
  | new =>
    intro c hc
    rcases List.mem_cons.1 hc with h | h
    · subst h; exact .inr ⟨rfl, Nat.le_refl _, by rw [put_nx]; exact Nat.lt_succ_self _⟩
    · exact .inl h
  | skip => intro c hc; exact .inl hc
  | write => intro c hc; exact .inl hc
  | op =>
    intro c hc
    rcases List.mem_append.1 hc with h | h
    · obtain ⟨id, h1, rfl⟩ := List.mem_map.1 h
      exact .inr ⟨rfl, (news_mem.1 h1).1, by rw [put_nx]; exact (news_mem.1 h1).2⟩
    · exact .inl h
theorem Loc.mask (h : Loc P n ops T W M nx0 i cr o st st' cr') (hnx : nx0 ≤ st.nx) (h0 : ∀ id, nx0 ≤ id → look .dead M id = .dead) (hM : ∀ id, LesB (look .dead M id) (look .dead st.heap id)) : ∀ id, LesB (look .dead M id) (look .dead st'.heap id) := by
  intro id
  by_cases hw : (i, id) ∈ W
  · cases h with
    | read hW => exact absurd hw (noW_at hW id)
    | call hW => exact absurd hw (noW_at hW id)
    | new hW => exact absurd hw (noW_at hW id)
    | skip hW => exact absurd hw (noW_at hW id)
    | @write id' b x L hL _ hv hm hu _ hb hn hMb =>
      have := onlyW_at hu hw
      subst this
      rw [put_heap']
      have e1 : look AB.dead (st.hset id b).heap id = b := look_self _ _ _ _
      rw [e1]; exact hMb
    | op L hp hwa h hd hn hN hv hs htt hr hx hW hu hMb =>
      rw [put_heap']
      show LesB _ (look .dead (onL (L ++ news st.nx _) _ _) id)
      rw [onL_in (List.mem_append.2 (.inl (hW id hw)))]
      exact hMb id hw
  · by_cases e : id < st.nx
    · rw [h.heap (.inl e) hw]; exact hM id
    · rw [h0 id (by omega)]; exact .dead _
end
theorem eqv_les {s s' : ASt} (h : Eqv s s') : LeS s' s := ⟨fun d => by rw [h.regs d]; exact .refl _, fun d => by rw [h.heap d]; exact .refl _, h.nx.symm⟩
section
variable {P : Program} {n : Nat} {l : List Oper} {T : List (List Nat)} {W : List (Nat × Nat)} {M : List (Nat × AB)} {S : Nat → ASt} {C : Nat → List (Nat × Nat)} {m : Nat}
theorem AG.step' (hp : ∀ i o, l[i]? = some o → PlanR l n i o) (hT : AncOk l T) (hml : m ≤ l.length) (hC0 : C 0 = [])
    (hE : ∀ j o, j < m → l[j]? = some o → ∃ s', Loc P n l.toArray T W M (S 0).nx j (C j) o (S j) s' (C (j + 1)) ∧ Eqv s' (S (j + 1))) (hM0 : ∀ id, (S 0).nx ≤ id → look .dead M id = .dead) (hM1 : ∀ id, LesB (look .dead M id) (look .dead (S 0).heap id))
    {K : Kn} {Q : Exit → Act → World → Prop} {i : Nat} {o : Oper} {d : Nat → Bool} {a : Act} {w : World} (hi : i < m) (ho : l[i]? = some o) (hd0 : d i = false) (hcl : ClosedD l d) (hdep : ∀ e ∈ o.after, Region.binds .any e = true → d e.on = true)
    (h : InvG K n l W S m (S 0).nx d a w) : if Region.wanted o (yielded l.toArray a.tmps) then o.wp P a w (fun a' w' => InvG K n l W S m (S 0).nx (upd d i) a' w') Q else InvG K n l W S m (S 0).nx (upd d i) (a.put o.dst undef) w := by
  have hL : ∀ j o, j < m → l[j]? = some o → ∃ s', Loc P n l.toArray T W M (S 0).nx j (C j) o (S j) s' (C (j + 1)) ∧ LeS (S (j + 1)) s' := fun j o hj ho => by
    obtain ⟨s', h1, h2⟩ := hE j o hj ho
    exact ⟨s', h1, eqv_les h2⟩
  obtain ⟨R, hpp, G, hR, I1, I2, I3⟩ := h
  have hop : ∀ j, j < m → ∃ o, l[j]? = some o := fun j hj => ⟨l[j], List.getElem?_eq_getElem (by omega)⟩
  have nxS : ∀ j, j < m → (S j).nx ≤ (S (j + 1)).nx := fun j hj => by
    obtain ⟨o, ho⟩ := hop j hj
    obtain ⟨s', h1, h2⟩ := hL j o hj ho
    rw [h2.nx]
    exact h1.nx_le
  have nxM : ∀ q, q ≤ m → ∀ p, p ≤ q → (S p).nx ≤ (S q).nx := by
    intro q
    induction q with
    | zero => intro _ p hp; obtain rfl : p = 0 := (by omega); exact Nat.le_refl _
    | succ q ih =>
      intro hq p hp
      rcases Nat.lt_or_ge p (q + 1) with h | h
      · exact Nat.le_trans (ih (by omega) p (by omega)) (nxS q (by omega))
      · obtain rfl : p = q + 1 := by omega
        exact Nat.le_refl _
  have regM : ∀ t q, q ≤ m → ∀ p, p ≤ q → (∀ j o, p ≤ j → j < q → l[j]? = some o → o.dst ≠ some t) → Les (look AV.any (S q).regs t) (look .any (S p).regs t) := by
    intro t q
    induction q with
    | zero => intro _ p hp _; obtain rfl : p = 0 := (by omega); exact .refl _
    | succ q ih =>
      intro hq p hp hno
      rcases Nat.lt_or_ge p (q + 1) with h | h
      · obtain ⟨o, ho⟩ := hop q (by omega)
        obtain ⟨s', h1, h2⟩ := hL q o (by omega) ho
        have e1 := h2.regs t
        rw [h1.regs (hno q o (by omega) (by omega) ho)] at e1
        exact e1.trans (ih (by omega) p (by omega) fun j o hj1 hj2 => hno j o hj1 (by omega))
      · obtain rfl : p = q + 1 := by omega
        exact .refl _
  have heapM : ∀ id q, q ≤ m → ∀ p, p ≤ q → id < (S p).nx → (∀ j, p ≤ j → j < q → (j, id) ∉ W) → LesB (look AB.dead (S q).heap id) (look .dead (S p).heap id) := by
    intro id q
    induction q with
    | zero => intro _ p hp _ _; obtain rfl : p = 0 := (by omega); exact .refl _
    | succ q ih =>
      intro hq p hp hlt hno
      rcases Nat.lt_or_ge p (q + 1) with h | h
      · obtain ⟨o, ho⟩ := hop q (by omega)
        obtain ⟨s', h1, h2⟩ := hL q o (by omega) ho
        have := nxM q (by omega) p (by omega)
        have e1 := h2.heap id
        rw [h1.heap (by omega) (hno q (by omega) (by omega))] at e1
        exact e1.trans (ih (by omega) p (by omega) hlt fun j j1 j2 => hno j j1 (by omega))
      · obtain rfl : p = q + 1 := by omega
        exact .refl _
  have heapE : ∀ id q, q ≤ m → ∀ p, p ≤ q → id < (S p).nx → (∀ j, p ≤ j → j < q → (j, id) ∉ W) → look AB.dead (S q).heap id = look .dead (S p).heap id := by
    intro id q
    induction q with
    | zero => intro _ p hp _ _; obtain rfl : p = 0 := (by omega); rfl
    | succ q ih =>
      intro hq p hp hlt hno
      rcases Nat.lt_or_ge p (q + 1) with h | h
      · obtain ⟨o, ho⟩ := hop q (by omega)
        obtain ⟨s', h1, h2⟩ := hE q o (by omega) ho
        have := nxM q (by omega) p (by omega)
        have e1 := h2.heap id
        rw [h1.heap (by omega) (hno q (by omega) (by omega))] at e1
        exact e1.symm.trans (ih (by omega) p (by omega) hlt fun j j1 j2 => hno j j1 (by omega))
      · obtain rfl : p = q + 1 := by omega
        rfl
  have hMall : ∀ q, q ≤ m → ∀ id, LesB (look AB.dead M id) (look .dead (S q).heap id) := by
    intro q
    induction q with
    | zero => intro _; exact hM1
    | succ q ih =>
      intro hq id
      obtain ⟨o, ho⟩ := hop q (by omega)
      obtain ⟨s', h1, h2⟩ := hE q o (by omega) ho
      rw [← h2.heap id]
      exact h1.mask (nxM q (by omega) 0 (Nat.zero_le _)) hM0 (ih (by omega)) id
  have crM : ∀ q, q ≤ m → ∀ c ∈ C q, c.1 < q ∧ (S c.1).nx ≤ c.2 ∧ c.2 < (S (c.1 + 1)).nx := by
    intro q
    induction q with
    | zero => intro _ c hc; rw [hC0] at hc; cases hc
    | succ q ih =>
      intro hq c hc
      obtain ⟨o, ho⟩ := hop q (by omega)
      obtain ⟨s', h1, h2⟩ := hL q o (by omega) ho
      rcases h1.crm c hc with h | ⟨h, h', h''⟩
      · obtain ⟨g1, g2⟩ := ih (by omega) c h
        exact ⟨by omega, g2⟩
      · rw [h]
        exact ⟨by omega, h', by rw [h2.nx]; exact h''⟩
  have pa := hp i o ho
  have hlook : ∀ t, t ∈ o.looksAt l.toArray → Les (look .any (S i).regs t) (R t) := by
    intro t ht
    by_cases hw : ∃ (j : Nat) (o' : Oper), l[j]? = some o' ∧ o'.dst = some t
    · obtain ⟨j, o', ho', hdst⟩ := hw
      rcases pa.look j o' t ho' hdst ht with ⟨hj, hr⟩ | ⟨hj, hr⟩
      · have hdj := hr.done hcl ho hdep
        exact (regM t i (by omega) (j + 1) (by omega) fun j2 o2 h1 h2 ho2 => (hp j2 o2 ho2).one j o' t ho' hdst (by omega)).trans (I1 j o' t (by omega) ho' hdj hdst)
      · have hnj : d j = false := by
          cases hdj : d j with
          | false => rfl
          | true => have := hr.done' hcl hdj; rw [hd0] at this; cases this
        have honly : ∀ j2 o2, l[j2]? = some o2 → j2 ≠ j → o2.dst ≠ some t := fun j2 o2 ho2 hne => (hp j2 o2 ho2).one j o' t ho' hdst hne
        refine (regM t i (by omega) 0 (Nat.zero_le _) fun j2 o2 _ h2 ho2 => honly j2 o2 ho2 (by omega)).trans (I2 t fun j2 o2 _ ho2 hd2 => honly j2 o2 ho2 fun e => ?_)
        subst e; rw [hnj] at hd2; cases hd2
    · exact (regM t i (by omega) 0 (Nat.zero_le _) fun j o' _ _ ho' hdst => hw ⟨j, o', ho', hdst⟩).trans (I2 t fun j o' _ ho' _ hdst => hw ⟨j, o', ho', hdst⟩)
  have hvis : ∀ id, vis T (S 0).nx i (C i) id = true → lvD S m (S 0).nx d id = true ∧ id < (S i).nx := by
    intro id h
    unfold vis at h
    rw [Bool.or_eq_true, List.any_eq_true] at h
    rcases h with h | ⟨c, hc, h⟩
    · have h : id < (S 0).nx := by simpa using h
      have := nxM i (by omega) 0 (Nat.zero_le _)
      exact ⟨lvD_iff.2 (.inl h), by omega⟩
    · rw [Bool.and_eq_true] at h
      obtain ⟨g1, g2, g3⟩ := crM i (by omega) c hc
      have hid := Nat.eq_of_beq_eq_true h.1
      have hdc := (reachT hT h.2).done hcl ho hdep
      have := nxM i (by omega) (c.1 + 1) (by omega)
      exact ⟨lvD_iff.2 (.inr ⟨c.1, by omega, hdc, by omega, by omega⟩), by omega⟩
  have hcont : ∀ id, visW T W (S 0).nx i (C i) id = true → LesB (look .dead (S i).heap id) (look AB.dead hpp id) := by
    intro id hv
    unfold visW at hv
    rw [Bool.and_eq_true] at hv
    obtain ⟨h1, h2⟩ := hvis id hv.1
    obtain ⟨p, p1, p2, p3, p4, p5, p6⟩ := I3 id h1
    have hpi : p ≤ i := by
      rcases p6 with rfl | ⟨q, rfl, hdq, hq⟩
      · exact Nat.zero_le _
      · rcases Nat.lt_or_ge q i with h | h
        · omega
        · exfalso
          rcases hq with hq | hq
          · by_cases e : q = i
            · subst e; rw [hd0] at hdq; cases hdq
            · have := (reachT hT ((okW_at hv.2 hq).2 (by omega))).done' hcl hdq
              rw [hd0] at this
              cases this
          · have := nxM q (by omega) i h
            omega
    refine (heapM id i (by omega) p hpi p2 fun j j1 j2 hj => ?_).trans p3
    have hdj := (reachT hT ((okW_at hv.2 hj).1 j2)).done hcl ho hdep
    rw [p5 j hj j1] at hdj
    cases hdj
  have hver : ∀ id, visW T W (S 0).nx i (C i) id = true → ∀ p, p ≤ m → id < (S p).nx → (∀ j, (j, id) ∈ W → p ≤ j → d j = false) → (p = 0 ∨ ∃ q, p = q + 1 ∧ d q = true ∧ ((q, id) ∈ W ∨ (S q).nx ≤ id)) → look .dead (S i).heap id = look AB.dead (S p).heap id := by
    intro id hv p p1 p2 p5 p6
    unfold visW at hv
    rw [Bool.and_eq_true] at hv
    obtain ⟨h1, h2⟩ := hvis id hv.1
    have hpi : p ≤ i := by
      rcases p6 with rfl | ⟨q, rfl, hdq, hq⟩
      · exact Nat.zero_le _
      · rcases Nat.lt_or_ge q i with h | h
        · omega
        · exfalso
          rcases hq with hq | hq
          · by_cases e : q = i
            · subst e; rw [hd0] at hdq; cases hdq
            · have := (reachT hT ((okW_at hv.2 hq).2 (by omega))).done' hcl hdq
              rw [hd0] at this
              cases this
          · have := nxM q (by omega) i h
            omega
    refine heapE id i (by omega) p hpi p2 fun j j1 j2 hj => ?_
    have hdj := (reachT hT ((okW_at hv.2 hj).1 j2)).done hcl ho hdep
    rw [p5 j hj j1] at hdj
    cases hdj
  have hregs : ∀ t, Les (look AV.any (lregs l.toArray (S i) o) t) (R t) := by
    intro t
    by_cases ht : t ∈ o.looksAt l.toArray
    · rcases (look_pick (f := fun t => look AV.any (S i).regs t) (l := o.looksAt l.toArray) (dd := AV.any) (t := t)) with e | e
      · show Les (look AV.any ((o.looksAt l.toArray).map fun t => (t, look AV.any (S i).regs t)) t) _
        rw [e]; exact hlook t ht
      · show Les (look AV.any ((o.looksAt l.toArray).map fun t => (t, look AV.any (S i).regs t)) t) _
        rw [e]; exact .any _
    · show Les (look AV.any ((o.looksAt l.toArray).map fun t => (t, look AV.any (S i).regs t)) t) _
      rw [look_pick_in ht]; exact .any _
  have hrel : RelG K n (lcl l.toArray T W M (S 0).nx i (C i) (S i) o (S m).nx) a w G := by
    refine RelP.rel' hR hregs (fun id => ?_) rfl
    rw [lcl_heap]
    cases hv : visW T W (S 0).nx i (C i) id with
    | false =>
      simp only [cond_false]
      rcases Nat.lt_or_ge id (S 0).nx with hlt | hge
      · obtain ⟨p, p1, p2, p3, _⟩ := I3 id (lvD_iff.2 (.inl hlt))
        exact (hMall p p1 id).trans p3
      · rw [hM0 id hge]; exact .dead _
    | true => exact hcont id hv
  have keep : ∀ id, (i, id) ∉ W → lvD S m (S 0).nx d id = true → ∃ p, p ≤ m ∧ id < (S p).nx ∧ LesB (look .dead (S p).heap id) (look .dead hpp id) ∧ (∀ j, (j, id) ∈ W → j < p → upd d i j = true) ∧ (∀ j, (j, id) ∈ W → p ≤ j → upd d i j = false) ∧ (p = 0 ∨ ∃ q, p = q + 1 ∧ upd d i q = true ∧ ((q, id) ∈ W ∨ (S q).nx ≤ id)) := by
    intro id hni hlv
    obtain ⟨p, p1, p2, p3, p4, p5, p6⟩ := I3 id hlv
    refine ⟨p, p1, p2, p3, fun j hj h => ?_, fun j hj h => ?_, p6.imp (fun h => h) fun ⟨q, e, hq, hw⟩ => ⟨q, e, by simp [upd, hq], hw⟩⟩
    · rw [upd_ne (fun e => hni (by rw [← e]; exact hj))]; exact p4 j hj h
    · rw [upd_ne (fun e => hni (by rw [← e]; exact hj))]; exact p5 j hj h
  have ho0 := ho
  obtain ⟨s', hloc, heq⟩ := hL i o hi ho
  have hdone : ∀ j, upd d i j = true ↔ d j = true ∨ j = i := fun j => by simp [upd]
  have J1 : ∀ (x : AV), (∀ t, o.dst = some t → Les (look .any (S (i + 1)).regs t) x) → ∀ j o' t, j < m → l[j]? = some o' → upd d i j = true → o'.dst = some t → Les (look .any (S (j + 1)).regs t) (updR R o.dst x t) := by
    intro x hx j o' t hj ho' hdj hdst
    by_cases hji : j = i
    · subst hji
      rw [ho] at ho'
      cases ho'
      rw [hdst]
      show Les _ (if t = t then x else R t)
      rw [if_pos rfl]
      exact hx t hdst
    · have hdj : d j = true := ((hdone j).1 hdj).resolve_right hji
      have hne : o.dst ≠ some t := pa.one j o' t ho' hdst (fun e => hji e.symm)
      have : updR R o.dst x t = R t := by
        cases hdd : o.dst with
        | none => rfl
        | some dd => exact if_neg (fun e => hne (by rw [hdd, e]))
      rw [this]
      exact I1 j o' t hj ho' hdj hdst
  have J2 : ∀ (x : AV) t, (∀ j o', j < m → l[j]? = some o' → upd d i j = true → o'.dst ≠ some t) → Les (look .any (S 0).regs t) (updR R o.dst x t) := by
    intro x t hno
    have hne : o.dst ≠ some t := hno i o hi ho ((hdone i).2 (.inr rfl))
    have : updR R o.dst x t = R t := by
      cases hdd : o.dst with
      | none => rfl
      | some dd => exact if_neg (fun e => hne (by rw [hdd, e]))
    rw [this]
    exact I2 t fun j o' hj ho' hdj => hno j o' hj ho' ((hdone j).2 (.inl hdj))
  have lvSame : (S (i + 1)).nx = (S i).nx → lvD S m (S 0).nx (upd d i) = lvD S m (S 0).nx d := by
    intro hn
    funext id
    rw [Bool.eq_iff_iff, lvD_iff, lvD_iff]
    constructor
    · rintro (h | ⟨j, h1, h2, h3, h4⟩)
      · exact .inl h
      · rcases (hdone j).1 h2 with h2 | h2
        · exact .inr ⟨j, h1, h2, h3, h4⟩
        · subst h2; omega
    · rintro (h | ⟨j, h1, h2, h3, h4⟩)
      · exact .inl h
      · exact .inr ⟨j, h1, (hdone j).2 (.inl h2), h3, h4⟩
  have hwant : o.guard = none ∨ gst l.toArray o (lcl l.toArray T W M (S 0).nx i (C i) (S i) o 0) = some true → Region.wanted o (yielded l.toArray a.tmps) = true := by
    rintro (hg | hg)
    · exact wanted_none hg a
    · obtain ⟨dd, want, g1, g2⟩ := gst_yes hg
      exact wanted_of (st := lcl l.toArray T W M (S 0).nx i (C i) (S i) o (S m).nx) g1 g2 K a w G hrel
  have lvmono : ∀ id, vis T (S 0).nx i (C i) id = true → lvD S m (S 0).nx d id = true := fun id h => (hvis id h).1
  have putSelf : ∀ (st : ASt) (x : AV), s' = st.put o.dst x → ∀ t, o.dst = some t → Les (look .any (S (i + 1)).regs t) x := by
    intro st x e t ht
    have := heq.regs t
    rw [e, ht, put_self] at this
    exact this
  generalize C (i + 1) = cr' at hloc
  cases hloc with
  | @read x hW hw h hn =>
    rw [if_pos (hwant hw)]
    obtain ⟨v, h1, h2⟩ := (h (S m).nx).out K a w G hrel
    have hnx : (S (i + 1)).nx = (S i).nx := by rw [heq.nx, put_nx]
    unfold Oper.wp
    rw [h1 w (Below.refl _ _)]
    exact ⟨_, hpp, G, by rw [lvSame hnx]; exact hR.put (h 0).dst h2 (nmd_mono lvmono _ hn), J1 x (putSelf _ x rfl), J2 x, by rw [lvSame hnx]; exact fun id => keep id (noW_at hW id)⟩
  | @call x hW hw h hn =>
    rw [if_pos (hwant hw)]
    obtain ⟨F, args, h1, h2⟩ := (h (S m).nx).out K a w G hrel
    have hnx : (S (i + 1)).nx = (S i).nx := by rw [heq.nx, put_nx]
    unfold Oper.wp
    rw [h1]
    refine h2.mono fun e w' ⟨v, e1, e2, e3⟩ => ?_
    subst e1
    exact ⟨_, hpp, G, by rw [lvSame hnx]; exact (hR.same e2).put (h 0).dst e3 (nmd_mono lvmono _ hn), J1 x (putSelf _ x rfl), J2 x, by rw [lvSame hnx]; exact fun id => keep id (noW_at hW id)⟩
  | @skip hW hw hd =>
    obtain ⟨dd, want, g1, g2⟩ := gst_no hw
    rw [if_neg (by rw [unwanted_of (st := lcl l.toArray T W M (S 0).nx i (C i) (S i) o (S m).nx) g1 g2 hrel]; decide)]
    have hnx : (S (i + 1)).nx = (S i).nx := by rw [heq.nx, put_nx]
    exact ⟨_, hpp, G, by rw [lvSame hnx]; exact hR.put hd (.dat .und) rfl, J1 .und (putSelf _ .und rfl), J2 .und, by rw [lvSame hnx]; exact fun id => keep id (noW_at hW id)⟩
  | @new b hW hN hw h hn =>
    rw [if_pos (hwant hw)]
    obtain ⟨v, w', h1, h2⟩ := (h (S m).nx).out K a w G hrel
    have hnx : (S (i + 1)).nx = (S i).nx + 1 := by rw [heq.nx, put_nx]; rfl
    have hge : (S 0).nx ≤ (S i).nx := nxM i (by omega) 0 (Nat.zero_le _)
    have hfree : lvD S m (S 0).nx d (S i).nx = false := by
      rw [Bool.eq_false_iff]
      intro hlv
      rcases lvD_iff.1 hlv with h | ⟨j, g1, g2, g3, g4⟩
      · omega
      · rcases Nat.lt_trichotomy j i with hlt | e | hlt
        · have := nxM i (by omega) (j + 1) (by omega); omega
        · subst e; rw [hd0] at g2; cases g2
        · have := nxM j (by omega) (i + 1) (by omega); omega
    have hlt : (S i).nx < (S m).nx := by have := nxM m (Nat.le_refl _) (i + 1) (by omega); omega
    have hlv' : lvD S m (S 0).nx (upd d i) = fun id => lvD S m (S 0).nx d id || Nat.beq id (S i).nx := by
      funext id
      rw [Bool.eq_iff_iff, lvD_iff, Bool.or_eq_true, lvD_iff]
      constructor
      · rintro (h | ⟨j, h1, h2, h3, h4⟩)
        · exact .inl (.inl h)
        · rcases (hdone j).1 h2 with h2 | h2
          · exact .inl (.inr ⟨j, h1, h2, h3, h4⟩)
          · subst h2
            right
            have e : id = (S j).nx := by omega
            rw [e]; exact Nat.beq_refl _
      · rintro ((h | ⟨j, h1, h2, h3, h4⟩) | h)
        · exact .inl h
        · exact .inr ⟨j, h1, (hdone j).2 (.inl h2), h3, h4⟩
        · have := Nat.eq_of_beq_eq_true h
          exact .inr ⟨i, hi, (hdone i).2 (.inr rfl), by omega, by omega⟩
    obtain ⟨hR2, hv⟩ := hR.newAt hfree hlt h2 (abnmd_mono lvmono hn)
    unfold Oper.wp
    rw [h1]
    have hb : LesB (look AB.dead (S (i + 1)).heap (S i).nx) b := by
      have := heq.heap (S i).nx
      rw [put_heap'] at this
      have e1 : look AB.dead ((S i).hnew b).heap (S i).nx = b := look_self _ _ _ _
      rw [e1] at this
      exact this
    refine ⟨_, ((S i).nx, b) :: hpp, G.at (S i).nx v (lnB b) (szB b), ?_, J1 (refB b (S i).nx) (putSelf _ _ rfl), J2 _, fun id hid => ?_⟩
    · rw [hlv']
      refine hR2.put (h 0).dst hv ?_
      cases b with
      | dead => rfl
      | box cs e => simp [refB, AV.nmd]
      | row sz rows e => simp [refB, AV.nmd]
    · rw [hlv'] at hid
      by_cases e : (S i).nx = id
      · subst e
        refine ⟨i + 1, by omega, by omega, by rw [look_cons, if_pos rfl]; exact hb, fun j hj hlt2 => ?_, fun j hj hge2 => ?_, .inr ⟨i, rfl, (hdone i).2 (.inr rfl), .inr (Nat.le_refl _)⟩⟩
        · have := (newW_at hN hj).1; omega
        · rw [upd_ne (by omega)]
          cases hdj : d j with
          | false => rfl
          | true =>
            have := (reachT hT (newW_at hN hj).2).done' hcl hdj
            rw [hd0] at this
            cases this
      · rw [Bool.or_eq_true] at hid
        obtain ⟨p, p1, p2, p3, p4, p5, p6⟩ := keep id (noW_at hW id) (hid.resolve_right fun h => e (Nat.eq_of_beq_eq_true h).symm)
        exact ⟨p, p1, p2, by rw [look_cons, if_neg e]; exact p3, p4, p5, p6⟩
  | @write id b x L hLL hw hv hm hu h hb hn =>
    rw [if_pos (hwant hw)]
    have hnx : (S (i + 1)).nx = (S i).nx := by rw [heq.nx, put_nx]; rfl
    have hv1 : vis T (S 0).nx i (C i) id = true := by unfold visW at hv; rw [Bool.and_eq_true] at hv; exact hv.1
    have hv2 : okW T W i id = true := by unfold visW at hv; rw [Bool.and_eq_true] at hv; exact hv.2
    -- the blocks that the operation looks at, as the text has them
    let hp2 : List (Nat × AB) := L.map (fun j => (j, look .dead (S i).heap j)) ++ hpp
    have hlk : ∀ j, (j ∈ L ∧ look AB.dead hp2 j = look .dead (S i).heap j) ∨ (look AB.dead hp2 j = look .dead hpp j) := by
      intro j
      show (_ ∧ look AB.dead (L.map (fun j => (j, look .dead (S i).heap j)) ++ hpp) j = _) ∨ look AB.dead (L.map (fun j => (j, look .dead (S i).heap j)) ++ hpp) j = _
      rw [look_append]
      clear hLL h
      induction L with
      | nil => exact .inr rfl
      | cons c L ih =>
        rw [List.map_cons, look_cons]
        by_cases e : c = j
        · subst e; rw [if_pos rfl]; exact .inl ⟨by simp, rfl⟩
        · rw [if_neg e]
          exact ih.imp (fun ⟨g1, g2⟩ => ⟨List.mem_cons_of_mem _ g1, g2⟩) (fun g => g)
    have hlkL : ∀ j ∈ L, look AB.dead hp2 j = look .dead (S i).heap j := by
      intro j hj
      show look AB.dead (L.map (fun j => (j, look .dead (S i).heap j)) ++ hpp) j = _
      rw [look_append]
      clear hLL h hlk
      induction L with
      | nil => cases hj
      | cons c L ih =>
        rw [List.map_cons, look_cons]
        by_cases e : c = j
        · subst e; rw [if_pos rfl]
        · rw [if_neg e]
          exact ih ((List.mem_cons.1 hj).resolve_left fun e' => e e'.symm)
    have hRP : RelP K n R hp2 (S m).nx (lvD S m (S 0).nx d) a w G := by
      refine RelP.lesH hR (fun j => ?_) (fun j => ?_) (fun j hj => ?_)
      · rcases hlk j with ⟨g1, g2⟩ | g2
        · rw [g2]; exact hcont j (hLL j g1).1
        · rw [g2]; exact .refl _
      · rcases hlk j with ⟨g1, g2⟩ | g2
        · rw [g2]; exact abnmd_mono lvmono (hLL j g1).2
        · rw [g2]; exact hR.bnm j
      · rcases hlk j with ⟨g1, g2⟩ | g2
        · have := (hLL j g1).1
          unfold visW at this
          rw [Bool.and_eq_true] at this
          rw [lvmono j this.1] at hj
          cases hj
        · rw [g2]; exact (hR.free j hj).1
    have hRG : RelG ⟨K.w0, w, G⟩ n ⟨lregs l.toArray (S i) o, hp2, (S m).nx⟩ a w G := by
      have r := RelP.rel' hRP (st := ⟨lregs l.toArray (S i) o, hp2, (S m).nx⟩) hregs (fun _ => .refl _) rfl
      exact ⟨r.nx, r.hr, Ext.refl _ _, r.size, r.defers, r.regs⟩
    have hop' := h hp2 (S m).nx hlkL
    obtain ⟨v, w', G', h1, h2, h3, h4, h5, h6⟩ := hop'.out _ a w G hRG
    have hxm : x.nmd (lvD S m (S 0).nx d) = true := nmd_mono lvmono _ hn
    have hbm : b.nmd (lvD S m (S 0).nx d) = true := abnmd_mono lvmono hb
    have hRP2 : RelP K n (updR R o.dst x) ((id, b) :: hpp) (S m).nx (lvD S m (S 0).nx d) (a.put o.dst v) w' G' := by
      have hHR : HR K.w0 w' G' ((id, b) :: hpp) := by
        refine ⟨h2.bs, h2.below, h2.ownlt, fun j => ?_, h2.dist, h2.ownhas⟩
        rw [look_cons]
        split
        · rename_i e
          subst e
          have := h2.blk id
          rw [look_self] at this
          exact this
        · rename_i e
          obtain ⟨g1, g2, g3⟩ := h5 j (Ne.symm e)
          exact (hR.hr.blk j).step h3 fun hj => ⟨g1, g2, g3 hj⟩
      have base : RelP K n R ((id, b) :: hpp) (S m).nx (lvD S m (S 0).nx d) a w' G' := by
        refine ⟨h4.trans hR.nx, hHR, hR.ext.trans h3, hR.size, hR.defers, fun t => (hR.regs t).ext h3, hR.rnm, fun j => ?_, fun j hj => ?_, hR.old⟩
        · rw [look_cons]
          split
          · exact hbm
          · exact hR.bnm j
        · have hne : id ≠ j := fun e => by subst e; rw [lvmono _ hv1] at hj; cases hj
          rw [look_cons, if_neg hne]
          obtain ⟨g1, g2⟩ := hR.free j hj
          exact ⟨g1, fun hlt => by rw [(h5 j (Ne.symm hne)).1]; exact g2 hlt⟩
      exact base.put hop'.dst h6 hxm
    have fin : InvG K n l W S m (S 0).nx (upd d i) (a.put o.dst v) w' := by
      refine ⟨_, (id, b) :: hpp, G', by rw [lvSame hnx]; exact hRP2, J1 x (putSelf _ x rfl), J2 x, fun id' hid' => ?_⟩
      rw [lvSame hnx] at hid'
      by_cases e : id = id'
      · subst e
        refine ⟨i + 1, by omega, by have := (hvis id hv1).2; omega, ?_, fun j hj hlt2 => ?_, fun j hj hge2 => ?_, .inr ⟨i, rfl, (hdone i).2 (.inr rfl), .inl hm⟩⟩
        · rw [look_cons, if_pos rfl]
          have := heq.heap id
          rw [put_heap'] at this
          have e1 : look AB.dead ((S i).hset id b).heap id = b := look_self _ _ _ _
          rw [e1] at this
          exact this
        · rcases Nat.lt_or_ge j i with g | g
          · exact (hdone j).2 (.inl ((reachT hT ((okW_at hv2 hj).1 g)).done hcl ho hdep))
          · exact (hdone j).2 (.inr (by omega))
        · rw [upd_ne (by omega)]
          cases hdj : d j with
          | false => rfl
          | true =>
            have := (reachT hT ((okW_at hv2 hj).2 (by omega))).done' hcl hdj
            rw [hd0] at this
            cases this
      · obtain ⟨p, p1, p2, p3, p4, p5, p6⟩ := keep id' (fun hj => e (onlyW_at hu hj).symm) hid'
        exact ⟨p, p1, p2, by rw [look_cons, if_neg e]; exact p3, p4, p5, p6⟩
    unfold Oper.wp
    rcases h1 with h1 | ⟨h1, hvu⟩
    · rw [h1]; exact fin
    · subst hvu; rw [h1]; exact fin
  | @op st2 L hp0 hw h hd hn hN hv hs ht hr hx hW hu hM =>
    rw [if_pos (hwant hw)]
    have hnx : (S (i + 1)).nx = st2.nx := by rw [heq.nx, put_nx]
    have hge : (S 0).nx ≤ (S i).nx := nxM i (by omega) 0 (Nat.zero_le _)
    have hvis1 : ∀ id ∈ L, vis T (S 0).nx i (C i) id = true := fun id hid => by
      have := (hv id hid).2
      unfold visW at this
      rw [Bool.and_eq_true] at this
      exact this.1
    have hlvL : ∀ id, hasN L id = true → lvD S m (S 0).nx d id = true := fun id hid => lvmono id (hvis1 id (hasN_mem hid))
    have hdis : ∀ id, lvD S m (S 0).nx d id = true → newN (S i).nx st2.nx id = false := fun id hlv => by
      rw [Bool.eq_false_iff]
      intro hnw
      have hnw := newN_iff.1 hnw
      rcases lvD_iff.1 hlv with h | ⟨j, g1, g2, g3, g4⟩
      · omega
      · rcases Nat.lt_trichotomy j i with hlt | e | hlt
        · have := nxM i (by omega) (j + 1) (by omega); omega
        · subst e; rw [hd0] at g2; cases g2
        · have := nxM j (by omega) (i + 1) (by omega); omega
    have hlv' : ∀ id, lvD S m (S 0).nx (upd d i) id = true ↔ lvD S m (S 0).nx d id = true ∨ newN (S i).nx st2.nx id = true := fun id => by
      rw [lvD_iff, lvD_iff, newN_iff]
      constructor
      · rintro (h | ⟨j, h1, h2, h3, h4⟩)
        · exact .inl (.inl h)
        · rcases (hdone j).1 h2 with h2 | h2
          · exact .inl (.inr ⟨j, h1, h2, h3, h4⟩)
          · subst h2; right; omega
      · rintro ((h | ⟨j, h1, h2, h3, h4⟩) | h)
        · exact .inl h
        · exact .inr ⟨j, h1, (hdone j).2 (.inl h2), h3, h4⟩
        · exact .inr ⟨i, hi, (hdone i).2 (.inr rfl), by omega, by omega⟩
    have lvUp : ∀ id, lvD S m (S 0).nx d id = true → lvD S m (S 0).nx (upd d i) id = true := fun id h => (hlv' id).2 (.inl h)
    have hqL : ∀ id, orN (hasN L) (S i).nx st2.nx id = true → lvD S m (S 0).nx (upd d i) id = true := fun id hid => by
      rcases orN_iff.1 hid with h | h
      · exact lvUp id (hlvL id h)
      · exact (hlv' id).2 (.inr (newN_iff.2 h))
    have hRP : RelP K n R (onL L (look .dead hp0) hpp) (S m).nx (lvD S m (S 0).nx d) a w G := by
      refine RelP.lesH hR (fun j => ?_) (fun j => ?_) (fun j hj => ?_)
      · by_cases e : j ∈ L
        · rw [onL_in e]
          rcases hs j with h' | ⟨_, h', _⟩
          · rw [h']; exact .dead _
          · rw [h']; exact hcont j (hv j e).2
        · rw [onL_out e]; exact .refl _
      · by_cases e : j ∈ L
        · rw [onL_in e]
          rcases hs j with h' | ⟨_, _, h'⟩
          · rw [h']; rfl
          · exact abnmd_mono hlvL h'
        · rw [onL_out e]; exact hR.bnm j
      · by_cases e : j ∈ L
        · rw [lvmono j (hvis1 j e)] at hj; cases hj
        · rw [onL_out e]; exact (hR.free j hj).1
    have hmi : st2.nx ≤ (S m).nx := by rw [← hnx]; exact nxM m (Nat.le_refl _) (i + 1) (by omega)
    refine OpY.run (Hp := onL L (look .dead hp0) hpp) (p := hasN L) (k2 := st2.nx) h hd (fun id hid => (hv id (hasN_mem hid)).1) rfl (fun id => ?_) (fun id => ?_) hr hx hRP.hr (by rw [hR.nx]; exact hmi) hR.size hR.defers (fun t => (hregs t).rel (hR.regs t)) (fun v w' G' ho hvv => ?_)
    · rcases hs id with h' | ⟨h1, h2, h3⟩
      · exact .inl h'
      · exact .inr ⟨hasN_of' h1, by rw [onL_in h1], h3⟩
    · exact ht id
    have memLL : ∀ j, j ∈ L ++ news (S i).nx st2.nx ↔ orN (hasN L) (S i).nx st2.nx j = true := fun j => by
      rw [List.mem_append, orN_iff, news_mem]
      constructor
      · rintro (h | h)
        · exact .inl (hasN_of' h)
        · exact .inr h
      · rintro (h | h)
        · exact .inl (hasN_mem h)
        · exact .inr h
    have hno : ∀ j, j ∉ L ++ news (S i).nx st2.nx → orN (hasN L) (S i).nx st2.nx j = false := fun j hj => by
      rw [Bool.eq_false_iff]
      intro h'
      exact hj ((memLL j).2 h')
    have hmv : Mv (lvD S m (S 0).nx d) w G w (patch G G' (newN (S i).nx st2.nx)) := patch_mv hdis
    have hextP : Ext K.w1 K.G1 w (patch G G' (newN (S i).nx st2.nx)) := by
      refine ⟨hR.ext.size, hR.ext.keep, hR.ext.own2, hR.ext.nx, hR.ext.bs, fun id hid => ?_⟩
      have hn' : ¬ (newN (S i).nx st2.nx id = true) := by rw [hdis id (hR.old id hid)]; decide
      have e1 : (patch G G' (newN (S i).nx st2.nx)).ρ id = G.ρ id := if_neg hn'
      have e2 : (patch G G' (newN (S i).nx st2.nx)).ln id = G.ln id := if_neg hn'
      have e3 : (patch G G' (newN (S i).nx st2.nx)).sz id = G.sz id := if_neg hn'
      rw [e1, e2, e3]
      exact hR.ext.gh id hid
    have hRP2 : RelP K n (updR R o.dst (dstV st2 o.dst)) (onL (L ++ news (S i).nx st2.nx) (look .dead st2.heap) hpp) (S m).nx (lvD S m (S 0).nx (upd d i)) (a.put o.dst v) w' G' := by
      have hHR : HR K.w0 w' G' (onL (L ++ news (S i).nx st2.nx) (look .dead st2.heap) hpp) := by
        refine ⟨ho.hr.bs, ho.hr.below, ho.hr.ownlt, fun j => ?_, ho.hr.dist, ho.hr.ownhas⟩
        by_cases e : j ∈ L ++ news (S i).nx st2.nx
        · rw [onL_in e]; exact ho.hr.blk j
        · rw [onL_out e]
          cases hlj : lvD S m (S 0).nx d j with
          | false => rw [(hR.free j hlj).1]; trivial
          | true =>
            obtain ⟨g1, g2, g3⟩ := ho.same j (hno j e)
            have hn' : ¬ (newN (S i).nx st2.nx j = true) := by rw [hdis j hlj]; decide
            have e1 : (patch G G' (newN (S i).nx st2.nx)).ρ j = G.ρ j := if_neg hn'
            have e2 : (patch G G' (newN (S i).nx st2.nx)).ln j = G.ln j := if_neg hn'
            exact ((hR.hr.blk j).mv hmv (hR.bnm j) (.inr hlj) (fun g _ => rfl)).step ho.ext fun hj => ⟨by rw [e1]; exact g1, by rw [e2]; exact g2, by rw [e1]; exact g3 hj⟩
      have base : RelP K n R (onL (L ++ news (S i).nx st2.nx) (look .dead st2.heap) hpp) (S m).nx (lvD S m (S 0).nx (upd d i)) a w' G' := by
        refine ⟨ho.nx.trans hR.nx, hHR, hextP.trans ho.ext, hR.size, hR.defers, fun t => ((hR.regs t).mv hmv (hR.rnm t)).ext ho.ext, fun t => nmd_mono lvUp _ (hR.rnm t), fun j => ?_, fun j hj => ?_, fun j hj => lvUp j (hR.old j hj)⟩
        · by_cases e : j ∈ L ++ news (S i).nx st2.nx
          · rw [onL_in e]
            rcases ht j with h' | ⟨_, h'⟩
            · rw [h']; rfl
            · exact abnmd_mono hqL (pfB_nmd h')
          · rw [onL_out e]; exact abnmd_mono lvUp (hR.bnm j)
        · have e : j ∉ L ++ news (S i).nx st2.nx := fun e => by rw [hqL j ((memLL j).1 e)] at hj; cases hj
          have hj' : lvD S m (S 0).nx d j = false := by
            rw [Bool.eq_false_iff]
            intro h'
            rw [lvUp j h'] at hj; cases hj
          rw [onL_out e]
          obtain ⟨g1, g2⟩ := hR.free j hj'
          exact ⟨g1, fun hlt => by rw [(ho.same j (hno j e)).1]; exact g2 hlt⟩
      exact base.put hd hvv (nmd_mono hqL _ (pf_nmd _ hx))
    refine ⟨_, onL (L ++ news (S i).nx st2.nx) (look .dead st2.heap) hpp, G', hRP2, J1 (dstV st2 o.dst) (putSelf _ _ rfl), J2 _, fun id' hid' => ?_⟩
    have hheap : ∀ id', id' ∈ L ++ news (S i).nx st2.nx → LesB (look AB.dead (S (i + 1)).heap id') (look .dead (onL (L ++ news (S i).nx st2.nx) (look .dead st2.heap) hpp) id') := fun id' e => by
      rw [onL_in e]
      have := heq.heap id'
      rw [put_heap'] at this
      have e1 : look AB.dead (onL (L ++ news (S i).nx st2.nx) (look .dead st2.heap) (S i).heap) id' = look .dead st2.heap id' := onL_in e
      exact e1 ▸ this
    by_cases hw' : (i, id') ∈ W
    · have e := hW id' hw'
      have hv2 : okW T W i id' = true := by
        have := (hv id' e).2
        unfold visW at this; rw [Bool.and_eq_true] at this; exact this.2
      refine ⟨i + 1, by omega, by have := (hv id' e).1; omega, hheap id' (List.mem_append.2 (.inl e)), fun j hj hlt2 => ?_, fun j hj hge2 => ?_, .inr ⟨i, rfl, (hdone i).2 (.inr rfl), .inl hw'⟩⟩
      · rcases Nat.lt_or_ge j i with g | g
        · exact (hdone j).2 (.inl ((reachT hT ((okW_at hv2 hj).1 g)).done hcl ho0 hdep))
        · exact (hdone j).2 (.inr (by omega))
      · rw [upd_ne (by omega)]
        cases hdj : d j with
        | false => rfl
        | true =>
          have := (reachT hT ((okW_at hv2 hj).2 (by omega))).done' hcl hdj
          rw [hd0] at this
          cases this
    · rcases (hlv' id').1 hid' with hid2 | hnw
      · obtain ⟨p, p1, p2, p3, p4, p5, p6⟩ := I3 id' hid2
        obtain ⟨p', q1, q2, q3, q4, q5, q6⟩ := keep id' hw' hid2
        by_cases e : id' ∈ L
        · refine ⟨p, p1, p2, ?_, fun j hj hlt => ?_, fun j hj hge => ?_, p6.imp (fun h => h) fun ⟨q, e, hq, hw⟩ => ⟨q, e, by simp [upd, hq], hw⟩⟩
          · rw [onL_in (List.mem_append.2 (.inl e)), (hu id' e).resolve_left hw', hver id' (hv id' e).2 p p1 p2 p5 p6]
            exact .refl _
          · rw [upd_ne (fun e => hw' (by rw [← e]; exact hj))]; exact p4 j hj hlt
          · rw [upd_ne (fun e => hw' (by rw [← e]; exact hj))]; exact p5 j hj hge
        · have e2 : id' ∉ L ++ news (S i).nx st2.nx := fun h' => by
            rcases List.mem_append.1 h' with h' | h'
            · exact e h'
            · have := hdis id' hid2
              rw [newN_iff.2 (news_mem.1 h')] at this
              cases this
          exact ⟨p', q1, q2, by rw [onL_out e2]; exact q3, q4, q5, q6⟩
      · have hnw2 := newN_iff.1 hnw
        have hNi := hN id' hnw2.1 hnw2.2
        refine ⟨i + 1, by omega, by omega, hheap id' (List.mem_append.2 (.inr (news_mem.2 hnw2))), fun j hj hlt2 => ?_, fun j hj hge2 => ?_, .inr ⟨i, rfl, (hdone i).2 (.inr rfl), .inr hnw2.1⟩⟩
        · have := (newW_at hNi hj).1; omega
        · rw [upd_ne (by omega)]
          cases hdj : d j with
          | false => rfl
          | true =>
            have := (reachT hT (newW_at hNi hj).2).done' hcl hdj
            rw [hd0] at this
            cases this
theorem AG.last (hp : ∀ i o, l[i]? = some o → PlanR l n i o) (hml : m ≤ l.length)
    (hC0 : C 0 = []) (hL : ∀ j o, j < m → l[j]? = some o → ∃ s', Loc P n l.toArray T W M (S 0).nx j (C j) o (S j) s' (C (j + 1)) ∧ LeS (S (j + 1)) s') (hdead : ∀ id, (S 0).nx ≤ id → look .dead (S 0).heap id = .dead)
    {K : Kn} {d : Nat → Bool} {a : Act} {w : World} (hall : ∀ i, i < m → d i = true) (h : InvG K n l W S m (S 0).nx d a w) : ∃ G, RelG K n (S m) a w G := by
  obtain ⟨R, hpp, G, hR, I1, I2, I3⟩ := h
  have hop : ∀ j, j < m → ∃ o, l[j]? = some o := fun j hj => ⟨l[j], List.getElem?_eq_getElem (by omega)⟩
  have regM : ∀ t q, q ≤ m → ∀ p, p ≤ q → (∀ j o, p ≤ j → j < q → l[j]? = some o → o.dst ≠ some t) → Les (look AV.any (S q).regs t) (look .any (S p).regs t) := by
    intro t q
    induction q with
    | zero => intro _ p hp _; obtain rfl : p = 0 := (by omega); exact .refl _
    | succ q ih =>
      intro hq p hp hno
      rcases Nat.lt_or_ge p (q + 1) with h | h
      · obtain ⟨o, ho⟩ := hop q (by omega)
        obtain ⟨s', h1, h2⟩ := hL q o (by omega) ho
        have e1 := h2.regs t
        rw [h1.regs (hno q o (by omega) (by omega) ho)] at e1
        exact e1.trans (ih (by omega) p (by omega) fun j o hj1 hj2 => hno j o hj1 (by omega))
      · obtain rfl : p = q + 1 := by omega
        exact .refl _
  have heapM : ∀ id q, q ≤ m → ∀ p, p ≤ q → (∀ j, p ≤ j → j < q → (id < (S j).nx ∨ (S (j + 1)).nx ≤ id) ∧ (j, id) ∉ W) → LesB (look AB.dead (S q).heap id) (look .dead (S p).heap id) := by
    intro id q
    induction q with
    | zero => intro _ p hp _; obtain rfl : p = 0 := (by omega); exact .refl _
    | succ q ih =>
      intro hq p hp hno
      rcases Nat.lt_or_ge p (q + 1) with h | h
      · obtain ⟨o, ho⟩ := hop q (by omega)
        obtain ⟨s', h1, h2⟩ := hL q o (by omega) ho
        obtain ⟨g1, g2⟩ := hno q (by omega) (by omega)
        refine (h2.heap id).trans ?_
        have e1 : look AB.dead s'.heap id = look .dead (S q).heap id := h1.heap (by rw [← h2.nx]; exact g1) g2
        rw [e1]
        exact ih (by omega) p (by omega) fun j j1 j2 => hno j j1 (by omega)
      · obtain rfl : p = q + 1 := by omega
        exact .refl _
  have nxM : ∀ q, q ≤ m → ∀ p, p ≤ q → (S p).nx ≤ (S q).nx := by
    intro q
    induction q with
    | zero => intro _ p hp; obtain rfl : p = 0 := (by omega); exact Nat.le_refl _
    | succ q ih =>
      intro hq p hp
      rcases Nat.lt_or_ge p (q + 1) with h | h
      · obtain ⟨o, ho⟩ := hop q (by omega)
        obtain ⟨s', h1, h2⟩ := hL q o (by omega) ho
        have := h1.nx_le
        have := h2.nx
        have := ih (by omega) p (by omega)
        omega
      · obtain rfl : p = q + 1 := by omega
        exact Nat.le_refl _
  have crM : ∀ q, q ≤ m → ∀ c ∈ C q, c.1 < q ∧ (S c.1).nx ≤ c.2 ∧ c.2 < (S (c.1 + 1)).nx := by
    intro q
    induction q with
    | zero => intro _ c hc; rw [hC0] at hc; cases hc
    | succ q ih =>
      intro hq c hc
      obtain ⟨o, ho⟩ := hop q (by omega)
      obtain ⟨s', h1, h2⟩ := hL q o (by omega) ho
      rcases h1.crm c hc with h | ⟨h, h', h''⟩
      · obtain ⟨g1, g2⟩ := ih (by omega) c h
        exact ⟨by omega, g2⟩
      · rw [h]
        exact ⟨by omega, h', by rw [h2.nx]; exact h''⟩
  refine ⟨G, RelP.rel' hR (fun t => ?_) (fun id => ?_) rfl⟩
  · by_cases hw : ∃ (j : Nat) (o' : Oper), j < m ∧ l[j]? = some o' ∧ o'.dst = some t
    · obtain ⟨j, o', hj, ho', hdst⟩ := hw
      exact (regM t m (Nat.le_refl _) (j + 1) (by omega) fun j2 o2 h1 h2 ho2 => (hp j2 o2 ho2).one j o' t ho' hdst (by omega)).trans (I1 j o' t hj ho' (hall j hj) hdst)
    · exact (regM t m (Nat.le_refl _) 0 (Nat.zero_le _) fun j o' _ hj ho' hdst => hw ⟨j, o', hj, ho', hdst⟩).trans (I2 t fun j o' hj ho' _ hdst => hw ⟨j, o', hj, ho', hdst⟩)
  · cases hlv : lvD S m (S 0).nx d id with
    | true =>
      obtain ⟨p, p1, p2, p3, p4, p5, _⟩ := I3 id hlv
      exact (heapM id m (Nat.le_refl _) p p1 fun j j1 j2 => ⟨.inl (by have := nxM j (by omega) p j1; omega), fun hj => by have := p5 j hj j1; rw [hall j j2] at this; cases this⟩).trans p3
    | false =>
      have hno : ¬ (id < (S 0).nx ∨ ∃ j, j < m ∧ d j = true ∧ (S j).nx ≤ id ∧ id < (S (j + 1)).nx) := fun h => by rw [lvD_iff.2 h] at hlv; cases hlv
      have hnl : ∀ j, j < m → (S j).nx ≤ id → id < (S (j + 1)).nx → False := fun j hj e h => hno (.inr ⟨j, hj, hall j hj, e, h⟩)
      have hdd : look AB.dead (S 0).heap id = .dead := hdead id (by omega)
      have hz : ∀ q, q ≤ m → LesB (look AB.dead (S q).heap id) .dead := by
        intro q
        induction q with
        | zero => intro _; rw [hdd]; exact .refl _
        | succ q ih =>
          intro hq
          obtain ⟨o, ho⟩ := hop q (by omega)
          obtain ⟨s', h1, h2⟩ := hL q o (by omega) ho
          refine (h2.heap id).trans ?_
          rcases h1.heap2 id with g | ⟨g1, g2⟩ | g
          · rw [g]; exact ih (by omega)
          · exact (hnl q (by omega) g1 (by rw [h2.nx]; exact g2)).elim
          · unfold vis at g
            rw [Bool.or_eq_true, List.any_eq_true] at g
            rcases g with g | ⟨c, hc, g⟩
            · exact absurd (.inl (by simpa using g)) hno
            · rw [Bool.and_eq_true] at g
              obtain ⟨c1, c2, c3⟩ := crM q (by omega) c hc
              have e := Nat.eq_of_beq_eq_true g.1
              exact (hnl c.1 (by omega) (by rw [← e]; exact c2) (by rw [← e]; exact c3)).elim
      exact (hz m (Nat.le_refl _)).trans (.dead _)
end
/-- a region that draws: its operations in any order, and what lies wholly behind them -/
theorem AW.drawR {P : Program} {n : Nat} {Q : Exit → ASt → Prop} {st : ASt} {id : Nat} {l : List Oper} {T : List (List Nat)} (W : List (Nat × Nat)) (M : List (Nat × AB)) (m : Nat) (hm : P.follows .mixedOrders = true) (hT : ancs l [] = T) (hk : planR l T = true) (htl : tailR l T m = true) (hM0 : ∀ id, st.nx ≤ id → look .dead M id = .dead) (hM1 : ∀ id, LesB (look .dead M id) (look .dead st.heap id))
    (h : AG P n l.toArray T W M st.nx (fun s => AL P n l.toArray Q (l.drop m) s) 0 [] (l.take m) st) : AW P n (.region id l.toArray true) Q st := .mk fun K a w ⟨G, r⟩ => by
  have hT' : AncOk l T := by
    rw [← hT]
    exact ancs_ok l [] (fun i A hA => by simp at hA) rfl
  have hpl := planR_at n hT' hk
  obtain ⟨S, C, e0', hC0, hK, hS⟩ := h.facts
  have e0 := eqv_les e0'
  have hm' : (l.take m).length = min m l.length := by simp
  have r2 : RelG K n (S 0) a w.drew G := (r.same (below_drew' w)).les e0
  have hE : ∀ j o, j < (l.take m).length → l[j]? = some o → ∃ s', Loc P n l.toArray T W M (S 0).nx j (C j) o (S j) s' (C (j + 1)) ∧ Eqv s' (S (j + 1)) := by
    intro j o hj ho
    have := hS j o (by rw [List.getElem?_take, if_pos (by omega)]; exact ho)
    rw [Nat.zero_add, ← e0.nx] at this
    exact this
  have hL : ∀ j o, j < (l.take m).length → l[j]? = some o → ∃ s', Loc P n l.toArray T W M (S 0).nx j (C j) o (S j) s' (C (j + 1)) ∧ LeS (S (j + 1)) s' := fun j o hj ho => by
    obtain ⟨s', h1, h2⟩ := hE j o hj ho
    exact ⟨s', h1, eqv_les h2⟩
  have hM0' : ∀ id, (S 0).nx ≤ id → look .dead M id = .dead := fun id hid => hM0 id (by rw [← e0.nx]; exact hid)
  have hM1' : ∀ id, LesB (look .dead M id) (look .dead (S 0).heap id) := fun id => by rw [← e0'.heap id]; exact hM1 id
  have hdead : ∀ id, (S 0).nx ≤ id → look .dead (S 0).heap id = .dead := by
    intro id hid
    have hkk := r2.hr.blk id
    have hn := r2.nx
    cases hb : look AB.dead (S 0).heap id with
    | dead => rfl
    | box cs e => rw [hb] at hkk; have := hkk.1; omega
    | row sz rows e => rw [hb] at hkk; have := hkk.1; omega
  have hnxM : (S 0).nx ≤ (S (l.take m).length).nx := by
    have : ∀ q, q ≤ (l.take m).length → (S 0).nx ≤ (S q).nx := by
      intro q
      induction q with
      | zero => intro _; exact Nat.le_refl _
      | succ q ih =>
        intro hq
        have hql : q < l.length := by omega
        obtain ⟨s', g1, g2⟩ := hL q l[q] (by omega) (List.getElem?_eq_getElem hql)
        have := g1.nx_le
        have := g2.nx
        have := ih (by omega)
        omega
    exact this _ (Nat.le_refl _)
  have hdr : l.drop (l.take m).length = l.drop m := by
    rw [hm']
    rcases Nat.lt_or_ge m l.length with h | h
    · rw [Nat.min_eq_left (by omega)]
    · rw [Nat.min_eq_right h, List.drop_length, List.drop_eq_nil_of_le h]
  refine wp_region_inv (Inv := InvG K n l W S (l.take m).length (S 0).nx) hm (fun i o ho => (hpl i o (by simpa using ho)).after) (l.take m).length (by omega) ?_ (fun i o d a w hi ho hd0 hcl hdep hI => AG.step' hpl hT' (by omega) hC0 hE hM0' hM1' hi ho hd0 hcl hdep hI) (fun d a w hall hI => ?_) (fun i hi hil j hj => ?_)
  · obtain ⟨G', hR⟩ := r2.reserve (Nat.le_trans r.ext.size (below_drew' w).size) (S (l.take m).length).nx hnxM
    have hlv : lvD S (l.take m).length (S 0).nx (fun _ => false) = fun id => Nat.blt id (S 0).nx := by
      funext id
      rw [Bool.eq_iff_iff, lvD_iff]
      constructor
      · rintro (h | ⟨j, _, h, _⟩)
        · simpa using h
        · cases h
      · intro h; exact .inl (by simpa using h)
    refine ⟨_, _, G', by rw [hlv]; exact hR, fun j o t _ _ h => absurd h (by simp), fun t _ => .refl _, fun id hid => ?_⟩
    rw [hlv] at hid
    have hid : id < (S 0).nx := by simpa using hid
    exact ⟨0, Nat.zero_le _, hid, .refl _, fun j _ h => absurd h (Nat.not_lt_zero _), fun _ _ _ => rfl, .inl rfl⟩
  · obtain ⟨G', hr⟩ := AG.last hpl (by omega) hC0 hL hdead hall hI
    rw [hdr]
    exact AL.out hK K a w ⟨G', hr⟩
  · have hge : m ≤ i := by rw [hm'] at hi; omega
    have := List.all_eq_true.1 htl i (List.mem_range.2 hil)
    rw [Bool.or_eq_true] at this
    rcases this with h | h
    · have h : i < m := by simpa using h
      omega
    · exact reachT hT' (List.all_eq_true.1 h j (List.mem_range.2 hj))
end Go.Proofs.Ytelpkjellakigaa.Rn
/- A run of the abstract machine by one computed function, with regions that draw as RnR has them. No program in sight. -/
namespace Go.Proofs.Ytelpkjellakigaa.Rn
open Go Go.RowKit Go.Proofs.Ytelpkjellakigaa Go.Proofs.Ytelpkjellakigaa.Dr

/-! ### Equal values, equal blocks -/
def strE (s t : ByteArray) : Bool := decide (s.data.toList = t.data.toList)
theorem strE_eq {s t : ByteArray} (h : strE s t = true) : s = t := by
  have := of_decide_eq_true h
  obtain ⟨⟨a⟩⟩ := s
  obtain ⟨⟨b⟩⟩ := t
  have this : a = b := this
  rw [this]
def avE : AV → AV → Bool
  | .any, .any => true
  | .und, .und => true
  | .int k n, .int k' n' => decide (k = k') && decide (n = n')
  | .bool b, .bool b' => b == b'
  | .str s, .str s' => strE s s'
  | .nilp, .nilp => true
  | .nils, .nils => true
  | .nilf, .nilf => true
  | .box i o, .box i' o' => Nat.beq i i' && Nat.beq o o'
  | .elt i n j o, .elt i' n' j' o' => Nat.beq i i' && Nat.beq n n' && Nat.beq j j' && Nat.beq o o'
  | .osl i n, .osl i' n' => Nat.beq i i' && Nat.beq n n'
  | .vsl i n l k, .vsl i' n' l' k' => Nat.beq i i' && Nat.beq n n' && Nat.beq l l' && Nat.beq k k'
  | .agg cs, .agg cs' => go cs cs'
  | .tup cs, .tup cs' => go cs cs'
  | .fn f cs, .fn f' cs' => Nat.beq f f' && go cs cs'
  | _, _ => false
where go : List AV → List AV → Bool
  | [], [] => true
  | a :: l, b :: m => avE a b && go l m
  | _, _ => false
theorem avE_eq : ∀ (a b : AV), avE a b = true → a = b
  | .any, b, h => by cases b <;> first | rfl | (simp [avE] at h)
  | .und, b, h => by cases b <;> first | rfl | (simp [avE] at h)
  | .nilp, b, h => by cases b <;> first | rfl | (simp [avE] at h)
  | .nils, b, h => by cases b <;> first | rfl | (simp [avE] at h)
  | .nilf, b, h => by cases b <;> first | rfl | (simp [avE] at h)
  | .int k n, b, h => by
    cases b <;> simp [avE] at h
    rw [h.1, h.2]
  | .bool k, b, h => by
    cases b <;> simp [avE] at h
    rw [h]
  | .str s, b, h => by
    cases b <;> simp [avE] at h
    rw [strE_eq h]
  | .box .., b, h => by
    cases b <;> simp [avE] at h
    rw [h.1, h.2]
  | .elt .., b, h => by
    cases b <;> simp [avE] at h
    obtain ⟨⟨⟨h1, h2⟩, h3⟩, h4⟩ := h
    rw [h1, h2, h3, h4]
  | .osl .., b, h => by
    cases b <;> simp [avE] at h
    rw [h.1, h.2]
  | .vsl .., b, h => by
    cases b <;> simp [avE] at h
    obtain ⟨⟨⟨h1, h2⟩, h3⟩, h4⟩ := h
    rw [h1, h2, h3, h4]
  | .agg cs, b, h => by
    cases b <;> simp [avE] at h
    rw [avE_go cs _ h]
  | .tup cs, b, h => by
    cases b <;> simp [avE] at h
    rw [avE_go cs _ h]
  | .fn f cs, b, h => by
    cases b <;> simp [avE] at h
    rw [h.1, avE_go cs _ h.2]
  | .peek .., b, h => by cases b <;> simp [avE] at h
  | .ro .., b, h => by cases b <;> simp [avE] at h
where avE_go : ∀ (l m : List AV), avE.go l m = true → l = m
  | [], [], _ => rfl
  | a :: l, b :: m, h => by
    rw [avE.go, Bool.and_eq_true] at h
    rw [avE_eq a b h.1, avE_go l m h.2]
  | [], _ :: _, h => by simp [avE.go] at h
  | _ :: _, [], h => by simp [avE.go] at h
def rowsE : List (List AV) → List (List AV) → Bool
  | [], [] => true
  | a :: l, b :: m => avE.go a b && rowsE l m
  | _, _ => false
theorem rowsE_eq : ∀ (l m : List (List AV)), rowsE l m = true → l = m
  | [], [], _ => rfl
  | a :: l, b :: m, h => by
    rw [rowsE, Bool.and_eq_true] at h
    rw [avE_eq.avE_go a b h.1, rowsE_eq l m h.2]
  | [], _ :: _, h => by simp [rowsE] at h
  | _ :: _, [], h => by simp [rowsE] at h
def abE : AB → AB → Bool
  | .dead, .dead => true
  | .box cs e, .box cs' e' => Nat.beq e e' && avE.go cs cs'
  | .row sz rows e, .row sz' rows' e' => Nat.beq e e' && Nat.beq sz sz' && rowsE rows rows'
  | _, _ => false
theorem abE_eq {a b : AB} (h : abE a b = true) : a = b := by
  cases a with
  | dead => cases b <;> first | rfl | (simp [abE] at h)
  | box cs e =>
    cases b <;> simp [abE] at h
    rw [h.1, avE_eq.avE_go _ _ h.2]
  | row sz rows e =>
    cases b <;> simp [abE] at h
    rw [h.1.1, h.1.2, rowsE_eq _ _ h.2]
/-! ### The blocks that an operation touches -/
def idsV : AV → List Nat
  | .box id _ | .elt id _ _ _ | .osl id _ | .vsl id _ _ _ => [id]
  | .agg cs | .tup cs | .fn _ cs => go cs
  | _ => []
where go : List AV → List Nat
  | [] => []
  | a :: l => idsV a ++ go l
def idsAB : AB → List Nat
  | .dead => []
  | .box cs _ => idsV.go cs
  | .row _ rows _ => rows.flatMap idsV.go
def clo (h : Nat → AB) : Nat → List Nat → List Nat → List Nat
  | 0, _, d => d
  | _ + 1, [], d => d
  | f + 1, x :: t, d => bif hasN d x then clo h f t d else clo h f (idsAB (h x) ++ t) (x :: d)
end Go.Proofs.Ytelpkjellakigaa.Rn
/- Symbolic walks: strings turned into bytes, rows marked, a string's bytes appended. No program in sight. -/
namespace Go.Proofs.Ytelpkjellakigaa
open Go Go.RowKit Go.Lib
set_option linter.unusedSimpArgs false
set_option linter.unusedSectionVars false
set_option linter.unusedVariables false
/-- the bytes of a string as elements -/
def strRows (s : ByteArray) : List (List AV) := s.data.toList.map fun b => [.int .u8 b.toNat]
theorem strRows_len (s : ByteArray) : (strRows s).length = s.size := by
  rw [strRows, List.length_map, Array.length_toList]; rfl
theorem strRows_ok (w : World) (G : Gh) (s : ByteArray) : RowsV w G 1 (strRows s) (strCells s) := by
  refine ⟨by rw [strCells_length, strRows_len, Nat.mul_one], strCells_oneCell s, fun i row hi => ?_⟩
  unfold strRows at hi
  rw [List.getElem?_map] at hi
  cases hb : s.data.toList[i]? with
  | none => rw [hb] at hi; cases hi
  | some b =>
    rw [hb] at hi
    injection hi with hi
    subst hi
    refine ⟨rfl, fun j a hj => ?_⟩
    obtain rfl : j = 0 := by have := (List.getElem?_eq_some_iff.1 hj).1; simp at this; omega
    injection hj with hj
    subst hj
    refine ⟨.int .u8 b.toNat, ?_, .dat (.int _ _)⟩
    rw [Nat.mul_one, Nat.add_zero, strCells, List.getElem?_map, hb]; rfl
theorem bytesCells_size (w : World) (e : TypeId) (s : ByteArray) : (Lib.bytesCells w e s).size = grownCap w s.size 0 e := by
  have := grownCap_ge w s.size 0 e
  unfold Lib.bytesCells
  rw [Array.size_append, Array.size_map, Array.size_replicate]
  show s.size + _ = _
  omega
section
variable {P : Program} {n : Nat} {st : ASt} {d : Option Nat} {ty : TypeId} {ps : String} {af : Array Edge} {g : Option (Nat × Bool)} {x y : Operand} {t t' : TypeId}
theorem op_conv_str {e : TypeId} {s : ByteArray} {u : TypeDesc} (hx : st.ev x = .str s) (hs : P.underlying t = some u) (hT : P.underlying t' = some (.slice e)) (hE : P.underlying e = some (.int .u8)) (hm : s.size ≤ 1000000) (hd : dok d n = true) :
    OpV P n ⟨d, .convert t t' x, ty, ps, af, g⟩ st ((st.hnew (.row 1 (strRows s) e)).put d (.osl st.nx (strRows s).length)) := .mk fun K a w ⟨G, r⟩ => by
  have e1 := r.ev x
  rw [hx] at e1
  have e1 := e1.str'
  have hr := Lib.run_convert_string_bytes (P := P) w t t' e s hs hT hE
  have hge := grownCap_ge w s.size 0 e
  have hcm : grownCap w s.size 0 e ≤ maxLen := grownCap_le_maxLen w s.size 0 e (by simp only [maxLen]; omega)
  have hb : Below w.heap.size w (Lib.bytesWorld w e s) := ⟨rfl, rfl, rfl, by rw [Lib.bytesWorld_size]; omega, fun i hi => Lib.bytesWorld_at_old w e s i hi⟩
  have ho : ownsM (Lib.bytesWorld w e s) w.heap.size e 1 (.slice (some ⟨w.heap.size, 0, none⟩) s.size (grownCap w s.size 0 e)) s.size (strCells s) := by
    refine ⟨by rw [strCells_length, Nat.mul_one], .inr ⟨w.heap.size, _, _, rfl, Nat.le_refl _, ⟨_, .inr (Nat.le_refl _), Lib.bytesWorld_at_new w e s⟩, hge, hcm, by rw [bytesCells_size, Nat.mul_one], ?_⟩⟩
    rw [Nat.mul_one]
    unfold Lib.bytesCells
    rw [Array.toList_append, Array.toList_map]
    show (strCells s ++ _).take s.size = strCells s
    rw [← strCells_length s]
    exact List.take_left
  obtain ⟨r2, hv⟩ := r.newRow hb (rows := strRows s) (sz := 1) (e := e) (by omega) (by rw [strRows_len]; exact ho) (strRows_ok w G s)
  exact ⟨_, _, .inl (by simp [execOp, e1, hr]), _, r2.put (dok_lt hd) hv⟩
/-- a literal's row is marked -/
theorem op_conv_mark {e : TypeId} {id m sz : Nat} {rows : List (List AV)} {e' : TypeId} (hx : st.ev x = .osl id m) (hb : look .dead st.heap id = .row sz rows e') (hm : m = rows.length) (h0 : 0 < m) (hT : P.underlying t = some (.slice e)) (hE : P.underlying e = some (.int .u8)) (hd : dok d n = true) :
    OpV P n ⟨d, .convert t t x, ty, ps, af, g⟩ st ((st.hset id (.row sz rows e')).put d (.osl id m)) := .mk fun K a w ⟨G, r⟩ => by
  subst hm
  have e1 := r.ev x
  rw [hx] at e1
  have hk := r.hr.blk id
  rw [hb] at hk
  obtain ⟨q1, q2, q3, q4, flat, q5, q6, q7⟩ := hk
  have ev : a.eval x = G.ρ id := by
    cases e1 with
    | dat h => cases h
    | osl _ _ _ _ _ _ _ hh => exact hh q4.symm
  rcases q5.2 with ⟨_, h⟩ | ⟨gg, cap, cur, e2, hbase, hh, hcap, hcm, hcs, hct⟩
  · omega
  have hog : G.own gg := r.hr.ownhas id gg q1 (by rw [e2]; rfl)
  have hlt := r.hr.ownlt gg hog
  have hold : ∀ k, k ≠ gg → (w.freeze ⟨gg, cur.size, none⟩ 1).heap[k]? = w.heap[k]? := fun k hk => by
    simp [World.freeze, Array.getElem?_modify, Ne.symm hk]
  have hnew : HasC (w.freeze ⟨gg, cur.size, none⟩ 1) gg cur e' := by
    obtain ⟨fz, f1, f2⟩ := hh
    have hl := (Array.getElem?_eq_some_iff.1 f2).1
    have hv := (Array.getElem?_eq_some_iff.1 f2).2
    obtain ⟨lo, hi⟩ := fz
    refine ⟨if lo == hi then (cur.size, cur.size + 1) else (min lo cur.size, max hi (cur.size + 1)), ?_, ?_⟩
    · rcases f1 with f1 | f1
      · injection f1 with f1 f3
        subst f1; subst f3
        exact .inr (Nat.le_refl _)
      · simp only at f1
        right
        split
        · exact Nat.le_refl _
        · show cur.size ≤ min lo cur.size
          omega
    · simp [World.freeze, Array.getElem?_modify, f2]
  have hsz : (w.freeze ⟨gg, cur.size, none⟩ 1).heap.size = w.heap.size := by simp [World.freeze]
  have hrun : (convert t t (.slice (some ⟨gg, 0, none⟩) rows.length cap)).run P w = .ok (.slice (some ⟨gg, 0, none⟩) rows.length cap) (w.freeze ⟨gg, cur.size, none⟩ 1) := by
    have hs := hh.shape
    simp [convert, run_underlying hT, run_underlying hE, markStringish, freeze, hs]
    rfl
  have hbw : Below K.w0.heap.size w (w.freeze ⟨gg, cur.size, none⟩ 1) := ⟨rfl, rfl, rfl, by rw [hsz]; exact Nat.le_refl _, fun i hi => hold i (by omega)⟩
  have hx2 : Ext w G (w.freeze ⟨gg, cur.size, none⟩ 1) G := by
    refine ⟨by rw [hsz]; exact Nat.le_refl _, fun b hb hl => hold b (fun e => hb (by rw [e]; exact hog)), fun b h => .inl h, Nat.le_refl _, rfl, fun j hj => ⟨Nat.le_refl _, rfl, fun _ => rfl, fun _ => rfl⟩⟩
  have hRV : RowsV w G sz rows flat := ⟨q5.1, q6, q7⟩
  have hRV2 := hRV.ext hx2
  have ho : ownsM (w.freeze ⟨gg, cur.size, none⟩ 1) K.w0.heap.size e' sz (G.ρ id) rows.length flat := ⟨q5.1, .inr ⟨gg, cap, cur, e2, hbase, hnew, hcap, hcm, hcs, hct⟩⟩
  have hHR : HR K.w0 (w.freeze ⟨gg, cur.size, none⟩ 1) G ((id, .row sz rows e') :: st.heap) := by
    refine r.hr.update hx2 (fun _ h => h) hbw id _ (fun id' hne hid' => ⟨rfl, rfl, fun g' hg' => hold g' (fun e1 => ?_)⟩) (fun id' h _ => h) (fun b hb => ?_) ⟨q1, q2, q3, q4, flat, ho, hRV2.one, hRV2.rel⟩ (fun id' g' hid' hne hg' => ?_) (fun g' _ hg' => ?_)
    · subst e1
      exact r.hr.dist id' id g' hid' q1 hne hg' (by rw [e2]; rfl)
    · rw [hsz]; exact r.hr.ownlt b hb
    · intro h2
      exact r.hr.dist id' id g' hid' q1 hne h2 hg'
    · exact r.hr.ownhas id g' q1 hg'
  refine ⟨.slice (some ⟨gg, 0, none⟩) rows.length cap, _, .inl ?_, G, (r.turn st.nx r.nx hHR hx2).put (dok_lt hd) ?_⟩
  · simp [execOp, ev, e2, hrun]
  · have := e1.ext hx2
    rw [ev, e2] at this
    exact this
/-! ### a string's bytes appended -/
theorem run_append_room_strM (w : World) (t u ty e : TypeId) (i : TypeInfo) (ht : P.underlying t = some (.slice e)) (hu : P.underlying u = some .string) (hi : P.info? e = some i) (hs1 : i.size = 1)
    (g sLen sCap : Nat) (cur : Array Value) (hg : HasC w g cur e) (s : ByteArray) (hroom : sLen + s.size ≤ sCap) (hfit : sLen + s.size ≤ cur.size) :
    (Builtin.append_ #[t, u] ty #[.slice (some ⟨g, 0, none⟩) sLen sCap, .string s]).run P w =
      .ok (.slice (some ⟨g, 0, none⟩) (sLen + s.size) sCap) (w.setRow g (cur.toList.take sLen ++ strCells s ++ cur.toList.drop (sLen + s.size)).toArray) := by
  have hf := run_firstCells_string (P := P) w 1 s
  have hst := run_storeCells_M (P := P) g sLen e (strCells s) 0 cur w hg (by simpa [strCells_length] using hfit) (strCells_oneCell s)
  simp only [Nat.add_zero, strCells_length] at hst
  simp [Builtin.append_, run_underlying ht, run_underlying hu, sizeOf, typeInfo, hi, hs1, Builtin.lenOf, hroom, hf, Addr.add_lit, hst]
theorem run_append_str (w : World) (base : Nat) (t u ty e : TypeId) (i : TypeInfo) (z : Value) (ht : P.underlying t = some (.slice e)) (hu : P.underlying u = some .string) (hi : P.info? e = some i) (hz : i.zero = some z)
    (hsize : i.size = 1) (hby : i.bytes = 1) (hzs : z.cells.size = 1) (v : Value) (n : Nat) (xs : List Value) (hown : ownsM w base e 1 v n xs) (s : ByteArray) (hpos : 0 < s.size)
    (h63 : n + s.size ≤ maxLen) (hbytes : n + s.size ≤ 140737488355328) (hbase : base ≤ w.heap.size) :
    ∃ v' w', (Builtin.append_ #[t, u] ty #[v, .string s]).run P w = .ok v' w' ∧ ownsM w' base e 1 v' (n + s.size) (xs ++ strCells s) ∧ w.grownBy w' v.ownBlock ∧ (∀ g, ownBlk v' = some g → ownBlk v = some g ∨ w.heap.size ≤ g) := by
  have hsmall : n + s.size ≤ 9223372036854775807 := by simp only [maxLen] at h63; omega
  have hxl : xs.length = n := by simpa using hown.1
  have hlen : (xs ++ strCells s).length = (n + s.size) * 1 := by rw [List.length_append, hxl, strCells_length, Nat.mul_one]
  have grown : ∀ (old : Nat), old < n + s.size → ∀ (row : Option Nat),
      ownsM (w.drew.alloc (.cells (xs.toArray ++ (strCells s).toArray ++ Builtin.zeroCells z.cells (grownCap w (n + s.size) old e - (n + s.size))) e)) base e 1
        (.slice (some ⟨w.heap.size, 0, none⟩) (n + s.size) (grownCap w (n + s.size) old e)) (n + s.size) (xs ++ strCells s) ∧
      w.grownBy (w.drew.alloc (.cells (xs.toArray ++ (strCells s).toArray ++ Builtin.zeroCells z.cells (grownCap w (n + s.size) old e - (n + s.size))) e)) row := by
    intro old ho row
    have hge := grownCap_ge w (n + s.size) old e
    have hcm : grownCap w (n + s.size) old e ≤ maxLen := grownCap_le_maxLen w (n + s.size) old e h63
    refine ⟨⟨hlen, .inr ⟨w.heap.size, _, _, rfl, hbase, .of (heap_alloc_new w.drew _), hge, hcm, ?_, ?_⟩⟩, ⟨rfl, rfl, rfl, by simp, fun k hk _ => Below.heap_alloc w.drew _ k hk⟩⟩
    · simp only [Array.size_append, List.size_toArray, size_zeroCells, hzs, hxl, strCells_length]
      omega
    · simp only [Array.toList_append, List.append_assoc]
      rw [← List.append_assoc, ← hlen]
      exact List.take_left
  rcases hown.2 with ⟨rfl, rfl⟩ | ⟨g, cap, cur, rfl, hbg, hg, hnc, hcm, hcs, htake⟩
  · have hx : xs = [] := List.eq_nil_of_length_eq_zero hxl
    subst hx
    have hr := run_append_nil_string (P := P) w t u ty e i z ht hu hi hz s (by omega) (by omega) (by rw [hby]; omega)
    have hgr := grown 0 (by omega) (Value.ownBlock (.slice none 0 0))
    simp only [Nat.zero_add, List.nil_append, Array.empty_append] at hgr ⊢
    have e1 : (s.data.map fun b => Value.int .u8 b.toNat) = (strCells s).toArray := by
      apply Array.ext'
      simp [strCells]
    rw [e1] at hr
    exact ⟨_, _, hr, hgr.1, hgr.2, fun g hg => (by simp [ownBlk] at hg; right; omega)⟩
  · by_cases hroom : n + s.size ≤ cap
    · have hcs' : cur.size = cap := by simpa using hcs
      have hr := run_append_room_strM (P := P) w t u ty e i ht hu hi hsize g n cap cur hg s hroom (by omega)
      refine ⟨_, _, hr, ⟨hlen, .inr ⟨g, cap, _, rfl, hbg, hg.setRow ?_, hroom, hcm, ?_, ?_⟩⟩, ⟨rfl, rfl, rfl, by simp, fun k _ hk => setRow_other w g k _ (fun e => hk (by simp [Value.ownBlock, e]))⟩, fun g' hg' => .inl hg'⟩
      · simp only [List.size_toArray, List.length_append, List.length_take, List.length_drop, Array.length_toList, strCells_length]
        omega
      · simp only [List.size_toArray, List.length_append, List.length_take, List.length_drop, Array.length_toList, strCells_length]
        omega
      · have ht' : cur.toList.take n = xs := by simpa using htake
        rw [ht', ← hlen]
        exact List.take_left
    · have holds : ∀ j u, xs[j]? = some u → w.cell? ((⟨g, 0, none⟩ : Addr).add j) = some u := hown.cells (g := g) rfl
      have hr := run_append_grow_string (P := P) w t u ty e i z ht hu hi hz ⟨g, 0, none⟩ n cap xs (by rw [hsize]; simpa using hxl) holds s (by omega) (by omega) (by rw [hby]; exact growslice_fits (by omega) (by omega))
      have hgr := grown cap (by omega) (Value.ownBlock (.slice (some ⟨g, 0, none⟩) n cap))
      exact ⟨_, _, hr, hgr.1, hgr.2, fun g' hg' => (by simp [ownBlk] at hg'; right; omega)⟩
theorem op_append_str {e : TypeId} {z : Value} {id m : Nat} {rows : List (List AV)} {s : ByteArray} (hx : st.ev x = .osl id m) (hb : look .dead st.heap id = .row 1 rows e) (hm : m = rows.length) (hy : st.ev y = .str s) (hpos : 0 < s.size)
    (hT : P.underlying t = some (.slice e)) (hU : P.underlying t' = some .string) (hI : tyI P e = some (some z, 1, 1)) (hz : z.cells.size = 1) (h63 : rows.length + s.size ≤ 1000000) (hd : dok d n = true) :
    OpV P n ⟨d, .call { callee := .builtin .append, args := #[x, y], argTypes := #[t, t'] }, ty, ps, af, g⟩ st ((st.hset id (.row 1 (rows ++ strRows s) e)).put d (.osl id (rows.length + s.size))) := .mk fun K a w ⟨G, r⟩ => by
  have e1 := r.ev x
  rw [hx] at e1
  have e2 := r.ev y
  rw [hy] at e2
  have e2 := e2.str'
  have hk := r.hr.blk id
  rw [hb] at hk
  obtain ⟨q1, q2, q3, q4, flat, q5, q6, q7⟩ := hk
  have ev : a.eval x = G.ρ id := by
    cases e1 with
    | dat h => cases h
    | osl _ _ _ _ _ _ _ hh => exact hh (by rw [q4, hm])
  obtain ⟨i, hi, hz0, hz1, hz2⟩ := tyI_info hI
  obtain ⟨v', w', p1, p2, p3, p4⟩ := run_append_str (P := P) w K.w0.heap.size t t' ty e i z hT hU hi hz0 hz1 hz2 hz (G.ρ id) rows.length flat q5 s hpos (by simp only [maxLen]; omega) (by omega) r.hr.below.size
  have hob := ownBlock_eq q5
  rw [hob] at p3
  have hoo : ∀ g, ownBlk (G.ρ id) = some g → G.own g := fun g hg => r.hr.ownhas id g q1 hg
  let G' : Gh := ⟨fun j => if j = id then v' else G.ρ j, fun b => G.own b ∨ ownBlk v' = some b, fun j => if j = id then rows.length + s.size else G.ln j, G.sz, G.nx, G.bs⟩
  have hρ : G'.ρ id = v' := if_pos rfl
  have hln : G'.ln id = rows.length + s.size := if_pos rfl
  have hsl : ∃ A c, v' = .slice A (rows.length + s.size) c := by
    rcases p2.2 with ⟨h1, h2⟩ | ⟨gg, cap, cur, h1, _⟩
    · rw [h1, h2]; exact ⟨_, _, rfl⟩
    · rw [h1]; exact ⟨_, _, rfl⟩
  have hext : Ext w G w' G' := by
    refine ⟨p3.size, fun b hb hl => p3.block b hl (fun e => hb (hoo b e.symm)), fun b h => ?_, Nat.le_refl _, rfl, fun j hj => ?_⟩
    · rcases h with h | h
      · exact .inl h
      · exact (p4 b h).imp (hoo b) (fun h => h)
    · by_cases e : j = id
      · subst e
        exact ⟨by rw [hln, q4]; omega, rfl, fun h => by rw [hln, q4] at h; omega, fun h => by omega⟩
      · have h1 : G'.ln j = G.ln j := if_neg e
        have h2 : G'.ρ j = G.ρ j := if_neg e
        exact ⟨by omega, rfl, fun _ => h2, fun _ => h1⟩
  have hRV : RowsV w G 1 rows flat := ⟨q5.1, q6, q7⟩
  have hRV2 := (hRV.append (strRows_ok w G s)).ext hext
  have hlr : (rows ++ strRows s).length = rows.length + s.size := by rw [List.length_append, strRows_len]
  have hHR : HR K.w0 w' G' ((id, .row 1 (rows ++ strRows s) e) :: st.heap) := by
    refine r.hr.update hext (fun b h => .inl h) (grown_below p3 r.hr.below.size (fun g hg => (r.hr.ownlt g (hoo g hg)).1)) id _ (fun j hne hj => ⟨if_neg hne, if_neg hne, fun g hg => p3.block g (r.hr.ownlt g (r.hr.ownhas j g hj hg)).2 (fun e => ?_)⟩) (fun j h _ => h) (fun b hb => ?_)
      ⟨q1, q2, q3, by rw [hln, hlr], flat ++ strCells s, by rw [hρ, hlr]; exact p2, hRV2.one, hRV2.rel⟩ (fun j g hj hne hg he => ?_) (fun g _ hg => ?_)
    · exact r.hr.dist j id g hj q1 hne hg e.symm
    · rcases hb with hb | hb
      · have := r.hr.ownlt b hb
        have := p3.size
        omega
      · rcases p4 b hb with h | h
        · have := r.hr.ownlt b (hoo b h)
          have := p3.size
          omega
        · have h2 : b < w'.heap.size := by
            rcases p2.2 with ⟨h1, _⟩ | ⟨gg, cap, cur, h1, _, h3, _⟩
            · rw [h1] at hb; simp [ownBlk] at hb
            · rw [h1] at hb
              simp [ownBlk] at hb
              subst hb
              exact h3.lt
          have := r.hr.below.size
          omega
    · rw [hρ] at hg
      rcases p4 g hg with h | h
      · exact r.hr.dist j id g hj q1 hne he h
      · have := (r.hr.ownlt g (r.hr.ownhas j g hj he)).2
        omega
    · rw [hρ] at hg
      exact .inr hg
  have hnx : G'.nx = st.nx := r.nx
  refine ⟨v', w', .inl ?_, G', (r.turn st.nx hnx hHR hext).put (dok_lt hd) (RelV.osl (w := w') (G := G') id _ v' q1 (by show 0 < G.sz id; omega) (by rw [hln]; exact Nat.le_refl _) hsl (fun _ => hρ.symm))⟩
  simp [execOp, resolve, invoke, builtin, ev, e2, p1]
end
end Go.Proofs.Ytelpkjellakigaa
/- Symbolic walks: an append of zeros (append of a made slice). No program in sight. -/
namespace Go.Proofs.Ytelpkjellakigaa
open Go Go.RowKit Go.Lib
set_option linter.unusedSimpArgs false
set_option linter.unusedSectionVars false
set_option linter.unusedVariables false
theorem zeroCells_one {z : Array Value} {c : Value} (hz : z = #[c]) (k : Nat) : Builtin.zeroCells z k = (List.replicate k c).toArray := by
  subst hz
  apply Array.ext'
  unfold Builtin.zeroCells
  simp only [Array.toList_map, Array.toList_range]
  apply List.ext_getElem
  · simp
  · intro i h1 h2
    simp [Nat.mod_one]
section
variable {P : Program} {n : Nat} {st : ASt} {d : Option Nat} {ty : TypeId} {ps : String} {af : Array Edge} {g : Option (Nat × Bool)} {x y : Operand} {t t' : TypeId}
theorem run_append_room_zerosM (w : World) (t u ty e : TypeId) (i : TypeInfo) (z c : Value) (kq kn : IntKind) (ht : P.underlying t = some (.slice e)) (hu : P.underlying u = some (.int kn)) (hi : P.info? e = some i) (hz : i.zero = some z) (hs1 : i.size = 1) (hby : i.bytes = 1)
    (hc : z.cells = #[c]) (h1 : c.oneCell' = true) (g sLen sCap : Nat) (cur : Array Value) (hg : HasC w g cur e) (k : Nat) (hk : 0 < k) (hk2 : k ≤ 1000000) (hroom : sLen + k ≤ sCap) (hfit : sLen + k ≤ cur.size) :
    (Builtin.append_ #[t, u] ty #[.slice (some ⟨g, 0, none⟩) sLen sCap, .int kq k]).run P w =
      .ok (.slice (some ⟨g, 0, none⟩) (sLen + k) sCap) (w.setRow g (cur.toList.take sLen ++ List.replicate k c ++ cur.toList.drop (sLen + k)).toArray) := by
  have hst := run_storeCells_M (P := P) g sLen e (List.replicate k c) 0 cur w hg (by simpa using hfit) (fun v hv => by rw [(List.mem_replicate.1 hv).2]; exact h1)
  simp only [Nat.add_zero, List.length_replicate] at hst
  have hw : IntKind.i64.wrap (k : Int) = k := by rw [IntKind.wrap_i64]; omega
  have hneg : ¬ ((k : Int) < 0) := by omega
  have h48i : ¬ (281474976710656 < (k : Int)) := by omega
  have hk0 : ¬ (k = 0) := by omega
  simp [Builtin.append_, run_underlying ht, run_underlying hu, sizeOf, typeInfo, zeroValue, hi, hz, hs1, hby, asInt, asIntOf, hw, hneg, h48i, hk0, hroom, zeroCells_one hc, Addr.add_lit, hst]
theorem run_append_zeros (w : World) (base : Nat) (t u ty e : TypeId) (i : TypeInfo) (z c : Value) (kq kn : IntKind) (ht : P.underlying t = some (.slice e)) (hu : P.underlying u = some (.int kn)) (hi : P.info? e = some i) (hz : i.zero = some z)
    (hsize : i.size = 1) (hby : i.bytes = 1) (hc : z.cells = #[c]) (h1 : c.oneCell' = true) (v : Value) (n : Nat) (xs : List Value) (hown : ownsM w base e 1 v n xs) (k : Nat) (hk : 0 < k) (hk2 : n + k ≤ 1000000)
    (hbase : base ≤ w.heap.size) :
    ∃ v' w', (Builtin.append_ #[t, u] ty #[v, .int kq k]).run P w = .ok v' w' ∧ ownsM w' base e 1 v' (n + k) (xs ++ List.replicate k c) ∧ w.grownBy w' v.ownBlock ∧ (∀ g, ownBlk v' = some g → ownBlk v = some g ∨ w.heap.size ≤ g) := by
  have hxl : xs.length = n := by simpa using hown.1
  have hzs : z.cells.size = 1 := by rw [hc]; rfl
  have hlen : (xs ++ List.replicate k c).length = (n + k) * 1 := by rw [List.length_append, hxl, List.length_replicate, Nat.mul_one]
  have grown : ∀ (old : Nat), old < n + k → ∀ (row : Option Nat),
      ownsM (w.drew.alloc (.cells (xs.toArray ++ (List.replicate k c).toArray ++ Builtin.zeroCells z.cells (grownCap w (n + k) old e - (n + k))) e)) base e 1
        (.slice (some ⟨w.heap.size, 0, none⟩) (n + k) (grownCap w (n + k) old e)) (n + k) (xs ++ List.replicate k c) ∧
      w.grownBy (w.drew.alloc (.cells (xs.toArray ++ (List.replicate k c).toArray ++ Builtin.zeroCells z.cells (grownCap w (n + k) old e - (n + k))) e)) row := by
    intro old ho row
    have hge := grownCap_ge w (n + k) old e
    have hcm : grownCap w (n + k) old e ≤ maxLen := grownCap_le_maxLen w (n + k) old e (by simp only [maxLen]; omega)
    refine ⟨⟨hlen, .inr ⟨w.heap.size, _, _, rfl, hbase, .of (heap_alloc_new w.drew _), hge, hcm, ?_, ?_⟩⟩, ⟨rfl, rfl, rfl, by simp, fun k hk _ => Below.heap_alloc w.drew _ k hk⟩⟩
    · simp only [Array.size_append, List.size_toArray, size_zeroCells, hzs, hxl, List.length_replicate]
      omega
    · simp only [Array.toList_append, List.append_assoc]
      rw [← List.append_assoc, ← hlen]
      exact List.take_left
  rcases hown.2 with ⟨rfl, rfl⟩ | ⟨g, cap, cur, rfl, hbg, hg, hnc, hcm, hcs, htake⟩
  · have hx : xs = [] := List.eq_nil_of_length_eq_zero hxl
    subst hx
    have hr := run_append_nil_zeros (P := P) w t u ty e i z kq kn ht hu hi hz k hk (by omega) (by omega) (by rw [hby]; omega)
    have hgr := grown 0 (by omega) (Value.ownBlock (.slice none 0 0))
    simp only [Nat.zero_add, List.nil_append, Array.empty_append] at hgr ⊢
    rw [zeroCells_one hc k] at hr
    exact ⟨_, _, hr, hgr.1, hgr.2, fun g hg => (by simp [ownBlk] at hg; right; omega)⟩
  · by_cases hroom : n + k ≤ cap
    · have hcs' : cur.size = cap := by simpa using hcs
      have hr := run_append_room_zerosM (P := P) w t u ty e i z c kq kn ht hu hi hz hsize hby hc h1 g n cap cur hg k hk (by omega) hroom (by omega)
      refine ⟨_, _, hr, ⟨hlen, .inr ⟨g, cap, _, rfl, hbg, hg.setRow ?_, hroom, hcm, ?_, ?_⟩⟩, ⟨rfl, rfl, rfl, by simp, fun k _ hk => setRow_other w g k _ (fun e => hk (by simp [Value.ownBlock, e]))⟩, fun g' hg' => .inl hg'⟩
      · simp only [List.size_toArray, List.length_append, List.length_take, List.length_drop, Array.length_toList, List.length_replicate]
        omega
      · simp only [List.size_toArray, List.length_append, List.length_take, List.length_drop, Array.length_toList, List.length_replicate]
        omega
      · have ht' : cur.toList.take n = xs := by simpa using htake
        rw [ht', ← hlen]
        exact List.take_left
    · have holds : ∀ j u, xs[j]? = some u → w.cell? ((⟨g, 0, none⟩ : Addr).add j) = some u := hown.cells (g := g) rfl
      have hfo := run_firstCells_some (P := P) w.drew i.size n ⟨g, 0, none⟩ n cap xs (by rw [hsize]; simpa using hxl) (by simpa using holds)
      have hr := run_append_grow_zeros (P := P) w t u ty e i z kq kn ht hu hi hz (some ⟨g, 0, none⟩) n cap xs hfo k hk (by omega) (by omega) (by omega) (by rw [hby]; omega) (by rw [hby]; exact growslice_fits (by omega) (by omega))
      rw [zeroCells_one hc k] at hr
      have hgr := grown cap (by omega) (Value.ownBlock (.slice (some ⟨g, 0, none⟩) n cap))
      exact ⟨_, _, hr, hgr.1, hgr.2, fun g' hg' => (by simp [ownBlk] at hg'; right; omega)⟩
theorem zeros_ok (w : World) (G : Gh) {c : Value} {a : AV} (ha : avOf c = a) (h1 : c.oneCell' = true) (k : Nat) : RowsV w G 1 (List.replicate k [a]) (List.replicate k c) := by
  refine ⟨by simp, fun v hv => by rw [(List.mem_replicate.1 hv).2]; exact h1, fun i row hi => ?_⟩
  rw [List.getElem?_replicate] at hi
  split at hi
  · rename_i hik
    injection hi with hi
    subst hi
    refine ⟨rfl, fun j b hj => ?_⟩
    obtain rfl : j = 0 := by have := (List.getElem?_eq_some_iff.1 hj).1; simp at this; omega
    injection hj with hj
    subst hj
    refine ⟨c, by rw [List.getElem?_replicate, if_pos (by omega)], ?_⟩
    rw [← ha]; exact avOf_rel w G c
  · cases hi
theorem op_append_zeros {e : TypeId} {z c : Value} {ca : AV} {kn kq : IntKind} {id m : Nat} {L : Int} {rows : List (List AV)} (hx : st.ev x = .osl id m) (hb : look .dead st.heap id = .row 1 rows e) (hm : m = rows.length) (hy : st.ev y = .int kq L) (hpos : 0 < L)
    (hT : P.underlying t = some (.slice e)) (hU : P.underlying t' = some (.int kn)) (hI : tyI P e = some (some z, 1, 1)) (hc : z.cells.toList = [c]) (hca : avOf c = ca) (h1c : c.oneCell' = true) (h63 : rows.length + L.toNat ≤ 1000000) (hd : dok d n = true) :
    OpV P n ⟨d, .call { callee := .builtin .append, args := #[x, y], argTypes := #[t, t'] }, ty, ps, af, g⟩ st ((st.hset id (.row 1 (rows ++ List.replicate L.toNat [ca]) e)).put d (.osl id (rows.length + L.toNat))) := .mk fun K a w ⟨G, r⟩ => by
  have e1 := r.ev x
  rw [hx] at e1
  have e2 := r.ev y
  rw [hy] at e2
  have e2 := e2.int'
  obtain ⟨k, rfl⟩ : ∃ k : Nat, L = k := ⟨L.toNat, by omega⟩
  rw [Int.toNat_natCast] at h63 ⊢
  have hzc : z.cells = #[c] := Array.ext' hc
  have hk := r.hr.blk id
  rw [hb] at hk
  obtain ⟨q1, q2, q3, q4, flat, q5, q6, q7⟩ := hk
  have ev : a.eval x = G.ρ id := by
    cases e1 with
    | dat h => cases h
    | osl _ _ _ _ _ _ _ hh => exact hh (by rw [q4, hm])
  obtain ⟨i, hi, hz0, hz1, hz2⟩ := tyI_info hI
  obtain ⟨v', w', p1, p2, p3, p4⟩ := run_append_zeros (P := P) w K.w0.heap.size t t' ty e i z c kq kn hT hU hi hz0 hz1 hz2 hzc h1c (G.ρ id) rows.length flat q5 k (by omega) h63 r.hr.below.size
  have hob := ownBlock_eq q5
  rw [hob] at p3
  have hoo : ∀ g, ownBlk (G.ρ id) = some g → G.own g := fun g hg => r.hr.ownhas id g q1 hg
  let G' : Gh := ⟨fun j => if j = id then v' else G.ρ j, fun b => G.own b ∨ ownBlk v' = some b, fun j => if j = id then rows.length + k else G.ln j, G.sz, G.nx, G.bs⟩
  have hρ : G'.ρ id = v' := if_pos rfl
  have hln : G'.ln id = rows.length + k := if_pos rfl
  have hsl : ∃ A c, v' = .slice A (rows.length + k) c := by
    rcases p2.2 with ⟨h1, h2⟩ | ⟨gg, cap, cur, h1, _⟩
    · rw [h1, h2]; exact ⟨_, _, rfl⟩
    · rw [h1]; exact ⟨_, _, rfl⟩
  have hext : Ext w G w' G' := by
    refine ⟨p3.size, fun b hb hl => p3.block b hl (fun e => hb (hoo b e.symm)), fun b h => ?_, Nat.le_refl _, rfl, fun j hj => ?_⟩
    · rcases h with h | h
      · exact .inl h
      · exact (p4 b h).imp (hoo b) (fun h => h)
    · by_cases e : j = id
      · subst e
        exact ⟨by rw [hln, q4]; omega, rfl, fun h => by rw [hln, q4] at h; omega, fun h => by omega⟩
      · have h1 : G'.ln j = G.ln j := if_neg e
        have h2 : G'.ρ j = G.ρ j := if_neg e
        exact ⟨by omega, rfl, fun _ => h2, fun _ => h1⟩
  have hRV : RowsV w G 1 rows flat := ⟨q5.1, q6, q7⟩
  have hRV2 := (hRV.append (zeros_ok w G hca h1c k)).ext hext
  have hlr : (rows ++ List.replicate k [ca]).length = rows.length + k := by rw [List.length_append, List.length_replicate]
  have hHR : HR K.w0 w' G' ((id, .row 1 (rows ++ List.replicate k [ca]) e) :: st.heap) := by
    refine r.hr.update hext (fun b h => .inl h) (grown_below p3 r.hr.below.size (fun g hg => (r.hr.ownlt g (hoo g hg)).1)) id _ (fun j hne hj => ⟨if_neg hne, if_neg hne, fun g hg => p3.block g (r.hr.ownlt g (r.hr.ownhas j g hj hg)).2 (fun e => ?_)⟩) (fun j h _ => h) (fun b hb => ?_)
      ⟨q1, q2, q3, by rw [hln, hlr], flat ++ List.replicate k c, by rw [hρ, hlr]; exact p2, hRV2.one, hRV2.rel⟩ (fun j g hj hne hg he => ?_) (fun g _ hg => ?_)
    · exact r.hr.dist j id g hj q1 hne hg e.symm
    · rcases hb with hb | hb
      · have := r.hr.ownlt b hb
        have := p3.size
        omega
      · rcases p4 b hb with h | h
        · have := r.hr.ownlt b (hoo b h)
          have := p3.size
          omega
        · have h2 : b < w'.heap.size := by
            rcases p2.2 with ⟨h1, _⟩ | ⟨gg, cap, cur, h1, _, h3, _⟩
            · rw [h1] at hb; simp [ownBlk] at hb
            · rw [h1] at hb
              simp [ownBlk] at hb
              subst hb
              exact h3.lt
          have := r.hr.below.size
          omega
    · rw [hρ] at hg
      rcases p4 g hg with h | h
      · exact r.hr.dist j id g hj q1 hne he h
      · have := (r.hr.ownlt g (r.hr.ownhas j g hj he)).2
        omega
    · rw [hρ] at hg
      exact .inr hg
  have hnx : G'.nx = st.nx := r.nx
  refine ⟨v', w', .inl ?_, G', (r.turn st.nx hnx hHR hext).put (dok_lt hd) (RelV.osl (w := w') (G := G') id _ v' q1 (by show 0 < G.sz id; omega) (by rw [hln]; exact Nat.le_refl _) hsl (fun _ => hρ.symm))⟩
  simp [execOp, resolve, invoke, builtin, ev, e2, p1]
end
end Go.Proofs.Ytelpkjellakigaa
/- More operations of the run: arrays as rows, comparisons with nil, the greatest of several. No program in sight. -/
namespace Go.Proofs.Ytelpkjellakigaa.Rn
open Go Go.RowKit Go.Proofs.Ytelpkjellakigaa Go.Proofs.Ytelpkjellakigaa.Dr

section
variable {P : Program} {n : Nat} {T : Tab} {st st' : ASt} {d : Option Nat} {ty t t' : TypeId} {ps : String} {af : Array Edge} {g : Option (Nat × Bool)} {x y : Operand}
/-! ### nil -/
theorem eq_nils {t e : TypeId} (hT : P.underlying t = some (.slice e)) (w : World) : (Op.equal t (.slice none 0 0) (.slice none 0 0)).run P w = .ok true w := by
  unfold Op.equal
  rw [show Op.maxDepth = 9999 + 1 from rfl, Op.equalIn]
  simp [run_underlying hT]
theorem eq_someNil {t e : TypeId} {a : Addr} {m c : Nat} (hT : P.underlying t = some (.slice e)) (w : World) : (Op.equal t (.slice (some a) m c) (.slice none 0 0)).run P w = .ok false w := by
  unfold Op.equal
  rw [show Op.maxDepth = 9999 + 1 from rfl, Op.equalIn]
  simp [run_underlying hT]
theorem op_nilEq {neq : Bool} {e : TypeId} (hx : st.ev x = .nils) (hy : st.ev y = .nils) (hT : P.underlying t = some (.slice e)) (hd : dok d n = true) :
    OpR P n ⟨d, .binOp (bif neq then .neq else .eql) t x y t', ty, ps, af, g⟩ st (.bool (!neq)) := .mk hd fun K a w G rr => by
  have e1 := rr.ev x
  rw [hx] at e1
  have e1 := e1.nils'
  have e2 := rr.ev y
  rw [hy] at e2
  have e2 := e2.nils'
  refine ⟨.bool (!neq), fun w' _ => ?_, .dat (.bool _)⟩
  cases neq <;> simp [execOp, e1, e2, binOp, eqGuard, eq_nils hT w']
theorem op_oslNil {neq : Bool} {e : TypeId} {id m sz : Nat} {rows : List (List AV)} {e' : TypeId} (hx : st.ev x = .osl id m) (hb : look .dead st.heap id = .row sz rows e') (hm : m = rows.length) (h0 : 0 < m) (hy : st.ev y = .nils) (hT : P.underlying t = some (.slice e)) (hd : dok d n = true) :
    OpR P n ⟨d, .binOp (bif neq then .neq else .eql) t x y t', ty, ps, af, g⟩ st (.bool neq) := .mk hd fun K a w G rr => by
  have e1 := rr.ev x
  rw [hx] at e1
  obtain ⟨gg, c, flat, q1, q2, q3, q4, q5, q6, q7, q8⟩ := rr.rowAt hb hm h0
  have e2 := rr.ev y
  rw [hy] at e2
  have e2 := e2.nils'
  refine ⟨.bool neq, fun w' _ => ?_, .dat (.bool _)⟩
  generalize he : a.eval x = v at e1
  cases e1 with
  | dat h => cases h
  | osl _ _ _ hid hs hn hv hr =>
    have e3 := hr (by rw [q5, hm])
    rw [q1] at e3
    subst e3
    cases neq <;> simp [execOp, he, e2, binOp, eqGuard, eq_someNil hT w']
theorem eq_ptrs {t e : TypeId} (hT : P.underlying t = some (.pointer e)) (w : World) : (Op.equal t (.pointer none) (.pointer none)).run P w = .ok true w := by
  unfold Op.equal
  rw [show Op.maxDepth = 9999 + 1 from rfl, Op.equalIn]
  simp [run_underlying hT]
theorem eq_somePtr {t e : TypeId} {a : Addr} (hT : P.underlying t = some (.pointer e)) (w : World) : (Op.equal t (.pointer (some a)) (.pointer none)).run P w = .ok false w := by
  unfold Op.equal
  rw [show Op.maxDepth = 9999 + 1 from rfl, Op.equalIn]
  simp [run_underlying hT]
theorem op_nilpEq {neq : Bool} {e : TypeId} (hx : st.ev x = .nilp) (hy : st.ev y = .nilp) (hT : P.underlying t = some (.pointer e)) (hd : dok d n = true) :
    OpR P n ⟨d, .binOp (bif neq then .neq else .eql) t x y t', ty, ps, af, g⟩ st (.bool (!neq)) := .mk hd fun K a w G rr => by
  have e1 := rr.ev x
  rw [hx] at e1
  have e2 := rr.ev y
  rw [hy] at e2
  refine ⟨.bool (!neq), fun w' _ => ?_, .dat (.bool _)⟩
  generalize he1 : a.eval x = v1 at e1
  generalize he2 : a.eval y = v2 at e2
  cases e1 with
  | dat h1 =>
    cases h1
    cases e2 with
    | dat h2 =>
      cases h2
      cases neq <;> simp [execOp, he1, he2, binOp, eqGuard, eq_ptrs hT w']
theorem op_boxNil {neq : Bool} {e : TypeId} {id off : Nat} (hx : st.ev x = .box id off) (hy : st.ev y = .nilp) (hT : P.underlying t = some (.pointer e)) (hd : dok d n = true) :
    OpR P n ⟨d, .binOp (bif neq then .neq else .eql) t x y t', ty, ps, af, g⟩ st (.bool neq) := .mk hd fun K a w G rr => by
  have e1 := rr.ev x
  rw [hx] at e1
  have e2 := rr.ev y
  rw [hy] at e2
  refine ⟨.bool neq, fun w' _ => ?_, .dat (.bool _)⟩
  generalize he1 : a.eval x = v1 at e1
  generalize he2 : a.eval y = v2 at e2
  cases e2 with
  | dat h2 =>
    cases h2
    cases e1 with
    | dat h => cases h
    | box _ _ g hid hs hr =>
      cases neq <;> simp [execOp, he1, he2, binOp, eqGuard, eq_somePtr hT w']
/-! ### the greatest, the least of several -/
theorem foldMax (k : IntKind) (w : World) : ∀ (ns : List Int) (m : Int), ((ns.map fun q => Value.int k q).foldlM Builtin.max2 (.int k m)).run P w = .ok (.int k (ns.foldl max m)) w
  | [], m => by simp
  | q :: ns, m => by
    have h : (Builtin.max2 (.int k m) (.int k q)).run P w = .ok (.int k (max m q)) w := by
      have : (if m < q then q else m) = max m q := by split <;> omega
      simp [Builtin.max2, this]
    rw [List.map_cons, List.foldlM_cons, List.foldl_cons]
    simp [h, foldMax k w ns]
theorem foldMin (k : IntKind) (w : World) : ∀ (ns : List Int) (m : Int), ((ns.map fun q => Value.int k q).foldlM Builtin.min2 (.int k m)).run P w = .ok (.int k (ns.foldl min m)) w
  | [], m => by simp
  | q :: ns, m => by
    have h : (Builtin.min2 (.int k m) (.int k q)).run P w = .ok (.int k (min m q)) w := by
      have : (if q < m then q else m) = min m q := by split <;> omega
      simp [Builtin.min2, this]
    rw [List.map_cons, List.foldlM_cons, List.foldl_cons]
    simp [h, foldMin k w ns]
theorem ints_eval {K : Kn} {a : Act} {w : World} {G : Gh} (r : RelG K n st a w G) {k : IntKind} : ∀ (l : List Operand) (ns : List Int), l.map st.ev = ns.map (AV.int k) → l.map a.eval = ns.map (fun q => Value.int k q)
  | [], [], _ => rfl
  | [], _ :: _, h => by simp at h
  | _ :: _, [], h => by simp at h
  | y :: l, q :: ns, h => by
    simp only [List.map_cons, List.cons.injEq] at h
    have e := r.ev y
    rw [h.1] at e
    rw [List.map_cons, List.map_cons, e.int', ints_eval r l ns h.2]
theorem op_maxs {hi : Bool} {k : IntKind} {args : List Operand} {tt : Array TypeId} {m : Int} {ns : List Int} (h : intsOf k (args.map st.ev) = some (m :: ns)) (hd : dok d n = true) :
    OpR P n ⟨d, .call { callee := .builtin (bif hi then .max else .min), args := ⟨args⟩, argTypes := tt }, ty, ps, af, g⟩ st (.int k (bif hi then ns.foldl max m else ns.foldl min m)) := .mk hd fun K a w G rr => by
  have e := ints_eval rr args (m :: ns) (intsOf_eq h)
  refine ⟨_, fun w' _ => ?_, .dat (.int _ _)⟩
  have e2 : (Array.map a.eval ⟨args⟩).toList = (m :: ns).map (fun q => Value.int k q) := by rw [Array.toList_map]; exact e
  have e3 : Array.map a.eval ⟨args⟩ = ((m :: ns).map (fun q => Value.int k q)).toArray := by rw [← e2]
  cases hi
  · have := foldMin (P := P) k w' ns m
    simp [execOp, resolve, invoke, builtin, e3, Builtin.min_, this]
  · have := foldMax (P := P) k w' ns m
    simp [execOp, resolve, invoke, builtin, e3, Builtin.max_, this]
theorem op_compl' {k : IntKind} {m : Int} (hx : st.ev x = .int k m) (hd : dok d n = true) : OpR P n ⟨d, .unOp .xor t x, ty, ps, af, g⟩ st (.int k (bits .xor k (if k.signed then -1 else k.max) m)) :=
  .mk hd fun K a w G rr => by
    have e1 := rr.ev x
    rw [hx] at e1
    have e1 := e1.int'
    exact ⟨_, fun w' _ => by simp [execOp, e1, Op.unary, intBits_xor], .dat (.int _ _)⟩
end
/-! ### arrays of single cells are rows -/
def arrOf (T : Tab) (t : TypeId) : Option (Nat × TypeId × Option Value × Nat) := match lk T.und t with
  | some (.array L e) => match lk T.inf e with
    | some (z, s, b) => bif Nat.beq s 1 then some (L, e, z, b) else none
    | none => none
  | _ => none
theorem arrOf_ok {P : Program} {T : Tab} {t : TypeId} {L : Nat} {e : TypeId} {z : Option Value} {b : Nat} (hT : T.ok P) (h : arrOf T t = some (L, e, z, b)) : P.underlying t = some (.array L e) ∧ tyI P e = some (z, 1, b) := by
  unfold arrOf at h
  split at h
  · rename_i L' e' h1
    split at h
    · rename_i z' s' b' h2
      cases hs : Nat.beq s' 1 with
      | false => rw [hs] at h; cases h
      | true =>
        rw [hs] at h
        simp only [cond_true, Option.some.injEq, Prod.mk.injEq] at h
        obtain ⟨rfl, rfl, rfl, rfl⟩ := h
        have := Nat.eq_of_beq_eq_true hs
        subst this
        exact ⟨allP_at hT.und h1, allP_at hT.inf h2⟩
    · cases h
  · cases h
def ones (cs : List AV) : List (List AV) := cs.map fun a => [a]
theorem ones_flat : ∀ cs : List AV, (ones cs).flatten = cs
  | [] => rfl
  | a :: l => by
    show [a] ++ (ones l).flatten = _
    rw [ones_flat l]; rfl
theorem ones_row {cs : List AV} : ∀ r ∈ ones cs, r.length = 1 := fun r hr => by
  obtain ⟨a, _, rfl⟩ := List.mem_map.1 hr
  rfl
theorem ones_len (cs : List AV) : (ones cs).length = cs.length := List.length_map _
def memX (T : Tab) (st : ASt) (d : Option Nat) : Op → Option ASt
  | .alloc e => match arrOf T e, lk T.inf e with
    | some _, some (some z, _, _) => bif allOne (z.cells.toList.map avOf) && Nat.blt 0 z.cells.toList.length && Nat.ble z.cells.toList.length 1000000 then
        some ((st.hnew (.row 1 (ones (z.cells.toList.map avOf)) e)).put d (.elt st.nx (z.cells.toList.map avOf).length 0 0)) else none
    | _, _ => none
  | .box e x => match arrOf T e with
    | some _ => bif allOne (st.ev x).cells && Nat.blt 0 (st.ev x).cells.length && Nat.ble (st.ev x).cells.length 1000000 then
        some ((st.hnew (.row 1 (ones (st.ev x).cells) e)).put d (.elt st.nx (st.ev x).cells.length 0 0)) else none
    | none => none
  | .store t a v => match d, st.ev a with
    | none, .elt id m 0 0 => match arrOf T t, look .dead st.heap id, lk T.inf t with
      | some _, .row 1 rows e, some (_, s, _) => bif Nat.beq m rows.length && Nat.blt 0 m && allOne (st.ev v).cells && Nat.beq (st.ev v).cells.length m && Nat.beq s m && rows.all (fun r => Nat.beq r.length 1) then
          some (st.hset id (.row 1 (ones (st.ev v).cells) e)) else none
      | _, _, _ => none
    | _, _ => none
  | .makeSlice t l c => match lk T.und t, st.ev l, st.ev c with
    | some (.slice e), .int _ L, .int _ C => match lk T.inf e with
      | some (some z, sz, b) => bif decide (0 ≤ L) && decide (L < C) && decide ((b : Int) * C ≤ 281474976710656) && decide (C ≤ 9223372036854775807) && Nat.beq (z.cells.toList.map avOf).length sz && Nat.blt 0 sz && allOne (z.cells.toList.map avOf) then
          some ((st.hnew (.row sz (List.replicate L.toNat (z.cells.toList.map avOf)) e)).put d (.osl st.nx L.toNat)) else none
      | _ => none
    | _, _, _ => none
  | .convert t t' x => match st.ev x with
    | .str s => match lk T.und t, lk T.und t' with
      | some .string, some (.slice e) => match lk T.und e with
        | some (.int .u8) => bif Nat.ble s.size 1000000 then some ((st.hnew (.row 1 (strRows s) e)).put d (.osl st.nx (strRows s).length)) else none
        | _ => none
      | _, _ => none
    | .osl id m => bif Nat.beq t t' then (match lk T.und t with
      | some (.slice e) => match lk T.und e, look .dead st.heap id with
        | some (.int .u8), .row sz rows e' => bif Nat.beq m rows.length && Nat.blt 0 m then some ((st.hset id (.row sz rows e')).put d (.osl id m)) else none
        | _, _ => none
      | _ => none) else none
    | _ => none
  | .call ⟨.builtin .append, ⟨[x, y]⟩, ⟨[t, t']⟩⟩ => match st.ev x, st.ev y with
    | .osl id m, .str s => match lk T.und t, lk T.und t' with
      | some (.slice e), some .string => match lk T.inf e, look .dead st.heap id with
        | some (some z, 1, 1), .row 1 rows e' => bif Nat.beq e' e && Nat.beq m rows.length && Nat.blt 0 s.size && Nat.ble (rows.length + s.size) 1000000 && Nat.beq z.cells.size 1 then
            some ((st.hset id (.row 1 (rows ++ strRows s) e)).put d (.osl id (rows.length + s.size))) else none
        | _, _ => none
      | _, _ => none
    | .osl id m, .int _ L => match lk T.und t, lk T.und t' with
      | some (.slice e), some (.int _) => match lk T.inf e, look .dead st.heap id with
        | some (some z, 1, 1), .row 1 rows e' => match z.cells.toList with
          | [c] => bif Nat.beq e' e && Nat.beq m rows.length && decide (0 < L) && Nat.ble (rows.length + L.toNat) 1000000 && c.oneCell' then
            some ((st.hset id (.row 1 (rows ++ List.replicate L.toNat [avOf c]) e)).put d (.osl id (rows.length + L.toNat))) else none
          | _ => none
        | _, _ => none
      | _, _ => none
    | _, _ => none
  | _ => none
/-- reading -/
def rdX (T : Tab) (st : ASt) : Op → Option AV
  | .binOp .eql t x y _ => match lk T.und t, st.ev x, st.ev y with
    | some (.pointer _), .nilp, .nilp => some (.bool true)
    | some (.pointer _), .box _ _, .nilp => some (.bool false)
    | some (.slice _), .nils, .nils => some (.bool true)
    | some (.slice _), .osl id m, .nils => match look .dead st.heap id with
      | .row _ rows _ => bif Nat.beq m rows.length && Nat.blt 0 m then some (.bool false) else none
      | _ => none
    | _, _, _ => none
  | .binOp .neq t x y _ => match lk T.und t, st.ev x, st.ev y with
    | some (.pointer _), .nilp, .nilp => some (.bool false)
    | some (.pointer _), .box _ _, .nilp => some (.bool true)
    | some (.slice _), .nils, .nils => some (.bool false)
    | some (.slice _), .osl id m, .nils => match look .dead st.heap id with
      | .row _ rows _ => bif Nat.beq m rows.length && Nat.blt 0 m then some (.bool true) else none
      | _ => none
    | _, _, _ => none
  | .call ⟨.builtin .max, ⟨args⟩, _⟩ => match intsOf .i64 (evL st args []) with
    | some (m :: ns) => some (.int .i64 (ns.foldl max m))
    | _ => none
  | .call ⟨.builtin .min, ⟨args⟩, _⟩ => match intsOf .i64 (evL st args []) with
    | some (m :: ns) => some (.int .i64 (ns.foldl min m))
    | _ => none
  | .build t parts => match lk T.und t, lk T.inf t with
    | some (.array _ e), some (some z, _, _) => match lk T.inf e with
      | some (_, ss, _) => bif allOne (z.cells.toList.map avOf) then (match fillA (fun i => some (i * ss, ss)) (z.cells.toList.map avOf) (evParts st parts.toList) with
        | some out => some (.agg out)
        | none => none) else none
      | none => none
    | _, _ => none
  | .unOp .xor _ x => match st.ev x with
    | .int k m => some (.int k (bits .xor k (if k.signed then -1 else k.max) m))
    | _ => none
  | .indexAddr t x y => match st.ev x, st.ev y with
    | .elt id m 0 0, .int _ i => match arrOf T t, look .dead st.heap id with
      | some (L, _, _, _), .row 1 rows _ => bif Nat.beq m rows.length && decide (0 ≤ i) && decide (i < (L : Int)) && decide (i < (m : Int)) then some (.elt id m i.toNat 0) else none
      | _, _ => none
    | _, _ => none
  | .load t x => match st.ev x with
    | .elt id m 0 0 => match arrOf T t, look .dead st.heap id, lk T.inf t with
      | some _, .row 1 rows _, some (_, s, _) => bif Nat.beq m rows.length && Nat.blt 0 m && Nat.beq s m then some (.agg rows.flatten) else none
      | _, _, _ => none
    | _ => none
  | .slice t x lo hi none => match st.ev x with
    | .elt id m 0 0 => match arrOf T t, look .dead st.heap id with
      | some (L, _, _, _), .row 1 rows _ => match bndN st 0 lo, bndN st m hi with
        | some l, some h => bif Nat.beq m rows.length && Nat.beq L m && Nat.blt 0 m && inB3 l h m then some (.vsl id m l.toNat (h.toNat - l.toNat)) else none
        | _, _ => none
      | _, _ => none
    | _ => none
  | _ => none
section
variable {P : Program} {n : Nat} {T : Tab} {st st' : ASt} {o : Oper} {x : AV}
theorem memX_ok (hT : T.ok P) (h : memX T st o.dst o.op = some st') (hd : dok o.dst n = true) : OpV P n o st st' := by
  obtain ⟨d, op, ty, ps, af, g⟩ := o
  simp only at h
  have hd : dok d n = true := hd
  unfold memX at h
  split at h
  · split at h
    · rename_i e _ q z s b h1 h2
      cases hc : (allOne (z.cells.toList.map avOf) && Nat.blt 0 z.cells.toList.length && Nat.ble z.cells.toList.length 1000000) with
      | false => rw [hc] at h; cases h
      | true =>
        rw [hc] at h
        simp only [cond_true, Option.some.injEq] at h
        simp only [Bool.and_eq_true] at hc
        obtain ⟨⟨c1, c2⟩, c3⟩ := hc
        have c2 : 0 < z.cells.toList.length := by simpa using c2
        have c3 := Nat.le_of_ble_eq_true c3
        subst h
        have key := op_alloc_arr (P := P) (n := n) (st := st) (d := d) (ty := ty) (ps := ps) (af := af) (g := g) (rows := ones (z.cells.toList.map avOf)) (sz := 1) (allP_at hT.inf h2) (ones_flat _).symm (by rw [ones_flat]; exact c1) (by omega) (by rw [ones_len, List.length_map]; exact c2) (by rw [ones_len, List.length_map]; exact Nat.le_trans c3 (by decide)) ones_row hd
        rw [ones_len] at key
        exact key
    · cases h
  · rename_i e y
    split at h
    · rename_i q h1
      cases hc : (allOne (st.ev y).cells && Nat.blt 0 (st.ev y).cells.length && Nat.ble (st.ev y).cells.length 1000000) with
      | false => rw [hc] at h; cases h
      | true =>
        rw [hc] at h
        simp only [cond_true, Option.some.injEq] at h
        simp only [Bool.and_eq_true] at hc
        obtain ⟨⟨c1, c2⟩, c3⟩ := hc
        have c2 : 0 < (st.ev y).cells.length := by simpa using c2
        have c3 := Nat.le_of_ble_eq_true c3
        subst h
        have key := op_box_arr (P := P) (n := n) (st := st) (d := d) (ty := ty) (ps := ps) (af := af) (g := g) (e := e) (x := y) (rows := ones (st.ev y).cells) (sz := 1) (ones_flat _).symm (by rw [ones_flat]; exact c1) (by omega) (by rw [ones_len]; exact c2) (by rw [ones_len]; exact Nat.le_trans c3 (by decide)) ones_row hd
        rw [ones_len] at key
        exact key
    · cases h
  · rename_i t a v
    split at h
    · rename_i id m ha _
      split at h
      · rename_i q rows e z s b h1 h2 h3
        cases hc : (Nat.beq m rows.length && Nat.blt 0 m && allOne (st.ev v).cells && Nat.beq (st.ev v).cells.length m && Nat.beq s m && rows.all (fun r => Nat.beq r.length 1)) with
        | false => rw [hc] at h; cases h
        | true =>
          rw [hc] at h
          simp only [cond_true, Option.some.injEq] at h
          simp only [Bool.and_eq_true] at hc
          obtain ⟨⟨⟨⟨⟨c1, c2⟩, c3⟩, c4⟩, c5⟩, c6⟩ := hc
          have c1 := Nat.eq_of_beq_eq_true c1
          have c2 : 0 < m := by simpa using c2
          have c4 := Nat.eq_of_beq_eq_true c4
          have c5 := Nat.eq_of_beq_eq_true c5
          subst h
          exact op_store_arr ha h2 c1 c2 (ones_flat _).symm (by rw [ones_flat]; exact c3) (allP_at hT.inf h3) (by rw [ones_flat, c4, c5]) (by rw [ones_len, c4]) ones_row
      · cases h
    · cases h
  · rename_i t l c
    split at h
    · rename_i e k1 L k2 C hu hl hc
      split at h
      · rename_i z sz b hI
        cases hb : (decide (0 ≤ L) && decide (L < C) && decide ((b : Int) * C ≤ 281474976710656) && decide (C ≤ 9223372036854775807) && Nat.beq (z.cells.toList.map avOf).length sz && Nat.blt 0 sz && allOne (z.cells.toList.map avOf)) with
        | false => rw [hb] at h; cases h
        | true =>
          rw [hb] at h
          simp only [cond_true, Option.some.injEq] at h
          subst h
          simp only [Bool.and_eq_true] at hb
          obtain ⟨⟨⟨⟨⟨⟨b1, b2⟩, b3⟩, b4⟩, b5⟩, b6⟩, b7⟩ := hb
          have b2 : L < C := of_decide_eq_true b2
          exact op_makeC (allP_at hT.und hu) (allP_at hT.inf hI) rfl (Nat.eq_of_beq_eq_true b5) (by simpa using b6) b7 hl hc (of_decide_eq_true b1) (by omega) (of_decide_eq_true b3) (of_decide_eq_true b4) hd
      · cases h
    · cases h
  · rename_i t t' y
    split at h
    · rename_i s hx
      split at h
      · rename_i e h1 h2
        split at h
        · rename_i h3
          cases hc : Nat.ble s.size 1000000 with
          | false => rw [hc] at h; cases h
          | true =>
            rw [hc] at h
            simp only [cond_true, Option.some.injEq] at h
            subst h
            exact op_conv_str hx (allP_at hT.und h1) (allP_at hT.und h2) (allP_at hT.und h3) (Nat.le_of_ble_eq_true hc) hd
        · cases h
      · cases h
    · rename_i id m hx
      cases ht : Nat.beq t t' with
      | false => rw [ht] at h; cases h
      | true =>
        rw [ht] at h
        have ht := Nat.eq_of_beq_eq_true ht
        subst ht
        simp only [cond_true] at h
        split at h
        · rename_i e h1
          split at h
          · rename_i sz rows e' h2 h3
            cases hc : (Nat.beq m rows.length && Nat.blt 0 m) with
            | false => rw [hc] at h; cases h
            | true =>
              rw [hc] at h
              simp only [cond_true, Option.some.injEq] at h
              subst h
              simp only [Bool.and_eq_true] at hc
              exact op_conv_mark hx h3 (Nat.eq_of_beq_eq_true hc.1) (by simpa using hc.2) (allP_at hT.und h1) (allP_at hT.und h2) hd
          · cases h
        · cases h
    · cases h
  · rename_i x y t t'
    split at h
    · rename_i id m s hx hy
      split at h
      · rename_i e h1 h2
        split at h
        · rename_i z rows e' h3 h4
          cases hc : (Nat.beq e' e && Nat.beq m rows.length && Nat.blt 0 s.size && Nat.ble (rows.length + s.size) 1000000 && Nat.beq z.cells.size 1) with
          | false => rw [hc] at h; cases h
          | true =>
            rw [hc] at h
            simp only [cond_true, Option.some.injEq] at h
            subst h
            simp only [Bool.and_eq_true] at hc
            obtain ⟨⟨⟨⟨c1, c2⟩, c3⟩, c4⟩, c5⟩ := hc
            have c1 := Nat.eq_of_beq_eq_true c1
            subst c1
            exact op_append_str hx h4 (Nat.eq_of_beq_eq_true c2) hy (by simpa using c3) (allP_at hT.und h1) (allP_at hT.und h2) (allP_at hT.inf h3) (Nat.eq_of_beq_eq_true c5) (Nat.le_of_ble_eq_true c4) hd
        · cases h
      · cases h
    · rename_i id m kq L hx hy
      split at h
      · rename_i e kn h1 h2
        split at h
        · rename_i z rows e' h3 h4
          split at h
          · rename_i c h5
            cases hc : (Nat.beq e' e && Nat.beq m rows.length && decide (0 < L) && Nat.ble (rows.length + L.toNat) 1000000 && c.oneCell') with
            | false => rw [hc] at h; cases h
            | true =>
              rw [hc] at h
              simp only [cond_true, Option.some.injEq] at h
              subst h
              simp only [Bool.and_eq_true] at hc
              obtain ⟨⟨⟨⟨c1, c2⟩, c3⟩, c4⟩, c5⟩ := hc
              have c1 := Nat.eq_of_beq_eq_true c1
              subst c1
              exact op_append_zeros hx h4 (Nat.eq_of_beq_eq_true c2) hy (of_decide_eq_true c3) (allP_at hT.und h1) (allP_at hT.und h2) (allP_at hT.inf h3) h5 rfl c5 (Nat.le_of_ble_eq_true c4) hd
          · cases h
        · cases h
      · cases h
    · cases h
  · cases h
theorem rdX_ok (hT : T.ok P) (h : rdX T st o.op = some x) (hd : dok o.dst n = true) : OpR P n o st x := by
  obtain ⟨d, op, ty, ps, af, g⟩ := o
  simp only at h
  have hd : dok d n = true := hd
  unfold rdX at h
  split at h
  · split at h
    · rename_i hu hx hy
      injection h with h
      subst h
      exact op_nilpEq (neq := false) hx hy (allP_at hT.und hu) hd
    · rename_i hu hx hy
      injection h with h
      subst h
      exact op_boxNil (neq := false) hx hy (allP_at hT.und hu) hd
    · rename_i hu hx hy
      injection h with h
      subst h
      exact op_nilEq (neq := false) hx hy (allP_at hT.und hu) hd
    · rename_i id m hu hx hy
      split at h
      · rename_i sz rows e hb
        cases hc : (Nat.beq m rows.length && Nat.blt 0 m) with
        | false => rw [hc] at h; cases h
        | true =>
          rw [hc] at h
          injection h with h
          subst h
          rw [Bool.and_eq_true] at hc
          exact op_oslNil (neq := false) hx hb (Nat.eq_of_beq_eq_true hc.1) (by simpa using hc.2) hy (allP_at hT.und hu) hd
      · cases h
    · cases h
  · split at h
    · rename_i hu hx hy
      injection h with h
      subst h
      exact op_nilpEq (neq := true) hx hy (allP_at hT.und hu) hd
    · rename_i hu hx hy
      injection h with h
      subst h
      exact op_boxNil (neq := true) hx hy (allP_at hT.und hu) hd
    · rename_i hu hx hy
      injection h with h
      subst h
      exact op_nilEq (neq := true) hx hy (allP_at hT.und hu) hd
    · rename_i id m hu hx hy
      split at h
      · rename_i sz rows e hb
        cases hc : (Nat.beq m rows.length && Nat.blt 0 m) with
        | false => rw [hc] at h; cases h
        | true =>
          rw [hc] at h
          injection h with h
          subst h
          rw [Bool.and_eq_true] at hc
          exact op_oslNil (neq := true) hx hb (Nat.eq_of_beq_eq_true hc.1) (by simpa using hc.2) hy (allP_at hT.und hu) hd
      · cases h
    · cases h
  · split at h
    · rename_i args _ m ns h1
      injection h with h
      subst h
      rw [evL_eq, List.append_nil] at h1
      exact op_maxs (hi := true) h1 hd
    · cases h
  · split at h
    · rename_i args _ m ns h1
      injection h with h
      subst h
      rw [evL_eq, List.append_nil] at h1
      exact op_maxs (hi := false) h1 hd
    · cases h
  · split at h
    · rename_i L e z s b hu hI
      split at h
      · rename_i zz ss bb hE
        cases hb : allOne (z.cells.toList.map avOf) with
        | false => rw [hb] at h; cases h
        | true =>
          rw [hb] at h
          simp only [cond_true] at h
          split at h
          · rename_i out hf
            injection h with h
            subst h
            exact op_build_arr (allP_at hT.und hu) (allP_at hT.inf hI) (allP_at hT.inf hE) rfl hb hf hd
          · cases h
      · cases h
    · cases h
  · split at h
    · rename_i k m hx
      injection h with h
      subst h
      exact op_compl' hx hd
    · cases h
  · split at h
    · rename_i t y z id m k i hx hy
      split at h
      · rename_i L e zz b rows e' h1 h2
        cases hc : (Nat.beq m rows.length && decide (0 ≤ i) && decide (i < (L : Int)) && decide (i < (m : Int))) with
        | false => rw [hc] at h; cases h
        | true =>
          rw [hc] at h
          injection h with h
          subst h
          simp only [Bool.and_eq_true] at hc
          obtain ⟨⟨⟨c1, c2⟩, c3⟩, c4⟩ := hc
          obtain ⟨g1, g2⟩ := arrOf_ok hT h1
          exact op_index_arr hx h2 (Nat.eq_of_beq_eq_true c1) hy g1 g2 (of_decide_eq_true c2) (of_decide_eq_true c3) (of_decide_eq_true c4) hd
      · cases h
    · cases h
  · split at h
    · rename_i t y id m hx
      split at h
      · rename_i q rows e' zz s b h1 h2 h3
        cases hc : (Nat.beq m rows.length && Nat.blt 0 m && Nat.beq s m) with
        | false => rw [hc] at h; cases h
        | true =>
          rw [hc] at h
          injection h with h
          subst h
          simp only [Bool.and_eq_true] at hc
          obtain ⟨⟨c1, c2⟩, c3⟩ := hc
          obtain ⟨L, e, z, bb⟩ := q
          obtain ⟨g1, g2⟩ := arrOf_ok hT h1
          exact op_load_arr hx h2 (Nat.eq_of_beq_eq_true c1) (by simpa using c2) g1 rfl (allP_at hT.inf h3) (by rw [Nat.eq_of_beq_eq_true c3, Nat.mul_one]) hd
      · cases h
    · cases h
  · split at h
    · rename_i t y lo hi id m hx
      split at h
      · rename_i L e zz b rows e' h1 h2
        split at h
        · rename_i l hh g3 g4
          cases hc : (Nat.beq m rows.length && Nat.beq L m && Nat.blt 0 m && inB3 l hh m) with
          | false => rw [hc] at h; cases h
          | true =>
            rw [hc] at h
            injection h with h
            subst h
            simp only [Bool.and_eq_true] at hc
            obtain ⟨⟨⟨c1, c2⟩, c3⟩, c4⟩ := hc
            obtain ⟨g1, g2⟩ := arrOf_ok hT h1
            have c2 := Nat.eq_of_beq_eq_true c2
            subst c2
            obtain ⟨b1, b2, b3⟩ := inB3_ok c4
            exact op_slice_arr hx h2 (Nat.eq_of_beq_eq_true c1) (bndN_ok g3) (bndN_ok g4) g1 g2 b1 b2 b3 (by simpa using c3) hd
        · cases h
      · cases h
    · cases h
  · cases h
theorem rdX_nx (r : List (Nat × AV)) (h : List (Nat × AB)) (k k' : Nat) (op : Op) : rdX T ⟨r, h, k⟩ op = rdX T ⟨r, h, k'⟩ op := by
  unfold rdX
  split <;> simp only [ev_nx r h k k', evL_nx r h k k', bndN_nx r h k k', evParts_nx r h k k']
def readR (T : Tab) (st : ASt) (op : Op) : Option AV := match readC T st op with
  | some x => some x
  | none => rdX T st op
theorem readR_ok (hT : T.ok P) (h : readR T st o.op = some x) (hd : dok o.dst n = true) : OpR P n o st x := by
  unfold readR at h
  split at h
  · rename_i y h1
    injection h with h
    subst h
    exact readC_ok hT h1 hd
  · exact rdX_ok hT h hd
theorem readR_nx (r : List (Nat × AV)) (h : List (Nat × AB)) (k k' : Nat) (op : Op) : readR T ⟨r, h, k⟩ op = readR T ⟨r, h, k'⟩ op := by
  unfold readR
  rw [readC_nx r h k k', rdX_nx r h k k']
def memR (C : Ctx) (self : SelfT) (st : ASt) (o : Oper) : Option ASt := match memX C.T st o.dst o.op with
  | some s => some s
  | none => memC C self st o
theorem memR_Y {C : Ctx} {self : SelfT} (hC : C.ok P) (hS : SelfOk P self) (hd : dok o.dst n = true) (h : memR C self st o = some st') : OpY P n o st st' := by
  unfold memR at h
  split at h
  · rename_i s h1
    injection h with h
    subst h
    exact .ofV (memX_ok hC.T h1 hd)
  · exact memC_Y hC hS hd h
theorem memR_ok {C : Ctx} {self : SelfT} {ops : Array Oper} {l : List Oper} {Q : Exit → ASt → Prop} (hC : C.ok P) (hS : SelfOk P self) (hd : dok o.dst n = true) (h : memR C self st o = some st') (hw : ∀ (K : Kn) (a : Act) (w : World) (G : Gh), RelG K n st a w G → Region.wanted o (yielded ops a.tmps) = true) (k : AL P n ops Q l st') : AL P n ops Q (o :: l) st := by
  unfold memR at h
  split at h
  · rename_i s h1
    injection h with h
    subst h
    exact AL.opw hw (memX_ok hC.T h1 hd) k
  · exact memC_ok hC hS hd h hw k
end
/-! ### The whole memory in order, each block once -/
/-! ### Blocks that nobody can reach are dropped at the end of a function -/
def fNs {α : Type} : List Nat → (List Nat → α) → α
  | [], k => k []
  | a :: l, k => fN a fun a => fNs l fun l => k (a :: l)
theorem fNs_eq {α : Type} (l : List Nat) : ∀ (k : List Nat → α), fNs l k = k l := by
  induction l with
  | nil => intro k; rfl
  | cons a l ih => intro k; rw [fNs, fN_eq, ih]
def pickK {α : Type} (h : List (Nat × AB)) : List Nat → List (Nat × AB) → (List (Nat × AB) → α) → α
  | [], acc, k => k acc
  | j :: l, acc, k => fB (look .dead h j) fun b => pickK h l ((j, b) :: acc) k
def pickA (h : List (Nat × AB)) : List Nat → List (Nat × AB) → List (Nat × AB)
  | [], acc => acc
  | j :: l, acc => pickA h l ((j, look .dead h j) :: acc)
theorem pickK_eq {α : Type} (h : List (Nat × AB)) : ∀ (l : List Nat) (acc : List (Nat × AB)) (k : List (Nat × AB) → α), pickK h l acc k = k (pickA h l acc)
  | [], _, _ => rfl
  | j :: l, acc, k => by rw [pickK, pickA, fB_eq]; exact pickK_eq h l _ k
theorem pickA_les (h : List (Nat × AB)) : ∀ (l : List Nat) (acc : List (Nat × AB)), (∀ id, LesB (look .dead acc id) (look .dead h id)) → ∀ id, LesB (look .dead (pickA h l acc) id) (look .dead h id)
  | [], _, ha, id => ha id
  | j :: l, acc, ha, id => pickA_les h l _ (fun id => by
      rw [look_cons]
      by_cases e : j = id
      · subst e; rw [if_pos rfl]; exact .refl _
      · rw [if_neg e]; exact ha id) id
def gcK {α : Type} (h : List (Nat × AB)) (nx0 : Nat) (x : AV) (k : List (Nat × AB) → α) : α := bif Nat.blt 40 h.length then
    fNs (clo (look .dead h) 100000 (idsV x ++ (h.filter fun p => Nat.blt p.1 nx0).map (·.1)) []) fun l => pickK h l [] k
  else k h
theorem gcK_eq (h : List (Nat × AB)) (nx0 : Nat) (x : AV) : ∃ h', (∀ id, LesB (look .dead h' id) (look .dead h id)) ∧ ∀ {α : Type} (k : List (Nat × AB) → α), gcK h nx0 x k = k h' := by
  unfold gcK
  cases Nat.blt 40 h.length with
  | false => exact ⟨h, fun _ => .refl _, fun k => rfl⟩
  | true => exact ⟨_, pickA_les h _ [] (fun _ => .dead _), fun k => by simp only [cond_true]; rw [fNs_eq, pickK_eq]⟩
theorem AC.lesH {P : Program} {F : FuncId} {xs : List AV} {hp hp1 hp2 : List (Nat × AB)} {nx nx1 : Nat} {x : AV} (h : AC P F xs hp nx (fun y h' n' => y = x ∧ h' = hp1 ∧ n' = nx1)) (hl : ∀ id, LesB (look .dead hp2 id) (look .dead hp1 id)) : AC P F xs hp nx (fun y h' n' => y = x ∧ h' = hp2 ∧ n' = nx1) := fun w0 w G vs a1 a2 a3 => by
  refine (h w0 w G vs a1 a2 a3).mono fun e w' ⟨v, x', hp', nx', G', he, ⟨e3, e4, e5⟩, hnx, hHR, hRV, hExt⟩ => ?_
  subst e4
  exact ⟨v, x', hp2, nx', G', he, ⟨e3, rfl, e5⟩, hnx, ⟨hHR.bs, hHR.below, hHR.ownlt, fun id => (hl id).ok (hHR.blk id), hHR.dist, hHR.ownhas⟩, hRV, hExt⟩
end Go.Proofs.Ytelpkjellakigaa.Rn
/- A run of the abstract machine by one computed function: control, functions. No program in sight. -/
namespace Go.Proofs.Ytelpkjellakigaa.Rn
open Go Go.RowKit Go.Proofs.Ytelpkjellakigaa Go.Proofs.Ytelpkjellakigaa.Dr

section
variable {P : Program} {n : Nat} {T : List (List Nat)} {W : List (Nat × Nat)} {M : List (Nat × AB)} {st st' : ASt} {o : Oper} {x : AV} {Q : Exit → ASt → Prop} {ops : Array Oper} {l : List Oper}
theorem look_mem {d : AB} : ∀ {l : List (Nat × AB)} {id : Nat}, look d l id ≠ d → ∃ p ∈ l, p.1 = id
  | [], id, h => absurd rfl h
  | (j, v) :: l, id, h => by
    rw [look_cons] at h
    by_cases e : j = id
    · exact ⟨(j, v), by simp, e⟩
    · rw [if_neg e] at h
      obtain ⟨p, h1, h2⟩ := look_mem h
      exact ⟨p, List.mem_cons_of_mem _ h1, h2⟩
theorem srcRows_nx (r : List (Nat × AV)) (h : List (Nat × AB)) (k k' : Nat) (sz : Nat) (a : AV) : srcRows ⟨r, h, k⟩ sz a = srcRows ⟨r, h, k'⟩ sz a := by
  cases a <;> rfl
end
end Go.Proofs.Ytelpkjellakigaa.Rn
/- Short ways for the commonest operations: small bodies, for the kernel's sake. No program in sight. -/
namespace Go.Proofs.Ytelpkjellakigaa.Rn
open Go Go.RowKit Go.Proofs.Ytelpkjellakigaa Go.Proofs.Ytelpkjellakigaa.Dr

def chk64 (r : Int) : Option AV := bif decide (-9223372036854775808 ≤ r) && decide (r ≤ 9223372036854775807) then some (.int .i64 r) else none
def fastI (o : BinOp) (m q : Int) : Option AV := match o with
  | .add => chk64 (m + q)
  | .sub => chk64 (m - q)
  | .mul => chk64 (m * q)
  | .lss => some (.bool (decide (m < q)))
  | .leq => some (.bool (decide (m ≤ q)))
  | .gtr => some (.bool (decide (q < m)))
  | .geq => some (.bool (decide (q ≤ m)))
  | .eql => some (.bool (decide (m = q)))
  | .neq => some (.bool (decide (m ≠ q)))
  | .quo => bif decide (q = 0) then none else chk64 (m.tdiv q)
  | .rem => bif decide (q = 0) then none else some (.int .i64 (m.tmod q))
  | _ => none
def kc : IntKind → Nat
  | .i8 => 0 | .i16 => 1 | .i32 => 2 | .i64 => 3 | .u8 => 4 | .u16 => 5 | .u32 => 6 | .u64 => 7
theorem kc_inj {k k' : IntKind} (h : Nat.beq (kc k) (kc k') = true) : k = k' := by
  cases k <;> cases k' <;> first | rfl | (simp [kc] at h)
def fastK (k : IntKind) (o : BinOp) (m q : Int) : Option AV := match o with
  | .and => some (.int k (bits .and k m q))
  | .or => some (.int k (bits .or k m q))
  | .xor => some (.int k (bits .xor k m q))
  | .add => some (.int k (k.wrap (m + q)))
  | .sub => some (.int k (k.wrap (m - q)))
  | .eql => some (.bool (decide (m = q)))
  | .neq => some (.bool (decide (m ≠ q)))
  | _ => none
def fastSh (k : IntKind) (o : BinOp) (m q : Int) : Option AV := match o with
  | .shr => bif decide (0 ≤ q) && decide (q ≤ (k.bits : Int)) then some (.int k (m / 2 ^ q.toNat)) else none
  | .shl => bif decide (0 ≤ q) && decide (q ≤ (k.bits : Int)) then some (.int k (k.wrap (m * 2 ^ q.toNat))) else none
  | _ => none
def fastB (o : BinOp) (a b : AV) : Option AV := match a, b with
  | .int k m, .int k' q => match fastSh k o m q with
    | some x => some x
    | none => bif Nat.beq (kc k) (kc k') then (match fastI3 k o m q with
      | some x => some x
      | none => fastK k o m q) else none
  | _, _ => none
where fastI3 (k : IntKind) (o : BinOp) (m q : Int) : Option AV := bif Nat.beq (kc k) 3 then fastI o m q else none
def fastL (T : Tab) (st : ASt) (t : TypeId) (a : AV) : Option AV := match a with
  | .box id o => match look .dead st.heap id, lk T.und t, lk T.inf t with
    | .box cs _, some D, some (_, s, _) => partA cs o s (aggB D)
    | _, _, _ => none
  | .elt id m i o => match look .dead st.heap id, lk T.und t, lk T.inf t with
    | .row _ rows _, some D, some (_, s, _) => match rows[i]? with
      | some row => bif Nat.beq m rows.length then partA row o s (aggB D) else none
      | none => none
    | _, _, _ => none
  | _ => none
def fastX (T : Tab) (st : ASt) (t : TypeId) (a b : AV) : Option AV := match a, b with
  | .osl id m, .int _ i => match look .dead st.heap id, lk T.und t with
    | .row sz rows _, some (.slice e) => match lk T.inf e with
      | some (_, s, _) => bif Nat.beq s sz && Nat.beq m rows.length && decide (0 ≤ i) && decide (i < (m : Int)) then some (.elt id m i.toNat 0) else none
      | none => none
    | _, _ => none
  | _, _ => none
def fastF (T : Tab) (t f : Nat) (a : AV) : Option AV := match a with
  | .box id o => match lk T.fld t with
    | some fl => match fl[f]? with
      | some (off, s, _) => bif Nat.beq s 0 then none else some (.box id (o + off))
      | none => none
    | none => none
  | _ => none
def fast (T : Tab) (st : ASt) : Op → Option AV
  | .move x => some (st.ev x)
  | .assign x => some (st.ev x)
  | .binOp o _ x y _ => fastB o (st.ev x) (st.ev y)
  | .load t x => fastL T st t (st.ev x)
  | .indexAddr t x y => fastX T st t (st.ev x) (st.ev y)
  | .fieldAddr t x f => fastF T t f (st.ev x)
  | _ => none
section
variable {P : Program} {n : Nat} {T : Tab} {st st' : ASt} {o : Oper} {x : AV}
theorem chk64_ok {r : Int} (h : chk64 r = some x) : x = .int .i64 r ∧ IntKind.i64.wrap r = r := by
  unfold chk64 at h
  cases hc : (decide (-9223372036854775808 ≤ r) && decide (r ≤ 9223372036854775807)) with
  | false => rw [hc] at h; cases h
  | true =>
    rw [hc] at h
    injection h with h
    rw [Bool.and_eq_true] at hc
    exact ⟨h.symm, wr64 (of_decide_eq_true hc.1) (of_decide_eq_true hc.2)⟩
theorem fast_ok (hT : T.ok P) (h : fast T st o.op = some x) (hd : dok o.dst n = true) : OpR P n o st x := by
  obtain ⟨d, op, ty, ps, af, g⟩ := o
  simp only at h
  have hd : dok d n = true := hd
  unfold fast at h
  split at h
  · injection h with h
    exact op_move h hd
  · injection h with h
    exact op_assign h hd
  · rename_i o t y z t'
    unfold fastB at h
    split at h
    · rename_i k m k' q hy hz
      split at h
      · rename_i x2 h1
        injection h with h
        subst h
        unfold fastSh at h1
        split at h1
        · cases hc : (decide (0 ≤ q) && decide (q ≤ (k.bits : Int))) with
          | false => rw [hc] at h1; cases h1
          | true =>
            rw [hc] at h1
            injection h1 with h1
            subst h1
            rw [Bool.and_eq_true] at hc
            exact op_shr hy hz (of_decide_eq_true hc.1) (of_decide_eq_true hc.2) hd
        · cases hc : (decide (0 ≤ q) && decide (q ≤ (k.bits : Int))) with
          | false => rw [hc] at h1; cases h1
          | true =>
            rw [hc] at h1
            injection h1 with h1
            subst h1
            rw [Bool.and_eq_true] at hc
            exact op_shl hy hz (of_decide_eq_true hc.1) (of_decide_eq_true hc.2) rfl hd
        · cases h1
      · cases hk : Nat.beq (kc k) (kc k') with
        | false => rw [hk] at h; cases h
        | true =>
          rw [hk] at h
          simp only [cond_true] at h
          have hkk := kc_inj hk
          subst hkk
          split at h
          · rename_i x2 h1
            injection h with h
            subst h
            unfold fastB.fastI3 at h1
            cases h3 : Nat.beq (kc k) 3 with
            | false => rw [h3] at h1; cases h1
            | true =>
              rw [h3] at h1
              have hki : k = .i64 := kc_inj (k' := .i64) h3
              subst hki
              have h : fastI o m q = some x2 := h1
              unfold fastI at h
              split at h
              · obtain ⟨rfl, h2⟩ := chk64_ok h; exact op_add hy hz h2 hd
              · obtain ⟨rfl, h2⟩ := chk64_ok h; exact op_sub hy hz h2 hd
              · obtain ⟨rfl, h2⟩ := chk64_ok h; exact op_mul hy hz h2 hd
              · injection h with h; subst h; exact op_lss hy hz hd
              · injection h with h; subst h; exact op_leq hy hz hd
              · injection h with h; subst h; exact op_gtr hy hz hd
              · injection h with h; subst h; exact op_geq hy hz hd
              · injection h with h; subst h; exact op_eql hy hz hd
              · injection h with h; subst h; exact op_neq hy hz hd
              · by_cases e : q = 0
                · rw [decide_eq_true e] at h; cases h
                · rw [decide_eq_false e] at h
                  obtain ⟨rfl, h2⟩ := chk64_ok h
                  exact op_quo hy hz e h2 hd
              · by_cases e : q = 0
                · rw [decide_eq_true e] at h; cases h
                · rw [decide_eq_false e] at h
                  injection h with h
                  subst h
                  exact op_rem hy hz e hd
              · cases h
          · unfold fastK at h
            split at h
            · injection h with h; subst h; exact op_bits (.inl rfl) hy hz rfl hd
            · injection h with h; subst h; exact op_bits (.inr (.inl rfl)) hy hz rfl hd
            · injection h with h; subst h; exact op_bits (.inr (.inr (.inl rfl))) hy hz rfl hd
            · injection h with h; subst h; exact op_add hy hz rfl hd
            · injection h with h; subst h; exact op_sub hy hz rfl hd
            · injection h with h; subst h; exact op_eql hy hz hd
            · injection h with h; subst h; exact op_neq hy hz hd
            · cases h
    · cases h
  · rename_i t y
    unfold fastL at h
    split at h
    · rename_i id off hy
      split at h
      · rename_i cs e D z s b hb hu hI
        exact op_load_box hy hb (allP_at hT.und hu) (allP_at hT.inf hI) h hd
      · cases h
    · rename_i id m i off hy
      split at h
      · rename_i sz rows e D z s b hb hu hI
        split at h
        · rename_i row hr
          cases hm : Nat.beq m rows.length with
          | false => rw [hm] at h; cases h
          | true =>
            rw [hm] at h
            exact op_load_elt hy hb (Nat.eq_of_beq_eq_true hm) hr (allP_at hT.und hu) (allP_at hT.inf hI) h hd
        · cases h
      · cases h
    · cases h
  · rename_i t y z
    unfold fastX at h
    split at h
    · rename_i id m k i hy hz
      split at h
      · rename_i sz rows e' e hb hu
        split at h
        · rename_i zz s b hI
          cases hc : (Nat.beq s sz && Nat.beq m rows.length && decide (0 ≤ i) && decide (i < (m : Int))) with
          | false => rw [hc] at h; cases h
          | true =>
            rw [hc] at h
            injection h with h
            subst h
            simp only [Bool.and_eq_true] at hc
            obtain ⟨⟨⟨c1, c2⟩, c3⟩, c4⟩ := hc
            exact op_index_osl hy hb (Nat.eq_of_beq_eq_true c2) hz (allP_at hT.und hu) (allP_at hT.inf hI) (Nat.eq_of_beq_eq_true c1) (of_decide_eq_true c3) (of_decide_eq_true c4) hd
        · cases h
      · cases h
    · cases h
  · rename_i t y f
    unfold fastF at h
    split at h
    · rename_i id off hy
      split at h
      · rename_i fl hF
        split at h
        · rename_i o2 s b hf
          cases hs : Nat.beq s 0 with
          | true => rw [hs] at h; cases h
          | false =>
            rw [hs] at h
            injection h with h
            subst h
            exact op_fieldAddr_box hy (allP_at hT.fld hF) hf (fun e => by subst e; cases hs) hd
        · cases h
      · cases h
    · cases h
  · cases h
theorem fast_nx (r : List (Nat × AV)) (h : List (Nat × AB)) (k k' : Nat) (op : Op) : fast T ⟨r, h, k⟩ op = fast T ⟨r, h, k'⟩ op := by
  unfold fast
  split <;> simp only [ev_nx r h k k', fastL, fastX]
/-- reading -/
def readF (T : Tab) (st : ASt) (op : Op) : Option AV := match fast T st op with
  | some x => some x
  | none => readR T st op
theorem readF_ok (hT : T.ok P) (h : readF T st o.op = some x) (hd : dok o.dst n = true) : OpR P n o st x := by
  unfold readF at h
  split at h
  · rename_i y h1
    injection h with h
    subst h
    exact fast_ok hT h1 hd
  · exact readR_ok hT h hd
theorem readF_nx (r : List (Nat × AV)) (h : List (Nat × AB)) (k k' : Nat) (op : Op) : readF T ⟨r, h, k⟩ op = readF T ⟨r, h, k'⟩ op := by
  unfold readF
  rw [fast_nx r h k k', readR_nx r h k k']
/-- calls at once; a store into a box or a row at once -/
def isVal : Op → Bool
  | .call ⟨.value _, _, _⟩ => true
  | _ => false
def fastS (T : Tab) (st : ASt) (t : TypeId) (a : AV) (vs : List AV) : Option ASt := match a with
  | .box id o => match look .dead st.heap id, lk T.inf t with
    | .box cs e, some (_, s, _) => bif allOne vs && Nat.beq vs.length s && Nat.ble (o + s) cs.length then some (st.hset id (.box (setR cs o vs) e)) else none
    | _, _ => none
  | _ => none
def fastM (T : Tab) (st : ASt) (d : Option Nat) : Op → Option ASt
  | .store t a v => match d with
    | none => fastS T st t (st.ev a) (st.ev v).cells
    | some _ => none
  | _ => none
theorem fastM_ok (hT : T.ok P) (h : fastM T st o.dst o.op = some st') : OpV P n o st st' := by
  obtain ⟨d, op, ty, ps, af, g⟩ := o
  simp only at h
  unfold fastM at h
  split at h
  · rename_i t a v
    split at h
    · unfold fastS at h
      split at h
      · rename_i id off ha
        split at h
        · rename_i cs e z s b hb hI
          cases hc : (allOne (st.ev v).cells && Nat.beq (st.ev v).cells.length s && Nat.ble (off + s) cs.length) with
          | false => rw [hc] at h; cases h
          | true =>
            rw [hc] at h
            injection h with h
            subst h
            simp only [Bool.and_eq_true] at hc
            exact op_store_box ha hb rfl hc.1.1 (allP_at hT.inf hI) (Nat.eq_of_beq_eq_true hc.1.2) (Nat.le_of_ble_eq_true hc.2)
        · cases h
      · cases h
    · cases h
  · cases h
def memF (C : Ctx) (self : SelfT) (st : ASt) (o : Oper) : Option ASt := bif isVal o.op then callC C self st o.dst o.op else match fastM C.T st o.dst o.op with
  | some s => some s
  | none => memR C self st o
theorem memR_call {C : Ctx} {self : SelfT} (h : isVal o.op = true) : callC C self st o.dst o.op = some st' → memC C self st o = some st' := by
  obtain ⟨d, op, ty, ps, af, g⟩ := o
  simp only at h ⊢
  unfold isVal at h
  split at h
  · intro h2
    exact h2
  · cases h
theorem memF_Y {C : Ctx} {self : SelfT} (hC : C.ok P) (hS : SelfOk P self) (hd : dok o.dst n = true) (h : memF C self st o = some st') : OpY P n o st st' := by
  unfold memF at h
  cases hv : isVal o.op with
  | true =>
    rw [hv] at h
    exact memC_Y hC hS hd (memR_call hv h)
  | false =>
    rw [hv] at h
    simp only [cond_false] at h
    split at h
    · rename_i s h1
      injection h with h
      subst h
      exact .ofV (fastM_ok hC.T h1)
    · exact memR_Y hC hS hd h
theorem memF_ok {C : Ctx} {self : SelfT} {ops : Array Oper} {l : List Oper} {Q : Exit → ASt → Prop} (hC : C.ok P) (hS : SelfOk P self) (hd : dok o.dst n = true) (h : memF C self st o = some st') (hw : ∀ (K : Kn) (a : Act) (w : World) (G : Gh), RelG K n st a w G → Region.wanted o (yielded ops a.tmps) = true) (k : AL P n ops Q l st') : AL P n ops Q (o :: l) st := by
  unfold memF at h
  cases hv : isVal o.op with
  | true =>
    rw [hv] at h
    exact memC_ok hC hS hd (memR_call hv h) hw k
  | false =>
    rw [hv] at h
    simp only [cond_false] at h
    split at h
    · rename_i s h1
      injection h with h
      subst h
      exact AL.opw hw (fastM_ok hC.T h1) k
    · exact memR_ok hC hS hd h hw k
/-- a key taken out -/
def remK {β α : Type} (d : Nat) : List (Nat × β) → (List (Nat × β) → α) → α
  | [], k => k []
  | (j, x) :: l, k => bif Nat.beq j d then remK d l k else remK d l fun l => k ((j, x) :: l)
def remA {β : Type} (d : Nat) : List (Nat × β) → List (Nat × β)
  | [] => []
  | (j, x) :: l => bif Nat.beq j d then remA d l else (j, x) :: remA d l
theorem remK_eq {β α : Type} (d : Nat) (l : List (Nat × β)) : ∀ (k : List (Nat × β) → α), remK d l k = k (remA d l) := by
  induction l with
  | nil => intro k; rfl
  | cons p l ih =>
    intro k
    obtain ⟨j, x⟩ := p
    rw [remK, remA]
    cases Nat.beq j d with
    | true => simp only [cond_true]; exact ih k
    | false => simp only [cond_false]; rw [ih]
theorem remA_look {β : Type} (dd : β) (d : Nat) (l : List (Nat × β)) {i : Nat} (h : d ≠ i) : look dd (remA d l) i = look dd l i := by
  induction l with
  | nil => rfl
  | cons p l ih =>
    obtain ⟨j, x⟩ := p
    rw [remA, look_cons]
    cases hb : Nat.beq j d with
    | true =>
      have := Nat.eq_of_beq_eq_true hb
      subst this
      simp only [cond_true]
      rw [if_neg h, ih]
    | false =>
      simp only [cond_false]
      rw [look_cons, ih]
theorem front_look {β : Type} (dd : β) (d : Nat) (v : β) (l : List (Nat × β)) (i : Nat) : look dd ((d, v) :: remA d l) i = look dd ((d, v) :: l) i := by
  rw [look_cons, look_cons]
  by_cases e : d = i
  · rw [if_pos e, if_pos e]
  · rw [if_neg e, if_neg e, remA_look dd d l e]
def nmQ {α : Type} (st : ASt) (d : Option Nat) (x : AV) (k : ASt → α) : α := match d with
  | some d => fA1 x fun x => match st with
    | ⟨r, h, n⟩ => k ⟨(d, x) :: r, h, n⟩
  | none => k st
theorem nmQ_eq (st : ASt) (d : Option Nat) (x : AV) : ∃ st', Eqv (st.put d x) st' ∧ ∀ {α : Type} (k : ASt → α), nmQ st d x k = k st' := by
  cases d with
  | none => exact ⟨st, Eqv.refl _, fun k => rfl⟩
  | some d =>
    obtain ⟨r, h, n⟩ := st
    exact ⟨⟨(d, x) :: r, h, n⟩, ⟨fun t => rfl, fun _ => rfl, rfl⟩, fun k => by rw [nmQ, fA1_eq]⟩
def nm2R {α : Type} : List (Nat × AV) → (List (Nat × AV) → α) → α
  | [], k => k []
  | (d, v) :: l, k => fA1 v fun v => remK d l fun l => k ((d, v) :: l)
def nm2H {α : Type} : List (Nat × AB) → (List (Nat × AB) → α) → α
  | [], k => k []
  | (d, v) :: l, k => fB v fun v => remK d l fun l => k ((d, v) :: l)
def nm2 {α : Type} (st : ASt) (k : ASt → α) : α := nm2R st.regs fun r => nm2H st.heap fun h => fN st.nx fun x => k ⟨r, h, x⟩
theorem nm2_eq (st : ASt) : ∃ st', Eqv st st' ∧ ∀ {α : Type} (k : ASt → α), nm2 st k = k st' := by
  obtain ⟨r, h, x⟩ := st
  have h1 : ∃ r', (∀ d, look AV.any r d = look .any r' d) ∧ ∀ {α : Type} (k : List (Nat × AV) → α), nm2R r k = k r' := by
    cases r with
    | nil => exact ⟨[], fun _ => rfl, fun _ => rfl⟩
    | cons p l =>
      obtain ⟨d, v⟩ := p
      exact ⟨(d, v) :: remA d l, fun i => (front_look _ _ _ _ _).symm, fun k => by rw [nm2R, fA1_eq, remK_eq]⟩
  have h2 : ∃ r', (∀ d, look AB.dead h d = look .dead r' d) ∧ ∀ {α : Type} (k : List (Nat × AB) → α), nm2H h k = k r' := by
    cases h with
    | nil => exact ⟨[], fun _ => rfl, fun _ => rfl⟩
    | cons p l =>
      obtain ⟨d, v⟩ := p
      exact ⟨(d, v) :: remA d l, fun i => (front_look _ _ _ _ _).symm, fun k => by rw [nm2H, fB_eq, remK_eq]⟩
  obtain ⟨r', a1, a2⟩ := h1
  obtain ⟨h', b1, b2⟩ := h2
  exact ⟨⟨r', h', x⟩, ⟨a1, b1, rfl⟩, fun k => by rw [nm2, a2, b2, fN_eq]⟩
/-- behind a call: the memory is in order already -/
def nm2C {α : Type} (st : ASt) (k : ASt → α) : α := match st with
  | ⟨r, h, n⟩ => nm2R r fun r => fN n fun x => k ⟨r, h, x⟩
theorem nm2C_eq (st : ASt) : ∃ st', Eqv st st' ∧ ∀ {α : Type} (k : ASt → α), nm2C st k = k st' := by
  obtain ⟨r, h, x⟩ := st
  have h1 : ∃ r', (∀ d, look AV.any r d = look .any r' d) ∧ ∀ {α : Type} (k : List (Nat × AV) → α), nm2R r k = k r' := by
    cases r with
    | nil => exact ⟨[], fun _ => rfl, fun _ => rfl⟩
    | cons p l =>
      obtain ⟨d, v⟩ := p
      exact ⟨(d, v) :: remA d l, fun i => (front_look _ _ _ _ _).symm, fun k => by rw [nm2R, fA1_eq, remK_eq]⟩
  obtain ⟨r', a1, a2⟩ := h1
  exact ⟨⟨r', h, x⟩, ⟨a1, fun _ => rfl, rfl⟩, fun k => by rw [nm2C, a2, fN_eq]⟩
def nm2V {α : Type} (c : Bool) (st : ASt) (k : ASt → α) : α := bif c then nm2C st k else nm2 st k
theorem nm2V_eq (c : Bool) (st : ASt) : ∃ st', Eqv st st' ∧ ∀ {α : Type} (k : ASt → α), nm2V c st k = k st' := by
  cases c with
  | true => exact nm2C_eq st
  | false => exact nm2_eq st
/-- registers that are hidden by newer ones are dropped -/
def longer {β : Type} : Nat → List β → Bool
  | _, [] => false
  | 0, _ :: _ => true
  | n + 1, _ :: l => longer n l
def dedK {α : Type} : Nat → List (Nat × AV) → (List (Nat × AV) → α) → α
  | 0, l, k => k l
  | _ + 1, [], k => k []
  | n + 1, (d, v) :: l, k => remK d l fun l => dedK n l fun l => k ((d, v) :: l)
theorem dedK_eq : ∀ (n : Nat) (l : List (Nat × AV)), ∃ l', (∀ d, look AV.any l d = look .any l' d) ∧ ∀ {α : Type} (k : List (Nat × AV) → α), dedK n l k = k l'
  | 0, l => ⟨l, fun _ => rfl, fun _ => rfl⟩
  | _ + 1, [] => ⟨[], fun _ => rfl, fun _ => rfl⟩
  | n + 1, (d, v) :: l => by
    obtain ⟨l', h1, h2⟩ := dedK_eq n (remA d l)
    refine ⟨(d, v) :: l', fun i => ?_, fun k => by rw [dedK, remK_eq, h2]⟩
    rw [← front_look, look_cons, look_cons, h1]
def prune {α : Type} (st : ASt) (k : ASt → α) : α := match st with
  | ⟨r, h, x⟩ => bif longer 300 r then dedK 1000 r fun r => k ⟨r, h, x⟩ else k ⟨r, h, x⟩
theorem prune_eq (st : ASt) : ∃ st', Eqv st st' ∧ ∀ {α : Type} (k : ASt → α), prune st k = k st' := by
  obtain ⟨r, h, x⟩ := st
  cases h0 : longer 300 r with
  | false => exact ⟨⟨r, h, x⟩, Eqv.refl _, fun k => by rw [prune, h0]; rfl⟩
  | true =>
    obtain ⟨r', h1, h2⟩ := dedK_eq 1000 r
    exact ⟨⟨r', h, x⟩, ⟨h1, fun _ => rfl, rfl⟩, fun k => by rw [prune, h0]; simp only [cond_true]; rw [h2]⟩
/-- a store into one element of a row: the other elements are left as they are -/
structure EltS where
  id : Nat
  sz : Nat
  rows : List (List AV)
  i : Nat
  row : List AV
  e : TypeId
def EltS.app (q : EltS) (st : ASt) : ASt := st.hset q.id (.row q.sz (q.rows.set q.i q.row) q.e)
def eltS (T : Tab) (st : ASt) (d : Option Nat) : Op → Option EltS
  | .store t a v => match d with
    | none => match st.ev a with
      | .elt id m i o => match look .dead st.heap id, lk T.inf t with
        | .row sz rows e, some (_, s, _) => match rows[i]? with
          | some row => bif Nat.beq m rows.length && (allOne (st.ev v).cells && (Nat.beq (st.ev v).cells.length s && Nat.ble (o + s) sz)) then some ⟨id, sz, rows, i, setR row o (st.ev v).cells, e⟩ else none
          | none => none
        | _, _ => none
      | _ => none
    | some _ => none
  | _ => none
theorem eltS_ok {q : EltS} (hT : T.ok P) (h : eltS T st o.dst o.op = some q) : OpV P n o st (q.app st) := by
  obtain ⟨d, op, ty, ps, af, g⟩ := o
  simp only at h
  unfold eltS at h
  split at h
  · rename_i t a v
    split at h
    · split at h
      · rename_i id m i oo ha
        split at h
        · rename_i sz rows e z s b hb hI
          split at h
          · rename_i row hr
            cases hc : (Nat.beq m rows.length && (allOne (st.ev v).cells && (Nat.beq (st.ev v).cells.length s && Nat.ble (oo + s) sz))) with
            | false => rw [hc] at h; cases h
            | true =>
              rw [hc] at h
              injection h with h
              subst h
              simp only [Bool.and_eq_true] at hc
              exact op_store_elt ha hb (Nat.eq_of_beq_eq_true hc.1) hr rfl hc.2.1 (allP_at hT.inf hI) (Nat.eq_of_beq_eq_true hc.2.2.1) (Nat.le_of_ble_eq_true hc.2.2.2)
          · cases h
        · cases h
      · cases h
    · cases h
  · cases h
def setRow1 {α : Type} : List (List AV) → Nat → List AV → (List (List AV) → α) → α
  | [], _, _, k => k []
  | _ :: l, 0, x, k => fL1 x fun x => k (x :: l)
  | r :: l, i + 1, x, k => setRow1 l i x fun l => k (r :: l)
theorem setRow_eq1 {α : Type} : ∀ (l : List (List AV)) (i : Nat) (x : List AV) (k : List (List AV) → α), setRow1 l i x k = k (l.set i x)
  | [], _, _, _ => rfl
  | _ :: l, 0, x, k => by rw [setRow1, fL1_eq]; rfl
  | r :: l, i + 1, x, k => by rw [setRow1, setRow_eq1 l i x]; rfl
def nmE {α : Type} (q : EltS) (st : ASt) (k : ASt → α) : α := match st with
  | ⟨r, h, n⟩ => setRow1 q.rows q.i q.row fun rows => remK q.id h fun h => k ⟨r, (q.id, .row q.sz rows q.e) :: h, n⟩
theorem nmE_eq (q : EltS) (st : ASt) : ∃ st', Eqv (q.app st) st' ∧ ∀ {α : Type} (k : ASt → α), nmE q st k = k st' := by
  obtain ⟨r, h, n⟩ := st
  exact ⟨⟨r, (q.id, .row q.sz (q.rows.set q.i q.row) q.e) :: remA q.id h, n⟩, ⟨fun _ => rfl, fun i => (front_look _ _ _ _ _).symm, rfl⟩, fun k => by rw [nmE, setRow_eq1, remK_eq]⟩
/-- one after another -/
def runF (C : Ctx) (self : SelfT) (n : Nat) (ops : Array Oper) : List Oper → ASt → Option ASt
  | [], st => prune st fun s => some s
  | o :: l, st => bif dok o.dst n then (match wantC ops o st with
    | some true => match readF C.T st o.op with
      | some x => nmQ st o.dst x (runF C self n ops l)
      | none => match eltS C.T st o.dst o.op with
        | some q => nmE q st (runF C self n ops l)
        | none => match memF C self st o with
          | some st' => nm2V (isVal o.op) st' (runF C self n ops l)
          | none => none
    | some false => nmQ st o.dst .und (runF C self n ops l)
    | none => none) else none
theorem runF_ok {C : Ctx} {self : SelfT} {ops : Array Oper} {Q : Exit → ASt → Prop} (hC : C.ok P) (hS : SelfOk P self) : ∀ (l : List Oper) (st st' : ASt), runF C self n ops l st = some st' → Q .normal st' → AL P n ops Q l st
  | [], st, st', h, hq => by
    rw [runF] at h
    obtain ⟨s', e1, e2⟩ := prune_eq st
    rw [e2] at h
    injection h with h
    subst h
    exact AL.eqv e1 (AL.nil hq)
  | o :: l, st, st', h, hq => by
    rw [runF] at h
    cases hd : dok o.dst n with
    | false => rw [hd] at h; cases h
    | true =>
      rw [hd] at h
      simp only [cond_true] at h
      split at h
      · rename_i hw
        have hw' : ∀ (K : Kn) (a : Act) (w : World) (G : Gh), RelG K n st a w G → Region.wanted o (yielded ops a.tmps) = true := by
          rcases wantC_yes hw with hg | hg
          · exact fun _ a _ _ _ => wanted_none hg a
          · obtain ⟨d, want, g1, g2⟩ := gst_yes hg
            exact wanted_of g1 g2
        split at h
        · rename_i x h1
          obtain ⟨s', e1, e2⟩ := nmQ_eq st o.dst x
          rw [e2] at h
          exact AL.opw hw' (readF_ok hC.T h1 hd).opv (AL.eqv e1 (runF_ok hC hS l s' st' h hq))
        · split at h
          · rename_i q h1
            obtain ⟨s', e1, e2⟩ := nmE_eq q st
            rw [e2] at h
            exact AL.opw hw' (eltS_ok hC.T h1) (AL.eqv e1 (runF_ok hC hS l s' st' h hq))
          · split at h
            · rename_i s h1
              obtain ⟨s', e1, e2⟩ := nm2V_eq (isVal o.op) s
              rw [e2] at h
              exact memF_ok hC hS hd h1 hw' (AL.eqv e1 (runF_ok hC hS l s' st' h hq))
            · cases h
      · rename_i hw
        obtain ⟨d, want, g1, g2⟩ := gst_no (wantC_no hw)
        obtain ⟨s', e1, e2⟩ := nmQ_eq st o.dst .und
        rw [e2] at h
        exact AL.skipg g1 hd g2 (AL.eqv e1 (runF_ok hC hS l s' st' h hq))
      · cases h
end
end Go.Proofs.Ytelpkjellakigaa.Rn
/- Regions that draw, run once: each operation on the blocks that it reaches; what is asked of the order is tested at the end. No program in sight. -/
namespace Go.Proofs.Ytelpkjellakigaa.Rn
open Go Go.RowKit Go.Proofs.Ytelpkjellakigaa Go.Proofs.Ytelpkjellakigaa.Dr

/-- blocks put in place -/
def putK {α : Type} (f : Nat → AB) : List Nat → List (Nat × AB) → (List (Nat × AB) → α) → α
  | [], h, k => k h
  | j :: l, h, k => fB (f j) fun b => setK j b h fun h => putK f l h k
def putA (f : Nat → AB) : List Nat → List (Nat × AB) → List (Nat × AB)
  | [], h => h
  | j :: l, h => putA f l (setA j (f j) h)
theorem putK_eq {α : Type} (f : Nat → AB) : ∀ (l : List Nat) (h : List (Nat × AB)) (k : List (Nat × AB) → α), putK f l h k = k (putA f l h)
  | [], _, _ => rfl
  | j :: l, h, k => by rw [putK, putA, fB_eq, setK_eq]; exact putK_eq f l _ k
theorem putA_look (f : Nat → AB) : ∀ (l : List Nat) (h : List (Nat × AB)) (id : Nat), (id ∈ l → look .dead (putA f l h) id = f id) ∧ (id ∉ l → look .dead (putA f l h) id = look .dead h id)
  | [], h, id => ⟨fun h => by simp at h, fun _ => rfl⟩
  | j :: l, h, id => by
    obtain ⟨h1, h2⟩ := putA_look f l (setA j (f j) h) id
    rw [putA]
    constructor
    · intro hm
      by_cases e : id ∈ l
      · exact h1 e
      · have : id = j := (List.mem_cons.1 hm).resolve_right e
        subst this
        rw [h2 e, look_setA, look_cons, if_pos rfl]
    · intro hm
      rw [h2 fun e => hm (List.mem_cons_of_mem _ e), look_setA, look_cons, if_neg fun e => hm (by rw [e]; exact List.mem_cons_self ..)]
section
variable {P : Program} {n : Nat} {T : List (List Nat)} {W : List (Nat × Nat)} {st st' : ASt} {o : Oper} {x : AV} {Q : Exit → ASt → Prop} {ops : Array Oper} {l : List Oper}
def stepH (C : Ctx) (self : SelfT) (st : ASt) (o : Oper) : Option ASt := match readF C.T st o.op with
  | some x => some (st.put o.dst x)
  | none => memF C self st o
theorem stepH_Y {C : Ctx} {self : SelfT} (hC : C.ok P) (hS : SelfOk P self) (hd : dok o.dst n = true) (h : stepH C self st o = some st') : OpY P n o st st' := by
  unfold stepH at h
  split at h
  · rename_i x h1
    injection h with h
    subst h
    exact .ofV (readF_ok hC.T h1 hd).opv
  · exact memF_Y hC hS hd h
/-- the registers that an operation looks at, laid out -/
def fRs {α : Type} (r : List (Nat × AV)) : List Nat → (List (Nat × AV) → α) → α
  | [], k => k []
  | t :: l, k => fN t fun t => fA1 (look .any r t) fun v => fRs r l fun m => k ((t, v) :: m)
theorem fRs_eq {α : Type} (r : List (Nat × AV)) : ∀ (l : List Nat) (k : List (Nat × AV) → α), fRs r l k = k (l.map fun t => (t, look .any r t))
  | [], _ => rfl
  | t :: l, k => by rw [fRs, fN_eq, fA1_eq, fRs_eq r l]; rfl
theorem pickA_look (h : List (Nat × AB)) : ∀ (l : List Nat) (acc : List (Nat × AB)) (id : Nat), (id ∈ l → look .dead (pickA h l acc) id = look .dead h id) ∧ (id ∉ l → look .dead (pickA h l acc) id = look .dead acc id)
  | [], acc, id => ⟨fun h => by simp at h, fun _ => rfl⟩
  | j :: l, acc, id => by
    obtain ⟨h1, h2⟩ := pickA_look h l ((j, look .dead h j) :: acc) id
    rw [pickA]
    constructor
    · intro hm
      by_cases e : id ∈ l
      · exact h1 e
      · have : id = j := (List.mem_cons.1 hm).resolve_right e
        subst this
        rw [h2 e, look_cons, if_pos rfl]
    · intro hm
      rw [h2 fun e => hm (List.mem_cons_of_mem _ e), look_cons, if_neg fun e => hm (by rw [← e]; exact List.mem_cons_self ..)]
/-- the blocks that are named -/
def pickN (h : List (Nat × AB)) (l : List Nat) : List (Nat × AB) := l.map fun j => (j, look .dead h j)
theorem pickN_look (h : List (Nat × AB)) : ∀ (l : List Nat) (id : Nat), (id ∈ l → look .dead (pickN h l) id = look .dead h id) ∧ (id ∉ l → look .dead (pickN h l) id = .dead)
  | [], id => ⟨fun h => by simp at h, fun _ => rfl⟩
  | j :: l, id => by
    obtain ⟨h1, h2⟩ := pickN_look h l id
    show (_ → look .dead ((j, look .dead h j) :: pickN h l) id = _) ∧ (_ → look .dead ((j, look .dead h j) :: pickN h l) id = _)
    rw [look_cons]
    by_cases e : j = id
    · subst e
      exact ⟨fun _ => by rw [if_pos rfl], fun hm => absurd (List.mem_cons_self ..) hm⟩
    · rw [if_neg e]
      exact ⟨fun hm => h1 ((List.mem_cons.1 hm).resolve_left fun e' => e e'.symm), fun hm => h2 fun e' => hm (List.mem_cons_of_mem _ e')⟩
theorem OpR.less {st' : ASt} (h : OpR P n o st' x) (hl : LeS st' st) : OpR P n o st x := ⟨h.dst, fun K a w G r => h.out K a w G (r.les hl)⟩
/-- what an operation did: its place, the blocks that were there, the blocks it looked at, those it wrote, the new ones -/
structure Rec where
  i : Nat
  cr : List (Nat × Nat)
  L : List Nat
  Wi : List Nat
  k : Nat
  k2 : Nat
def opH (C : Ctx) (self : SelfT) (lr : List (Nat × AV)) (lh : List (Nat × AB)) (nx : Nat) (o : Oper) (L : List Nat) : Option (ASt × List Nat) :=
  bif L.all (fun id => Nat.blt id nx && (look .dead lh id).nmd (hasN L)) && lr.all (fun p => p.2.nmd (hasN L)) then
    (match stepH C self ⟨lr, lh, nx⟩ o with
    | some s2 => bif Nat.ble nx s2.nx && (news nx s2.nx).all (fun id => pfB (orN (hasN L) nx s2.nx) (look .dead s2.heap id)) && s2.heap.all (fun p => orN (hasN L) nx s2.nx p.1)
        && L.all (fun id => pfB (orN (hasN L) nx s2.nx) (look .dead s2.heap id)) && pf (orN (hasN L) nx s2.nx) (dstV s2 o.dst) then some (s2, L.filter fun id => !abE (look .dead s2.heap id) (look .dead lh id)) else none
    | none => none) else none
/-- what is asked of the writes of all -/
structure RecOk (T : List (List Nat)) (W : List (Nat × Nat)) (nx0 : Nat) (r : Rec) : Prop where
  vis : ∀ id ∈ r.L, visW T W nx0 r.i r.cr id = true
  new : ∀ id, r.k ≤ id → id < r.k2 → newW T W r.i id = true
  wr : ∀ id, (r.i, id) ∈ W → id ∈ r.Wi
  wr2 : ∀ id ∈ r.Wi, (r.i, id) ∈ W
theorem noW_of {i : Nat} (h : ∀ id, (i, id) ∉ W) : noW W i = true := by
  unfold noW
  refine List.all_eq_true.2 fun p hp => ?_
  rw [Bool.not_eq_true', Bool.eq_false_iff]
  intro e
  have e := Nat.eq_of_beq_eq_true e
  obtain ⟨a, b⟩ := p
  simp only at e
  subst e
  exact h b hp
theorem opH_ok {C : Ctx} {self : SelfT} (hC : C.ok P) (hS : SelfOk P self) {nx0 i : Nat} {cr : List (Nat × Nat)} {L Wi : List Nat} {s2 : ASt} (hd : dok o.dst n = true) (hw : o.guard = none ∨ gst ops o (lcl ops T W [] nx0 i cr st o 0) = some true)
    (hr : RecOk T W nx0 ⟨i, cr, L, Wi, st.nx, s2.nx⟩) {lh : List (Nat × AB)} (hlh : ∀ id, (id ∈ L → look .dead lh id = look .dead st.heap id) ∧ (id ∉ L → look .dead lh id = .dead)) (h : opH C self (lregs ops st o) lh st.nx o L = some (s2, Wi)) : Loc P n ops T W [] nx0 i cr o st ((⟨st.regs, onL (L ++ news st.nx s2.nx) (look .dead s2.heap) st.heap, s2.nx⟩ : ASt).put o.dst (dstV s2 o.dst)) ((news st.nx s2.nx).map (fun id => (i, id)) ++ cr) ∧ (∀ id ∈ L, id ∉ Wi → look .dead s2.heap id = look .dead st.heap id) ∧ ∀ id ∈ Wi, id ∈ L := by
  unfold opH at h
  cases h0 : (L.all (fun id => Nat.blt id st.nx && (look .dead lh id).nmd (hasN L)) && (lregs ops st o).all (fun p => p.2.nmd (hasN L))) with
  | false => rw [h0] at h; cases h
  | true =>
    rw [h0] at h
    simp only [cond_true] at h
    rw [Bool.and_eq_true] at h0
    obtain ⟨h1, h2⟩ := h0
    have a1 : ∀ id ∈ L, id < st.nx ∧ (look .dead st.heap id).nmd (hasN L) = true := fun id hid => by
      have := List.all_eq_true.1 h1 id hid
      rw [Bool.and_eq_true] at this
      exact ⟨by simpa using this.1, by rw [← (hlh id).1 hid]; exact this.2⟩
    split at h
    · rename_i t2 hm
      cases h3 : (Nat.ble st.nx t2.nx && (news st.nx t2.nx).all (fun id => pfB (orN (hasN L) st.nx t2.nx) (look .dead t2.heap id)) && t2.heap.all (fun p => orN (hasN L) st.nx t2.nx p.1)
        && L.all (fun id => pfB (orN (hasN L) st.nx t2.nx) (look .dead t2.heap id)) && pf (orN (hasN L) st.nx t2.nx) (dstV t2 o.dst)) with
      | false => rw [h3] at h; cases h
      | true =>
        rw [h3] at h
        simp only [cond_true, Option.some.injEq, Prod.mk.injEq] at h
        obtain ⟨rfl, hWi⟩ := h
        simp only [Bool.and_eq_true] at h3
        obtain ⟨⟨⟨⟨b1, b6⟩, b2⟩, b3⟩, b4⟩ := h3
        have c3 : ∀ id ∈ L, pfB (orN (hasN L) st.nx t2.nx) (look .dead t2.heap id) = true := fun id hid => List.all_eq_true.1 b3 id hid
        have c6 : ∀ id, st.nx ≤ id → id < t2.nx → pfB (orN (hasN L) st.nx t2.nx) (look .dead t2.heap id) = true := fun id g1 g2 => List.all_eq_true.1 b6 id (news_mem.2 ⟨g1, g2⟩)
        have cu : ∀ id ∈ L, id ∉ Wi → look .dead t2.heap id = look .dead st.heap id := fun id hid hn => by
          rw [← hWi] at hn
          have : ¬ ((!abE (look .dead t2.heap id) (look .dead st.heap id)) = true) := fun e => hn (List.mem_filter.2 ⟨hid, by rw [(hlh id).1 hid]; exact e⟩)
          exact abE_eq (by simpa using this)
        have cw : ∀ id ∈ Wi, id ∈ L := fun id hid => by
          rw [← hWi] at hid
          exact (List.mem_filter.1 hid).1
        refine ⟨.op L lh hw (stepH_Y hC hS hd hm) hd (Nat.le_of_ble_eq_true b1) hr.new (fun id hid => ⟨(a1 id hid).1, hr.vis id hid⟩) (fun id => ?_) (fun id => ?_) (fun t => ?_) b4 (fun id hid => cw id (hr.wr id hid)) (fun id hid => ?_) (fun id _ => .dead _), cu, cw⟩
        · by_cases e : id ∈ L
          · exact .inr ⟨e, (hlh id).1 e, by rw [(hlh id).1 e]; exact (a1 id e).2⟩
          · exact .inl ((hlh id).2 e)
        · by_cases e2 : look .dead t2.heap id = .dead
          · exact .inl e2
          · obtain ⟨q, q1, q2⟩ := look_mem e2
            have := List.all_eq_true.1 b2 q q1
            rw [q2] at this
            rcases orN_iff.1 this with e | e
            · exact .inr ⟨this, c3 id (hasN_mem e)⟩
            · exact .inr ⟨this, c6 id e.1 e.2⟩
        · have key : ∀ (rg : List (Nat × AV)), (rg.all fun p => p.2.nmd (hasN L)) = true → (look AV.any rg t).nmd (hasN L) = true := by
            intro rg
            induction rg with
            | nil => intro _; rfl
            | cons c rg ih =>
              obtain ⟨j, v⟩ := c
              intro hh
              rw [List.all_cons, Bool.and_eq_true] at hh
              rw [look_cons]
              split
              · exact hh.1
              · exact ih hh.2
          exact key _ h2
        · by_cases e : id ∈ Wi
          · exact .inl (hr.wr2 id e)
          · exact .inr (cu id hid e)
    · cases h
def runH (C : Ctx) (self : SelfT) (n : Nat) (ops : Array Oper) : Nat → List (Nat × Nat) → List Oper → ASt → Option (List Rec × ASt)
  | _, _, [], st => some ([], st)
  | i, cr, o :: l, st => bif dok o.dst n then (fRs st.regs (o.looksAt ops) fun lr => match wantC ops o ⟨lr, [], 0⟩ with
    | some true => fNs (idsV.go (lr.map (·.2))) fun L1 => match readF C.T ⟨lr, pickN st.heap L1, 0⟩ o.op with
      | some x => fA1 x fun x => fNs (idsV x ++ L1) fun L => nmQ st o.dst x fun s => (match fN i fun i => runH C self n ops (i + 1) cr l s with
          | some (rs, s') => some (⟨i, cr, L, [], st.nx, st.nx⟩ :: rs, s')
          | none => none)
      | none => fNs (clo (look .dead st.heap) 400 L1 []) fun L => pickK st.heap L [] fun lh => match opH C self lr lh st.nx o L with
        | some (s2, Wi) => fNs Wi fun Wi => fN s2.nx fun k2 => fNs (news st.nx k2) fun ns => putK (look .dead s2.heap) (Wi ++ ns) st.heap fun h => nmQ ⟨st.regs, h, k2⟩ o.dst (dstV s2 o.dst) fun s =>
          (match fN i fun i => runH C self n ops (i + 1) (ns.map (fun id => (i, id)) ++ cr) l s with
          | some (rs, s') => some (⟨i, cr, L, Wi, st.nx, k2⟩ :: rs, s')
          | none => none)
        | none => none
    | some false => nmQ st o.dst .und fun s => (match fN i fun i => runH C self n ops (i + 1) cr l s with
          | some (rs, s') => some (⟨i, cr, [], [], st.nx, st.nx⟩ :: rs, s')
          | none => none)
    | none => none) else none
theorem wantC_lcl {ops : Array Oper} {M : List (Nat × AB)} {nx0 i : Nat} {cr : List (Nat × Nat)} {b : Bool} (h : wantC ops o ⟨lregs ops st o, [], 0⟩ = some b) : (b = true → o.guard = none ∨ gst ops o (lcl ops T W M nx0 i cr st o 0) = some true) ∧ (b = false → gst ops o (lcl ops T W M nx0 i cr st o 0) = some false) := by
  cases b with
  | true => exact ⟨fun _ => wantC_yes h, fun h => absurd h (by decide)⟩
  | false => exact ⟨fun h => absurd h (by decide), fun _ => wantC_no h⟩
theorem idsV_nmd {p : Nat → Bool} : ∀ (x : AV), (∀ id ∈ idsV x, p id = true) → x.nmd p = true
  | .box id _, h => by rw [AV.nmd]; exact h id (by rw [idsV]; exact List.mem_singleton.2 rfl)
  | .elt id .., h => by rw [AV.nmd]; exact h id (by rw [idsV]; exact List.mem_singleton.2 rfl)
  | .osl id _, h => by rw [AV.nmd]; exact h id (by rw [idsV]; exact List.mem_singleton.2 rfl)
  | .vsl id .., h => by rw [AV.nmd]; exact h id (by rw [idsV]; exact List.mem_singleton.2 rfl)
  | .agg cs, h => by rw [AV.nmd]; exact go cs (by rw [idsV] at h; exact h)
  | .tup cs, h => by rw [AV.nmd]; exact go cs (by rw [idsV] at h; exact h)
  | .fn _ cs, h => by rw [AV.nmd]; exact go cs (by rw [idsV] at h; exact h)
  | .any, _ => rfl
  | .und, _ => rfl
  | .int .., _ => rfl
  | .bool .., _ => rfl
  | .str .., _ => rfl
  | .nilp, _ => rfl
  | .nils, _ => rfl
  | .nilf, _ => rfl
  | .peek .., _ => rfl
  | .ro .., _ => rfl
where go {p : Nat → Bool} : ∀ (cs : List AV), (∀ id ∈ idsV.go cs, p id = true) → AV.nmd.go p cs = true
  | [], _ => rfl
  | a :: l, h => by
    rw [idsV.go] at h
    rw [AV.nmd.go, idsV_nmd a fun id hid => h id (List.mem_append.2 (.inl hid)), go l fun id hid => h id (List.mem_append.2 (.inr hid))]; rfl
theorem runH_ok {C : Ctx} {self : SelfT} (hC : C.ok P) (hS : SelfOk P self) {nx0 : Nat} {Kt : ASt → Prop} : ∀ (l : List Oper) (i : Nat) (cr : List (Nat × Nat)) (st : ASt) (rs : List Rec) (st' : ASt), runH C self n ops i cr l st = some (rs, st') → (∀ r ∈ rs, RecOk T W nx0 r) → Kt st' → AG P n ops T W [] nx0 Kt i cr l st
  | [], i, cr, st, rs, st', h, _, hk => by
    rw [runH] at h
    injection h with h
    injection h with h1 h2
    subst h2
    exact .nil hk
  | o :: l, i, cr, st, rs, st', h, hrs, hk => by
    rw [runH] at h
    cases hd : dok o.dst n with
    | false => rw [hd] at h; cases h
    | true =>
      rw [hd] at h
      simp only [cond_true] at h
      rw [fRs_eq] at h
      have elr : (o.looksAt ops).map (fun t => (t, look .any st.regs t)) = lregs ops st o := rfl
      rw [elr] at h
      split at h
      · rename_i hw
        rw [fNs_eq] at h
        split at h
        · rename_i x h1
          rw [fA1_eq, fNs_eq] at h
          obtain ⟨s', e1, e2⟩ := nmQ_eq st o.dst x
          rw [e2, fN_eq] at h
          split at h
          · rename_i rs2 s3 h2
            simp only [Option.some.injEq, Prod.mk.injEq] at h
            obtain ⟨rfl, rfl⟩ := h
            have hr := hrs _ (List.mem_cons_self ..)
            refine .step (.read (noW_of fun id hid => by have := hr.wr id hid; simp at this) ((wantC_lcl hw).1 rfl) (fun k => ?_) ?_) (.same e1 (runH_ok hC hS l (i + 1) cr s' rs2 s3 h2 (fun r hr => hrs r (List.mem_cons_of_mem _ hr)) hk))
            · refine OpR.less (st' := ⟨lregs ops st o, pickN st.heap (idsV.go ((lregs ops st o).map (·.2))), k⟩) (readF_ok hC.T (by rw [← h1]; exact readF_nx _ _ _ _ _) hd) ⟨fun d => .refl _, fun d => ?_, rfl⟩
              rw [lcl_heap]
              obtain ⟨p1, p2⟩ := pickN_look st.heap (idsV.go ((lregs ops st o).map (·.2))) d
              by_cases m : d ∈ idsV.go ((lregs ops st o).map (·.2))
              · rw [p1 m, hr.vis d (List.mem_append.2 (.inr m))]; exact .refl _
              · rw [p2 m]; exact .dead _
            · exact idsV_nmd x fun id hid => by
                have := hr.vis id (List.mem_append.2 (.inl hid))
                unfold visW at this
                rw [Bool.and_eq_true] at this
                exact this.1
          · cases h
        · rw [fNs_eq, pickK_eq] at h
          split at h
          · rename_i s2 Wi h1
            rw [fNs_eq, fN_eq, fNs_eq, putK_eq] at h
            have h : nmQ ⟨st.regs, putA (look .dead s2.heap) (Wi ++ news st.nx s2.nx) st.heap, s2.nx⟩ o.dst (dstV s2 o.dst) (fun s => (match fN i fun i => runH C self n ops (i + 1) ((news st.nx s2.nx).map (fun id => (i, id)) ++ cr) l s with
              | some (rs, s') => some (⟨i, cr, clo (look .dead st.heap) 400 (idsV.go ((lregs ops st o).map (·.2))) [], Wi, st.nx, s2.nx⟩ :: rs, s')
              | none => none)) = some (rs, st') := h
            generalize clo (look .dead st.heap) 400 (idsV.go ((lregs ops st o).map (·.2))) [] = L at h h1
            obtain ⟨s', e1, e2⟩ := nmQ_eq ⟨st.regs, putA (look .dead s2.heap) (Wi ++ news st.nx s2.nx) st.heap, s2.nx⟩ o.dst (dstV s2 o.dst)
            rw [e2, fN_eq] at h
            split at h
            · rename_i rs2 s3 h2
              simp only [Option.some.injEq, Prod.mk.injEq] at h
              obtain ⟨rfl, rfl⟩ := h
              have hr := hrs _ (List.mem_cons_self ..)
              obtain ⟨hloc, hu, hwl⟩ := opH_ok (o := o) (ops := ops) hC hS hd ((wantC_lcl hw).1 rfl) hr (fun id => pickA_look st.heap L [] id) h1
              refine .step hloc (.same ⟨fun d => ?_, fun d => ?_, ?_⟩ (runH_ok hC hS l (i + 1) _ s' rs2 s3 h2 (fun r hr => hrs r (List.mem_cons_of_mem _ hr)) hk))
              · rw [← e1.regs d]
                cases o.dst <;> rfl
              · rw [← e1.heap d, put_heap', put_heap']
                show look .dead (onL (L ++ news st.nx s2.nx) (look .dead s2.heap) st.heap) d = look .dead (putA (look .dead s2.heap) (Wi ++ news st.nx s2.nx) st.heap) d
                obtain ⟨p1, p2⟩ := putA_look (look .dead s2.heap) (Wi ++ news st.nx s2.nx) st.heap d
                by_cases m1 : d ∈ L ++ news st.nx s2.nx
                · rw [onL_in m1]
                  by_cases m2 : d ∈ Wi ++ news st.nx s2.nx
                  · rw [p1 m2]
                  · rw [p2 m2]
                    rcases List.mem_append.1 m1 with m1 | m1
                    · exact hu d m1 fun h => m2 (List.mem_append.2 (.inl h))
                    · exact absurd (List.mem_append.2 (.inr m1)) m2
                · rw [onL_out m1, p2 fun m2 => m1 ?_]
                  rcases List.mem_append.1 m2 with m2 | m2
                  · exact List.mem_append.2 (.inl (hwl d m2))
                  · exact List.mem_append.2 (.inr m2)
              · rw [← e1.nx, put_nx, put_nx]
            · cases h
          · cases h
      · rename_i hw
        obtain ⟨s', e1, e2⟩ := nmQ_eq st o.dst .und
        rw [e2, fN_eq] at h
        split at h
        · rename_i rs2 s3 h2
          simp only [Option.some.injEq, Prod.mk.injEq] at h
          obtain ⟨rfl, rfl⟩ := h
          have hr := hrs _ (List.mem_cons_self ..)
          exact .step (.skip (noW_of fun id hid => by have := hr.wr id hid; simp at this) ((wantC_lcl hw).2 rfl) hd) (.same e1 (runH_ok hC hS l (i + 1) cr s' rs2 s3 h2 (fun r hr => hrs r (List.mem_cons_of_mem _ hr)) hk))
        · cases h
      · cases h
def wrOf (rs : List Rec) : List (Nat × Nat) := rs.flatMap fun r => r.Wi.map fun id => (r.i, id)
def recB (T : List (List Nat)) (W : List (Nat × Nat)) (nx0 : Nat) (r : Rec) : Bool :=
  r.L.all (fun id => visW T W nx0 r.i r.cr id) && (news r.k r.k2).all (fun id => newW T W r.i id) && W.all (fun p => bif Nat.beq p.1 r.i then hasN r.Wi p.2 else true)
theorem recB_ok {nx0 : Nat} {rs : List Rec} {r : Rec} (hm : r ∈ rs) (h : recB T (wrOf rs) nx0 r = true) : RecOk T (wrOf rs) nx0 r := by
  unfold recB at h
  simp only [Bool.and_eq_true] at h
  obtain ⟨⟨h1, h2⟩, h3⟩ := h
  refine ⟨fun id hid => List.all_eq_true.1 h1 id hid, fun id g1 g2 => List.all_eq_true.1 h2 id (news_mem.2 ⟨g1, g2⟩), fun id hid => ?_, fun id hid => ?_⟩
  · have := List.all_eq_true.1 h3 _ hid
    simp only [Nat.beq_refl, cond_true] at this
    exact hasN_mem this
  · unfold wrOf
    exact List.mem_flatMap.2 ⟨r, hm, List.mem_map.2 ⟨id, hid, rfl⟩⟩
def fPs {α : Type} : List (Nat × Nat) → (List (Nat × Nat) → α) → α
  | [], k => k []
  | (a, b) :: l, k => fN a fun a => fN b fun b => fPs l fun l => k ((a, b) :: l)
theorem fPs_eq {α : Type} (l : List (Nat × Nat)) : ∀ (k : List (Nat × Nat) → α), fPs l k = k l := by
  induction l with
  | nil => intro k; rfl
  | cons p l ih => intro k; obtain ⟨a, b⟩ := p; rw [fPs, fN_eq, fN_eq, ih]
/-- where the operations begin that lie wholly behind all before them -/
def tailM (T : List (List Nat)) : Nat → Nat
  | 0 => 0
  | i + 1 => bif (List.range i).all fun j => hasN (T.getD i []) j then tailM T i else i + 1
def runE (C : Ctx) (self : SelfT) (n : Nat) (l : List Oper) (T : List (List Nat)) (st : ASt) : Option ASt := match runH C self n ⟨l⟩ 0 [] (l.take (tailM T l.length)) st with
  | some (rs, s) => fPs (wrOf rs) fun W => bif rs.all (recB T W st.nx) then runF C self n ⟨l⟩ (l.drop (tailM T l.length)) s else none
  | none => none
theorem runE_ok {C : Ctx} {self : SelfT} {id : Nat} (hC : C.ok P) (hS : SelfOk P self) (hp : planR l (ancs l []) = true) (ht : tailR l (ancs l []) (tailM (ancs l []) l.length) = true) (h : runE C self n l (ancs l []) st = some st') : AW P n (.region id ⟨l⟩ true) (fun e s => e = .normal ∧ s = st') st := by
  unfold runE at h
  split at h
  · rename_i rs s h1
    rw [fPs_eq] at h
    cases hb : rs.all (recB (ancs l []) (wrOf rs) st.nx) with
    | false => rw [hb] at h; cases h
    | true =>
      rw [hb] at h
      simp only [cond_true] at h
      exact AW.drawR (wrOf rs) [] (tailM (ancs l []) l.length) hC.mixed rfl hp ht (fun _ _ => rfl) (fun _ => .dead _) (runH_ok hC hS _ 0 [] st rs s h1 (fun r hr => recB_ok hr (List.all_eq_true.1 hb r hr)) (runF_ok hC hS _ s _ h ⟨rfl, rfl⟩))
  · cases h
end
end Go.Proofs.Ytelpkjellakigaa.Rn
/- As RnO, without the second way for regions that draw. No program in sight. -/
namespace Go.Proofs.Ytelpkjellakigaa.Rn
open Go Go.RowKit Go.Proofs.Ytelpkjellakigaa Go.Proofs.Ytelpkjellakigaa.Dr

section
variable {P : Program} {n : Nat} {st st' : ASt} {o : Oper} {x : AV} {Q : Exit → ASt → Prop} {ops : Array Oper} {l : List Oper}
/-- a region that draws -/
def runD (C : Ctx) (self : SelfT) (n : Nat) (l : List Oper) (T : List (List Nat)) (st : ASt) : Option ASt := bif planR l T && tailR l T (tailM T l.length) then runE C self n l T st else none
theorem runD_ok {C : Ctx} {self : SelfT} {id : Nat} (hC : C.ok P) (hS : SelfOk P self) (h : runD C self n l (ancs l []) st = some st') : AW P n (.region id ⟨l⟩ true) (fun e s => e = .normal ∧ s = st') st := by
  unfold runD at h
  cases hp : (planR l (ancs l []) && tailR l (ancs l []) (tailM (ancs l []) l.length)) with
  | false => rw [hp] at h; cases h
  | true =>
    rw [hp] at h
    rw [Bool.and_eq_true] at hp
    exact runE_ok hC hS hp.1 hp.2 h
def runC (C : Ctx) (self : SelfT) (fl n : Nat) : Code → ASt → Option (Exit × ASt)
  | .skip, st => some (.normal, st)
  | .label _, st => some (.normal, st)
  | .exit id, st => some (.exit id, st)
  | .ret, st => some (.ret, st)
  | .seq a b, st => match runC C self fl n a st with
    | some (.normal, st') => runC C self fl n b st'
    | r => r
  | .cond c a b, st => match st.ev c with
    | .bool true => runC C self fl n a st
    | .bool false => runC C self fl n b st
    | _ => none
  | .block id c, st => match runC C self fl n c st with
    | some (.exit id', st') => bif Nat.beq id' id then some (.normal, st') else some (.exit id', st')
    | r => r
  | .loop c, st => loopN (runC C self fl n c) fl st
  | .region _ ⟨l⟩ false, st => match runF C self n ⟨l⟩ l st with
    | some st' => some (.normal, st')
    | none => none
  | .region _ ⟨l⟩ true, st => match runD C self n l (ancs l []) st with
    | some st' => some (.normal, st')
    | none => none
  | .rangeFunc .., _ => none
  | .scope c, st => match runC C self fl n c st with
    | some (.goto _, _) => none
    | r => r
  | .goto _, _ => none
  | .refuse _, _ => none
theorem runC_ok {C : Ctx} {self : SelfT} {fl : Nat} (hC : C.ok P) (hS : SelfOk P self) : ∀ (c : Code) (st : ASt) (e : Exit) (st' : ASt), runC C self fl n c st = some (e, st') → AW P n c (fun e1 s => e1 = e ∧ s = st') st := by
  intro c
  induction c with
  | skip => intro st e st' h; rw [runC] at h; injection h with h; injection h with h1 h2; exact AW.skip ⟨h1, h2⟩
  | label l => intro st e st' h; rw [runC] at h; injection h with h; injection h with h1 h2; exact AW.label ⟨h1, h2⟩
  | exit id => intro st e st' h; rw [runC] at h; injection h with h; injection h with h1 h2; exact AW.exit ⟨h1, h2⟩
  | ret => intro st e st' h; rw [runC] at h; injection h with h; injection h with h1 h2; exact AW.ret ⟨h1, h2⟩
  | seq a b iha ihb =>
    intro st e st' h
    rw [runC] at h
    cases h1 : runC C self fl n a st with
    | none => rw [h1] at h; cases h
    | some p =>
      obtain ⟨e0, s0⟩ := p
      rw [h1] at h
      refine AW.seq ((iha st e0 s0 h1).mono ?_)
      rintro e1 s ⟨rfl, rfl⟩
      cases e1 with
      | normal => exact ihb _ _ _ h
      | _ =>
        injection h with h
        injection h with h2 h3
        exact ⟨h2, h3⟩
  | cond c a b iha ihb =>
    intro st e st' h
    rw [runC] at h
    split at h
    · rename_i h1
      exact AW.condT h1 (iha _ _ _ h)
    · rename_i h1
      exact AW.condF h1 (ihb _ _ _ h)
    · cases h
  | block id c ih =>
    intro st e st' h
    rw [runC] at h
    cases h1 : runC C self fl n c st with
    | none => rw [h1] at h; cases h
    | some p =>
      obtain ⟨e0, s0⟩ := p
      rw [h1] at h
      refine AW.block ((ih st e0 s0 h1).mono ?_)
      rintro e1 s ⟨rfl, rfl⟩
      cases e1 with
      | exit id' =>
        simp only at h
        cases hb : Nat.beq id' id with
        | true =>
          rw [hb] at h
          have := Nat.eq_of_beq_eq_true hb
          subst this
          simp only [cond_true] at h
          injection h with h
          injection h with h2 h3
          exact inA_eq ⟨h2, h3⟩
        | false =>
          rw [hb] at h
          simp only [cond_false] at h
          injection h with h
          injection h with h2 h3
          exact inA_ne hb ⟨h2, h3⟩
      | _ =>
        injection h with h
        injection h with h2 h3
        exact ⟨h2, h3⟩
  | loop c ih =>
    intro st e st' h
    rw [runC] at h
    exact loopN_ok ih h
  | region id ops d =>
    intro st e st' h
    obtain ⟨l⟩ := ops
    cases d with
    | false =>
      rw [runC] at h
      cases h1 : runF C self n ⟨l⟩ l st with
      | none => rw [h1] at h; cases h
      | some s =>
        rw [h1] at h
        injection h with h
        injection h with h2 h3
        exact AW.region (runF_ok hC hS l st s h1 ⟨h2, h3⟩)
    | true =>
      rw [runC] at h
      cases h1 : runD C self n l (ancs l []) st with
      | none => rw [h1] at h; cases h
      | some s =>
        rw [h1] at h
        injection h with h
        injection h with h2 h3
        subst h3
        subst h2
        exact runD_ok hC hS h1
  | rangeFunc f ps a b => intro st e st' h; rw [runC] at h; cases h
  | scope c ih =>
    intro st e st' h
    rw [runC] at h
    cases h1 : runC C self fl n c st with
    | none => rw [h1] at h; cases h
    | some p =>
      obtain ⟨e0, s0⟩ := p
      rw [h1] at h
      refine AW.scope ((ih st e0 s0 h1).mono ?_)
      rintro e1 s ⟨rfl, rfl⟩
      cases e1 with
      | goto l => cases h
      | _ =>
        injection h with h
        injection h with h2 h3
        exact ⟨rfl, h2, h3⟩
  | goto l => intro st e st' h; rw [runC] at h; cases h
  | refuse w => intro st e st' h; rw [runC] at h; cases h

theorem out_ok {C : Ctx} {self : SelfT} (hC : C.ok P) (hS : SelfOk P self) {fl F : Nat} {fn : Func} {c : Code} {xs : List AV} {hp hp' : List (Nat × AB)} {nx nx' : Nat} {x : AV} (h1 : lk C.fns F = some fn) (h2 : fn.body = some c) (hb : Nat.ble xs.length fn.ntmps = true)
    (h : outC C fn.results.toList (runC C self fl fn.ntmps c ⟨argR 0 xs, hp, nx⟩) = some (x, hp', nx')) : AC P F xs hp nx (fun y h' n' => y = x ∧ h' = hp' ∧ n' = nx') := by
  cases hr : runC C self fl fn.ntmps c ⟨argR 0 xs, hp, nx⟩ with
  | none => rw [hr] at h; cases h
  | some p =>
    obtain ⟨e, st⟩ := p
    rw [hr] at h
    have hw := runC_ok hC hS c _ _ _ hr
    have key : ∀ ys, resC C st fn.results.toList = some ys → oneOf ys = x → st.heap = hp' → st.nx = nx' → e = .ret ∨ e = .normal → AC P F xs hp nx (fun x1 hp1 nx1 => x1 = x ∧ hp1 = hp' ∧ nx1 = nx') := by
      intro ys h3 h4 h5 h6 he
      refine AC.body (allP_at hC.fns h1) h2 rfl rfl hb (hw.mono ?_)
      rintro e1 s ⟨rfl, rfl⟩
      exact ⟨he, ys, resC_ok hC h3, h4, h5, h6⟩
    cases e with
    | ret =>
      simp only [outC] at h
      split at h
      · rename_i ys h3
        injection h with h
        simp only [Prod.mk.injEq] at h
        exact key ys h3 h.1 h.2.1 h.2.2 (.inl rfl)
      · cases h
    | normal =>
      simp only [outC] at h
      split at h
      · rename_i ys h3
        injection h with h
        simp only [Prod.mk.injEq] at h
        exact key ys h3 h.1 h.2.1 h.2.2 (.inr rfl)
      · cases h
    | _ => cases h
def run (C : Ctx) (fl : Nat) : Nat → Nat → List AV → List (Nat × AB) → Nat → Option (AV × List (Nat × AB) × Nat)
  | 0, _, _, _, _ => none
  | f + 1, F, xs, hp, nx => match lk C.fns F with
    | some fn => match fn.body with
      | some c => bif Nat.ble xs.length fn.ntmps then (match fL1 xs fun xs => outC C fn.results.toList (runC C (run C fl f) fl fn.ntmps c ⟨argR 0 xs, hp, nx⟩) with
        | some (x, hp2, nx2) => gcK hp2 nx x fun hp3 => some (x, hp3, nx2)
        | none => none) else none
      | none => none
    | none => none
theorem run_ok {C : Ctx} (hC : C.ok P) (fl : Nat) : ∀ f, SelfOk P (run C fl f)
  | 0 => fun F xs hp nx x hp' nx' h => by cases h
  | f + 1 => fun F xs hp nx x hp' nx' h => by
    rw [run] at h
    split at h
    · rename_i fn h1
      split at h
      · rename_i c h2
        cases hb : Nat.ble xs.length fn.ntmps with
        | false => rw [hb] at h; cases h
        | true =>
          rw [hb] at h
          simp only [cond_true] at h
          split at h
          · rename_i x2 hp2 nx2 h0
            obtain ⟨hp3, g1, g2⟩ := gcK_eq hp2 nx x2
            rw [g2] at h
            simp only [Option.some.injEq, Prod.mk.injEq] at h
            obtain ⟨rfl, rfl, rfl⟩ := h
            refine AC.lesH (hp1 := hp2) ?_ g1
            rw [fL1_eq] at h0
            exact out_ok hC (run_ok hC fl f) h1 h2 hb h0
          · cases h
      · cases h
    · cases h
/-- a closed call -/
def okRun (C : Ctx) (fl f : Nat) (F : Nat) (xs : List AV) : Option AV := match run C fl f F xs [] 0 with
  | some (y, hp, _) => frzRC hp 8 y
  | none => none
theorem AF.run {C : Ctx} (hC : C.ok P) (fl f : Nat) {F : Nat} {xs : List AV} {y : AV} (h : okRun C fl f F xs = some y) : AF P F xs y := by
  unfold okRun at h
  split at h
  · rename_i x hp nx h1
    exact AF.of_AC ((run_ok hC fl f _ _ _ _ _ _ _ h1).mono (by rintro x1 hp1 nx1 ⟨rfl, rfl, rfl⟩; exact frzRC_ok 8 _ _ h))
  · cases h
end
end Go.Proofs.Ytelpkjellakigaa.Rn
/- screenWorks, by a run with short tables. -/
set_option maxRecDepth 1000000
namespace Go.Proofs.Ytelpkjellakigaa
open Go Go.RowKit
def screenWorks_tab : Tab := {
  und := [(3, .int .i64),
    (25, .slice 3),
    (112, .struct #[fd "N" 3 0 false "" 0, fd "S" 3 1 false "" 8, fd "G" 3 2 false "" 16]),
    (4, .bool),
    (23, .struct #[fd "A" 3 0 false "" 0, fd "B" 3 1 false "" 8, fd "Kind" 3 2 false "" 16]),
    (36, .func #[3, 3] #[3] false),
    (130, .int .u64),
    (238, .int .i64),
    (271, .int .u64),
    (26, .int .i64),
    (39, .struct #[fd "W" 3 0 false "" 0, fd "S" 3 1 false "" 8, fd "H" 3 2 false "" 16]),
    (169, .int .u64),
    (172, .int .u32),
    (274, .pointer 3),
    (157, .func #[3] #[3, 3] false),
    (5, .int .u8),
    (9, .string)],
  inf := [(3, (some (.int .i64 0), 1, 8)),
    (25, (some (.slice none 0 0), 1, 24)),
    (112, (some (.agg #[.int .i64 0, .int .i64 0, .int .i64 0]), 3, 24)),
    (4, (some (.bool false), 1, 1)),
    (23, (some (.agg #[.int .i64 0, .int .i64 0, .int .i64 0]), 3, 24)),
    (36, (some (.nilFunc), 1, 8)),
    (130, (some (.int .u64 0), 1, 8)),
    (238, (some (.int .i64 0), 1, 8)),
    (271, (some (.int .u64 0), 1, 8)),
    (26, (some (.int .i64 0), 1, 8)),
    (39, (some (.agg #[.int .i64 0, .int .i64 0, .int .i64 0]), 3, 24)),
    (169, (some (.int .u64 0), 1, 8)),
    (172, (some (.int .u32 0), 1, 4)),
    (274, (some (.pointer none), 1, 8)),
    (157, (some (.nilFunc), 1, 8)),
    (5, (some (.int .u8 0), 1, 1)),
    (9, (some (.string ByteArray.empty), 1, 16))],
  fld := [(112, [(0, (1, false)), (1, (1, false)), (2, (1, false))]),
    (23, [(0, (1, false)), (1, (1, false)), (2, (1, false))]),
    (39, [(0, (1, false)), (1, (1, false)), (2, (1, false))])],
  eqs := [(112, 3), (23, 3), (39, 3)] }
theorem screenWorks_tab_ok : screenWorks_tab.ok Try.prog := ⟨(by unfold screenWorks_tab; (repeat (refine alP1 (by kernel_rfl) ?_)); exact trivial),
  (by unfold screenWorks_tab; (repeat (refine alP1 (by kernel_rfl) ?_)); exact trivial),
  (by unfold screenWorks_tab; (repeat (refine alP1 (by kernel_rfl) ?_)); exact trivial),
  (by unfold screenWorks_tab; (repeat (refine alP1 ⟨by kernel_rfl, by kernel_rfl⟩ ?_)); exact trivial)⟩
noncomputable def screenWorks_ctx : Ctx := ⟨screenWorks_tab, [(14, Try.f14), (28, Try.f28), (29, Try.f29), (79, Try.f79), (75, Try.f75), (76, Try.f76), (77, Try.f77), (80, Try.f80), (15, Try.f15), (71, Try.f71), (110, Try.f110), (111, Try.f111), (112, Try.f112), (114, Try.f114), (113, Try.f113), (146, Try.f146), (185, Try.f185), (186, Try.f186), (145, Try.f145), (177, Try.f177), (178, Try.f178), (204, Try.f204), (179, Try.f179), (205, Try.f205), (206, Try.f206), (180, Try.f180), (207, Try.f207), (208, Try.f208), (214, Try.f214), (181, Try.f181), (182, Try.f182), (183, Try.f183), (184, Try.f184), (16, Try.f16), (72, Try.f72), (23, Try.f23), (24, Try.f24), (19, Try.f19)], [(14, 0), (28, 0), (29, 0), (79, 0), (75, 0), (76, 0), (77, 0), (80, 0), (15, 0), (71, 0), (110, 0), (111, 0), (112, 0), (114, 0), (113, 0), (146, 0), (185, 0), (186, 0), (145, 0), (177, 0), (178, 0), (204, 0), (179, 0), (205, 0), (206, 0), (180, 0), (207, 0), (208, 0), (214, 0), (181, 0), (182, 0), (183, 0), (184, 0), (16, 0), (72, 0), (23, 0), (24, 0), (19, 0)]⟩
def screenWorks_cas : List (Nat × Nat) := [(14, 0), (28, 0), (29, 0), (79, 0), (75, 0), (76, 0), (77, 0), (80, 0), (15, 0), (71, 0), (110, 0), (111, 0), (112, 0), (114, 0), (113, 0), (146, 0), (185, 0), (186, 0), (145, 0), (177, 0), (178, 0), (204, 0), (179, 0), (205, 0), (206, 0), (180, 0), (207, 0), (208, 0), (214, 0), (181, 0), (182, 0), (183, 0), (184, 0), (16, 0), (72, 0), (23, 0), (24, 0), (19, 0)]
theorem screenWorks_ctx_ok : screenWorks_ctx.ok Try.prog := ⟨screenWorks_tab_ok, ⟨Try.func14, ⟨Try.func28, ⟨Try.func29, ⟨Try.func79, ⟨Try.func75, ⟨Try.func76, ⟨Try.func77, ⟨Try.func80, ⟨Try.func15, ⟨Try.func71, ⟨Try.func110, ⟨Try.func111, ⟨Try.func112, ⟨Try.func114, ⟨Try.func113, ⟨Try.func146, ⟨Try.func185, ⟨Try.func186, ⟨Try.func145, ⟨Try.func177, ⟨Try.func178, ⟨Try.func204, ⟨Try.func179, ⟨Try.func205, ⟨Try.func206, ⟨Try.func180, ⟨Try.func207, ⟨Try.func208, ⟨Try.func214, ⟨Try.func181, ⟨Try.func182, ⟨Try.func183, ⟨Try.func184, ⟨Try.func16, ⟨Try.func72, ⟨Try.func23, ⟨Try.func24, ⟨Try.func19, trivial⟩⟩⟩⟩⟩⟩⟩⟩⟩⟩⟩⟩⟩⟩⟩⟩⟩⟩⟩⟩⟩⟩⟩⟩⟩⟩⟩⟩⟩⟩⟩⟩⟩⟩⟩⟩⟩⟩, (by unfold screenWorks_cas; (repeat (refine alP1 (by kernel_rfl) ?_)); exact trivial : allP (fun k _ => callable Try.prog k = true) screenWorks_cas), by kernel_rfl⟩
theorem screenWorks_f : AF Try.prog 14 [] (.bool true) := Rn.AF.run screenWorks_ctx_ok 1000 20 (by kernel_rfl)
def law_screenWorks_r (_ : Nat) (_ : Unit) : Option (Bool × Unit) := some (true, ())
def law_screenWorks_ctr : Ctr := ⟨.unit, .pair .bool .unit, law_screenWorks_r, 14⟩
theorem law_screenWorks_ok : CtrOk Try.prog 14 law_screenWorks_ctr := fun _ _ y h => by
  have h : some (true, ()) = some y := h
  injection h with h
  subst h
  exact screenWorks_f
end Go.Proofs.Ytelpkjellakigaa
/- Decompiling: functions that call themselves. -/
namespace Go.Proofs.Ytelpkjellakigaa
open Go Go.RowKit
/-- a recursive function, by its body: the first number bounds the depth -/
def recN {α β : Type} (body : (Nat → α → Option β) → Nat → α → Option β) : Nat → Nat → α → Option β
  | 0, _, _ => none
  | d + 1, fu, x => body (recN body d) fu x
theorem ctr_rec {l : List (Nat × Ctr)} (hl : allP (CtrOk Try.prog) l) {f : Nat} {an : An} {Fn : Nat} {σ ρ : Ty} {body : (Nat → σ.den → Option ρ.den) → Nat → σ.den → Option ρ.den}
    (h : ∀ g fu x, (topG (ρ := ρ) (dc ((Fn, ⟨σ, ρ, g, Fn⟩) :: l)) (drR (dc ((Fn, ⟨σ, ρ, g, Fn⟩) :: l))) f an Fn σ (.var x)).den fu = body g fu x) : ∀ d, CtrOk Try.prog Fn ⟨σ, ρ, recN body d, Fn⟩
  | 0 => fun fu x y hy => by
    have hy : none = some y := hy
    cases hy
  | d + 1 => fun fu x y hy => (ctr_ok (l := (Fn, ⟨σ, ρ, recN body d, Fn⟩) :: l) ⟨ctr_rec hl h d, hl⟩ (f := f) (an := an) (g := recN body (d + 1)) (h (recN body d))) fu x y hy
end Go.Proofs.Ytelpkjellakigaa
/- Residual programs of functions (printed by a program out of the code), checked by the kernel, and the contracts that follow. -/
namespace Go.Proofs.Ytelpkjellakigaa
open Go Go.RowKit
set_option linter.unusedVariables false
def R_Floor_j1 (fu : Nat) (v1 : Int) : Option (Int × Unit) :=
  some ((v1, ()))
def R_Floor_r (fu : Nat) (a : Int × Int × Unit) : Option (Int × Unit) :=
  bif (decide (a.2.1 ≠ (0 : Int))) then
  let v0 : Int := (IntKind.i64.wrap (Int.tdiv a.1 a.2.1))
  joinF (R_Floor_j1 fu) fun j1 =>
  bif (decide (a.1 < (IntKind.i64.wrap (v0 * a.2.1)))) then
    let v2 : Int := (IntKind.i64.wrap (v0 - (1 : Int)))
    j1 (v2)
  else
  j1 (v0)
  else none
def R_Floor_an : An := (.n none .z (.n none .z (.n (some ⟨[], [], [], [.reg 5 (.int .i64)], 0, []⟩) (.n none .z (.n none .z .z)) (.n none .z .z))))
noncomputable def R_Floor_dc : List (Nat × Ctr) := []
def R_Floor_ctr : Ctr := ⟨(.pair (.int .i64) (.pair (.int .i64) .unit)), (.pair (.int .i64) .unit), R_Floor_r, 74⟩
theorem R_Floor_ok : CtrOk Try.prog 74 R_Floor_ctr := ctr_ok (l := R_Floor_dc) (f := 12) (an := R_Floor_an) trivial fun fu x => by kernel_rfl
def R_Mod_r (fu : Nat) (a : Int × Int × Unit) : Option (Int × Unit) :=
  bindO (R_Floor_r fu ((a.1, (a.2.1, ())))) fun v0 =>
  let v1 : Int := (IntKind.i64.wrap (a.1 - (IntKind.i64.wrap (a.2.1 * v0.1))))
  some ((v1, ()))
def R_Mod_an : An := (.n none .z (.n none .z .z))
noncomputable def R_Mod_dc : List (Nat × Ctr) := [(74, R_Floor_ctr)]
def R_Mod_ctr : Ctr := ⟨(.pair (.int .i64) (.pair (.int .i64) .unit)), (.pair (.int .i64) .unit), R_Mod_r, 54⟩
theorem R_Mod_ok : CtrOk Try.prog 54 R_Mod_ctr := ctr_ok (l := R_Mod_dc) (f := 12) (an := R_Mod_an) ⟨R_Floor_ok, trivial⟩ fun fu x => by kernel_rfl
def R_Belongs_r (fu : Nat) (a : (Int × Int × Int) × Int × Int × Unit) : Option (Bool × Unit) :=
  let v0 : Int := (IntKind.i64.wrap ((IntKind.i64.wrap (a.1.1 * a.1.1)) + (IntKind.i64.wrap (a.1.2.1 * a.1.2.1))))
  bindO (R_Mod_r fu (((IntKind.i64.wrap ((IntKind.i64.wrap (a.2.1 * a.1.1)) + (IntKind.i64.wrap (a.2.2.1 * a.1.2.1)))), (v0, ())))) fun v1 =>
  bif (decide (v1.1 = (0 : Int))) then
    bindO (R_Mod_r fu (((IntKind.i64.wrap ((IntKind.i64.wrap (a.2.2.1 * a.1.1)) - (IntKind.i64.wrap (a.2.1 * a.1.2.1)))), (v0, ())))) fun v2 =>
    let v3 : Bool := (decide (v2.1 = (0 : Int)))
    some ((v3, ()))
  else
  some ((false, ()))
def R_Belongs_an : An := (.n none .z (.n none .z (.n none .z .z)))
noncomputable def R_Belongs_dc : List (Nat × Ctr) := [(54, R_Mod_ctr)]
def R_Belongs_ctr : Ctr := ⟨(.pair (.agg (.pair (.int .i64) (.pair (.int .i64) (.int .i64)))) (.pair (.int .i64) (.pair (.int .i64) .unit))), (.pair .bool .unit), R_Belongs_r, 78⟩
theorem R_Belongs_ok : CtrOk Try.prog 78 R_Belongs_ctr := ctr_ok (l := R_Belongs_dc) (f := 12) (an := R_Belongs_an) ⟨R_Mod_ok, trivial⟩ fun fu x => by kernel_rfl
def R_Within_r (fu : Nat) (a : Int × Int × Int × Unit) : Option (Bool × Unit) :=
  bif (decide (a.2.1 ≤ a.1)) then
    let v0 : Bool := (decide (a.1 ≤ a.2.2.1))
    some ((v0, ()))
  else
  some ((false, ()))
def R_Within_an : An := (.n none .z (.n none .z .z))
noncomputable def R_Within_dc : List (Nat × Ctr) := []
def R_Within_ctr : Ctr := ⟨(.pair (.int .i64) (.pair (.int .i64) (.pair (.int .i64) .unit))), (.pair .bool .unit), R_Within_r, 21⟩
theorem R_Within_ok : CtrOk Try.prog 21 R_Within_ctr := ctr_ok (l := R_Within_dc) (f := 12) (an := R_Within_an) trivial fun fu x => by kernel_rfl
def law_none_r (fu : Nat) (a : Bool × Int × Int × Unit) : Option (Bool × Unit) :=
  bif a.1 then
    let v0 : Bool := (decide (a.2.1 = a.2.2.1))
    some ((v0, ()))
  else
  some ((false, ()))
def law_none_an : An := (.n none .z (.n none .z .z))
noncomputable def law_none_dc : List (Nat × Ctr) := []
def law_none_ctr : Ctr := ⟨(.pair .bool (.pair (.int .i64) (.pair (.int .i64) .unit))), (.pair .bool .unit), law_none_r, 18⟩
theorem law_none_ok : CtrOk Try.prog 18 law_none_ctr := ctr_ok (l := law_none_dc) (f := 12) (an := law_none_an) trivial fun fu x => by kernel_rfl
def screen_Check_j1 (fu : Nat) (a : (Int × Int × Int) × Unit) (v0 : Bool) : Option (Int × Unit) :=
  bif v0 then
    some (((3 : Int), ()))
  else
  let v1 : Int := (IntKind.i64.wrap ((IntKind.i64.wrap (a.1.1 * a.1.1)) + (IntKind.i64.wrap (a.1.2.1 * a.1.2.1))))
  let v2 : Bool := (decide (v1 = (0 : Int)))
  bif v2 then
    some (((1 : Int), ()))
  else
  let v3 : Bool := (decide ((400 : Int) < v1))
  bif v3 then
    some (((2 : Int), ()))
  else
  some (((0 : Int), ()))
def screen_Check_r (fu : Nat) (a : (Int × Int × Int) × Unit) : Option (Int × Unit) :=
  joinF (screen_Check_j1 fu a) fun j0 =>
  bif (decide (a.1.1 < (0 : Int))) then
    j0 (true)
  else
  bif (decide ((20 : Int) < a.1.1)) then
    j0 (true)
  else
  bif (decide (a.1.2.1 < (0 : Int))) then
    j0 (true)
  else
  bif (decide ((20 : Int) < a.1.2.1)) then
    j0 (true)
  else
  bif (decide (a.1.2.2 < (0 : Int))) then
    j0 (true)
  else
  j0 ((decide ((3 : Int) < a.1.2.2)))
def screen_Check_an : An := (.n none .z (.n none (.n (some ⟨[1], [0], [], [.reg 31 .bool], 0, []⟩) .z (.n none (.n none .z .z) .z)) (.n none (.n none .z (.n none (.n none .z (.n none (.n none .z .z) (.n none .z (.n none (.n none .z .z) .z)))) .z)) (.n none .z .z))))
noncomputable def screen_Check_dc : List (Nat × Ctr) := []
def screen_Check_ctr : Ctr := ⟨(.pair (.agg (.pair (.int .i64) (.pair (.int .i64) (.int .i64)))) .unit), (.pair (.int .i64) .unit), screen_Check_r, 29⟩
theorem screen_Check_ok : CtrOk Try.prog 29 screen_Check_ctr := ctr_ok (l := screen_Check_dc) (f := 12) (an := screen_Check_an) trivial fun fu x => by kernel_rfl
def R_ScreenErr_j2 (fu : Nat) (a : (Int × Int × Int) × Unit) (v1 : Bool) : Option (Int × Unit) :=
  bif v1 then
    some (((1 : Int), ()))
  else
  bif (decide ((400 : Int) < (IntKind.i64.wrap ((IntKind.i64.wrap (a.1.1 * a.1.1)) + (IntKind.i64.wrap (a.1.2.1 * a.1.2.1)))))) then
    some (((2 : Int), ()))
  else
  some (((0 : Int), ()))
def R_ScreenErr_j1 (fu : Nat) (a : (Int × Int × Int) × Unit) (v0 : Bool) : Option (Int × Unit) :=
  bif v0 then
    some (((3 : Int), ()))
  else
  joinF (R_ScreenErr_j2 fu a) fun j1 =>
  bif (decide (a.1.1 = (0 : Int))) then
    j1 ((decide (a.1.2.1 = (0 : Int))))
  else
  j1 (false)
def R_ScreenErr_r (fu : Nat) (a : (Int × Int × Int) × Unit) : Option (Int × Unit) :=
  joinF (R_ScreenErr_j1 fu a) fun j0 =>
  bindO (R_Within_r fu ((a.1.1, ((0 : Int), ((20 : Int), ()))))) fun v1 =>
  bif (!v1.1) then
    j0 (true)
  else
  bindO (R_Within_r fu ((a.1.2.1, ((0 : Int), ((20 : Int), ()))))) fun v2 =>
  bif (!v2.1) then
    j0 (true)
  else
  bindO (R_Within_r fu ((a.1.2.2, ((0 : Int), ((3 : Int), ()))))) fun v3 =>
  j0 ((!v3.1))
def R_ScreenErr_an : An := (.n none .z (.n none (.n (some ⟨[1], [0], [], [.reg 18 .bool], 0, []⟩) .z (.n none (.n none .z .z) .z)) (.n none (.n (some ⟨[1], [0], [], [.reg 26 .bool], 0, []⟩) .z (.n none (.n none .z .z) .z)) (.n none (.n none .z (.n none (.n none .z .z) .z)) (.n none .z .z)))))
noncomputable def R_ScreenErr_dc : List (Nat × Ctr) := [(21, R_Within_ctr)]
def R_ScreenErr_ctr : Ctr := ⟨(.pair (.agg (.pair (.int .i64) (.pair (.int .i64) (.int .i64)))) .unit), (.pair (.int .i64) .unit), R_ScreenErr_r, 17⟩
theorem R_ScreenErr_ok : CtrOk Try.prog 17 R_ScreenErr_ctr := ctr_ok (l := R_ScreenErr_dc) (f := 12) (an := R_ScreenErr_an) ⟨R_Within_ok, trivial⟩ fun fu x => by kernel_rfl
def screen_mod_j1 (fu : Nat) (v0 : Int) : Option (Int × Unit) :=
  some ((v0, ()))
def screen_mod_r (fu : Nat) (a : Int × Int × Unit) : Option (Int × Unit) :=
  joinF (screen_mod_j1 fu) fun j0 =>
  bif (decide (a.2.1 ≠ (0 : Int))) then
  let v1 : Int := (Int.tmod a.1 a.2.1)
  bif (decide (v1 < (0 : Int))) then
    let v2 : Int := (IntKind.i64.wrap (v1 + a.2.1))
    j0 (v2)
  else
  j0 (v1)
  else none
def screen_mod_an : An := (.n none .z (.n (some ⟨[], [], [], [.reg 0 (.int .i64)], 0, []⟩) (.n none .z (.n none .z (.n none .z .z))) (.n none .z .z)))
noncomputable def screen_mod_dc : List (Nat × Ctr) := []
def screen_mod_ctr : Ctr := ⟨(.pair (.int .i64) (.pair (.int .i64) .unit)), (.pair (.int .i64) .unit), screen_mod_r, 77⟩
theorem screen_mod_ok : CtrOk Try.prog 77 screen_mod_ctr := ctr_ok (l := screen_mod_dc) (f := 12) (an := screen_mod_an) trivial fun fu x => by kernel_rfl
def screen_bezout_b (sf : Nat → (Int × Int × Unit) → Option (Int × Int × Int × Unit)) (fu : Nat) (a : Int × Int × Unit) : Option (Int × Int × Int × Unit) :=
  bif (decide (a.2.1 = (0 : Int))) then
    let v0 : Int := a.1
    some ((v0, ((1 : Int), ((0 : Int), ()))))
  else
  bif (decide (a.2.1 ≠ (0 : Int))) then
  bindO (sf fu ((a.2.1, ((Int.tmod a.1 a.2.1), ())))) fun v0 =>
  let v1 : Int := v0.1
  let v2 : Int := v0.2.1
  let v3 : Int := v0.2.2.1
  bif (decide (a.2.1 ≠ (0 : Int))) then
  let v4 : Int := (IntKind.i64.wrap (v2 - (IntKind.i64.wrap ((IntKind.i64.wrap (Int.tdiv a.1 a.2.1)) * v3))))
  some ((v1, (v3, (v4, ()))))
  else none
  else none
def screen_bezout_r (fu : Nat) (a : Int × Int × Unit) : Option (Int × Int × Int × Unit) := recN screen_bezout_b fu fu a
def screen_bezout_an : An := (.n none .z (.n none (.n none .z (.n none (.n none .z .z) .z)) (.n none .z (.n none (.dr [] []) .z))))
noncomputable def screen_bezout_dc : List (Nat × Ctr) := []
def screen_bezout_ctr : Ctr := ⟨(.pair (.int .i64) (.pair (.int .i64) .unit)), (.pair (.int .i64) (.pair (.int .i64) (.pair (.int .i64) .unit))), screen_bezout_r, 76⟩
theorem screen_bezout_ok : CtrOk Try.prog 76 screen_bezout_ctr := fun fu x y hy => ctr_rec (σ := (.pair (.int .i64) (.pair (.int .i64) .unit))) (ρ := (.pair (.int .i64) (.pair (.int .i64) (.pair (.int .i64) .unit)))) (l := screen_bezout_dc) trivial (f := 12) (an := screen_bezout_an) (body := screen_bezout_b) (fun g fu x => by kernel_rfl) fu fu x y hy
def screen_Of_r (fu : Nat) (a : (Int × Int × Int) × Unit) : Option ((Int × Int × Int) × Unit) :=
  bindO (screen_bezout_r fu ((a.1.1, (a.1.2.1, ())))) fun v0 =>
  let v1 : Int := v0.1
  let v2 : Int := v0.2.1
  let v3 : Int := v0.2.2.1
  bif (decide (v1 ≠ (0 : Int))) then
  let v4 : Int := (IntKind.i64.wrap (Int.tdiv (IntKind.i64.wrap ((IntKind.i64.wrap (a.1.1 * a.1.1)) + (IntKind.i64.wrap (a.1.2.1 * a.1.2.1)))) v1))
  bindO (screen_mod_r fu (((IntKind.i64.wrap ((IntKind.i64.wrap (v3 * a.1.1)) - (IntKind.i64.wrap (v2 * a.1.2.1)))), (v4, ())))) fun v5 =>
  some (((v4, (v5.1, v1)), ()))
  else none
def screen_Of_an : An := (.n none .z (.n none .z (.n none .z (.n none .z .z))))
noncomputable def screen_Of_dc : List (Nat × Ctr) := [(76, screen_bezout_ctr), (77, screen_mod_ctr)]
def screen_Of_ctr : Ctr := ⟨(.pair (.agg (.pair (.int .i64) (.pair (.int .i64) (.int .i64)))) .unit), (.pair (.agg (.pair (.int .i64) (.pair (.int .i64) (.int .i64)))) .unit), screen_Of_r, 75⟩
theorem screen_Of_ok : CtrOk Try.prog 75 screen_Of_ctr := ctr_ok (l := screen_Of_dc) (f := 12) (an := screen_Of_an) ⟨screen_bezout_ok, ⟨screen_mod_ok, trivial⟩⟩ fun fu x => by kernel_rfl
end Go.Proofs.Ytelpkjellakigaa
/- Plain facts for residual programs. No program in sight. -/
namespace Go.Proofs.Ytelpkjellakigaa
open Go Go.RowKit
theorem bif_pos {α : Type} {p : Prop} [Decidable p] {a b : α} (h : p) : (bif decide p then a else b) = a := by rw [decide_eq_true h]; rfl
theorem bif_neg {α : Type} {p : Prop} [Decidable p] {a b : α} (h : ¬ p) : (bif decide p then a else b) = b := by rw [decide_eq_false h]; rfl
theorem joinF_eq {α β : Type} (J : α → Option β) (b : (α → Option β) → Option β) : joinF J b = b J := rfl
theorem bindO_some {α β : Type} (x : α) (k : α → Option β) : bindO (some x) k = k x := rfl
/-- the fuel -/
def FU : Nat := 18446744073709551616
theorem FU_val : FU = 18446744073709551616 := rfl
/-! ### What is left of a loop -/
end Go.Proofs.Ytelpkjellakigaa
/- Plain facts on whole numbers: rounding, floor division. No program in sight. -/
namespace Go.Proofs.Ytelpkjellakigaa

theorem div_uniq {a b q r : Int} (hb : 0 < b) (h : r + b * q = a) (h0 : 0 ≤ r) (h1 : r < b) : a / b = q :=
  ((Int.ediv_emod_unique hb).2 ⟨h, h0, h1⟩).1

theorem tdiv_neg {a b : Int} (hb : 0 < b) (h : a.tmod b < 0) : a.tdiv b - 1 = a / b := by
  have h1 := Int.tmod_add_mul_tdiv a b
  have h2 : -b < a.tmod b := by
    have := Int.lt_tmod_of_pos a hb
    omega
  refine (div_uniq (r := a.tmod b + b) hb ?_ (by omega) (by omega)).symm
  rw [Int.mul_sub]; omega

theorem tdiv_pos {a b : Int} (hb : 0 < b) (h : 0 ≤ a.tmod b) : a.tdiv b = a / b := by
  have h1 := Int.tmod_add_mul_tdiv a b
  have h2 : a.tmod b < b := Int.tmod_lt_of_pos a hb
  exact (div_uniq (r := a.tmod b) hb (by omega) (by omega) (by omega)).symm

theorem tdiv_over {a b : Int} (hb : 0 < b) (h : a < a.tdiv b * b) : a.tdiv b - 1 = a / b := by
  have h1 := Int.tmod_add_mul_tdiv a b
  refine tdiv_neg hb ?_
  rw [Int.mul_comm] at h1; omega

theorem tdiv_under {a b : Int} (hb : 0 < b) (h : a.tdiv b * b ≤ a) : a.tdiv b = a / b := by
  have h1 := Int.tmod_add_mul_tdiv a b
  refine tdiv_pos hb ?_
  rw [Int.mul_comm] at h1; omega

theorem tdiv_abs {n m : Int} (d : Int) (h1 : -m ≤ n) (h2 : n ≤ m) : -m ≤ n.tdiv d ∧ n.tdiv d ≤ m := by
  have := Int.natAbs_tdiv_le_natAbs n d
  omega

theorem mul_bd {a b m n : Int} (h0 : 0 ≤ a) (h1 : a ≤ m) (h2 : 0 ≤ b) (h3 : b ≤ n) : 0 ≤ a * b ∧ a * b ≤ m * n :=
  ⟨Int.mul_nonneg h0 h2, Int.mul_le_mul h1 h3 h2 (by omega)⟩
end Go.Proofs.Ytelpkjellakigaa
/- Rewriting of residual programs by facts of arithmetic. No program in sight. -/
namespace Go.Proofs.Ytelpkjellakigaa
open Go Go.RowKit
theorem s_pos {p : Prop} [Decidable p] (h : p) : decide p = true := decide_eq_true h
theorem s_neg {p : Prop} [Decidable p] (h : ¬ p) : decide p = false := decide_eq_false h
theorem s_wr {x : Int} (h0 : -9223372036854775808 ≤ x) (h1 : x ≤ 9223372036854775807) : IntKind.i64.wrap x = x := wr64 h0 h1
theorem s_td {a b : Int} (h : 0 ≤ a) : Int.tdiv a b = a / b := Int.tdiv_eq_ediv_of_nonneg h
theorem s_tm {a b : Int} (h : 0 ≤ a) : Int.tmod a b = a % b := Int.tmod_eq_emod_of_nonneg h
/-- the first error of n steps from step i on -/
def firstE (E : Nat → Int) : Nat → Nat → Int
  | 0, _ => 0
  | n + 1, i => if E i = 0 then firstE E n (i + 1) else E i
theorem firstE_step {E : Nat → Int} {i m : Nat} (hi : i < m) : firstE E (m - i) i = if E i = 0 then firstE E (m - (i + 1)) (i + 1) else E i := by
  rw [show m - i = (m - (i + 1)) + 1 by omega, firstE]
section
variable {α : Type} {n : Nat} {G G' : Int → α}
end
end Go.Proofs.Ytelpkjellakigaa
/- Loops by their first error, by what is found, by a postcondition. No program in sight. -/
namespace Go.Proofs.Ytelpkjellakigaa
open Go Go.RowKit
set_option linter.unusedSimpArgs false
set_option linter.unusedSectionVars false
set_option linter.unusedVariables false
/-- a loop by an invariant and a postcondition of its result -/
theorem postLoop {X β : Type} {f : (X → Option β) → X → Option β} (μ : X → Nat) (I : X → Prop) (Q : Option β → Prop)
    (h : ∀ j x, I x → (∃ x', I x' ∧ μ x' < μ x ∧ f j x = j x') ∨ Q (f j x)) : ∀ (fu : Nat) (x : X), I x → μ x < fu → Q (loopF f fu x)
  | 0, _, _, h0 => absurd h0 (Nat.not_lt_zero _)
  | fu + 1, x, hI, hm => by
    rw [loopF]
    rcases h (loopF f fu) x hI with ⟨x', h1, h2, h3⟩ | h3
    · rw [h3]
      exact postLoop μ I Q h fu x' h1 (by omega)
    · exact h3
section
variable {β : Type} {f : (Int → Option β) → Int → Option β} {n fu : Nat} (hn : n < fu)
include hn
end
theorem firstE_all {E : Nat → Int} : ∀ (m i0 : Nat), (∀ k, i0 ≤ k → k < i0 + m → E k = 0) → firstE E m i0 = 0
  | 0, _, _ => rfl
  | m + 1, i0, h => by
    rw [firstE, if_pos (h i0 (Nat.le_refl _) (by omega))]
    exact firstE_all m (i0 + 1) fun k g1 g2 => h k (by omega) (by omega)
/-- a loop through the states st 0, st 1, .. that is left at the first error -/
theorem errGen {X β : Type} {f : (X → Option β) → X → Option β} {n : Nat} {st : Nat → X} {E : Nat → Int} {out : Int → Option β} {fin : Option β}
    (step : ∀ j (i : Nat), i < n → (∀ k, k < i → E k = 0) → f j (st i) = if E i = 0 then j (st (i + 1)) else out (E i)) (last : (∀ k, k < n → E k = 0) → ∀ j, f j (st n) = fin) :
    ∀ (fu i : Nat), i ≤ n → n - i < fu → (∀ k, k < i → E k = 0) → loopF f fu (st i) = if firstE E (n - i) i = 0 then fin else out (firstE E (n - i) i)
  | 0, i, _, h, _ => by omega
  | fu + 1, i, h0, h1, hE => by
    rw [loopF]
    by_cases hi : i < n
    · rw [step _ i hi hE, firstE_step hi]
      by_cases e : E i = 0
      · rw [if_pos e]
        simp only [if_pos e]
        exact errGen step last fu (i + 1) (by omega) (by omega) fun k hk => by
          by_cases q : k = i
          · rw [q]; exact e
          · exact hE k (by omega)
      · rw [if_neg e]
        simp only [if_neg e]
    · have e : i = n := by omega
      subst e
      rw [last hE, Nat.sub_self]; rfl
end Go.Proofs.Ytelpkjellakigaa
/- Remainders and the greatest common divisor, as the program and the document compute them. -/
namespace Go.Proofs.Ytelpkjellakigaa
open Go Go.RowKit
set_option linter.unusedSimpArgs false
set_option linter.unusedSectionVars false
set_option linter.unusedVariables false
namespace Sc
theorem rfloor (fu : Nat) {n d : Int} (hd : 0 < d) (h1 : d ≤ 1000000000000000) (h2 : -9223372036854775808 ≤ n) (h3 : n ≤ 9223372036854775807) : R_Floor_r fu (n, (d, ())) = some (n / d, ()) := by
  have a1 := Int.mul_tdiv_add_tmod n d
  have a2 : n.tdiv d * d = d * n.tdiv d := Int.mul_comm _ _
  have a3 : -d < n.tmod d ∧ n.tmod d < d := by
    constructor
    · have := Int.lt_tmod_of_pos n hd; omega
    · exact Int.tmod_lt_of_pos n hd
  have a4 : -9223372036854775808 ≤ n.tdiv d ∧ n.tdiv d ≤ 9223372036854775808 := by
    have := tdiv_abs (m := 9223372036854775808) d (by omega : -9223372036854775808 ≤ n) (by omega)
    omega
  have a5 : n.tdiv d ≤ 9223372036854775807 := by
    by_cases c : 0 ≤ n
    · rw [Int.tdiv_eq_ediv_of_nonneg c]
      exact Int.le_trans (Int.ediv_le_self _ c) h3
    · by_cases c2 : n.tdiv d ≤ 0
      · omega
      · have := Int.mul_le_mul_of_nonneg_right (show 1 ≤ n.tdiv d by omega) (show 0 ≤ d by omega)
        omega
  have a6 : 0 ≤ n → 0 ≤ n.tmod d := fun c => Int.tmod_nonneg _ c
  have a7 : n ≤ 0 → n.tmod d ≤ 0 := fun c => by
    have := Int.tmod_nonneg (a := -n) d (by omega)
    rw [Int.neg_tmod] at this
    omega
  unfold R_Floor_r R_Floor_j1
  simp (disch := omega) only [joinF_eq, bindO_some, s_wr, s_td, s_tm, s_pos, s_neg, cond_true, cond_false, Bool.not_true, Bool.not_false, Bool.true_and, Bool.and_true, Bool.false_and, Bool.and_false, bne_self_eq_false, decide_true, decide_false, Int.toNat_natCast]
  by_cases c : n < n.tdiv d * d
  · simp (disch := omega) only [joinF_eq, bindO_some, s_wr, s_td, s_tm, s_pos, s_neg, cond_true, cond_false, Bool.not_true, Bool.not_false, Bool.true_and, Bool.and_true, Bool.false_and, Bool.and_false, bne_self_eq_false, decide_true, decide_false, Int.toNat_natCast]
    have e := tdiv_over hd c
    by_cases lo : -9223372036854775808 ≤ n.tdiv d - 1
    · simp (disch := omega) only [joinF_eq, bindO_some, s_wr, s_td, s_tm, s_pos, s_neg, cond_true, cond_false, Bool.not_true, Bool.not_false, Bool.true_and, Bool.and_true, Bool.false_and, Bool.and_false, bne_self_eq_false, decide_true, decide_false, Int.toNat_natCast]
      rw [e]
    · have : n.tdiv d = -9223372036854775808 := by omega
      rw [this] at c
      have : d * 1 ≤ d * 9223372036854775808 := Int.mul_le_mul_of_nonneg_left (by decide) (by omega)
      omega
  · simp (disch := omega) only [joinF_eq, bindO_some, s_wr, s_td, s_tm, s_pos, s_neg, cond_true, cond_false, Bool.not_true, Bool.not_false, Bool.true_and, Bool.and_true, Bool.false_and, Bool.and_false, bne_self_eq_false, decide_true, decide_false, Int.toNat_natCast]
    rw [tdiv_under hd (by omega)]
theorem rmod (fu : Nat) {n d : Int} (hd : 0 < d) (h1 : d ≤ 1000000000000000) (h2 : -9223372036854775808 ≤ n) (h3 : n ≤ 9223372036854775807) : R_Mod_r fu (n, (d, ())) = some (n % d, ()) := by
  unfold R_Mod_r
  rw [rfloor fu hd h1 h2 h3]
  have e := Int.mul_ediv_add_emod n d
  have e0 := Int.emod_nonneg n (show d ≠ 0 by omega)
  have e1 := Int.emod_lt_of_pos n hd
  by_cases c : -9223372036854775808 ≤ d * (n / d)
  · simp (disch := omega) only [joinF_eq, bindO_some, s_wr, s_td, s_tm, s_pos, s_neg, cond_true, cond_false, Bool.not_true, Bool.not_false, Bool.true_and, Bool.and_true, Bool.false_and, Bool.and_false, bne_self_eq_false, decide_true, decide_false, Int.toNat_natCast]
    congr 2
    omega
  · have : IntKind.i64.wrap (d * (n / d)) = d * (n / d) + 18446744073709551616 := by rw [IntKind.wrap_i64]; omega
    simp (disch := omega) only [joinF_eq, bindO_some, s_wr, s_td, s_tm, s_pos, s_neg, cond_true, cond_false, Bool.not_true, Bool.not_false, Bool.true_and, Bool.and_true, Bool.false_and, Bool.and_false, bne_self_eq_false, decide_true, decide_false, Int.toNat_natCast]
    rw [this]
    have : IntKind.i64.wrap (n - (d * (n / d) + 18446744073709551616)) = n - d * (n / d) := by rw [IntKind.wrap_i64]; omega
    rw [this]
    congr 2
    omega
theorem smod (fu : Nat) {n d : Int} (hd : 0 < d) (h1 : d ≤ 1000000000000000) : screen_mod_r fu (n, (d, ())) = some (n % d, ()) := by
  unfold screen_mod_r screen_mod_j1
  simp only [joinF_eq]
  have e := Int.tmod_eq_emod (a := n) (b := d)
  have e0 := Int.emod_nonneg n (show d ≠ 0 by omega)
  have e1 := Int.emod_lt_of_pos n hd
  rw [bif_pos (by omega)]
  by_cases c : 0 ≤ n ∨ d ∣ n
  · rw [if_pos c] at e
    rw [e, bif_neg (by omega)]
    congr 2; omega
  · rw [if_neg c] at e
    rw [e, bif_pos (by omega), s_wr (by omega) (by omega)]
    congr 2; omega
theorem bez_b {fu : Nat} : ∀ (d : Nat) (a b : Int), 0 ≤ b → b < d → 0 ≤ a → a ≤ 1000000000000000 → b ≤ 1000000000000000 → (0 < a ∨ 0 < b) →
    ∃ g x y, recN screen_bezout_b d fu (a, (b, ())) = some (g, (x, (y, ()))) ∧ 0 < g ∧ a * x + b * y = g ∧ g ∣ a ∧ g ∣ b ∧ (-(max 1 b) ≤ x ∧ x ≤ max 1 b) ∧ (-(max 1 a) ≤ y ∧ y ≤ max 1 a) ∧ (b = 0 → x = 1 ∧ y = 0)
  | 0, a, b, h0, h1, _, _, _, _ => by omega
  | d + 1, a, b, h0, h1, h2, h3, h4, h5 => by
    rw [recN, show screen_bezout_b (recN screen_bezout_b d) fu (a, (b, ())) = (bif decide (b = 0) then some (a, ((1 : Int), ((0 : Int), ()))) else bif decide (b ≠ 0) then
      bindO (recN screen_bezout_b d fu (b, (Int.tmod a b, ()))) fun v0 => (bif decide (b ≠ 0) then some (v0.1, (v0.2.2.1, (IntKind.i64.wrap (v0.2.1 - IntKind.i64.wrap (IntKind.i64.wrap (Int.tdiv a b) * v0.2.2.1)), ()))) else none) else none) from rfl]
    by_cases c : b = 0
    · subst c
      rw [bif_pos rfl]
      exact ⟨a, 1, 0, rfl, by omega, by omega, Int.dvd_refl _, Int.dvd_zero _, by omega, by omega, fun _ => ⟨rfl, rfl⟩⟩
    · have hb : 0 < b := by omega
      have e0 := Int.emod_nonneg a c
      have e1 := Int.emod_lt_of_pos a hb
      have e2 := Int.mul_ediv_add_emod a b
      have q0 : 0 ≤ a / b := Int.ediv_nonneg h2 h0
      have q1 : a / b ≤ a := Int.ediv_le_self _ h2
      obtain ⟨g, x, y, k1, k2, k3, k4, k5, k6, k7, k8⟩ := bez_b (fu := fu) d b (a % b) e0 (by omega) h0 h4 (by omega) (.inl hb)
      rw [bif_neg c, bif_pos c, s_tm h2, k1]
      simp only [bindO_some]
      have hy : -b ≤ y ∧ y ≤ b := by omega
      have m1 : a / b * y ≤ a / b * b := Int.mul_le_mul_of_nonneg_left hy.2 q0
      have m2 : a / b * (-b) ≤ a / b * y := Int.mul_le_mul_of_nonneg_left hy.1 q0
      have m3 : a / b * (-b) = -(a / b * b) := by rw [Int.mul_neg]
      have m4 : a / b * b = b * (a / b) := Int.mul_comm _ _
      have hyb : -(max 1 a) ≤ x - a / b * y ∧ x - a / b * y ≤ max 1 a := by
        by_cases r : a % b = 0
        · obtain ⟨r1, r2⟩ := k8 r
          subst r1; subst r2
          rw [Int.mul_zero]
          omega
        · omega
      rw [bif_pos c, s_td h2, s_wr (x := a / b) (by omega) (by omega), s_wr (x := a / b * y) (by omega) (by omega), s_wr (x := x - a / b * y) (by omega) (by omega)]
      refine ⟨g, y, x - a / b * y, rfl, k2, ?_, ?_, k4, by omega, hyb, fun h => absurd h c⟩
      · rw [← k3]
        have : a = b * (a / b) + a % b := e2.symm
        generalize a / b = q at *
        generalize a % b = r at *
        subst this
        grind
      · rw [← e2]
        exact Int.dvd_add (Int.dvd_trans k4 (Int.dvd_mul_right _ _)) k5
theorem bez_r {fu : Nat} (hf : 18446744073709551616 ≤ fu) {a b : Int} (h0 : 0 ≤ b) (h2 : 0 ≤ a) (h3 : a ≤ 1000000000000000) (h4 : b ≤ 1000000000000000) (h5 : 0 < a ∨ 0 < b) :
    ∃ g x y, screen_bezout_r fu (a, (b, ())) = some (g, (x, (y, ()))) ∧ 0 < g ∧ a * x + b * y = g ∧ g ∣ a ∧ g ∣ b ∧ (-(max 1 b) ≤ x ∧ x ≤ max 1 b) ∧ (-(max 1 a) ≤ y ∧ y ≤ max 1 a) := by
  obtain ⟨g, x, y, k1, k2, k3, k4, k5, k6, k7, _⟩ := bez_b (fu := fu) fu a b h0 (by omega) h2 h3 h4 h5
  exact ⟨g, x, y, k1, k2, k3, k4, k5, k6, k7⟩
end Sc
end Go.Proofs.Ytelpkjellakigaa
/- Screens: the lattice of a screen, and the place of a pixel. -/
namespace Go.Proofs.Ytelpkjellakigaa
open Go Go.RowKit
set_option linter.unusedSimpArgs false
set_option linter.unusedSectionVars false
set_option linter.unusedVariables false
namespace Sc
/-- n2 divides both products -/
def bel (A B dx dy : Int) : Prop := (A * A + B * B) ∣ (dx * A + dy * B) ∧ (A * A + B * B) ∣ (dy * A - dx * B)
structure FormOk (A B N S G : Int) : Prop where
  g0 : 0 < G
  n0 : 0 < N
  mul : G * N = A * A + B * B
  s0 : 0 ≤ S
  s1 : S < N
  vec : bel A B S G
  row : bel A B N 0
  least : ∀ d, bel A B d 0 → N ∣ d
  ga : G ∣ A
  gb : G ∣ B
  great : ∀ d, d ∣ A → d ∣ B → d ∣ G
structure ScrOk (A B : Int) : Prop where
  a0 : 0 ≤ A
  a1 : A ≤ 20
  b0 : 0 ≤ B
  b1 : B ≤ 20
  n0 : 0 < A * A + B * B
  n1 : A * A + B * B ≤ 400
theorem bel_sub {A B x y u v : Int} (h : bel A B x y) (k : bel A B u v) : bel A B (x - u) (y - v) := by
  obtain ⟨h1, h2⟩ := h
  obtain ⟨k1, k2⟩ := k
  constructor
  · have := Int.dvd_sub h1 k1
    have e : x * A + y * B - (u * A + v * B) = (x - u) * A + (y - v) * B := by grind
    rw [e] at this; exact this
  · have := Int.dvd_sub h2 k2
    have e : y * A - x * B - (v * A - u * B) = (y - v) * A - (x - u) * B := by grind
    rw [e] at this; exact this
theorem bel_add {A B x y u v : Int} (h : bel A B x y) (k : bel A B u v) : bel A B (x + u) (y + v) := by
  obtain ⟨h1, h2⟩ := h
  obtain ⟨k1, k2⟩ := k
  constructor
  · have := Int.dvd_add h1 k1
    have e : x * A + y * B + (u * A + v * B) = (x + u) * A + (y + v) * B := by grind
    rw [e] at this; exact this
  · have := Int.dvd_add h2 k2
    have e : y * A - x * B + (v * A - u * B) = (y + v) * A - (x + u) * B := by grind
    rw [e] at this; exact this
theorem bel_mul {A B x y : Int} (q : Int) (h : bel A B x y) : bel A B (q * x) (q * y) := by
  obtain ⟨h1, h2⟩ := h
  constructor
  · have := Int.dvd_trans h1 (Int.dvd_mul_left q (x * A + y * B))
    have e : q * (x * A + y * B) = q * x * A + q * y * B := by grind
    rw [e] at this; exact this
  · have := Int.dvd_trans h2 (Int.dvd_mul_left q (y * A - x * B))
    have e : q * (y * A - x * B) = q * y * A - q * x * B := by grind
    rw [e] at this; exact this
section
variable {A B N S G : Int} (f : FormOk A B N S G)
include f
/-- a vector of the lattice, by the row that it lies in -/
theorem bel_row (d q : Int) : bel A B d (q * G) ↔ N ∣ d - q * S := by
  have hq := bel_mul q f.vec
  constructor
  · intro h
    have := bel_sub h hq
    rw [Int.sub_self] at this
    exact f.least _ this
  · rintro ⟨k, hk⟩
    have h2 := bel_add (bel_mul k f.row) hq
    have e : k * N + q * S = d := by have : k * N = N * k := Int.mul_comm _ _; omega
    rw [e, Int.mul_zero, Int.zero_add] at h2
    exact h2
end
section
variable {fu : Nat} (hf : 18446744073709551616 ≤ fu) {A B : Int} (ok : ScrOk A B) (K : Int)
include hf ok
theorem form_r : ∃ N S G, screen_Of_r fu ((A, (B, K)), ()) = some ((N, (S, G)), ()) ∧ FormOk A B N S G ∧ N ≤ 400 ∧ G ≤ 400 := by
  obtain ⟨a0, a1, b0, b1, n0, n1⟩ := ok
  have hpos : 0 < A ∨ 0 < B := by
    rcases Int.lt_or_le 0 A with h | h
    · exact .inl h
    · rcases Int.lt_or_le 0 B with h' | h'
      · exact .inr h'
      · obtain rfl : A = 0 := by omega
        obtain rfl : B = 0 := by omega
        simp at n0
  obtain ⟨g, x, y, k1, k2, k3, k4, k5, k6, k7⟩ := bez_r hf (a := A) (b := B) b0 a0 (by omega) (by omega) hpos
  obtain ⟨a', ha⟩ := k4
  obtain ⟨b', hb⟩ := k5
  have hgg : A * A + B * B = g * (a' * A + b' * B) := by
    have : g * (a' * A + b' * B) = (g * a') * A + (g * b') * B := by grind
    rw [this, ← ha, ← hb]
  have hN : (A * A + B * B) / g = a' * A + b' * B := by rw [hgg]; exact Int.mul_ediv_cancel_left _ (by omega)
  generalize hNN : a' * A + b' * B = N at *
  have hN0 : 0 < N := by
    rcases Int.lt_or_le 0 N with h | h
    · exact h
    · have : g * N ≤ g * 0 := Int.mul_le_mul_of_nonneg_left h (by omega)
      omega
  have hg1 : 1 * N ≤ g * N := Int.mul_le_mul_of_nonneg_right (by omega) (by omega)
  have hg2 : g * 1 ≤ g * N := Int.mul_le_mul_of_nonneg_left (by omega) (by omega)
  have sq1 : 0 ≤ A * A := Int.mul_nonneg a0 a0
  have sq2 : 0 ≤ B * B := Int.mul_nonneg b0 b0
  have m1 : -(20 * 20) ≤ y * A ∧ y * A ≤ 20 * 20 := by
    have h1 : y * A ≤ 20 * A := Int.mul_le_mul_of_nonneg_right (by omega) a0
    have h2 : -20 * A ≤ y * A := Int.mul_le_mul_of_nonneg_right (by omega) a0
    omega
  have m2 : -(20 * 20) ≤ x * B ∧ x * B ≤ 20 * 20 := by
    have h1 : x * B ≤ 20 * B := Int.mul_le_mul_of_nonneg_right (by omega) b0
    have h2 : -20 * B ≤ x * B := Int.mul_le_mul_of_nonneg_right (by omega) b0
    omega
  have e0 := Int.emod_nonneg (y * A - x * B) (show N ≠ 0 by omega)
  have e1 := Int.emod_lt_of_pos (y * A - x * B) hN0
  have e2 := Int.mul_ediv_add_emod (y * A - x * B) N
  refine ⟨N, (y * A - x * B) % N, g, ?_, ⟨k2, hN0, by omega, e0, e1, ?_, ?_, ?_, ⟨a', ha⟩, ⟨b', hb⟩, ?_⟩, by omega, by omega⟩
  · unfold screen_Of_r
    simp only [k1, bindO_some]
    rw [s_wr (x := A * A) (by omega) (by omega), s_wr (x := B * B) (by omega) (by omega), s_wr (x := A * A + B * B) (by omega) (by omega), s_td (by omega), hN, bif_pos (by omega), s_wr (x := N) (by omega) (by omega), s_wr (x := y * A) (by omega) (by omega), s_wr (x := x * B) (by omega) (by omega), s_wr (x := y * A - x * B) (by omega) (by omega), smod fu hN0 (by omega)]
    rfl
  · have hrow : bel A B N 0 := by
      constructor
      · refine ⟨a', ?_⟩
        rw [hgg, ha]
        grind
      · refine ⟨-b', ?_⟩
        rw [hgg, hb]
        grind
    have hv : bel A B (y * A - x * B) g := by
      constructor
      · refine ⟨y, ?_⟩
        rw [← k3]; grind
      · refine ⟨x, ?_⟩
        rw [← k3]; grind
    have := bel_sub hv (bel_mul ((y * A - x * B) / N) hrow)
    have e3 : y * A - x * B - (y * A - x * B) / N * N = (y * A - x * B) % N := by
      have : (y * A - x * B) / N * N = N * ((y * A - x * B) / N) := Int.mul_comm _ _
      omega
    rw [e3, Int.mul_zero, Int.sub_zero] at this
    exact this
  · constructor
    · refine ⟨a', ?_⟩
      rw [hgg, ha]
      grind
    · refine ⟨-b', ?_⟩
      rw [hgg, hb]
      grind
  · rintro d ⟨⟨p, hp⟩, ⟨q, hq⟩⟩
    have h1 : d * g = (A * A + B * B) * (p * x - q * y) := by
      have : d * g = (d * A + 0 * B) * x - (0 * A - d * B) * y := by rw [← k3]; grind
      rw [this, hp, hq]; grind
    rw [hgg] at h1
    have h2 : g * d = g * (N * (p * x - q * y)) := by rw [Int.mul_comm g d, h1]; grind
    exact ⟨_, Int.eq_of_mul_eq_mul_left (by omega) h2⟩
  · rintro d ⟨p, hp⟩ ⟨q, hq⟩
    refine ⟨p * x + q * y, ?_⟩
    rw [← k3]
    have : A * x + B * y = d * p * x + d * q * y := by rw [← hp, ← hq]
    rw [this]; grind
theorem belongs_r {dx dy : Int} (h1 : -10000000 ≤ dx ∧ dx ≤ 10000000) (h2 : -10000000 ≤ dy ∧ dy ≤ 10000000) : ∃ b, R_Belongs_r fu ((A, (B, K)), (dx, (dy, ()))) = some (b, ()) ∧ (b = true ↔ bel A B dx dy) := by
  obtain ⟨a0, a1, b0, b1, n0, n1⟩ := ok
  have sq1 : 0 ≤ A * A := Int.mul_nonneg a0 a0
  have sq2 : 0 ≤ B * B := Int.mul_nonneg b0 b0
  have bd : ∀ z t : Int, -10000000 ≤ z → z ≤ 10000000 → 0 ≤ t → t ≤ 20 → -200000000 ≤ z * t ∧ z * t ≤ 200000000 := fun z t g1 g2 g3 g4 => by
    have q1 : z * t ≤ 10000000 * t := Int.mul_le_mul_of_nonneg_right g2 g3
    have q2 : -10000000 * t ≤ z * t := Int.mul_le_mul_of_nonneg_right g1 g3
    omega
  have p1 := bd dx A h1.1 h1.2 a0 a1
  have p2 := bd dy B h2.1 h2.2 b0 b1
  have p3 := bd dy A h2.1 h2.2 a0 a1
  have p4 := bd dx B h1.1 h1.2 b0 b1
  unfold R_Belongs_r
  simp only
  rw [s_wr (x := A * A) (by omega) (by omega), s_wr (x := B * B) (by omega) (by omega), s_wr (x := A * A + B * B) (by omega) (by omega), s_wr (x := dx * A) (by omega) (by omega), s_wr (x := dy * B) (by omega) (by omega), s_wr (x := dx * A + dy * B) (by omega) (by omega), rmod fu n0 (by omega) (by omega) (by omega)]
  simp only [bindO_some]
  have i1 : (dx * A + dy * B) % (A * A + B * B) = 0 ↔ (A * A + B * B) ∣ (dx * A + dy * B) := ⟨Int.dvd_of_emod_eq_zero, Int.emod_eq_zero_of_dvd⟩
  have i2 : (dy * A - dx * B) % (A * A + B * B) = 0 ↔ (A * A + B * B) ∣ (dy * A - dx * B) := ⟨Int.dvd_of_emod_eq_zero, Int.emod_eq_zero_of_dvd⟩
  by_cases c : (dx * A + dy * B) % (A * A + B * B) = 0
  · rw [bif_pos c, s_wr (x := dy * A) (by omega) (by omega), s_wr (x := dx * B) (by omega) (by omega), s_wr (x := dy * A - dx * B) (by omega) (by omega), rmod fu n0 (by omega) (by omega) (by omega)]
    simp only [bindO_some]
    refine ⟨_, rfl, ?_⟩
    unfold bel
    rw [decide_eq_true_iff, i2]
    exact ⟨fun h => ⟨i1.1 c, h⟩, fun h => h.2⟩
  · rw [bif_neg c]
    exact ⟨false, rfl, by simp; intro h; exact absurd (i1.2 h.1) c⟩
end
end Sc
end Go.Proofs.Ytelpkjellakigaa
/- Screens: Check, Area, Period and Cell; the law ScreenPlaces. -/
namespace Go.Proofs.Ytelpkjellakigaa
open Go Go.RowKit
set_option linter.unusedSimpArgs false
set_option linter.unusedSectionVars false
set_option linter.unusedVariables false
namespace Sc
def scP (A B K : Int) : Prop := ((0 ≤ A ∧ A ≤ 20) ∧ (0 ≤ B ∧ B ≤ 20)) ∧ (0 ≤ K ∧ K ≤ 3)
instance (A B K : Int) : Decidable (scP A B K) := by unfold scP; exact inferInstance
def scE (A B K : Int) : Int := if scP A B K then (if A * A + B * B = 0 then 1 else if 400 < A * A + B * B then 2 else 0) else 3
theorem scE_ok {A B K : Int} (h : scE A B K = 0) : ScrOk A B := by
  unfold scE at h
  by_cases c : scP A B K
  · rw [if_pos c] at h
    obtain ⟨⟨⟨a0, a1⟩, b0, b1⟩, _⟩ := c
    have sq1 : 0 ≤ A * A := Int.mul_nonneg a0 a0
    have sq2 : 0 ≤ B * B := Int.mul_nonneg b0 b0
    by_cases c1 : A * A + B * B = 0
    · rw [if_pos c1] at h; omega
    · rw [if_neg c1] at h
      by_cases c2 : 400 < A * A + B * B
      · rw [if_pos c2] at h; omega
      · exact ⟨a0, a1, b0, b1, by omega, by omega⟩
  · rw [if_neg c] at h; omega
theorem sq_bd {A : Int} (a0 : 0 ≤ A) (a1 : A ≤ 20) : 0 ≤ A * A ∧ A * A ≤ 400 := by
  have h1 := Int.mul_nonneg a0 a0
  have h2 : A * A ≤ 20 * A := Int.mul_le_mul_of_nonneg_right a1 a0
  omega
theorem within_r (fu : Nat) (x lo hi : Int) : R_Within_r fu (x, (lo, (hi, ()))) = some (decide (lo ≤ x ∧ x ≤ hi), ()) := by
  unfold R_Within_r
  simp only
  by_cases h : lo ≤ x
  · rw [bif_pos h]
    congr 2
    simp [h]
  · rw [bif_neg h]
    congr 2
    simp [h]
theorem none_r (fu : Nat) (z : Bool) (g w : Int) : law_none_r fu (z, (g, (w, ()))) = some (z && decide (g = w), ()) := by
  unfold law_none_r
  cases z <;> rfl
section
variable (fu : Nat) (A B K : Int)
theorem check_r : screen_Check_r fu ((A, (B, K)), ()) = some (scE A B K, ()) := by
  have jt : screen_Check_j1 fu ((A, (B, K)), ()) true = some (3, ()) := rfl
  unfold screen_Check_r
  simp only [joinF_eq]
  by_cases c : scP A B K
  · obtain ⟨⟨⟨a0, a1⟩, b0, b1⟩, k0, k1⟩ := id c
    have s1 := sq_bd a0 a1
    have s2 := sq_bd b0 b1
    rw [bif_neg (by omega), bif_neg (by omega), bif_neg (by omega), bif_neg (by omega), bif_neg (by omega), s_neg (by omega)]
    unfold screen_Check_j1 scE
    simp only [cond_false]
    rw [if_pos c, s_wr (x := A * A) (by omega) (by omega), s_wr (x := B * B) (by omega) (by omega), s_wr (x := A * A + B * B) (by omega) (by omega)]
    by_cases c1 : A * A + B * B = 0
    · rw [bif_pos c1, if_pos c1]
    · rw [bif_neg c1, if_neg c1]
      by_cases c2 : 400 < A * A + B * B
      · rw [bif_pos c2, if_pos c2]
      · rw [bif_neg c2, if_neg c2]
  · have e : scE A B K = 3 := by unfold scE; rw [if_neg c]
    rw [e]
    unfold scP at c
    by_cases h1 : A < 0
    · rw [bif_pos h1, jt]
    rw [bif_neg h1]
    by_cases h2 : 20 < A
    · rw [bif_pos h2, jt]
    rw [bif_neg h2]
    by_cases h3 : B < 0
    · rw [bif_pos h3, jt]
    rw [bif_neg h3]
    by_cases h4 : 20 < B
    · rw [bif_pos h4, jt]
    rw [bif_neg h4]
    by_cases h5 : K < 0
    · rw [bif_pos h5, jt]
    rw [bif_neg h5, s_pos (by omega), jt]
theorem err_r : R_ScreenErr_r fu ((A, (B, K)), ()) = some (scE A B K, ()) := by
  have jt : R_ScreenErr_j1 fu ((A, (B, K)), ()) true = some (3, ()) := rfl
  unfold R_ScreenErr_r
  simp only [joinF_eq, within_r, bindO_some]
  by_cases c : scP A B K
  · obtain ⟨⟨⟨a0, a1⟩, b0, b1⟩, k0, k1⟩ := id c
    have s1 := sq_bd a0 a1
    have s2 := sq_bd b0 b1
    rw [s_pos (by omega), s_pos (by omega), s_pos (by omega)]
    simp only [Bool.not_true, cond_false]
    unfold R_ScreenErr_j1 R_ScreenErr_j2 scE
    simp only [cond_false, joinF_eq]
    rw [if_pos c, s_wr (x := A * A) (by omega) (by omega), s_wr (x := B * B) (by omega) (by omega), s_wr (x := A * A + B * B) (by omega) (by omega)]
    have z : A * A + B * B = 0 ↔ A = 0 ∧ B = 0 := by
      constructor
      · intro h
        have h1 : A * A = 0 := by omega
        have h2 : B * B = 0 := by omega
        exact ⟨(Int.mul_eq_zero.1 h1).elim id id, (Int.mul_eq_zero.1 h2).elim id id⟩
      · rintro ⟨rfl, rfl⟩; rfl
    by_cases c1 : A = 0
    · rw [bif_pos c1]
      by_cases c2 : B = 0
      · rw [s_pos c2, if_pos (z.2 ⟨c1, c2⟩)]; rfl
      · rw [s_neg c2, if_neg (fun g => c2 (z.1 g).2), cond_false]
        by_cases c3 : 400 < A * A + B * B
        · rw [bif_pos c3, if_pos c3]
        · rw [bif_neg c3, if_neg c3]
    · rw [bif_neg c1, if_neg (fun g => c1 (z.1 g).1)]
      by_cases c3 : 400 < A * A + B * B
      · rw [bif_pos c3, if_pos c3]
      · rw [bif_neg c3, if_neg c3]
  · have e : scE A B K = 3 := by unfold scE; rw [if_neg c]
    rw [e]
    unfold scP at c
    by_cases h1 : 0 ≤ A ∧ A ≤ 20
    · rw [s_pos h1, Bool.not_true, cond_false]
      by_cases h2 : 0 ≤ B ∧ B ≤ 20
      · rw [s_pos h2, Bool.not_true, cond_false, s_neg (fun g => c ⟨⟨h1, h2⟩, g⟩), Bool.not_false, jt]
      · rw [s_neg h2, Bool.not_false, cond_true, jt]
    · rw [s_neg h1, Bool.not_false, cond_true, jt]
end
end Sc
end Go.Proofs.Ytelpkjellakigaa
/- The lattice that two lattices have in common. -/
namespace Go.Proofs.Ytelpkjellakigaa
open Go
set_option linter.unusedSimpArgs false
set_option linter.unusedSectionVars false
set_option linter.unusedVariables false
namespace Sc
/-- the height of a vector of the lattice is a multiple of the row's -/
theorem bel_high {A B N S G x y : Int} (f : FormOk A B N S G) (h : bel A B x y) : G ∣ y := by
  obtain ⟨⟨i, hi⟩, ⟨j, hj⟩⟩ := h
  obtain ⟨a, ha⟩ := f.ga
  obtain ⟨b, hb⟩ := f.gb
  have hpos : 0 < A * A + B * B := by rw [← f.mul]; exact Int.mul_pos f.g0 f.n0
  have e : (A * A + B * B) * y = (A * A + B * B) * (B * i + A * j) := by
    have e1 : (A * A + B * B) * y = A * (y * A - x * B) + B * (x * A + y * B) := by grind
    rw [e1, hi, hj]; grind
  have e2 : y = B * i + A * j := Int.eq_of_mul_eq_mul_left (by omega) e
  refine ⟨b * i + a * j, ?_⟩
  have : B * i + A * j = (G * b) * i + (G * a) * j := by rw [← ha, ← hb]
  rw [e2, this]; grind
/-- a common multiple is a multiple of the least one -/
theorem lcm_dvd {d N N' p q n' w : Int} (hd : 0 < d) (hN : N = d * n') (hb : N * p + N' * q = d) (h1 : N ∣ w) (h2 : N' ∣ w) : n' * N' ∣ w := by
  obtain ⟨a, ha⟩ := h1
  obtain ⟨b, hb'⟩ := h2
  refine ⟨b * p + a * q, ?_⟩
  have e : d * w = d * (n' * N' * (b * p + a * q)) := by
    have e1 : d * w = w * (N * p) + w * (N' * q) := by rw [← hb]; grind
    have e2 : w * (N * p) = N' * b * (d * n' * p) := by rw [hb', hN]
    have e3 : w * (N' * q) = d * n' * a * (N' * q) := by
      have : w = d * n' * a := by rw [ha, hN]
      rw [this]
    rw [e1, e2, e3]; grind
  exact Int.eq_of_mul_eq_mul_left (by omega) e
structure ComOk (A B A' B' W S H : Int) : Prop where
  w0 : 0 < W
  s0 : 0 ≤ S
  s1 : S < W
  h0 : 0 < H
  row1 : bel A B W 0
  row2 : bel A' B' W 0
  least : ∀ w, 0 < w → bel A B w 0 → bel A' B' w 0 → W ≤ w
  in1 : bel A B S H
  in2 : bel A' B' S H
  high : ∀ s h, 0 < h → h < H → bel A B s h → bel A' B' s h → False
  first : ∀ s, 0 ≤ s → s < S → bel A B s H → bel A' B' s H → False
theorem dvd_emod (a : Int) {n : Int} : n ∣ a - a % n := by
  have := Int.mul_ediv_add_emod a n
  exact ⟨a / n, by omega⟩
section
variable {A B N S G A' B' N' S' G' : Int} (f : FormOk A B N S G) (f' : FormOk A' B' N' S' G')
  {d p q g u v e r t n1 n2 γ γ' m m2 x y z x2 y2 k : Int}
  (d0 : 0 < d) (hd : N * p + N' * q = d) (hn1 : N = d * n1) (hn2 : N' = d * n2)
  (g0 : 0 < g) (hg : G * u + G' * v = g) (hG : G = g * γ) (hG' : G' = g * γ')
  (hx : N ∣ x - γ' * S) (hy : N' ∣ y - γ * S') (hz : d ∣ z - (x - y))
  (e0 : 0 < e) (he : d * r + z * t = e) (hm : d = e * m) (hez : z = e * m2)
  (hx2 : N ∣ x2 - x * m) (hy2 : N' ∣ y2 - y * m)
  (hk : n2 ∣ k - (y2 - x2) / d * p)
include f f' d0 hd hn1 hn2 g0 hg hG hG' hx hy hz e0 he hm hez hx2 hy2 hk
theorem com_ok : ComOk A B A' B' (n1 * N') ((x2 + N * k) % (n1 * N')) (γ * G' * m) := by
  have N0 := f.n0
  have N0' := f'.n0
  have G0 := f.g0
  have G0' := f'.g0
  have pos : ∀ {a b c : Int}, a = b * c → 0 < a → 0 < b → 0 < c := fun {a b c} h ha hb => by
    rcases Int.lt_or_le 0 c with hc | hc
    · exact hc
    · have : b * c ≤ b * 0 := Int.mul_le_mul_of_nonneg_left hc (by omega)
      omega
  have n10 : 0 < n1 := pos hn1 N0 d0
  have n20 : 0 < n2 := pos hn2 N0' d0
  have m0 : 0 < m := pos hm d0 e0
  have γ0 : 0 < γ := pos hG G0 g0
  have W0 : 0 < n1 * N' := Int.mul_pos n10 N0'
  have hW1 : N ∣ n1 * N' := ⟨n2, by rw [hn1, hn2]; grind⟩
  have hW2 : N' ∣ n1 * N' := Int.dvd_mul_left _ _
  have hH1 : γ * G' * m = (γ' * m) * G := by rw [hG, hG']; grind
  have hH2 : γ * G' * m = (γ * m) * G' := by grind
  have hdN : d ∣ N := ⟨n1, hn1⟩
  have hdN' : d ∣ N' := ⟨n2, hn2⟩
  -- the difference is a multiple of d
  have hdz : d ∣ (x - y) * m := by
    have h1 : d ∣ z * m := ⟨m2, by rw [hez, hm]; grind⟩
    have h2 : d ∣ (z - (x - y)) * m := Int.dvd_trans hz (Int.dvd_mul_right _ _)
    have := Int.dvd_sub h1 h2
    have e1 : z * m - (z - (x - y)) * m = (x - y) * m := by grind
    rw [e1] at this; exact this
  have hd2 : d ∣ y2 - x2 := by
    have h1 := Int.dvd_sub (Int.dvd_trans hdN' hy2) (Int.dvd_trans hdN hx2)
    have h2 := Int.dvd_sub h1 hdz
    have e1 : y2 - y * m - (x2 - x * m) - (x - y) * m = y2 - x2 := by grind
    rw [e1] at h2; exact h2
  obtain ⟨c, hc⟩ := hd2
  have hcd : (y2 - x2) / d = c := by rw [hc]; exact Int.mul_ediv_cancel_left _ (by omega)
  rw [hcd] at hk
  have hS : n1 * N' ∣ (x2 + N * k) - (x2 + N * k) % (n1 * N') := dvd_emod _
  generalize hs : (x2 + N * k) % (n1 * N') = s at *
  have in1 : bel A B s (γ * G' * m) := by
    rw [hH1, bel_row f]
    have a1 : N ∣ N * k := Int.dvd_mul_right _ _
    have a2 := Int.dvd_trans hW1 hS
    have a3 : N ∣ (x - γ' * S) * m := Int.dvd_trans hx (Int.dvd_mul_right _ _)
    have := Int.dvd_sub (Int.dvd_add (Int.dvd_add hx2 a1) a3) a2
    have e1 : x2 - x * m + N * k + (x - γ' * S) * m - (x2 + N * k - s) = s - γ' * m * S := by grind
    rw [e1] at this; exact this
  have in2 : bel A' B' s (γ * G' * m) := by
    rw [hH2, bel_row f']
    have b1 : N' ∣ N * (k - c * p) := by
      obtain ⟨w, hw⟩ := hk
      refine ⟨n1 * w, ?_⟩
      rw [hw, hn1, hn2]; grind
    have b2 : N' ∣ N * (c * p) - (y2 - x2) := by
      refine ⟨-(q * c), ?_⟩
      have : y2 - x2 = (N * p + N' * q) * c := by rw [hd]; exact hc
      rw [this]; grind
    have a2 := Int.dvd_trans hW2 hS
    have a3 : N' ∣ (y - γ * S') * m := Int.dvd_trans hy (Int.dvd_mul_right _ _)
    have := Int.dvd_sub (Int.dvd_add (Int.dvd_add (Int.dvd_add b1 b2) hy2) a3) a2
    have e1 : N * (k - c * p) + (N * (c * p) - (y2 - x2)) + (y2 - y * m) + (y - γ * S') * m - (x2 + N * k - s) = s - γ * m * S' := by grind
    rw [e1] at this; exact this
  have row : ∀ w : Int, bel A B w 0 ↔ N ∣ w := fun w => by
    have := bel_row f w 0
    rw [Int.zero_mul, Int.zero_mul, Int.sub_zero] at this; exact this
  have row' : ∀ w : Int, bel A' B' w 0 ↔ N' ∣ w := fun w => by
    have := bel_row f' w 0
    rw [Int.zero_mul, Int.zero_mul, Int.sub_zero] at this; exact this
  have small : ∀ w : Int, 0 < w → N ∣ w → N' ∣ w → n1 * N' ≤ w := fun w w0 h1 h2 => by
    obtain ⟨a, ha⟩ := lcm_dvd d0 hn1 hd h1 h2
    have a0 : 0 < a := pos ha w0 W0
    have : n1 * N' * 1 ≤ n1 * N' * a := Int.mul_le_mul_of_nonneg_left (by omega) (by omega)
    omega
  refine ⟨W0, ?_, ?_, Int.mul_pos (Int.mul_pos γ0 G0') m0, (row _).2 hW1, (row' _).2 hW2, fun w w0 h1 h2 => small w w0 ((row w).1 h1) ((row' w).1 h2), in1, in2, fun s' h h0 h1 k1 k2 => ?_, fun s' s0 s1 k1 k2 => ?_⟩
  · rw [← hs]; exact Int.emod_nonneg _ (by omega)
  · rw [← hs]; exact Int.emod_lt_of_pos _ W0
  · -- no lower row
    have g1 := bel_high f k1
    have g2 := bel_high f' k2
    obtain ⟨m', hm'⟩ := lcm_dvd g0 hG hg g1 g2
    have m'0 : 0 < m' := pos hm' h0 (Int.mul_pos γ0 G0')
    have hm1 : m' < m := by
      rcases Int.lt_or_le m' m with h' | h'
      · exact h'
      · have : γ * G' * m ≤ γ * G' * m' := Int.mul_le_mul_of_nonneg_left h' (by have := Int.mul_pos γ0 G0'; omega)
        omega
    rw [hm', show γ * G' * m' = (γ' * m') * G by rw [hG, hG']; grind, bel_row f] at k1
    rw [hm', show γ * G' * m' = (γ * m') * G' by grind, bel_row f'] at k2
    have c1 : d ∣ (x - γ' * S) * m' := Int.dvd_trans (Int.dvd_trans hdN hx) (Int.dvd_mul_right _ _)
    have c2 : d ∣ (y - γ * S') * m' := Int.dvd_trans (Int.dvd_trans hdN' hy) (Int.dvd_mul_right _ _)
    have c3 := Int.dvd_sub (Int.dvd_trans hdN' k2) (Int.dvd_trans hdN k1)
    have c4 : d ∣ (z - (x - y)) * m' := Int.dvd_trans hz (Int.dvd_mul_right _ _)
    have c5 : d ∣ z * m' := by
      have := Int.dvd_add (Int.dvd_add c4 (Int.dvd_sub c1 c2)) c3
      have e1 : (z - (x - y)) * m' + ((x - γ' * S) * m' - (y - γ * S') * m') + (s' - γ * m' * S' - (s' - γ' * m' * S)) = z * m' := by grind
      rw [e1] at this; exact this
    have c6 : d ∣ e * m' := by
      obtain ⟨w, hw⟩ := c5
      refine ⟨r * m' + w * t, ?_⟩
      rw [← he]
      have : z * t * m' = z * m' * t := by grind
      have e2 : (d * r + z * t) * m' = d * r * m' + z * m' * t := by grind
      rw [e2, hw]; grind
    obtain ⟨w, hw⟩ := c6
    have hw2 : m' = m * w := by
      have : e * m' = e * (m * w) := by rw [hw, hm]; grind
      exact Int.eq_of_mul_eq_mul_left (by omega) this
    have w0 : 0 < w := pos hw2 m'0 m0
    have : m * 1 ≤ m * w := Int.mul_le_mul_of_nonneg_left (by omega) (by omega)
    omega
  · -- no earlier place in the row
    have h1 := bel_sub in1 k1
    have h2 := bel_sub in2 k2
    rw [Int.sub_self] at h1 h2
    have h3 := small (s - s') (by omega) ((row _).1 h1) ((row' _).1 h2)
    have h4 : s < n1 * N' := by rw [← hs]; exact Int.emod_lt_of_pos _ W0
    omega
end
end Sc
end Go.Proofs.Ytelpkjellakigaa
/- Residual programs of functions (printed by a program out of the code), checked by the kernel, and the contracts that follow. -/
namespace Go.Proofs.Ytelpkjellakigaa
open Go Go.RowKit
set_option linter.unusedVariables false
def R_Common_j5 (fu : Nat) (v3 : (Int × Int × Int) × Int × Int × Int) (j3 : ((Int × Int × Int) × Int × Int × Int) → Option ((Int × Int × Int) × Unit)) (v4 : Bool) : Option ((Int × Int × Int) × Unit) :=
  bif v4 then
    some ((v3.1, ()))
  else
  j3 (((v3.1.1, ((IntKind.i64.wrap (v3.1.2.1 + (1 : Int))), v3.1.2.2)), v3.2))
def R_Common_l4 (fu : Nat) (a : (Int × Int × Int) × (Int × Int × Int) × Unit) (j2 : ((Int × Int × Int) × Int × Int × Int) → Option ((Int × Int × Int) × Unit)) (j3 : ((Int × Int × Int) × Int × Int × Int) → Option ((Int × Int × Int) × Unit)) (v3 : (Int × Int × Int) × Int × Int × Int) : Option ((Int × Int × Int) × Unit) :=
  bif (decide (v3.1.2.1 < v3.1.1)) then
    joinF (R_Common_j5 fu v3 j3) fun j4 =>
    bindO (R_Belongs_r fu ((a.1, (v3.1.2.1, (v3.1.2.2, ()))))) fun v5 =>
    bif v5.1 then
      bindO (R_Belongs_r fu ((a.2.1, (v3.1.2.1, (v3.1.2.2, ()))))) fun v6 =>
      j4 (v6.1)
    else
    j4 (false)
  else
  j2 (((v3.1.1, (v3.1.2.1, (IntKind.i64.wrap (v3.1.2.2 + (1 : Int))))), v3.2))
def R_Common_l3 (fu : Nat) (a : (Int × Int × Int) × (Int × Int × Int) × Unit) (j2 : ((Int × Int × Int) × Int × Int × Int) → Option ((Int × Int × Int) × Unit)) (v2 : (Int × Int × Int) × Int × Int × Int) : Option ((Int × Int × Int) × Unit) :=
  loopF (R_Common_l4 fu a j2) fu (((v2.1.1, ((0 : Int), v2.1.2.2)), v2.2))
def R_Common_j2 (fu : Nat) (a : (Int × Int × Int) × (Int × Int × Int) × Unit) (v0 : Int × Int × Int) (j0 : (Int × Int × Int) → Option ((Int × Int × Int) × Unit)) (v1 : Bool) : Option ((Int × Int × Int) × Unit) :=
  bif v1 then
    j0 (((IntKind.i64.wrap (v0.1 + (1 : Int))), v0.2))
  else
  loopF (R_Common_l3 fu a) fu (((v0.1, (v0.2.1, (1 : Int))), ((0 : Int), ((0 : Int), (0 : Int)))))
def R_Common_l1 (fu : Nat) (a : (Int × Int × Int) × (Int × Int × Int) × Unit) (j0 : (Int × Int × Int) → Option ((Int × Int × Int) × Unit)) (v0 : Int × Int × Int) : Option ((Int × Int × Int) × Unit) :=
  joinF (R_Common_j2 fu a v0 j0) fun j1 =>
  bindO (R_Belongs_r fu ((a.1, (v0.1, ((0 : Int), ()))))) fun v2 =>
  bif (!v2.1) then
    j1 (true)
  else
  bindO (R_Belongs_r fu ((a.2.1, (v0.1, ((0 : Int), ()))))) fun v3 =>
  j1 ((!v3.1))
def R_Common_r (fu : Nat) (a : (Int × Int × Int) × (Int × Int × Int) × Unit) : Option ((Int × Int × Int) × Unit) :=
  loopF (R_Common_l1 fu a) fu (((1 : Int), ((0 : Int), (0 : Int))))
def R_Common_an : An := (.n none .z (.n none .z (.n none (.n none .z (.n none (.n (some ⟨[5, 2, 3, 4], [0, 1, 2], [], [.box 3 [(.int .i64), (.int .i64), (.int .i64)] 39], 0, []⟩) (.n none (.n (some ⟨[], [3], [], [.reg 18 .bool], 0, []⟩) .z .z) (.n none .z .z)) .z) .z)) (.n none .z (.n none (.n (some ⟨[4, 3, 2, 5], [1, 0], [], [.box 3 [(.int .i64), (.int .i64), (.int .i64)] 39, .box 2 [(.int .i64), (.int .i64), (.int .i64)] 39], 0, []⟩) (.n none (.n none (.n none .z (.n none (.n (some ⟨[], [], [], [.box 3 [(.int .i64), (.int .i64), (.int .i64)] 39, .box 2 [(.int .i64), (.int .i64), (.int .i64)] 39], 0, []⟩) (.n none (.n none .z .z) (.n none (.n none (.n (some ⟨[], [2, 3], [], [.reg 51 .bool], 0, []⟩) .z (.n none (.n none .z .z) .z)) .z) .z)) .z) .z)) .z) .z) .z) .z)))))
noncomputable def R_Common_dc : List (Nat × Ctr) := [(78, R_Belongs_ctr)]
def R_Common_ctr : Ctr := ⟨(.pair (.agg (.pair (.int .i64) (.pair (.int .i64) (.int .i64)))) (.pair (.agg (.pair (.int .i64) (.pair (.int .i64) (.int .i64)))) .unit)), (.pair (.agg (.pair (.int .i64) (.pair (.int .i64) (.int .i64)))) .unit), R_Common_r, 25⟩
theorem R_Common_ok : CtrOk Try.prog 25 R_Common_ctr := ctr_ok (l := R_Common_dc) (f := 12) (an := R_Common_an) ⟨R_Belongs_ok, trivial⟩ fun fu x => by kernel_rfl
def screen_Moire_j2 (fu : Nat) (v8 : Int × Int × Int × Int) (j8 : (Int × Int × Int × Int) → Option (Int × Int × Int × Unit)) (v11 : Int × Int × Int) : Option (Int × Int × Int × Unit) :=
  let v12 : Int := (IntKind.i64.wrap (-v11.1))
  let v13 : Int := v11.2.1
  j8 ((v11.2.2, (v13, (v12, (IntKind.i64.wrap (v8.2.2.2 + (1 : Int)))))))
def screen_Moire_j3 (fu : Nat) (v8 : Int × Int × Int × Int) (v12 : Int) (j11 : (Int × Int × Int) → Option (Int × Int × Int × Unit)) (v13 : Bool × Int) : Option (Int × Int × Int × Unit) :=
  bif v13.1 then
    j11 ((v8.2.1, (v8.2.2.1, v12)))
  else
  j11 ((v8.2.1, (v8.2.2.1, v13.2)))
def screen_Moire_l1 (fu : Nat) (a : (Int × Int × Int) × (Int × Int × Int) × Unit) (v4 : Int) (v5 : Int) (j8 : (Int × Int × Int × Int) → Option (Int × Int × Int × Unit)) (v8 : Int × Int × Int × Int) : Option (Int × Int × Int × Unit) :=
  bif (decide (v8.2.2.2 < (4 : Int))) then
    let v9 : Int := (IntKind.i64.wrap ((IntKind.i64.wrap (a.1.1 * v5)) - (IntKind.i64.wrap (v8.2.2.1 * v4))))
    let v10 : Int := (IntKind.i64.wrap ((IntKind.i64.wrap (a.1.2.1 * v5)) - (IntKind.i64.wrap (v8.2.1 * v4))))
    joinF (screen_Moire_j2 fu v8 j8) fun j11 =>
    let v12 : Int := (IntKind.i64.wrap ((IntKind.i64.wrap (v9 * v9)) + (IntKind.i64.wrap (v10 * v10))))
    joinF (screen_Moire_j3 fu v8 v12 j11) fun j13 =>
    bif (decide (v8.1 < (0 : Int))) then
      j13 ((true, v8.1))
    else
    j13 (((decide (v12 < v8.1)), v8.1))
  else
  bindO (screen_bezout_r fu (((IntKind.i64.wrap ((IntKind.i64.wrap ((IntKind.i64.wrap (v4 * v5)) * v4)) * v5)), (v8.1, ())))) fun v9 =>
  let v10 : Int := v9.1
  let v11 : Int := v9.2.1
  let v12 : Int := v9.2.2.1
  bif (decide (v10 ≠ (0 : Int))) then
  bif (decide (v10 ≠ (0 : Int))) then
  let v13 : Int := (IntKind.i64.wrap (Int.tdiv v8.1 v10))
  let v14 : Int := (IntKind.i64.wrap (Int.tdiv (IntKind.i64.wrap ((IntKind.i64.wrap ((IntKind.i64.wrap (v4 * v5)) * v4)) * v5)) v10))
  some ((v13, (v14, ((0 : Int), ()))))
  else none
  else none
def screen_Moire_r (fu : Nat) (a : (Int × Int × Int) × (Int × Int × Int) × Unit) : Option (Int × Int × Int × Unit) :=
  bindO (screen_Check_r fu ((a.1, ()))) fun v0 =>
  let v1 : Int := v0.1
  bif (decide (v1 ≠ (0 : Int))) then
    some (((0 : Int), ((0 : Int), (v1, ()))))
  else
  bindO (screen_Check_r fu ((a.2.1, ()))) fun v2 =>
  let v3 : Int := v2.1
  bif (decide (v3 ≠ (0 : Int))) then
    some (((0 : Int), ((0 : Int), (v3, ()))))
  else
  let v4 : Int := (IntKind.i64.wrap ((IntKind.i64.wrap (a.1.1 * a.1.1)) + (IntKind.i64.wrap (a.1.2.1 * a.1.2.1))))
  let v5 : Int := (IntKind.i64.wrap ((IntKind.i64.wrap (a.2.1.1 * a.2.1.1)) + (IntKind.i64.wrap (a.2.1.2.1 * a.2.1.2.1))))
  let v6 : Int := a.2.1.1
  let v7 : Int := a.2.1.2.1
  loopF (screen_Moire_l1 fu a v4 v5) fu (((-1 : Int), (v7, (v6, (0 : Int)))))
def screen_Moire_an : An := (.n none .z (.n none (.n none .z (.n none .z (.n none (.n none .z .z) .z))) (.n none (.n none .z (.n none .z (.n none (.n none .z .z) .z))) (.n none (.dr [] []) (.n none .z (.n none (.dr [] []) (.n none (.n none .z (.n none (.n (some ⟨[10, 9, 2, 4, 5, 6], [0, 1], [], [.reg 11 (.int .i64), .reg 13 (.int .i64), .reg 12 (.int .i64), .reg 56 (.int .i64)], 0, []⟩) (.n none .z (.n none .z (.n none (.n none (.n none (.dr [] []) (.n (some ⟨[56], [], [], [.reg 13 (.int .i64), .reg 12 (.int .i64), .reg 11 (.int .i64)], 0, []⟩) (.n none .z (.n (some ⟨[16, 13, 12], [], [], [.reg 87 .bool, .reg 11 (.int .i64)], 0, []⟩) .z (.n none .z .z))) .z)) .z) .z))) .z) .z)) (.n none .z (.n none (.dr [] []) .z)))))))))
noncomputable def screen_Moire_dc : List (Nat × Ctr) := [(29, screen_Check_ctr), (76, screen_bezout_ctr)]
def screen_Moire_ctr : Ctr := ⟨(.pair (.agg (.pair (.int .i64) (.pair (.int .i64) (.int .i64)))) (.pair (.agg (.pair (.int .i64) (.pair (.int .i64) (.int .i64)))) .unit)), (.pair (.int .i64) (.pair (.int .i64) (.pair (.int .i64) .unit))), screen_Moire_r, 24⟩
theorem screen_Moire_ok : CtrOk Try.prog 24 screen_Moire_ctr := ctr_ok (l := screen_Moire_dc) (f := 12) (an := screen_Moire_an) ⟨screen_Check_ok, ⟨screen_bezout_ok, trivial⟩⟩ fun fu x => by kernel_rfl
def screen_Common_r (fu : Nat) (a : (Int × Int × Int) × (Int × Int × Int) × Unit) : Option ((Int × Int × Int) × Int × Unit) :=
  bindO (screen_Check_r fu ((a.1, ()))) fun v0 =>
  let v1 : Int := v0.1
  bif (decide (v1 ≠ (0 : Int))) then
    some ((((0 : Int), ((0 : Int), (0 : Int))), (v1, ())))
  else
  bindO (screen_Check_r fu ((a.2.1, ()))) fun v2 =>
  let v3 : Int := v2.1
  bif (decide (v3 ≠ (0 : Int))) then
    some ((((0 : Int), ((0 : Int), (0 : Int))), (v3, ())))
  else
  bindO (screen_Of_r fu ((a.1, ()))) fun v4 =>
  bindO (screen_Of_r fu ((a.2.1, ()))) fun v5 =>
  bindO (screen_bezout_r fu ((v4.1.1, (v5.1.1, ())))) fun v6 =>
  let v7 : Int := v6.1
  let v8 : Int := v6.2.1
  let v9 : Int := v6.2.2.1
  bindO (screen_bezout_r fu ((v4.1.2.2, (v5.1.2.2, ())))) fun v10 =>
  let v11 : Int := v10.1
  let v12 : Int := v10.2.1
  let v13 : Int := v10.2.2.1
  bif (decide (v11 ≠ (0 : Int))) then
  let v14 : Int := (IntKind.i64.wrap ((IntKind.i64.wrap (Int.tdiv v4.1.2.2 v11)) * v5.1.2.2))
  bif (decide (v4.1.2.2 ≠ (0 : Int))) then
  bindO (screen_mod_r fu (((IntKind.i64.wrap ((IntKind.i64.wrap (Int.tdiv v14 v4.1.2.2)) * v4.1.2.1)), (v4.1.1, ())))) fun v15 =>
  bif (decide (v5.1.2.2 ≠ (0 : Int))) then
  bindO (screen_mod_r fu (((IntKind.i64.wrap ((IntKind.i64.wrap (Int.tdiv v14 v5.1.2.2)) * v5.1.2.1)), (v5.1.1, ())))) fun v16 =>
  let v17 : Int := v15.1
  let v18 : Int := v16.1
  bindO (screen_mod_r fu (((IntKind.i64.wrap (v17 - v18)), (v7, ())))) fun v19 =>
  bindO (screen_bezout_r fu ((v7, (v19.1, ())))) fun v20 =>
  let v21 : Int := v20.1
  let v22 : Int := v20.2.1
  let v23 : Int := v20.2.2.1
  bif (decide (v21 ≠ (0 : Int))) then
  let v24 : Int := (IntKind.i64.wrap (Int.tdiv v7 v21))
  bif (decide (v7 ≠ (0 : Int))) then
  let v25 : Int := (IntKind.i64.wrap ((IntKind.i64.wrap (Int.tdiv v4.1.1 v7)) * v5.1.1))
  bindO (screen_mod_r fu (((IntKind.i64.wrap (v17 * v24)), (v4.1.1, ())))) fun v26 =>
  bindO (screen_mod_r fu (((IntKind.i64.wrap (v18 * v24)), (v5.1.1, ())))) fun v27 =>
  let v28 : Int := v26.1
  let v29 : Int := v27.1
  bif (decide (v7 ≠ (0 : Int))) then
  bif (decide (v7 ≠ (0 : Int))) then
  bindO (screen_mod_r fu (((IntKind.i64.wrap ((IntKind.i64.wrap (Int.tdiv (IntKind.i64.wrap (v29 - v28)) v7)) * v8)), ((IntKind.i64.wrap (Int.tdiv v5.1.1 v7)), ())))) fun v30 =>
  let v31 : Int := v30.1
  bindO (screen_mod_r fu (((IntKind.i64.wrap (v28 + (IntKind.i64.wrap (v4.1.1 * v31)))), (v25, ())))) fun v32 =>
  some (((v25, (v32.1, (IntKind.i64.wrap (v14 * v24)))), ((0 : Int), ())))
  else none
  else none
  else none
  else none
  else none
  else none
  else none
def screen_Common_an : An := (.n none .z (.n none (.n none .z (.n none .z (.n none (.n none .z .z) .z))) (.n none (.n none .z (.n none .z (.n none (.n none .z .z) .z))) (.n none (.dr [] []) (.n none .z (.n none .z (.n none (.dr [] []) (.n none (.dr [] []) (.n none .z (.n none .z (.n none (.dr [] []) (.n none (.dr [] []) (.n none (.dr [] []) (.n none .z .z))))))))))))))
noncomputable def screen_Common_dc : List (Nat × Ctr) := [(29, screen_Check_ctr), (75, screen_Of_ctr), (76, screen_bezout_ctr), (77, screen_mod_ctr)]
def screen_Common_ctr : Ctr := ⟨(.pair (.agg (.pair (.int .i64) (.pair (.int .i64) (.int .i64)))) (.pair (.agg (.pair (.int .i64) (.pair (.int .i64) (.int .i64)))) .unit)), (.pair (.agg (.pair (.int .i64) (.pair (.int .i64) (.int .i64)))) (.pair (.int .i64) .unit)), screen_Common_r, 23⟩
theorem screen_Common_ok : CtrOk Try.prog 23 screen_Common_ctr := ctr_ok (l := screen_Common_dc) (f := 12) (an := screen_Common_an) ⟨screen_Check_ok, ⟨screen_Of_ok, ⟨screen_bezout_ok, ⟨screen_mod_ok, trivial⟩⟩⟩⟩ fun fu x => by kernel_rfl
def law_ScreenLattices_j4 (fu : Nat) (j13 : (Int × Int) → Option (Bool × Unit)) (v14 : Int × Int) : Option (Bool × Unit) :=
  j13 ((v14.2, (IntKind.i64.wrap (v14.1 + (1 : Int)))))
def law_ScreenLattices_j5 (fu : Nat) (v13 : Int × Int) (v17 : Int) (j14 : (Int × Int) → Option (Bool × Unit)) (v18 : Bool × Int) : Option (Bool × Unit) :=
  bif v18.1 then
    j14 ((v13.2, v17))
  else
  j14 ((v13.2, v18.2))
def law_ScreenLattices_l6 (fu : Nat) (v4 : Int) (v5 : Int) (v13 : Int × Int) (v14 : Int) (j16 : (Int × Int) → Option (Bool × Unit)) (v16 : Int × Int) : Option (Bool × Unit) :=
  bif (decide ((0 : Int) < v16.2)) then
    bif (decide (v16.2 ≠ (0 : Int))) then
    let v17 : Int := v16.2
    let v18 : Int := (Int.tmod v16.1 v16.2)
    j16 ((v17, v18))
    else none
  else
  bif (decide (v16.1 ≠ (0 : Int))) then
  bif (decide (v4 = (IntKind.i64.wrap (Int.tdiv v13.1 v16.1)))) then
    bif (decide (v16.1 ≠ (0 : Int))) then
    let v17 : Bool := (decide (v5 = (IntKind.i64.wrap (Int.tdiv v14 v16.1))))
    some ((v17, ()))
    else none
  else
  some ((false, ()))
  else none
def law_ScreenLattices_l3 (fu : Nat) (a : (Int × Int × Int) × (Int × Int × Int) × Unit) (v4 : Int) (v5 : Int) (v10 : Int) (v11 : Int) (j13 : (Int × Int) → Option (Bool × Unit)) (v13 : Int × Int) : Option (Bool × Unit) :=
  bif (decide (v13.2 < (4 : Int))) then
    joinF (law_ScreenLattices_j4 fu j13) fun j14 =>
    bif ((decide ((0 : Int) ≤ v13.2)) && (decide (v13.2 < (4 : Int)))) then
    bif (decide ((0 : Int) < (List.length ([(List.getD ([a.2.1.1, (IntKind.i64.wrap (-a.2.1.2.1)), (IntKind.i64.wrap (-a.2.1.1)), a.2.1.2.1] : List Int) (Int.toNat v13.2) 0), (List.getD ([a.2.1.2.1, a.2.1.1, (IntKind.i64.wrap (-a.2.1.2.1)), (IntKind.i64.wrap (-a.2.1.1))] : List Int) (Int.toNat v13.2) 0)] : List Int) : Int))) then
    bif (decide ((1 : Int) < (List.length ([(List.getD ([a.2.1.1, (IntKind.i64.wrap (-a.2.1.2.1)), (IntKind.i64.wrap (-a.2.1.1)), a.2.1.2.1] : List Int) (Int.toNat v13.2) 0), (List.getD ([a.2.1.2.1, a.2.1.1, (IntKind.i64.wrap (-a.2.1.2.1)), (IntKind.i64.wrap (-a.2.1.1))] : List Int) (Int.toNat v13.2) 0)] : List Int) : Int))) then
    let v15 : Int := (IntKind.i64.wrap ((IntKind.i64.wrap (a.1.1 * v11)) - (IntKind.i64.wrap ((List.getD ([a.2.1.1, (IntKind.i64.wrap (-a.2.1.2.1)), (IntKind.i64.wrap (-a.2.1.1)), a.2.1.2.1] : List Int) (Int.toNat v13.2) 0) * v10))))
    let v16 : Int := (IntKind.i64.wrap ((IntKind.i64.wrap (a.1.2.1 * v11)) - (IntKind.i64.wrap ((List.getD ([a.2.1.2.1, a.2.1.1, (IntKind.i64.wrap (-a.2.1.2.1)), (IntKind.i64.wrap (-a.2.1.1))] : List Int) (Int.toNat v13.2) 0) * v10))))
    let v17 : Int := (IntKind.i64.wrap ((IntKind.i64.wrap (v15 * v15)) + (IntKind.i64.wrap (v16 * v16))))
    joinF (law_ScreenLattices_j5 fu v13 v17 j14) fun j18 =>
    bif (decide (v13.1 < (0 : Int))) then
      j18 ((true, v13.1))
    else
    j18 (((decide (v17 < v13.1)), v13.1))
    else none
    else none
    else none
  else
  let v14 : Int := (IntKind.i64.wrap ((IntKind.i64.wrap ((IntKind.i64.wrap (v10 * v11)) * v10)) * v11))
  let v15 : Int := v13.1
  loopF (law_ScreenLattices_l6 fu v4 v5 v13 v14) fu ((v14, v15))
def law_ScreenLattices_j2 (fu : Nat) (a : (Int × Int × Int) × (Int × Int × Int) × Unit) (v4 : Int) (v5 : Int) (v10 : Int) (v11 : Int) (v12 : Bool) : Option (Bool × Unit) :=
  bif v12 then
    some ((false, ()))
  else
  loopF (law_ScreenLattices_l3 fu a v4 v5 v10 v11) fu (((-1 : Int), (0 : Int)))
def law_ScreenLattices_j1 (fu : Nat) (a : (Int × Int × Int) × (Int × Int × Int) × Unit) (v1 : (Int × Int × Int) × Int × Unit) (v2 : Int) (v4 : Int) (v5 : Int) (v6 : Int) (v9 : Int) : Option (Bool × Unit) :=
  bif (decide (v9 ≠ (0 : Int))) then
    bindO (law_none_r fu ((((decide (v1.1.1 = (0 : Int))) && ((decide (v1.1.2.1 = (0 : Int))) && (decide (v1.1.2.2 = (0 : Int))))), (v2, (v9, ()))))) fun v10 =>
    bif v10.1 then
      bif (decide (v4 = (0 : Int))) then
        bindO (law_none_r fu (((decide (v5 = (0 : Int))), (v6, (v9, ()))))) fun v11 =>
        let v12 : Bool := v11.1
        some ((v12, ()))
      else
      bindO (law_none_r fu ((false, (v6, (v9, ()))))) fun v11 =>
      let v12 : Bool := v11.1
      some ((v12, ()))
    else
    some ((false, ()))
  else
  let v10 : Int := (IntKind.i64.wrap ((IntKind.i64.wrap (a.1.1 * a.1.1)) + (IntKind.i64.wrap (a.1.2.1 * a.1.2.1))))
  let v11 : Int := (IntKind.i64.wrap ((IntKind.i64.wrap (a.2.1.1 * a.2.1.1)) + (IntKind.i64.wrap (a.2.1.2.1 * a.2.1.2.1))))
  joinF (law_ScreenLattices_j2 fu a v4 v5 v10 v11) fun j12 =>
  bif (decide (v2 ≠ (0 : Int))) then
    j12 (true)
  else
  bif (decide (v6 ≠ (0 : Int))) then
    j12 (true)
  else
  bif (decide ((IntKind.i64.wrap (v10 * v11)) ≤ (600 : Int))) then
    bindO (R_Common_r fu ((a.1, (a.2.1, ())))) fun v13 =>
    j12 ((!((decide (v1.1.1 = v13.1.1)) && ((decide (v1.1.2.1 = v13.1.2.1)) && (decide (v1.1.2.2 = v13.1.2.2))))))
  else
  j12 (false)
def law_ScreenLattices_r (fu : Nat) (a : (Int × Int × Int) × (Int × Int × Int) × Unit) : Option (Bool × Unit) :=
  bindO (law_screenWorks_r fu (())) fun v0 =>
  bif (!v0.1) then
    some ((false, ()))
  else
  bindO (screen_Common_r fu ((a.1, (a.2.1, ())))) fun v1 =>
  let v2 : Int := v1.2.1
  bindO (screen_Moire_r fu ((a.1, (a.2.1, ())))) fun v3 =>
  let v4 : Int := v3.1
  let v5 : Int := v3.2.1
  let v6 : Int := v3.2.2.1
  bindO (R_ScreenErr_r fu ((a.1, ()))) fun v7 =>
  let v8 : Int := v7.1
  joinF (law_ScreenLattices_j1 fu a v1 v2 v4 v5 v6) fun j9 =>
  bif (decide (v8 = (0 : Int))) then
    bindO (R_ScreenErr_r fu ((a.2.1, ()))) fun v10 =>
    let v11 : Int := v10.1
    j9 (v11)
  else
  j9 (v8)
def law_ScreenLattices_an : An := (.n none .z (.n none (.n none .z (.n none (.n none .z .z) .z)) (.n none .z (.n none .z (.n none .z (.n (some ⟨[6, 9, 5, 3, 7, 8, 2], [0, 1, 2], [], [.reg 10 (.int .i64)], 0, []⟩) (.n none .z (.n none .z .z)) (.n none (.n none .z (.n none (.n none .z .z) .z)) (.n none (.dr [] []) (.n none (.n (some ⟨[12, 11], [], [], [.reg 102 .bool], 0, []⟩) (.dr [] []) (.n none (.n none .z .z) .z)) (.n none .z (.n none (.n none .z (.n none (.n (some ⟨[12, 11, 127], [], [], [.reg 13 (.int .i64), .reg 128 (.int .i64)], 0, []⟩) (.n none .z (.n none .z (.n (some ⟨[], [], [], [.reg 128 (.int .i64), .reg 13 (.int .i64)], 0, []⟩) (.n none (.n none .z (.n none (.dr [] []) (.n none .z (.n (some ⟨[18, 128], [3], [], [.reg 162 .bool, .reg 13 (.int .i64)], 0, []⟩) .z (.n none .z .z))))) .z) .z))) .z) .z)) (.n none .z (.n none .z (.n none (.n none (.n (some ⟨[19, 13], [], [], [.reg 20 (.int .i64), .reg 21 (.int .i64)], 0, []⟩) (.n none (.n none .z .z) (.n none (.dr [] []) .z)) .z) .z) (.n none .z .z)))))))))))))))
noncomputable def law_ScreenLattices_dc : List (Nat × Ctr) := [(14, law_screenWorks_ctr), (17, R_ScreenErr_ctr), (18, law_none_ctr), (23, screen_Common_ctr), (24, screen_Moire_ctr), (25, R_Common_ctr)]
def law_ScreenLattices_ctr : Ctr := ⟨(.pair (.agg (.pair (.int .i64) (.pair (.int .i64) (.int .i64)))) (.pair (.agg (.pair (.int .i64) (.pair (.int .i64) (.int .i64)))) .unit)), (.pair .bool .unit), law_ScreenLattices_r, 4⟩
theorem law_ScreenLattices_ok : CtrOk Try.prog 4 law_ScreenLattices_ctr := ctr_ok (l := law_ScreenLattices_dc) (f := 12) (an := law_ScreenLattices_an) ⟨law_screenWorks_ok, ⟨R_ScreenErr_ok, ⟨law_none_ok, ⟨screen_Common_ok, ⟨screen_Moire_ok, ⟨R_Common_ok, trivial⟩⟩⟩⟩⟩⟩ fun fu x => by kernel_rfl
end Go.Proofs.Ytelpkjellakigaa
/- Screens: Common, as the program and the document compute it. -/
namespace Go.Proofs.Ytelpkjellakigaa
open Go Go.RowKit
set_option linter.unusedSimpArgs false
set_option linter.unusedSectionVars false
set_option linter.unusedVariables false
namespace Sc
theorem emod_dvd (a : Int) {n : Int} : n ∣ a % n - a := by
  have := Int.mul_ediv_add_emod a n
  exact ⟨-(a / n), by rw [Int.mul_neg]; omega⟩
theorem g_le {A B N S G : Int} (ok : ScrOk A B) (f : FormOk A B N S G) : G ≤ 20 := by
  obtain ⟨a0, a1, b0, b1, n0, n1⟩ := ok
  have hG := f.g0
  have key : ∀ z z' : Int, z = G * z' → 0 < z → G ≤ z := fun z z' e h => by
    have : 0 < z' := by
      rcases Int.lt_or_le 0 z' with h' | h'
      · exact h'
      · have : G * z' ≤ G * 0 := Int.mul_le_mul_of_nonneg_left h' (by omega)
        omega
    have : G * 1 ≤ G * z' := Int.mul_le_mul_of_nonneg_left (by omega) (by omega)
    omega
  obtain ⟨a', ha⟩ := f.ga
  obtain ⟨b', hb⟩ := f.gb
  rcases Int.lt_or_le 0 A with h | h
  · have := key A a' ha h; omega
  · rcases Int.lt_or_le 0 B with h' | h'
    · have := key B b' hb h'; omega
    · obtain rfl : A = 0 := by omega
      obtain rfl : B = 0 := by omega
      simp at n0
theorem quot {a b : Int} (hb : 0 < b) (ha : 0 < a) (h : b ∣ a) : ∃ c, a = b * c ∧ a.tdiv b = c ∧ 0 < c ∧ c ≤ a ∧ b ≤ a := by
  obtain ⟨c, hc⟩ := h
  have c0 : 0 < c := by
    rcases Int.lt_or_le 0 c with h' | h'
    · exact h'
    · have : b * c ≤ b * 0 := Int.mul_le_mul_of_nonneg_left h' (by omega)
      omega
  have q1 : 1 * c ≤ b * c := Int.mul_le_mul_of_nonneg_right (by omega) (by omega)
  have q2 : b * 1 ≤ b * c := Int.mul_le_mul_of_nonneg_left (by omega) (by omega)
  exact ⟨c, hc, by rw [hc]; exact Int.mul_tdiv_cancel_left _ (by omega), c0, by omega, by omega⟩
theorem mul_bd {a b M N : Int} (a0 : 0 ≤ a) (a1 : a ≤ M) (b0 : 0 ≤ b) (b1 : b ≤ N) : 0 ≤ a * b ∧ a * b ≤ M * N := by
  refine ⟨Int.mul_nonneg a0 b0, ?_⟩
  have q1 : a * b ≤ M * b := Int.mul_le_mul_of_nonneg_right a1 b0
  have q2 : M * b ≤ M * N := Int.mul_le_mul_of_nonneg_left b1 (by omega)
  omega
theorem mul_bd2 {a b M N : Int} (a0 : -M ≤ a) (a1 : a ≤ M) (b0 : -N ≤ b) (b1 : b ≤ N) (hM : 0 ≤ M) (hN : 0 ≤ N) : -(M * N) ≤ a * b ∧ a * b ≤ M * N := by
  rcases Int.le_total 0 b with h | h
  · have q1 : a * b ≤ M * b := Int.mul_le_mul_of_nonneg_right a1 h
    have q2 : M * b ≤ M * N := Int.mul_le_mul_of_nonneg_left b1 hM
    have q3 : -M * b ≤ a * b := Int.mul_le_mul_of_nonneg_right a0 h
    rw [Int.neg_mul] at q3
    omega
  · have q1 : a * -b ≤ M * -b := Int.mul_le_mul_of_nonneg_right a1 (by omega)
    have q2 : M * -b ≤ M * N := Int.mul_le_mul_of_nonneg_left (by omega) hM
    have q3 : -M * -b ≤ a * -b := Int.mul_le_mul_of_nonneg_right a0 (by omega)
    simp only [Int.neg_mul, Int.mul_neg] at q1 q2 q3
    omega
section
variable {fu : Nat} (hf : 18446744073709551616 ≤ fu) {A B A' B' : Int} (ok : ScrOk A B) (ok' : ScrOk A' B') (K K' : Int)
include hf ok ok'
theorem common_r (hc : scE A B K = 0) (hc' : scE A' B' K' = 0) : ∃ W S H, screen_Common_r fu ((A, (B, K)), ((A', (B', K')), ())) = some ((W, (S, H)), (0, ())) ∧ ComOk A B A' B' W S H ∧ W ≤ 160000 ∧ H ≤ 160000 := by
  obtain ⟨N, S, G, k1, f, hN, _⟩ := form_r hf ok K
  obtain ⟨N', S', G', k1', f', hN', _⟩ := form_r hf ok' K'
  have hG := g_le ok f
  have hG' := g_le ok' f'
  have N0 := f.n0
  have N0' := f'.n0
  have G0 := f.g0
  have G0' := f'.g0
  obtain ⟨d, p, q, b1, b2, b3, b4, b5, b6, b7⟩ := bez_r hf (a := N) (b := N') (by omega) (by omega) (by omega) (by omega) (.inl N0)
  obtain ⟨g, u, v, c1, c2, c3, c4, c5, _, _⟩ := bez_r hf (a := G) (b := G') (by omega) (by omega) (by omega) (by omega) (.inl G0)
  obtain ⟨n1, hn1, tn1, n10, n11, d11⟩ := quot b2 N0 b4
  obtain ⟨n2, hn2, tn2, n20, n21, d21⟩ := quot b2 N0' b5
  obtain ⟨γ, hγ, tγ, γ0, γ1, _⟩ := quot c2 G0 c4
  obtain ⟨γ', hγ', tγ', γ0', γ1', _⟩ := quot c2 G0' c5
  have hh : γ * G' = γ' * G := by rw [hγ, hγ']; grind
  have th1 : (γ * G').tdiv G = γ' := by rw [hh, Int.mul_comm]; exact Int.mul_tdiv_cancel_left _ (by omega)
  have th2 : (γ * G').tdiv G' = γ := by rw [Int.mul_comm]; exact Int.mul_tdiv_cancel_left _ (by omega)
  have m1 := mul_bd (a := γ) (b := G') (M := 20) (N := 20) (by omega) (by omega) (by omega) (by omega)
  have m2 := mul_bd (a := γ') (b := S) (M := 20) (N := 400) (by omega) (by omega) f.s0 (by have := f.s1; omega)
  have m3 := mul_bd (a := γ) (b := S') (M := 20) (N := 400) (by omega) (by omega) f'.s0 (by have := f'.s1; omega)
  have x0 := Int.emod_nonneg (γ' * S) (show N ≠ 0 by omega)
  have x1 := Int.emod_lt_of_pos (γ' * S) N0
  have hx : N ∣ (γ' * S) % N - γ' * S := emod_dvd _
  have y0 := Int.emod_nonneg (γ * S') (show N' ≠ 0 by omega)
  have y1 := Int.emod_lt_of_pos (γ * S') N0'
  have hy : N' ∣ (γ * S') % N' - γ * S' := emod_dvd _
  generalize hxx : (γ' * S) % N = x at *
  generalize hyy : (γ * S') % N' = y at *
  have z0 := Int.emod_nonneg (x - y) (show d ≠ 0 by omega)
  have z1 := Int.emod_lt_of_pos (x - y) b2
  have hz : d ∣ (x - y) % d - (x - y) := emod_dvd _
  generalize hzz : (x - y) % d = z at *
  obtain ⟨e, r, t, e1, e2, e3, e4, e5, _, _⟩ := bez_r hf (a := d) (b := z) z0 (by omega) (by omega) (by omega) (.inl b2)
  obtain ⟨m, hm, tm, m0, mm, _⟩ := quot e2 b2 e4
  obtain ⟨m2', hez⟩ := e5
  have w1 := mul_bd (a := n1) (b := N') (M := 400) (N := 400) (by omega) (by omega) (by omega) (by omega)
  have w0 : 0 < n1 * N' := Int.mul_pos n10 N0'
  have xm := mul_bd (a := x) (b := m) (M := 400) (N := 400) (by omega) (by omega) (by omega) (by omega)
  have ym := mul_bd (a := y) (b := m) (M := 400) (N := 400) (by omega) (by omega) (by omega) (by omega)
  have x20 := Int.emod_nonneg (x * m) (show N ≠ 0 by omega)
  have x21 := Int.emod_lt_of_pos (x * m) N0
  have hx2 : N ∣ (x * m) % N - x * m := emod_dvd _
  have y20 := Int.emod_nonneg (y * m) (show N' ≠ 0 by omega)
  have y21 := Int.emod_lt_of_pos (y * m) N0'
  have hy2 : N' ∣ (y * m) % N' - y * m := emod_dvd _
  generalize hx2x : (x * m) % N = x2 at *
  generalize hy2y : (y * m) % N' = y2 at *
  have hdN : d ∣ N := ⟨n1, hn1⟩
  have hdN' : d ∣ N' := ⟨n2, hn2⟩
  have hd2 : d ∣ y2 - x2 := by
    have h1 : d ∣ z * m := ⟨m2', by rw [hez, hm]; grind⟩
    have h2 : d ∣ (z - (x - y)) * m := Int.dvd_trans hz (Int.dvd_mul_right _ _)
    have h3 := Int.dvd_sub h1 h2
    have h4 := Int.dvd_sub (Int.dvd_trans hdN' hy2) (Int.dvd_trans hdN hx2)
    have h5 := Int.dvd_sub h4 h3
    have e1 : y2 - y * m - (x2 - x * m) - (z * m - (z - (x - y)) * m) = y2 - x2 := by grind
    rw [e1] at h5; exact h5
  have tq : (y2 - x2).tdiv d = (y2 - x2) / d := Int.tdiv_eq_ediv_of_dvd hd2
  have qb : -400 ≤ (y2 - x2) / d ∧ (y2 - x2) / d ≤ 400 := by
    obtain ⟨c, hc⟩ := hd2
    have : (y2 - x2) / d = c := by rw [hc]; exact Int.mul_ediv_cancel_left _ (by omega)
    rw [this]
    rcases Int.le_total 0 c with h | h
    · have : 1 * c ≤ d * c := Int.mul_le_mul_of_nonneg_right (by omega) h
      omega
    · have : 1 * -c ≤ d * -c := Int.mul_le_mul_of_nonneg_right (by omega) (by omega)
      simp only [Int.mul_neg, Int.one_mul] at this
      omega
  have pb : -400 ≤ p ∧ p ≤ 400 := by omega
  have cp := mul_bd2 (a := (y2 - x2) / d) (b := p) (M := 400) (N := 400) qb.1 qb.2 pb.1 pb.2 (by omega) (by omega)
  have k0 := Int.emod_nonneg ((y2 - x2) / d * p) (show n2 ≠ 0 by omega)
  have k2 := Int.emod_lt_of_pos ((y2 - x2) / d * p) n20
  have hk : n2 ∣ ((y2 - x2) / d * p) % n2 - (y2 - x2) / d * p := emod_dvd _
  generalize hkk : ((y2 - x2) / d * p) % n2 = k at *
  have Nk := mul_bd (a := N) (b := k) (M := 400) (N := 400) (by omega) (by omega) (by omega) (by omega)
  have Hm := mul_bd (a := γ * G') (b := m) (M := 400) (N := 400) (by omega) (by omega) (by omega) (by omega)
  refine ⟨_, _, _, ?_, com_ok f f' b2 b3 hn1 hn2 c2 c3 hγ hγ' hx hy hz e2 e3 hm hez hx2 hy2 hk, by omega, by omega⟩
  unfold screen_Common_r
  simp only [check_r, hc, hc', bindO_some, ne_eq, not_true_eq_false, decide_false, cond_false, k1, k1', b1, c1]
  rw [bif_pos (by omega), tγ, s_wr (x := γ) (by omega) (by omega), s_wr (x := γ * G') (by omega) (by omega), bif_pos (by omega), th1, s_wr (x := γ') (by omega) (by omega), s_wr (x := γ' * S) (by omega) (by omega), smod fu N0 (by omega), hxx]
  simp only [bindO_some]
  rw [bif_pos (by omega), th2, s_wr (x := γ) (by omega) (by omega), s_wr (x := γ * S') (by omega) (by omega), smod fu N0' (by omega), hyy]
  simp only [bindO_some]
  rw [s_wr (x := x - y) (by omega) (by omega), smod fu b2 (by omega), hzz]
  simp only [bindO_some, e1]
  rw [bif_pos (by omega), tm, s_wr (x := m) (by omega) (by omega), bif_pos (by omega), tn1, s_wr (x := n1) (by omega) (by omega), s_wr (x := n1 * N') (by omega) (by omega), s_wr (x := x * m) (by omega) (by omega), smod fu N0 (by omega), hx2x]
  simp only [bindO_some]
  rw [s_wr (x := y * m) (by omega) (by omega), smod fu N0' (by omega), hy2y]
  simp only [bindO_some]
  rw [bif_pos (by omega), bif_pos (by omega), s_wr (x := y2 - x2) (by omega) (by omega), tq, s_wr (x := (y2 - x2) / d) (by omega) (by omega), s_wr (x := (y2 - x2) / d * p) (by omega) (by omega), tn2, s_wr (x := n2) (by omega) (by omega), smod fu n20 (by omega), hkk]
  simp only [bindO_some]
  rw [s_wr (x := N * k) (by omega) (by omega), s_wr (x := x2 + N * k) (by omega) (by omega), smod fu w0 (by omega)]
  simp only [bindO_some]
  rw [s_wr (x := γ * G' * m) (by omega) (by omega)]
theorem rcommon_r {W S H : Int} (C : ComOk A B A' B' W S H) (hW : W ≤ 160000) (hH : H ≤ 160000) : R_Common_r fu ((A, (B, K)), ((A', (B', K')), ())) = some ((W, (S, H)), ()) := by
  obtain ⟨w0, s0, s1, h0, row1, row2, least, in1, in2, high, first⟩ := C
  have both : ∀ (x y : Int) (J : Bool → Option ((Int × Int × Int) × Unit)), -10000000 ≤ x ∧ x ≤ 10000000 → -10000000 ≤ y ∧ y ≤ 10000000 →
      (∃ b b', R_Belongs_r fu ((A, (B, K)), (x, (y, ()))) = some (b, ()) ∧ R_Belongs_r fu ((A', (B', K')), (x, (y, ()))) = some (b', ()) ∧ (b = true ↔ bel A B x y) ∧ (b' = true ↔ bel A' B' x y)) := fun x y J hx hy => by
    obtain ⟨b, p1, p2⟩ := belongs_r hf ok K hx hy
    obtain ⟨b', q1, q2⟩ := belongs_r hf ok' K' hx hy
    exact ⟨b, b', p1, q1, p2, q2⟩
  unfold R_Common_r
  refine postLoop (f := R_Common_l1 fu ((A, (B, K)), ((A', (B', K')), ()))) (fun v => (W - v.1).toNat) (fun v => 1 ≤ v.1 ∧ v.1 ≤ W ∧ v.2 = (0, 0)) (fun r => r = some ((W, (S, H)), ())) ?_ fu _ ⟨by omega, by omega, rfl⟩ (by simp only; omega)
  rintro j ⟨v, _⟩ ⟨h1, h2, rfl⟩
  have h1 : 1 ≤ v := h1
  have h2 : v ≤ W := h2
  obtain ⟨b, b', p1, q1, p2, q2⟩ := both v 0 (fun _ => none) (by omega) (by omega)
  unfold R_Common_l1 R_Common_j2
  simp only [joinF_eq, p1, q1, bindO_some]
  by_cases c : v = W
  · subst c
    rw [p2.2 row1, q2.2 row2]
    simp only [Bool.not_true, cond_false]
    right
    refine postLoop (f := R_Common_l3 fu ((A, (B, K)), ((A', (B', K')), ()))) (fun w => (H - w.1.2.2).toNat) (fun w => w.1.1 = v ∧ 1 ≤ w.1.2.2 ∧ w.1.2.2 ≤ H) (fun r => r = some ((v, (S, H)), ())) ?_ fu _ ⟨rfl, by simp only; omega, by simp only; omega⟩ (by simp only; omega)
    rintro j2 ⟨⟨w1, ⟨w2, w3⟩⟩, w4⟩ ⟨g1, g2, g3⟩
    have g1 : w1 = v := g1
    have g2 : 1 ≤ w3 := g2
    have g3 : w3 ≤ H := g3
    subst g1
    unfold R_Common_l3
    simp only
    have key : (w3 < H ∧ ∃ s, loopF (R_Common_l4 fu ((A, (B, K)), ((A', (B', K')), ())) j2) fu (((w1, ((0 : Int), w3)), w4)) = j2 ((w1, (s, w3 + 1)), w4)) ∨ (w3 = H ∧ loopF (R_Common_l4 fu ((A, (B, K)), ((A', (B', K')), ())) j2) fu (((w1, ((0 : Int), w3)), w4)) = some ((w1, (S, H)), ())) := by
      refine postLoop (f := R_Common_l4 fu ((A, (B, K)), ((A', (B', K')), ())) j2) (fun x => (w1 - x.1.2.1).toNat) (fun x => x.1.1 = w1 ∧ x.1.2.2 = w3 ∧ x.2 = w4 ∧ 0 ≤ x.1.2.1 ∧ x.1.2.1 ≤ w1 ∧ (w3 = H → x.1.2.1 ≤ S)) (fun r => (w3 < H ∧ ∃ s, r = j2 ((w1, (s, w3 + 1)), w4)) ∨ (w3 = H ∧ r = some ((w1, (S, H)), ()))) ?_ fu _ ⟨rfl, rfl, rfl, by simp only; omega, by simp only; omega, fun _ => s0⟩ (by simp only; omega)
      rintro j3 ⟨⟨x1, ⟨x2, x3⟩⟩, x4⟩ ⟨r1, r2, r3, r4, r5, r6⟩
      have r1 : x1 = w1 := r1
      have r2 : x3 = w3 := r2
      have r3 : x4 = w4 := r3
      have r4 : 0 ≤ x2 := r4
      have r5 : x2 ≤ w1 := r5
      have r6 : w3 = H → x2 ≤ S := r6
      subst r1; subst r2; subst r3
      unfold R_Common_l4 R_Common_j5
      simp only [joinF_eq]
      by_cases cx : x2 < x1
      · obtain ⟨b, b', p1, q1, p2, q2⟩ := both x2 x3 (fun _ => none) (by omega) (by omega)
        rw [bif_pos cx]
        simp only [p1, q1, bindO_some]
        by_cases cH : x3 = H ∧ x2 = S
        · obtain ⟨cH1, cH2⟩ := cH
          subst cH1; subst cH2
          right; right
          rw [p2.2 in1, q2.2 in2]
          exact ⟨rfl, rfl⟩
        · left
          have hno : ¬ (bel A B x2 x3 ∧ bel A' B' x2 x3) := fun g => by
            rcases Int.lt_or_le x3 H with h | h
            · exact high x2 x3 (by omega) h g.1 g.2
            · obtain rfl : x3 = H := by omega
              have := r6 rfl
              exact first x2 r4 (by have : x2 ≠ S := fun e => cH ⟨rfl, e⟩; omega) g.1 g.2
          refine ⟨((x1, (x2 + 1, x3)), x4), ⟨rfl, rfl, rfl, by simp only; omega, by simp only; omega, fun e => ?_⟩, by simp only; omega, ?_⟩
          · have := r6 e
            show x2 + 1 ≤ S
            have : x2 ≠ S := fun e' => cH ⟨e, e'⟩
            omega
          · rw [s_wr (by omega) (by omega)]
            cases b with
            | false => rfl
            | true => cases b' with
              | false => rfl
              | true => exact absurd ⟨p2.1 rfl, q2.1 rfl⟩ hno
      · right; left
        have : x3 ≠ H := fun e => by have := r6 e; omega
        rw [bif_neg cx, s_wr (by omega) (by omega)]
        exact ⟨by omega, _, rfl⟩
    rcases key with ⟨k1, s, k2⟩ | ⟨k1, k2⟩
    · left
      exact ⟨((w1, (s, w3 + 1)), w4), ⟨rfl, by simp only; omega, by simp only; omega⟩, by simp only; omega, k2⟩
    · right; exact k2
  · left
    have hno : ¬ (bel A B v 0 ∧ bel A' B' v 0) := fun g => by
      have := least v (by omega) g.1 g.2
      omega
    refine ⟨(v + 1, (0, 0)), ⟨by simp only; omega, by simp only; omega, rfl⟩, by simp only; omega, ?_⟩
    rw [s_wr (by omega) (by omega)]
    cases b with
    | false => rfl
    | true => cases b' with
      | false => rfl
      | true => exact absurd ⟨p2.1 rfl, q2.1 rfl⟩ hno
end
end Sc
end Go.Proofs.Ytelpkjellakigaa
