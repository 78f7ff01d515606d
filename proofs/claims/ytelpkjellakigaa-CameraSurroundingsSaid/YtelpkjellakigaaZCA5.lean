/- Regions that draw their order: operations and calls that write, in any order that the edges allow; blocks that are written beside an operation are seen by the cells that stay. No program in sight. -/
import Derived.Test.YtelpkjellakigaaZCA4
import Derived.Lib.ConvBytes
import Derived.Lib.AppendStr
import Derived.Lib.AppendZerosOnto
import Derived.WalkKit
import Derived.WalkSpells
import Derived.RangeFuncNested
import Derived.RangeFuncBound
import Derived.RangeFuncCalls
import Derived.RangeFuncLeaves
import Derived.RangeFuncBox
import Derived.Shelf.Abstract
import Derived.Shelf.RegionOpen
import Derived.OwnWalkIn
import Derived.TacticsInMore
import Derived.LoopNIn
import Derived.LoopIn
import Derived.Maps.AppendAt
/- Regions that draw their order: operations and calls that write,in any order that the edges allow;blocks that are written beside an operation are seen by the cells that stay. No program in sight. -/
namespace Go.Proofs.Ytelpkjellakigaa.Rn
open Go Go.RowKit Go.Proofs.Ytelpkjellakigaa Go.Proofs.Ytelpkjellakigaa.Dr

theorem pf_nmd {p : Nat → Bool} : ∀ (a : AV),pf p a = true → a.nmd p = true
  | .box ..,h => by simpa only [pf,AV.nmd] using h
  | .elt ..,h => by simpa only [pf,AV.nmd] using h
  | .osl ..,h => by simpa only [pf,AV.nmd] using h
  | .vsl ..,h => by simpa only [pf,AV.nmd] using h
  | .agg cs,h => by simp only [pf,AV.nmd] at h ⊢;exact pf_nmdL cs h
  | .tup cs,h => by simp only [pf,AV.nmd] at h ⊢;exact pf_nmdL cs h
  | .fn _ cs,h => by simp only [pf,AV.nmd] at h ⊢;exact pf_nmdL cs h
  | .any,_ => rfl
  | .und,_ => rfl
  | .int ..,_ => rfl
  | .bool ..,_ => rfl
  | .str ..,_ => rfl
  | .nilp,_ => rfl
  | .nils,_ => rfl
  | .nilf,_ => rfl
  | .peek ..,_ => rfl
  | .ro ..,_ => rfl
where pf_nmdL {p : Nat → Bool} : ∀ (cs : List AV),pf.go p cs = true → AV.nmd.go p cs = true
  | [],_ => rfl
  | a :: l,h => by
    rw [pf.go,Bool.and_eq_true] at h
    rw [AV.nmd.go,pf_nmd a h.1,pf_nmdL l h.2];rfl
theorem pfB_nmd {p : Nat → Bool} {b : AB} (h : pfB p b = true) : b.nmd p = true := by
  cases b with
  | dead => rfl
  | box cs e => exact pf_nmd.pf_nmdL cs h
  | row sz rows e => exact List.all_eq_true.2 fun row hr => pf_nmd.pf_nmdL row (List.all_eq_true.1 h row hr)
/-- the blocks of a list,as f has them,ahead of others -/
def onL (L : List Nat) (f : Nat → AB) (hp : List (Nat × AB)) : List (Nat × AB) := L.map (fun j => (j,f j)) ++ hp
theorem onL_in {L : List Nat} {f : Nat → AB} {hp : List (Nat × AB)} {j : Nat} (hj : j ∈ L) : look .dead (onL L f hp) j = f j := by
  unfold onL
  rw [look_append]
  induction L with
  | nil => cases hj
  | cons c L ih =>
    rw [List.map_cons,look_cons]
    by_cases e : c = j
    · subst e;rw [if_pos rfl]
    · rw [if_neg e]
      exact ih ((List.mem_cons.1 hj).resolve_left fun e' => e e'.symm)
theorem onL_out {L : List Nat} {f : Nat → AB} {hp : List (Nat × AB)} {j : Nat} (hj : j ∉ L) : look .dead (onL L f hp) j = look .dead hp j := by
  unfold onL
  rw [look_append]
  induction L with
  | nil => rfl
  | cons c L ih =>
    rw [List.map_cons,look_cons,if_neg (fun e => hj (by simp [e]))]
    exact ih fun h => hj (List.mem_cons_of_mem _ h)
/-- what an operation may look at: the blocks whose state is settled,of the others the cells that stay -/
def lcl (ops : Array Oper) (T : List (List Nat)) (W : List (Nat × Nat)) (M : List (Nat × AB)) (nx0 i : Nat) (cr : List (Nat × Nat)) (st : ASt) (o : Oper) (k : Nat) : ASt :=
  ⟨lregs ops st o,M.filter (fun p => !visW T W nx0 i cr p.1) ++ st.heap.filter (fun p => visW T W nx0 i cr p.1),k⟩
theorem lcl_heap {ops : Array Oper} {T : List (List Nat)} {W : List (Nat × Nat)} {M : List (Nat × AB)} {nx0 i : Nat} {cr : List (Nat × Nat)} {st : ASt} {o : Oper} {k : Nat} (id : Nat) :
    look .dead (lcl ops T W M nx0 i cr st o k).heap id = bif visW T W nx0 i cr id then look .dead st.heap id else look .dead M id := by
  show look .dead (M.filter (fun p => !visW T W nx0 i cr p.1) ++ st.heap.filter (fun p => visW T W nx0 i cr p.1)) id = _
  rw [look_append,look_filt (f := fun id => visW T W nx0 i cr id),look_filt (f := fun id => !visW T W nx0 i cr id)]
  cases hv : visW T W nx0 i cr id with
  | true => rfl
  | false =>
    simp only [Bool.not_false,cond_true,cond_false]
/-- the new numbers -/
def news (k k2 : Nat) : List Nat := List.range' k (k2 - k)
theorem news_mem {k k2 id : Nat} : id ∈ news k k2 ↔ k ≤ id ∧ id < k2 := by
  unfold news
  rw [List.mem_range'_1]
  omega
/-- the blocks that are there when the done operations are done -/
def lvD (S : Nat → ASt) (m nx0 : Nat) (d : Nat → Bool) (id : Nat) : Bool := Nat.blt id nx0 || (List.range m).any fun j => d j && (Nat.ble (S j).nx id && Nat.blt id (S (j + 1)).nx)
theorem lvD_iff {S : Nat → ASt} {m nx0 : Nat} {d : Nat → Bool} {id : Nat} : lvD S m nx0 d id = true ↔ id < nx0 ∨ ∃ j,j < m ∧ d j = true ∧ (S j).nx ≤ id ∧ id < (S (j + 1)).nx := by
  unfold lvD
  rw [Bool.or_eq_true,List.any_eq_true]
  constructor
  · rintro (h | ⟨j,h1,h2⟩)
    · exact .inl (by simpa using h)
    · simp only [Bool.and_eq_true] at h2
      exact .inr ⟨j,List.mem_range.1 h1,h2.1,by simpa using h2.2.1,by simpa using h2.2.2⟩
  · rintro (h | ⟨j,h1,h2,h3,h4⟩)
    · exact .inl (by simpa using h)
    · refine .inr ⟨j,List.mem_range.2 h1,?_⟩
      simp [h2,h3,h4]
/-- what has been done of a region -/
def InvG (K : Kn) (n : Nat) (l : List Oper) (W : List (Nat × Nat)) (S : Nat → ASt) (m nx0 : Nat) (d : Nat → Bool) (a : Act) (w : World) : Prop := ∃ R hp G,RelP K n R hp (S m).nx (lvD S m nx0 d) a w G ∧
  (∀ j o t,j < m → l[j]? = some o → d j = true → o.dst = some t → Les (look .any (S (j + 1)).regs t) (R t)) ∧
  (∀ t,(∀ j o,j < m → l[j]? = some o → d j = true → o.dst ≠ some t) → Les (look .any (S 0).regs t) (R t)) ∧
  (∀ id,lvD S m nx0 d id = true → ∃ p,p ≤ m ∧ id < (S p).nx ∧ LesB (look .dead (S p).heap id) (look .dead hp id) ∧ (∀ j,(j,id) ∈ W → j < p → d j = true) ∧ (∀ j,(j,id) ∈ W → p ≤ j → d j = false) ∧ (p = 0 ∨ ∃ q,p = q + 1 ∧ d q = true ∧ ((q,id) ∈ W ∨ (S q).nx ≤ id)))
inductive Loc (P : Program) (n : Nat) (ops : Array Oper) (T : List (List Nat)) (W : List (Nat × Nat)) (M : List (Nat × AB)) (nx0 i : Nat) (cr : List (Nat × Nat)) (o : Oper) (st : ASt) : ASt → List (Nat × Nat) → Prop
  | read {x : AV} (hW : noW W i = true) (hw : o.guard = none ∨ gst ops o (lcl ops T W M nx0 i cr st o 0) = some true) (h : ∀ k,OpR P n o (lcl ops T W M nx0 i cr st o k) x) (hn : x.nmd (vis T nx0 i cr) = true) : Loc P n ops T W M nx0 i cr o st (st.put o.dst x) cr
  | call {x : AV} (hW : noW W i = true) (hw : o.guard = none ∨ gst ops o (lcl ops T W M nx0 i cr st o 0) = some true) (h : ∀ k,OpF P n o (lcl ops T W M nx0 i cr st o k) x) (hn : x.nmd (vis T nx0 i cr) = true) : Loc P n ops T W M nx0 i cr o st (st.put o.dst x) cr
  | new {b : AB} (hW : noW W i = true) (hN : newW T W i st.nx = true) (hw : o.guard = none ∨ gst ops o (lcl ops T W M nx0 i cr st o 0) = some true) (h : ∀ k,OpN P n o (lcl ops T W M nx0 i cr st o k) b) (hn : b.nmd (vis T nx0 i cr) = true) : Loc P n ops T W M nx0 i cr o st ((st.hnew b).put o.dst (refB b st.nx)) ((i,st.nx) :: cr)
  | skip (hW : noW W i = true) (hw : gst ops o (lcl ops T W M nx0 i cr st o 0) = some false) (hd : dok o.dst n = true) : Loc P n ops T W M nx0 i cr o st (st.put o.dst .und) cr
  | write {id : Nat} {b : AB} {x : AV} (L : List Nat) (hL : ∀ j ∈ L,visW T W nx0 i cr j = true ∧ (look .dead st.heap j).nmd (vis T nx0 i cr) = true) (hw : o.guard = none ∨ gst ops o (lcl ops T W M nx0 i cr st o 0) = some true) (hv : visW T W nx0 i cr id = true) (hm : (i,id) ∈ W) (hu : onlyW W i id = true)
      (h : ∀ hp k,(∀ j ∈ L,look .dead hp j = look .dead st.heap j) → OpWr P n o ⟨lregs ops st o,hp,k⟩ id b x) (hb : b.nmd (vis T nx0 i cr) = true) (hn : x.nmd (vis T nx0 i cr) = true) (hM : LesB (look .dead M id) b) : Loc P n ops T W M nx0 i cr o st ((st.hset id b).put o.dst x) cr
  | op {st2 : ASt} (L : List Nat) (hp : List (Nat × AB)) (hw : o.guard = none ∨ gst ops o (lcl ops T W M nx0 i cr st o 0) = some true) (h : OpY P n o ⟨lregs ops st o,hp,st.nx⟩ st2) (hd : dok o.dst n = true) (hn : st.nx ≤ st2.nx) (hN : ∀ id,st.nx ≤ id → id < st2.nx → newW T W i id = true)
      (hv : ∀ id ∈ L,id < st.nx ∧ visW T W nx0 i cr id = true) (hs : ∀ id,look .dead hp id = .dead ∨ (id ∈ L ∧ look .dead hp id = look .dead st.heap id ∧ (look .dead hp id).nmd (hasN L) = true))
      (ht : ∀ id,look .dead st2.heap id = .dead ∨ (orN (hasN L) st.nx st2.nx id = true ∧ pfB (orN (hasN L) st.nx st2.nx) (look .dead st2.heap id) = true)) (hr : ∀ t,(look .any (lregs ops st o) t).nmd (hasN L) = true) (hx : pf (orN (hasN L) st.nx st2.nx) (dstV st2 o.dst) = true)
      (hW : ∀ id,(i,id) ∈ W → id ∈ L) (hu : ∀ id ∈ L,(i,id) ∈ W ∨ look .dead st2.heap id = look .dead st.heap id) (hM : ∀ id,(i,id) ∈ W → LesB (look .dead M id) (look .dead st2.heap id)) :
      Loc P n ops T W M nx0 i cr o st ((⟨st.regs,onL (L ++ news st.nx st2.nx) (look .dead st2.heap) st.heap,st2.nx⟩ : ASt).put o.dst (dstV st2 o.dst)) ((news st.nx st2.nx).map (fun id => (i,id)) ++ cr)
inductive AG (P : Program) (n : Nat) (ops : Array Oper) (T : List (List Nat)) (W : List (Nat × Nat)) (M : List (Nat × AB)) (nx0 : Nat) (Kt : ASt → Prop) : Nat → List (Nat × Nat) → List Oper → ASt → Prop
  | nil {i : Nat} {cr : List (Nat × Nat)} {st : ASt} (h : Kt st) : AG P n ops T W M nx0 Kt i cr [] st
  | step {i : Nat} {cr cr' : List (Nat × Nat)} {o : Oper} {l : List Oper} {st st' : ASt} (h : Loc P n ops T W M nx0 i cr o st st' cr') (k : AG P n ops T W M nx0 Kt (i + 1) cr' l st') : AG P n ops T W M nx0 Kt i cr (o :: l) st
  | same {i : Nat} {cr : List (Nat × Nat)} {l : List Oper} {st st' : ASt} (h : Eqv st st') (k : AG P n ops T W M nx0 Kt i cr l st') : AG P n ops T W M nx0 Kt i cr l st
theorem AG.facts {P : Program} {n : Nat} {ops : Array Oper} {T : List (List Nat)} {W : List (Nat × Nat)} {M : List (Nat × AB)} {nx0 : Nat} {Kt : ASt → Prop} {i : Nat} {cr : List (Nat × Nat)} {l : List Oper} {st : ASt} (h : AG P n ops T W M nx0 Kt i cr l st) :
    ∃ (S : Nat → ASt) (C : Nat → List (Nat × Nat)),Eqv st (S 0) ∧ C 0 = cr ∧ Kt (S l.length) ∧ ∀ j o,l[j]? = some o → ∃ s',Loc P n ops T W M nx0 (i + j) (C j) o (S j) s' (C (j + 1)) ∧ Eqv s' (S (j + 1)) := by
  induction h with
  | @nil i cr st h => exact ⟨fun _ => st,fun _ => cr,Eqv.refl _,rfl,h,fun j o hj => by simp at hj⟩
  | @step i cr cr' o l st st' h k ih =>
    obtain ⟨S,C,h1,h2,h3,h4⟩ := ih
    refine ⟨fun j => match j with | 0 => st | j + 1 => S j,fun j => match j with | 0 => cr | j + 1 => C j,Eqv.refl _,rfl,h3,fun j o' hj => ?_⟩
    cases j with
    | zero =>
      simp at hj
      subst hj
      exact ⟨st',by show Loc P n ops T W M nx0 i cr o st st' (C 0);rw [h2];exact h,h1⟩
    | succ j =>
      obtain ⟨s',g1,g2⟩ := h4 j o' (by simpa using hj)
      exact ⟨s',by rw [show i + (j + 1) = i + 1 + j by omega];exact g1,g2⟩
  | @same i cr l st st' h k ih =>
    obtain ⟨S,C,h1,h2,h3,h4⟩ := ih
    exact ⟨S,C,h.trans h1,h2,h3,h4⟩
section
variable {P : Program} {n : Nat} {ops : Array Oper} {T : List (List Nat)} {W : List (Nat × Nat)} {M : List (Nat × AB)} {nx0 i : Nat} {cr cr' : List (Nat × Nat)} {o : Oper} {st st' : ASt}
theorem Loc.nx_le (h : Loc P n ops T W M nx0 i cr o st st' cr') : st.nx ≤ st'.nx := by
  cases h with
  | read => rw [put_nx];exact Nat.le_refl _
  | call => rw [put_nx];exact Nat.le_refl _
  | new => rw [put_nx];exact Nat.le_succ _
  | skip => rw [put_nx];exact Nat.le_refl _
  | write => rw [put_nx];exact Nat.le_refl _
  | op _ _ _ _ _ hn => rw [put_nx];exact hn
theorem Loc.regs (h : Loc P n ops T W M nx0 i cr o st st' cr') {t : Nat} (ht : o.dst ≠ some t) : look .any st'.regs t = look .any st.regs t := by
  cases h with
  | read => exact put_regs _ _ _ _ ht
  | call => exact put_regs _ _ _ _ ht
  | new => rw [put_regs _ _ _ _ ht];rfl
  | skip => exact put_regs _ _ _ _ ht
  | write => rw [put_regs _ _ _ _ ht];rfl
  | op => rw [put_regs _ _ _ _ ht]
theorem Loc.heap (h : Loc P n ops T W M nx0 i cr o st st' cr') {id : Nat} (hid : id < st.nx ∨ st'.nx ≤ id) (hw : (i,id) ∉ W) : look .dead st'.heap id = look .dead st.heap id := by
  cases h with
  | read => rw [put_heap']
  | call => rw [put_heap']
  | @new b =>
    rw [put_nx] at hid
    have hid : id < st.nx ∨ st.nx + 1 ≤ id := hid
    rw [put_heap'];exact look_ne _ (fun e => by omega) _ _
  | skip => rw [put_heap']
  | @write id' b x L hL _ hv hm => rw [put_heap'];exact look_ne _ (fun e => hw (by rw [← e];exact hm)) _ _
  | @op st2 L hp hwa h hd hn hN hv hs htt hr hx hW hu =>
    rw [put_nx] at hid
    have hid : id < st.nx ∨ st2.nx ≤ id := hid
    rw [put_heap']
    show look .dead (onL (L ++ news st.nx st2.nx) _ _) id = _
    by_cases e : id ∈ L ++ news st.nx st2.nx
    · rw [onL_in e]
      rcases List.mem_append.1 e with e | e
      · exact (hu id e).resolve_left hw
      · have := news_mem.1 e;omega
    · exact onL_out e
theorem Loc.heap2 (h : Loc P n ops T W M nx0 i cr o st st' cr') (id : Nat) : look .dead st'.heap id = look .dead st.heap id ∨ (st.nx ≤ id ∧ id < st'.nx) ∨ vis T nx0 i cr id = true := by
  cases h with
  | read => left;rw [put_heap']
  | call => left;rw [put_heap']
  | skip => left;rw [put_heap']
  | @new b =>
    by_cases e : id = st.nx
    · exact .inr (.inl ⟨by omega,by rw [put_nx];show id < st.nx + 1;omega⟩)
    · left;rw [put_heap'];exact look_ne _ (fun e' => e e'.symm) _ _
  | @write id' b x L hL _ hv hm =>
    by_cases e : id' = id
    · subst e
      unfold visW at hv
      rw [Bool.and_eq_true] at hv
      exact .inr (.inr hv.1)
    · left;rw [put_heap'];exact look_ne _ e _ _
  | @op st2 L hp hwa h hd hn hN hv hs htt hr hx hW hu =>
    by_cases e : id ∈ L ++ news st.nx st2.nx
    · rcases List.mem_append.1 e with e | e
      · have := (hv id e).2
        unfold visW at this
        rw [Bool.and_eq_true] at this
        exact .inr (.inr this.1)
      · exact .inr (.inl ⟨(news_mem.1 e).1,by rw [put_nx];exact (news_mem.1 e).2⟩)
    · left
      rw [put_heap']
      exact onL_out e
theorem Loc.crm (h : Loc P n ops T W M nx0 i cr o st st' cr') : ∀ c ∈ cr',c ∈ cr ∨ (c.1 = i ∧ st.nx ≤ c.2 ∧ c.2 < st'.nx) := by
  cases h with
  | read => intro c hc;exact .inl hc
  | call => intro c hc;exact .inl hc
  | new =>
    intro c hc
    rcases List.mem_cons.1 hc with h | h
    · subst h;exact .inr ⟨rfl,Nat.le_refl _,by rw [put_nx];exact Nat.lt_succ_self _⟩
    · exact .inl h
  | skip => intro c hc;exact .inl hc
  | write => intro c hc;exact .inl hc
  | op =>
    intro c hc
    rcases List.mem_append.1 hc with h | h
    · obtain ⟨id,h1,rfl⟩ := List.mem_map.1 h
      exact .inr ⟨rfl,(news_mem.1 h1).1,by rw [put_nx];exact (news_mem.1 h1).2⟩
    · exact .inl h
theorem Loc.mask (h : Loc P n ops T W M nx0 i cr o st st' cr') (hnx : nx0 ≤ st.nx) (h0 : ∀ id,nx0 ≤ id → look .dead M id = .dead) (hM : ∀ id,LesB (look .dead M id) (look .dead st.heap id)) : ∀ id,LesB (look .dead M id) (look .dead st'.heap id) := by
  intro id
  by_cases hw : (i,id) ∈ W
  · cases h with
    | read hW => exact absurd hw (noW_at hW id)
    | call hW => exact absurd hw (noW_at hW id)
    | new hW => exact absurd hw (noW_at hW id)
    | skip hW => exact absurd hw (noW_at hW id)
    | @write id' b x L hL _ hv hm hu _ hb hn hMb =>
      have := onlyW_at hu hw
      subst this
      rw [put_heap']
      have e1 : look AB.dead (st.hset id b).heap id = b := look_self _ _ _ _
      rw [e1];exact hMb
    | op L hp hwa h hd hn hN hv hs htt hr hx hW hu hMb =>
      rw [put_heap']
      show LesB _ (look .dead (onL (L ++ news st.nx _) _ _) id)
      rw [onL_in (List.mem_append.2 (.inl (hW id hw)))]
      exact hMb id hw
  · by_cases e : id < st.nx
    · rw [h.heap (.inl e) hw];exact hM id
    · rw [h0 id (by omega)];exact .dead _
end
theorem eqv_les {s s' : ASt} (h : Eqv s s') : LeS s' s := ⟨fun d => by rw [h.regs d];exact .refl _,fun d => by rw [h.heap d];exact .refl _,h.nx.symm⟩
section
variable {P : Program} {n : Nat} {l : List Oper} {T : List (List Nat)} {W : List (Nat × Nat)} {M : List (Nat × AB)} {S : Nat → ASt} {C : Nat → List (Nat × Nat)} {m : Nat}
theorem AG.step' (hp : ∀ i o,l[i]? = some o → PlanR l n i o) (hT : AncOk l T) (hml : m ≤ l.length) (hC0 : C 0 = [])
    (hE : ∀ j o,j < m → l[j]? = some o → ∃ s',Loc P n l.toArray T W M (S 0).nx j (C j) o (S j) s' (C (j + 1)) ∧ Eqv s' (S (j + 1))) (hM0 : ∀ id,(S 0).nx ≤ id → look .dead M id = .dead) (hM1 : ∀ id,LesB (look .dead M id) (look .dead (S 0).heap id))
    {K : Kn} {Q : Exit → Act → World → Prop} {i : Nat} {o : Oper} {d : Nat → Bool} {a : Act} {w : World} (hi : i < m) (ho : l[i]? = some o) (hd0 : d i = false) (hcl : ClosedD l d) (hdep : ∀ e ∈ o.after,Region.binds .any e = true → d e.on = true)
    (h : InvG K n l W S m (S 0).nx d a w) : if Region.wanted o (yielded l.toArray a.tmps) then o.wp P a w (fun a' w' => InvG K n l W S m (S 0).nx (upd d i) a' w') Q else InvG K n l W S m (S 0).nx (upd d i) (a.put o.dst undef) w := by
  have hL : ∀ j o,j < m → l[j]? = some o → ∃ s',Loc P n l.toArray T W M (S 0).nx j (C j) o (S j) s' (C (j + 1)) ∧ LeS (S (j + 1)) s' := fun j o hj ho => by
    obtain ⟨s',h1,h2⟩ := hE j o hj ho
    exact ⟨s',h1,eqv_les h2⟩
  obtain ⟨R,hpp,G,hR,I1,I2,I3⟩ := h
  have hop : ∀ j,j < m → ∃ o,l[j]? = some o := fun j hj => ⟨l[j],List.getElem?_eq_getElem (by omega)⟩
  have nxS : ∀ j,j < m → (S j).nx ≤ (S (j + 1)).nx := fun j hj => by
    obtain ⟨o,ho⟩ := hop j hj
    obtain ⟨s',h1,h2⟩ := hL j o hj ho
    rw [h2.nx]
    exact h1.nx_le
  have nxM : ∀ q,q ≤ m → ∀ p,p ≤ q → (S p).nx ≤ (S q).nx := by
    intro q
    induction q with
    | zero => intro _ p hp;obtain rfl : p = 0 := (by omega);exact Nat.le_refl _
    | succ q ih =>
      intro hq p hp
      rcases Nat.lt_or_ge p (q + 1) with h | h
      · exact Nat.le_trans (ih (by omega) p (by omega)) (nxS q (by omega))
      · obtain rfl : p = q + 1 := by omega
        exact Nat.le_refl _
  have regM : ∀ t q,q ≤ m → ∀ p,p ≤ q → (∀ j o,p ≤ j → j < q → l[j]? = some o → o.dst ≠ some t) → Les (look AV.any (S q).regs t) (look .any (S p).regs t) := by
    intro t q
    induction q with
    | zero => intro _ p hp _;obtain rfl : p = 0 := (by omega);exact .refl _
    | succ q ih =>
      intro hq p hp hno
      rcases Nat.lt_or_ge p (q + 1) with h | h
      · obtain ⟨o,ho⟩ := hop q (by omega)
        obtain ⟨s',h1,h2⟩ := hL q o (by omega) ho
        have e1 := h2.regs t
        rw [h1.regs (hno q o (by omega) (by omega) ho)] at e1
        exact e1.trans (ih (by omega) p (by omega) fun j o hj1 hj2 => hno j o hj1 (by omega))
      · obtain rfl : p = q + 1 := by omega
        exact .refl _
  have heapM : ∀ id q,q ≤ m → ∀ p,p ≤ q → id < (S p).nx → (∀ j,p ≤ j → j < q → (j,id) ∉ W) → LesB (look AB.dead (S q).heap id) (look .dead (S p).heap id) := by
    intro id q
    induction q with
    | zero => intro _ p hp _ _;obtain rfl : p = 0 := (by omega);exact .refl _
    | succ q ih =>
      intro hq p hp hlt hno
      rcases Nat.lt_or_ge p (q + 1) with h | h
      · obtain ⟨o,ho⟩ := hop q (by omega)
        obtain ⟨s',h1,h2⟩ := hL q o (by omega) ho
        have := nxM q (by omega) p (by omega)
        have e1 := h2.heap id
        rw [h1.heap (by omega) (hno q (by omega) (by omega))] at e1
        exact e1.trans (ih (by omega) p (by omega) hlt fun j j1 j2 => hno j j1 (by omega))
      · obtain rfl : p = q + 1 := by omega
        exact .refl _
  have heapE : ∀ id q,q ≤ m → ∀ p,p ≤ q → id < (S p).nx → (∀ j,p ≤ j → j < q → (j,id) ∉ W) → look AB.dead (S q).heap id = look .dead (S p).heap id := by
    intro id q
    induction q with
    | zero => intro _ p hp _ _;obtain rfl : p = 0 := (by omega);rfl
    | succ q ih =>
      intro hq p hp hlt hno
      rcases Nat.lt_or_ge p (q + 1) with h | h
      · obtain ⟨o,ho⟩ := hop q (by omega)
        obtain ⟨s',h1,h2⟩ := hE q o (by omega) ho
        have := nxM q (by omega) p (by omega)
        have e1 := h2.heap id
        rw [h1.heap (by omega) (hno q (by omega) (by omega))] at e1
        exact e1.symm.trans (ih (by omega) p (by omega) hlt fun j j1 j2 => hno j j1 (by omega))
      · obtain rfl : p = q + 1 := by omega
        rfl
  have hMall : ∀ q,q ≤ m → ∀ id,LesB (look AB.dead M id) (look .dead (S q).heap id) := by
    intro q
    induction q with
    | zero => intro _;exact hM1
    | succ q ih =>
      intro hq id
      obtain ⟨o,ho⟩ := hop q (by omega)
      obtain ⟨s',h1,h2⟩ := hE q o (by omega) ho
      rw [← h2.heap id]
      exact h1.mask (nxM q (by omega) 0 (Nat.zero_le _)) hM0 (ih (by omega)) id
  have crM : ∀ q,q ≤ m → ∀ c ∈ C q,c.1 < q ∧ (S c.1).nx ≤ c.2 ∧ c.2 < (S (c.1 + 1)).nx := by
    intro q
    induction q with
    | zero => intro _ c hc;rw [hC0] at hc;cases hc
    | succ q ih =>
      intro hq c hc
      obtain ⟨o,ho⟩ := hop q (by omega)
      obtain ⟨s',h1,h2⟩ := hL q o (by omega) ho
      rcases h1.crm c hc with h | ⟨h,h',h''⟩
      · obtain ⟨g1,g2⟩ := ih (by omega) c h
        exact ⟨by omega,g2⟩
      · rw [h]
        exact ⟨by omega,h',by rw [h2.nx];exact h''⟩
  have pa := hp i o ho
  have hlook : ∀ t,t ∈ o.looksAt l.toArray → Les (look .any (S i).regs t) (R t) := by
    intro t ht
    by_cases hw : ∃ (j : Nat) (o' : Oper),l[j]? = some o' ∧ o'.dst = some t
    · obtain ⟨j,o',ho',hdst⟩ := hw
      rcases pa.look j o' t ho' hdst ht with ⟨hj,hr⟩ | ⟨hj,hr⟩
      · have hdj := hr.done hcl ho hdep
        exact (regM t i (by omega) (j + 1) (by omega) fun j2 o2 h1 h2 ho2 => (hp j2 o2 ho2).one j o' t ho' hdst (by omega)).trans (I1 j o' t (by omega) ho' hdj hdst)
      · have hnj : d j = false := by
          cases hdj : d j with
          | false => rfl
          | true => have := hr.done' hcl hdj;rw [hd0] at this;cases this
        have honly : ∀ j2 o2,l[j2]? = some o2 → j2 ≠ j → o2.dst ≠ some t := fun j2 o2 ho2 hne => (hp j2 o2 ho2).one j o' t ho' hdst hne
        refine (regM t i (by omega) 0 (Nat.zero_le _) fun j2 o2 _ h2 ho2 => honly j2 o2 ho2 (by omega)).trans (I2 t fun j2 o2 _ ho2 hd2 => honly j2 o2 ho2 fun e => ?_)
        subst e;rw [hnj] at hd2;cases hd2
    · exact (regM t i (by omega) 0 (Nat.zero_le _) fun j o' _ _ ho' hdst => hw ⟨j,o',ho',hdst⟩).trans (I2 t fun j o' _ ho' _ hdst => hw ⟨j,o',ho',hdst⟩)
  have hvis : ∀ id,vis T (S 0).nx i (C i) id = true → lvD S m (S 0).nx d id = true ∧ id < (S i).nx := by
    intro id h
    unfold vis at h
    rw [Bool.or_eq_true,List.any_eq_true] at h
    rcases h with h | ⟨c,hc,h⟩
    · have h : id < (S 0).nx := by simpa using h
      have := nxM i (by omega) 0 (Nat.zero_le _)
      exact ⟨lvD_iff.2 (.inl h),by omega⟩
    · rw [Bool.and_eq_true] at h
      obtain ⟨g1,g2,g3⟩ := crM i (by omega) c hc
      have hid := Nat.eq_of_beq_eq_true h.1
      have hdc := (reachT hT h.2).done hcl ho hdep
      have := nxM i (by omega) (c.1 + 1) (by omega)
      exact ⟨lvD_iff.2 (.inr ⟨c.1,by omega,hdc,by omega,by omega⟩),by omega⟩
  have hcont : ∀ id,visW T W (S 0).nx i (C i) id = true → LesB (look .dead (S i).heap id) (look AB.dead hpp id) := by
    intro id hv
    unfold visW at hv
    rw [Bool.and_eq_true] at hv
    obtain ⟨h1,h2⟩ := hvis id hv.1
    obtain ⟨p,p1,p2,p3,p4,p5,p6⟩ := I3 id h1
    have hpi : p ≤ i := by
      rcases p6 with rfl | ⟨q,rfl,hdq,hq⟩
      · exact Nat.zero_le _
      · rcases Nat.lt_or_ge q i with h | h
        · omega
        · exfalso
          rcases hq with hq | hq
          · by_cases e : q = i
            · subst e;rw [hd0] at hdq;cases hdq
            · have := (reachT hT ((okW_at hv.2 hq).2 (by omega))).done' hcl hdq
              rw [hd0] at this
              cases this
          · have := nxM q (by omega) i h
            omega
    refine (heapM id i (by omega) p hpi p2 fun j j1 j2 hj => ?_).trans p3
    have hdj := (reachT hT ((okW_at hv.2 hj).1 j2)).done hcl ho hdep
    rw [p5 j hj j1] at hdj
    cases hdj
  have hver : ∀ id,visW T W (S 0).nx i (C i) id = true → ∀ p,p ≤ m → id < (S p).nx → (∀ j,(j,id) ∈ W → p ≤ j → d j = false) → (p = 0 ∨ ∃ q,p = q + 1 ∧ d q = true ∧ ((q,id) ∈ W ∨ (S q).nx ≤ id)) → look .dead (S i).heap id = look AB.dead (S p).heap id := by
    intro id hv p p1 p2 p5 p6
    unfold visW at hv
    rw [Bool.and_eq_true] at hv
    obtain ⟨h1,h2⟩ := hvis id hv.1
    have hpi : p ≤ i := by
      rcases p6 with rfl | ⟨q,rfl,hdq,hq⟩
      · exact Nat.zero_le _
      · rcases Nat.lt_or_ge q i with h | h
        · omega
        · exfalso
          rcases hq with hq | hq
          · by_cases e : q = i
            · subst e;rw [hd0] at hdq;cases hdq
            · have := (reachT hT ((okW_at hv.2 hq).2 (by omega))).done' hcl hdq
              rw [hd0] at this
              cases this
          · have := nxM q (by omega) i h
            omega
    refine heapE id i (by omega) p hpi p2 fun j j1 j2 hj => ?_
    have hdj := (reachT hT ((okW_at hv.2 hj).1 j2)).done hcl ho hdep
    rw [p5 j hj j1] at hdj
    cases hdj
  have hregs : ∀ t,Les (look AV.any (lregs l.toArray (S i) o) t) (R t) := by
    intro t
    by_cases ht : t ∈ o.looksAt l.toArray
    · rcases (look_pick (f := fun t => look AV.any (S i).regs t) (l := o.looksAt l.toArray) (dd := AV.any) (t := t)) with e | e
      · show Les (look AV.any ((o.looksAt l.toArray).map fun t => (t,look AV.any (S i).regs t)) t) _
        rw [e];exact hlook t ht
      · show Les (look AV.any ((o.looksAt l.toArray).map fun t => (t,look AV.any (S i).regs t)) t) _
        rw [e];exact .any _
    · show Les (look AV.any ((o.looksAt l.toArray).map fun t => (t,look AV.any (S i).regs t)) t) _
      rw [look_pick_in ht];exact .any _
  have hrel : RelG K n (lcl l.toArray T W M (S 0).nx i (C i) (S i) o (S m).nx) a w G := by
    refine RelP.rel' hR hregs (fun id => ?_) rfl
    rw [lcl_heap]
    cases hv : visW T W (S 0).nx i (C i) id with
    | false =>
      simp only [cond_false]
      rcases Nat.lt_or_ge id (S 0).nx with hlt | hge
      · obtain ⟨p,p1,p2,p3,_⟩ := I3 id (lvD_iff.2 (.inl hlt))
        exact (hMall p p1 id).trans p3
      · rw [hM0 id hge];exact .dead _
    | true => exact hcont id hv
  have keep : ∀ id,(i,id) ∉ W → lvD S m (S 0).nx d id = true → ∃ p,p ≤ m ∧ id < (S p).nx ∧ LesB (look .dead (S p).heap id) (look .dead hpp id) ∧ (∀ j,(j,id) ∈ W → j < p → upd d i j = true) ∧ (∀ j,(j,id) ∈ W → p ≤ j → upd d i j = false) ∧ (p = 0 ∨ ∃ q,p = q + 1 ∧ upd d i q = true ∧ ((q,id) ∈ W ∨ (S q).nx ≤ id)) := by
    intro id hni hlv
    obtain ⟨p,p1,p2,p3,p4,p5,p6⟩ := I3 id hlv
    refine ⟨p,p1,p2,p3,fun j hj h => ?_,fun j hj h => ?_,p6.imp (fun h => h) fun ⟨q,e,hq,hw⟩ => ⟨q,e,by simp [upd,hq],hw⟩⟩
    · rw [upd_ne (fun e => hni (by rw [← e];exact hj))];exact p4 j hj h
    · rw [upd_ne (fun e => hni (by rw [← e];exact hj))];exact p5 j hj h
  have ho0 := ho
  obtain ⟨s',hloc,heq⟩ := hL i o hi ho
  have hdone : ∀ j,upd d i j = true ↔ d j = true ∨ j = i := fun j => by simp [upd]
  have J1 : ∀ (x : AV),(∀ t,o.dst = some t → Les (look .any (S (i + 1)).regs t) x) → ∀ j o' t,j < m → l[j]? = some o' → upd d i j = true → o'.dst = some t → Les (look .any (S (j + 1)).regs t) (updR R o.dst x t) := by
    intro x hx j o' t hj ho' hdj hdst
    by_cases hji : j = i
    · subst hji
      rw [ho] at ho'
      cases ho'
      rw [hdst]
      show Les _ (if t = t then x else R t)
      rw [if_pos rfl]
      exact hx t hdst
    · have hdj : d j = true := ((hdone j).1 hdj).resolve_right hji
      have hne : o.dst ≠ some t := pa.one j o' t ho' hdst (fun e => hji e.symm)
      have : updR R o.dst x t = R t := by
        cases hdd : o.dst with
        | none => rfl
        | some dd => exact if_neg (fun e => hne (by rw [hdd,e]))
      rw [this]
      exact I1 j o' t hj ho' hdj hdst
  have J2 : ∀ (x : AV) t,(∀ j o',j < m → l[j]? = some o' → upd d i j = true → o'.dst ≠ some t) → Les (look .any (S 0).regs t) (updR R o.dst x t) := by
    intro x t hno
    have hne : o.dst ≠ some t := hno i o hi ho ((hdone i).2 (.inr rfl))
    have : updR R o.dst x t = R t := by
      cases hdd : o.dst with
      | none => rfl
      | some dd => exact if_neg (fun e => hne (by rw [hdd,e]))
    rw [this]
    exact I2 t fun j o' hj ho' hdj => hno j o' hj ho' ((hdone j).2 (.inl hdj))
  have lvSame : (S (i + 1)).nx = (S i).nx → lvD S m (S 0).nx (upd d i) = lvD S m (S 0).nx d := by
    intro hn
    funext id
    rw [Bool.eq_iff_iff,lvD_iff,lvD_iff]
    constructor
    · rintro (h | ⟨j,h1,h2,h3,h4⟩)
      · exact .inl h
      · rcases (hdone j).1 h2 with h2 | h2
        · exact .inr ⟨j,h1,h2,h3,h4⟩
        · subst h2;omega
    · rintro (h | ⟨j,h1,h2,h3,h4⟩)
      · exact .inl h
      · exact .inr ⟨j,h1,(hdone j).2 (.inl h2),h3,h4⟩
  have hwant : o.guard = none ∨ gst l.toArray o (lcl l.toArray T W M (S 0).nx i (C i) (S i) o 0) = some true → Region.wanted o (yielded l.toArray a.tmps) = true := by
    rintro (hg | hg)
    · exact wanted_none hg a
    · obtain ⟨dd,want,g1,g2⟩ := gst_yes hg
      exact wanted_of (st := lcl l.toArray T W M (S 0).nx i (C i) (S i) o (S m).nx) g1 g2 K a w G hrel
  have lvmono : ∀ id,vis T (S 0).nx i (C i) id = true → lvD S m (S 0).nx d id = true := fun id h => (hvis id h).1
  have putSelf : ∀ (st : ASt) (x : AV),s' = st.put o.dst x → ∀ t,o.dst = some t → Les (look .any (S (i + 1)).regs t) x := by
    intro st x e t ht
    have := heq.regs t
    rw [e,ht,put_self] at this
    exact this
  generalize C (i + 1) = cr' at hloc
  cases hloc with
  | @read x hW hw h hn =>
    rw [if_pos (hwant hw)]
    obtain ⟨v,h1,h2⟩ := (h (S m).nx).out K a w G hrel
    have hnx : (S (i + 1)).nx = (S i).nx := by rw [heq.nx,put_nx]
    unfold Oper.wp
    rw [h1 w (Below.refl _ _)]
    exact ⟨_,hpp,G,by rw [lvSame hnx];exact hR.put (h 0).dst h2 (nmd_mono lvmono _ hn),J1 x (putSelf _ x rfl),J2 x,by rw [lvSame hnx];exact fun id => keep id (noW_at hW id)⟩
  | @call x hW hw h hn =>
    rw [if_pos (hwant hw)]
    obtain ⟨F,args,h1,h2⟩ := (h (S m).nx).out K a w G hrel
    have hnx : (S (i + 1)).nx = (S i).nx := by rw [heq.nx,put_nx]
    unfold Oper.wp
    rw [h1]
    refine h2.mono fun e w' ⟨v,e1,e2,e3⟩ => ?_
    subst e1
    exact ⟨_,hpp,G,by rw [lvSame hnx];exact (hR.same e2).put (h 0).dst e3 (nmd_mono lvmono _ hn),J1 x (putSelf _ x rfl),J2 x,by rw [lvSame hnx];exact fun id => keep id (noW_at hW id)⟩
  | @skip hW hw hd =>
    obtain ⟨dd,want,g1,g2⟩ := gst_no hw
    rw [if_neg (by rw [unwanted_of (st := lcl l.toArray T W M (S 0).nx i (C i) (S i) o (S m).nx) g1 g2 hrel];decide)]
    have hnx : (S (i + 1)).nx = (S i).nx := by rw [heq.nx,put_nx]
    exact ⟨_,hpp,G,by rw [lvSame hnx];exact hR.put hd (.dat .und) rfl,J1 .und (putSelf _ .und rfl),J2 .und,by rw [lvSame hnx];exact fun id => keep id (noW_at hW id)⟩
  | @new b hW hN hw h hn =>
    rw [if_pos (hwant hw)]
    obtain ⟨v,w',h1,h2⟩ := (h (S m).nx).out K a w G hrel
    have hnx : (S (i + 1)).nx = (S i).nx + 1 := by rw [heq.nx,put_nx];rfl
    have hge : (S 0).nx ≤ (S i).nx := nxM i (by omega) 0 (Nat.zero_le _)
    have hfree : lvD S m (S 0).nx d (S i).nx = false := by
      rw [Bool.eq_false_iff]
      intro hlv
      rcases lvD_iff.1 hlv with h | ⟨j,g1,g2,g3,g4⟩
      · omega
      · rcases Nat.lt_trichotomy j i with hlt | e | hlt
        · have := nxM i (by omega) (j + 1) (by omega);omega
        · subst e;rw [hd0] at g2;cases g2
        · have := nxM j (by omega) (i + 1) (by omega);omega
    have hlt : (S i).nx < (S m).nx := by have := nxM m (Nat.le_refl _) (i + 1) (by omega);omega
    have hlv' : lvD S m (S 0).nx (upd d i) = fun id => lvD S m (S 0).nx d id || Nat.beq id (S i).nx := by
      funext id
      rw [Bool.eq_iff_iff,lvD_iff,Bool.or_eq_true,lvD_iff]
      constructor
      · rintro (h | ⟨j,h1,h2,h3,h4⟩)
        · exact .inl (.inl h)
        · rcases (hdone j).1 h2 with h2 | h2
          · exact .inl (.inr ⟨j,h1,h2,h3,h4⟩)
          · subst h2
            right
            have e : id = (S j).nx := by omega
            rw [e];exact Nat.beq_refl _
      · rintro ((h | ⟨j,h1,h2,h3,h4⟩) | h)
        · exact .inl h
        · exact .inr ⟨j,h1,(hdone j).2 (.inl h2),h3,h4⟩
        · have := Nat.eq_of_beq_eq_true h
          exact .inr ⟨i,hi,(hdone i).2 (.inr rfl),by omega,by omega⟩
    obtain ⟨hR2,hv⟩ := hR.newAt hfree hlt h2 (abnmd_mono lvmono hn)
    unfold Oper.wp
    rw [h1]
    have hb : LesB (look AB.dead (S (i + 1)).heap (S i).nx) b := by
      have := heq.heap (S i).nx
      rw [put_heap'] at this
      have e1 : look AB.dead ((S i).hnew b).heap (S i).nx = b := look_self _ _ _ _
      rw [e1] at this
      exact this
    refine ⟨_,((S i).nx,b) :: hpp,G.at (S i).nx v (lnB b) (szB b),?_,J1 (refB b (S i).nx) (putSelf _ _ rfl),J2 _,fun id hid => ?_⟩
    · rw [hlv']
      refine hR2.put (h 0).dst hv ?_
      cases b with
      | dead => rfl
      | box cs e => simp [refB,AV.nmd]
      | row sz rows e => simp [refB,AV.nmd]
    · rw [hlv'] at hid
      by_cases e : (S i).nx = id
      · subst e
        refine ⟨i + 1,by omega,by omega,by rw [look_cons,if_pos rfl];exact hb,fun j hj hlt2 => ?_,fun j hj hge2 => ?_,.inr ⟨i,rfl,(hdone i).2 (.inr rfl),.inr (Nat.le_refl _)⟩⟩
        · have := (newW_at hN hj).1;omega
        · rw [upd_ne (by omega)]
          cases hdj : d j with
          | false => rfl
          | true =>
            have := (reachT hT (newW_at hN hj).2).done' hcl hdj
            rw [hd0] at this
            cases this
      · rw [Bool.or_eq_true] at hid
        obtain ⟨p,p1,p2,p3,p4,p5,p6⟩ := keep id (noW_at hW id) (hid.resolve_right fun h => e (Nat.eq_of_beq_eq_true h).symm)
        exact ⟨p,p1,p2,by rw [look_cons,if_neg e];exact p3,p4,p5,p6⟩
  | @write id b x L hLL hw hv hm hu h hb hn =>
    rw [if_pos (hwant hw)]
    have hnx : (S (i + 1)).nx = (S i).nx := by rw [heq.nx,put_nx];rfl
    have hv1 : vis T (S 0).nx i (C i) id = true := by unfold visW at hv;rw [Bool.and_eq_true] at hv;exact hv.1
    have hv2 : okW T W i id = true := by unfold visW at hv;rw [Bool.and_eq_true] at hv;exact hv.2
    -- the blocks that the operation looks at,as the text has them
    let hp2 : List (Nat × AB) := L.map (fun j => (j,look .dead (S i).heap j)) ++ hpp
    have hlk : ∀ j,(j ∈ L ∧ look AB.dead hp2 j = look .dead (S i).heap j) ∨ (look AB.dead hp2 j = look .dead hpp j) := by
      intro j
      show (_ ∧ look AB.dead (L.map (fun j => (j,look .dead (S i).heap j)) ++ hpp) j = _) ∨ look AB.dead (L.map (fun j => (j,look .dead (S i).heap j)) ++ hpp) j = _
      rw [look_append]
      clear hLL h
      induction L with
      | nil => exact .inr rfl
      | cons c L ih =>
        rw [List.map_cons,look_cons]
        by_cases e : c = j
        · subst e;rw [if_pos rfl];exact .inl ⟨by simp,rfl⟩
        · rw [if_neg e]
          exact ih.imp (fun ⟨g1,g2⟩ => ⟨List.mem_cons_of_mem _ g1,g2⟩) (fun g => g)
    have hlkL : ∀ j ∈ L,look AB.dead hp2 j = look .dead (S i).heap j := by
      intro j hj
      show look AB.dead (L.map (fun j => (j,look .dead (S i).heap j)) ++ hpp) j = _
      rw [look_append]
      clear hLL h hlk
      induction L with
      | nil => cases hj
      | cons c L ih =>
        rw [List.map_cons,look_cons]
        by_cases e : c = j
        · subst e;rw [if_pos rfl]
        · rw [if_neg e]
          exact ih ((List.mem_cons.1 hj).resolve_left fun e' => e e'.symm)
    have hRP : RelP K n R hp2 (S m).nx (lvD S m (S 0).nx d) a w G := by
      refine RelP.lesH hR (fun j => ?_) (fun j => ?_) (fun j hj => ?_)
      · rcases hlk j with ⟨g1,g2⟩ | g2
        · rw [g2];exact hcont j (hLL j g1).1
        · rw [g2];exact .refl _
      · rcases hlk j with ⟨g1,g2⟩ | g2
        · rw [g2];exact abnmd_mono lvmono (hLL j g1).2
        · rw [g2];exact hR.bnm j
      · rcases hlk j with ⟨g1,g2⟩ | g2
        · have := (hLL j g1).1
          unfold visW at this
          rw [Bool.and_eq_true] at this
          rw [lvmono j this.1] at hj
          cases hj
        · rw [g2];exact (hR.free j hj).1
    have hRG : RelG ⟨K.w0,w,G⟩ n ⟨lregs l.toArray (S i) o,hp2,(S m).nx⟩ a w G := by
      have r := RelP.rel' hRP (st := ⟨lregs l.toArray (S i) o,hp2,(S m).nx⟩) hregs (fun _ => .refl _) rfl
      exact ⟨r.nx,r.hr,Ext.refl _ _,r.size,r.defers,r.regs⟩
    have hop' := h hp2 (S m).nx hlkL
    obtain ⟨v,w',G',h1,h2,h3,h4,h5,h6⟩ := hop'.out _ a w G hRG
    have hxm : x.nmd (lvD S m (S 0).nx d) = true := nmd_mono lvmono _ hn
    have hbm : b.nmd (lvD S m (S 0).nx d) = true := abnmd_mono lvmono hb
    have hRP2 : RelP K n (updR R o.dst x) ((id,b) :: hpp) (S m).nx (lvD S m (S 0).nx d) (a.put o.dst v) w' G' := by
      have hHR : HR K.w0 w' G' ((id,b) :: hpp) := by
        refine ⟨h2.bs,h2.below,h2.ownlt,fun j => ?_,h2.dist,h2.ownhas⟩
        rw [look_cons]
        split
        · rename_i e
          subst e
          have := h2.blk id
          rw [look_self] at this
          exact this
        · rename_i e
          obtain ⟨g1,g2,g3⟩ := h5 j (Ne.symm e)
          exact (hR.hr.blk j).step h3 fun hj => ⟨g1,g2,g3 hj⟩
      have base : RelP K n R ((id,b) :: hpp) (S m).nx (lvD S m (S 0).nx d) a w' G' := by
        refine ⟨h4.trans hR.nx,hHR,hR.ext.trans h3,hR.size,hR.defers,fun t => (hR.regs t).ext h3,hR.rnm,fun j => ?_,fun j hj => ?_,hR.old⟩
        · rw [look_cons]
          split
          · exact hbm
          · exact hR.bnm j
        · have hne : id ≠ j := fun e => by subst e;rw [lvmono _ hv1] at hj;cases hj
          rw [look_cons,if_neg hne]
          obtain ⟨g1,g2⟩ := hR.free j hj
          exact ⟨g1,fun hlt => by rw [(h5 j (Ne.symm hne)).1];exact g2 hlt⟩
      exact base.put hop'.dst h6 hxm
    have fin : InvG K n l W S m (S 0).nx (upd d i) (a.put o.dst v) w' := by
      refine ⟨_,(id,b) :: hpp,G',by rw [lvSame hnx];exact hRP2,J1 x (putSelf _ x rfl),J2 x,fun id' hid' => ?_⟩
      rw [lvSame hnx] at hid'
      by_cases e : id = id'
      · subst e
        refine ⟨i + 1,by omega,by have := (hvis id hv1).2;omega,?_,fun j hj hlt2 => ?_,fun j hj hge2 => ?_,.inr ⟨i,rfl,(hdone i).2 (.inr rfl),.inl hm⟩⟩
        · rw [look_cons,if_pos rfl]
          have := heq.heap id
          rw [put_heap'] at this
          have e1 : look AB.dead ((S i).hset id b).heap id = b := look_self _ _ _ _
          rw [e1] at this
          exact this
        · rcases Nat.lt_or_ge j i with g | g
          · exact (hdone j).2 (.inl ((reachT hT ((okW_at hv2 hj).1 g)).done hcl ho hdep))
          · exact (hdone j).2 (.inr (by omega))
        · rw [upd_ne (by omega)]
          cases hdj : d j with
          | false => rfl
          | true =>
            have := (reachT hT ((okW_at hv2 hj).2 (by omega))).done' hcl hdj
            rw [hd0] at this
            cases this
      · obtain ⟨p,p1,p2,p3,p4,p5,p6⟩ := keep id' (fun hj => e (onlyW_at hu hj).symm) hid'
        exact ⟨p,p1,p2,by rw [look_cons,if_neg e];exact p3,p4,p5,p6⟩
    unfold Oper.wp
    rcases h1 with h1 | ⟨h1,hvu⟩
    · rw [h1];exact fin
    · subst hvu;rw [h1];exact fin
  | @op st2 L hp0 hw h hd hn hN hv hs ht hr hx hW hu hM =>
    rw [if_pos (hwant hw)]
    have hnx : (S (i + 1)).nx = st2.nx := by rw [heq.nx,put_nx]
    have hge : (S 0).nx ≤ (S i).nx := nxM i (by omega) 0 (Nat.zero_le _)
    have hvis1 : ∀ id ∈ L,vis T (S 0).nx i (C i) id = true := fun id hid => by
      have := (hv id hid).2
      unfold visW at this
      rw [Bool.and_eq_true] at this
      exact this.1
    have hlvL : ∀ id,hasN L id = true → lvD S m (S 0).nx d id = true := fun id hid => lvmono id (hvis1 id (hasN_mem hid))
    have hdis : ∀ id,lvD S m (S 0).nx d id = true → newN (S i).nx st2.nx id = false := fun id hlv => by
      rw [Bool.eq_false_iff]
      intro hnw
      have hnw := newN_iff.1 hnw
      rcases lvD_iff.1 hlv with h | ⟨j,g1,g2,g3,g4⟩
      · omega
      · rcases Nat.lt_trichotomy j i with hlt | e | hlt
        · have := nxM i (by omega) (j + 1) (by omega);omega
        · subst e;rw [hd0] at g2;cases g2
        · have := nxM j (by omega) (i + 1) (by omega);omega
    have hlv' : ∀ id,lvD S m (S 0).nx (upd d i) id = true ↔ lvD S m (S 0).nx d id = true ∨ newN (S i).nx st2.nx id = true := fun id => by
      rw [lvD_iff,lvD_iff,newN_iff]
      constructor
      · rintro (h | ⟨j,h1,h2,h3,h4⟩)
        · exact .inl (.inl h)
        · rcases (hdone j).1 h2 with h2 | h2
          · exact .inl (.inr ⟨j,h1,h2,h3,h4⟩)
          · subst h2;right;omega
      · rintro ((h | ⟨j,h1,h2,h3,h4⟩) | h)
        · exact .inl h
        · exact .inr ⟨j,h1,(hdone j).2 (.inl h2),h3,h4⟩
        · exact .inr ⟨i,hi,(hdone i).2 (.inr rfl),by omega,by omega⟩
    have lvUp : ∀ id,lvD S m (S 0).nx d id = true → lvD S m (S 0).nx (upd d i) id = true := fun id h => (hlv' id).2 (.inl h)
    have hqL : ∀ id,orN (hasN L) (S i).nx st2.nx id = true → lvD S m (S 0).nx (upd d i) id = true := fun id hid => by
      rcases orN_iff.1 hid with h | h
      · exact lvUp id (hlvL id h)
      · exact (hlv' id).2 (.inr (newN_iff.2 h))
    have hRP : RelP K n R (onL L (look .dead hp0) hpp) (S m).nx (lvD S m (S 0).nx d) a w G := by
      refine RelP.lesH hR (fun j => ?_) (fun j => ?_) (fun j hj => ?_)
      · by_cases e : j ∈ L
        · rw [onL_in e]
          rcases hs j with h' | ⟨_,h',_⟩
          · rw [h'];exact .dead _
          · rw [h'];exact hcont j (hv j e).2
        · rw [onL_out e];exact .refl _
      · by_cases e : j ∈ L
        · rw [onL_in e]
          rcases hs j with h' | ⟨_,_,h'⟩
          · rw [h'];rfl
          · exact abnmd_mono hlvL h'
        · rw [onL_out e];exact hR.bnm j
      · by_cases e : j ∈ L
        · rw [lvmono j (hvis1 j e)] at hj;cases hj
        · rw [onL_out e];exact (hR.free j hj).1
    have hmi : st2.nx ≤ (S m).nx := by rw [← hnx];exact nxM m (Nat.le_refl _) (i + 1) (by omega)
    refine OpY.run (Hp := onL L (look .dead hp0) hpp) (p := hasN L) (k2 := st2.nx) h hd (fun id hid => (hv id (hasN_mem hid)).1) rfl (fun id => ?_) (fun id => ?_) hr hx hRP.hr (by rw [hR.nx];exact hmi) hR.size hR.defers (fun t => (hregs t).rel (hR.regs t)) (fun v w' G' ho hvv => ?_)
    · rcases hs id with h' | ⟨h1,h2,h3⟩
      · exact .inl h'
      · exact .inr ⟨hasN_of' h1,by rw [onL_in h1],h3⟩
    · exact ht id
    have memLL : ∀ j,j ∈ L ++ news (S i).nx st2.nx ↔ orN (hasN L) (S i).nx st2.nx j = true := fun j => by
      rw [List.mem_append,orN_iff,news_mem]
      constructor
      · rintro (h | h)
        · exact .inl (hasN_of' h)
        · exact .inr h
      · rintro (h | h)
        · exact .inl (hasN_mem h)
        · exact .inr h
    have hno : ∀ j,j ∉ L ++ news (S i).nx st2.nx → orN (hasN L) (S i).nx st2.nx j = false := fun j hj => by
      rw [Bool.eq_false_iff]
      intro h'
      exact hj ((memLL j).2 h')
    have hmv : Mv (lvD S m (S 0).nx d) w G w (patch G G' (newN (S i).nx st2.nx)) := patch_mv hdis
    have hextP : Ext K.w1 K.G1 w (patch G G' (newN (S i).nx st2.nx)) := by
      refine ⟨hR.ext.size,hR.ext.keep,hR.ext.own2,hR.ext.nx,hR.ext.bs,fun id hid => ?_⟩
      have hn' : ¬ (newN (S i).nx st2.nx id = true) := by rw [hdis id (hR.old id hid)];decide
      have e1 : (patch G G' (newN (S i).nx st2.nx)).ρ id = G.ρ id := if_neg hn'
      have e2 : (patch G G' (newN (S i).nx st2.nx)).ln id = G.ln id := if_neg hn'
      have e3 : (patch G G' (newN (S i).nx st2.nx)).sz id = G.sz id := if_neg hn'
      rw [e1,e2,e3]
      exact hR.ext.gh id hid
    have hRP2 : RelP K n (updR R o.dst (dstV st2 o.dst)) (onL (L ++ news (S i).nx st2.nx) (look .dead st2.heap) hpp) (S m).nx (lvD S m (S 0).nx (upd d i)) (a.put o.dst v) w' G' := by
      have hHR : HR K.w0 w' G' (onL (L ++ news (S i).nx st2.nx) (look .dead st2.heap) hpp) := by
        refine ⟨ho.hr.bs,ho.hr.below,ho.hr.ownlt,fun j => ?_,ho.hr.dist,ho.hr.ownhas⟩
        by_cases e : j ∈ L ++ news (S i).nx st2.nx
        · rw [onL_in e];exact ho.hr.blk j
        · rw [onL_out e]
          cases hlj : lvD S m (S 0).nx d j with
          | false => rw [(hR.free j hlj).1];trivial
          | true =>
            obtain ⟨g1,g2,g3⟩ := ho.same j (hno j e)
            have hn' : ¬ (newN (S i).nx st2.nx j = true) := by rw [hdis j hlj];decide
            have e1 : (patch G G' (newN (S i).nx st2.nx)).ρ j = G.ρ j := if_neg hn'
            have e2 : (patch G G' (newN (S i).nx st2.nx)).ln j = G.ln j := if_neg hn'
            exact ((hR.hr.blk j).mv hmv (hR.bnm j) (.inr hlj) (fun g _ => rfl)).step ho.ext fun hj => ⟨by rw [e1];exact g1,by rw [e2];exact g2,by rw [e1];exact g3 hj⟩
      have base : RelP K n R (onL (L ++ news (S i).nx st2.nx) (look .dead st2.heap) hpp) (S m).nx (lvD S m (S 0).nx (upd d i)) a w' G' := by
        refine ⟨ho.nx.trans hR.nx,hHR,hextP.trans ho.ext,hR.size,hR.defers,fun t => ((hR.regs t).mv hmv (hR.rnm t)).ext ho.ext,fun t => nmd_mono lvUp _ (hR.rnm t),fun j => ?_,fun j hj => ?_,fun j hj => lvUp j (hR.old j hj)⟩
        · by_cases e : j ∈ L ++ news (S i).nx st2.nx
          · rw [onL_in e]
            rcases ht j with h' | ⟨_,h'⟩
            · rw [h'];rfl
            · exact abnmd_mono hqL (pfB_nmd h')
          · rw [onL_out e];exact abnmd_mono lvUp (hR.bnm j)
        · have e : j ∉ L ++ news (S i).nx st2.nx := fun e => by rw [hqL j ((memLL j).1 e)] at hj;cases hj
          have hj' : lvD S m (S 0).nx d j = false := by
            rw [Bool.eq_false_iff]
            intro h'
            rw [lvUp j h'] at hj;cases hj
          rw [onL_out e]
          obtain ⟨g1,g2⟩ := hR.free j hj'
          exact ⟨g1,fun hlt => by rw [(ho.same j (hno j e)).1];exact g2 hlt⟩
      exact base.put hd hvv (nmd_mono hqL _ (pf_nmd _ hx))
    refine ⟨_,onL (L ++ news (S i).nx st2.nx) (look .dead st2.heap) hpp,G',hRP2,J1 (dstV st2 o.dst) (putSelf _ _ rfl),J2 _,fun id' hid' => ?_⟩
    have hheap : ∀ id',id' ∈ L ++ news (S i).nx st2.nx → LesB (look AB.dead (S (i + 1)).heap id') (look .dead (onL (L ++ news (S i).nx st2.nx) (look .dead st2.heap) hpp) id') := fun id' e => by
      rw [onL_in e]
      have := heq.heap id'
      rw [put_heap'] at this
      have e1 : look AB.dead (onL (L ++ news (S i).nx st2.nx) (look .dead st2.heap) (S i).heap) id' = look .dead st2.heap id' := onL_in e
      exact e1 ▸ this
    by_cases hw' : (i,id') ∈ W
    · have e := hW id' hw'
      have hv2 : okW T W i id' = true := by
        have := (hv id' e).2
        unfold visW at this;rw [Bool.and_eq_true] at this;exact this.2
      refine ⟨i + 1,by omega,by have := (hv id' e).1;omega,hheap id' (List.mem_append.2 (.inl e)),fun j hj hlt2 => ?_,fun j hj hge2 => ?_,.inr ⟨i,rfl,(hdone i).2 (.inr rfl),.inl hw'⟩⟩
      · rcases Nat.lt_or_ge j i with g | g
        · exact (hdone j).2 (.inl ((reachT hT ((okW_at hv2 hj).1 g)).done hcl ho0 hdep))
        · exact (hdone j).2 (.inr (by omega))
      · rw [upd_ne (by omega)]
        cases hdj : d j with
        | false => rfl
        | true =>
          have := (reachT hT ((okW_at hv2 hj).2 (by omega))).done' hcl hdj
          rw [hd0] at this
          cases this
    · rcases (hlv' id').1 hid' with hid2 | hnw
      · obtain ⟨p,p1,p2,p3,p4,p5,p6⟩ := I3 id' hid2
        obtain ⟨p',q1,q2,q3,q4,q5,q6⟩ := keep id' hw' hid2
        by_cases e : id' ∈ L
        · refine ⟨p,p1,p2,?_,fun j hj hlt => ?_,fun j hj hge => ?_,p6.imp (fun h => h) fun ⟨q,e,hq,hw⟩ => ⟨q,e,by simp [upd,hq],hw⟩⟩
          · rw [onL_in (List.mem_append.2 (.inl e)),(hu id' e).resolve_left hw',hver id' (hv id' e).2 p p1 p2 p5 p6]
            exact .refl _
          · rw [upd_ne (fun e => hw' (by rw [← e];exact hj))];exact p4 j hj hlt
          · rw [upd_ne (fun e => hw' (by rw [← e];exact hj))];exact p5 j hj hge
        · have e2 : id' ∉ L ++ news (S i).nx st2.nx := fun h' => by
            rcases List.mem_append.1 h' with h' | h'
            · exact e h'
            · have := hdis id' hid2
              rw [newN_iff.2 (news_mem.1 h')] at this
              cases this
          exact ⟨p',q1,q2,by rw [onL_out e2];exact q3,q4,q5,q6⟩
      · have hnw2 := newN_iff.1 hnw
        have hNi := hN id' hnw2.1 hnw2.2
        refine ⟨i + 1,by omega,by omega,hheap id' (List.mem_append.2 (.inr (news_mem.2 hnw2))),fun j hj hlt2 => ?_,fun j hj hge2 => ?_,.inr ⟨i,rfl,(hdone i).2 (.inr rfl),.inr hnw2.1⟩⟩
        · have := (newW_at hNi hj).1;omega
        · rw [upd_ne (by omega)]
          cases hdj : d j with
          | false => rfl
          | true =>
            have := (reachT hT (newW_at hNi hj).2).done' hcl hdj
            rw [hd0] at this
            cases this
theorem AG.last (hp : ∀ i o,l[i]? = some o → PlanR l n i o) (hml : m ≤ l.length)
    (hC0 : C 0 = []) (hL : ∀ j o,j < m → l[j]? = some o → ∃ s',Loc P n l.toArray T W M (S 0).nx j (C j) o (S j) s' (C (j + 1)) ∧ LeS (S (j + 1)) s') (hdead : ∀ id,(S 0).nx ≤ id → look .dead (S 0).heap id = .dead)
    {K : Kn} {d : Nat → Bool} {a : Act} {w : World} (hall : ∀ i,i < m → d i = true) (h : InvG K n l W S m (S 0).nx d a w) : ∃ G,RelG K n (S m) a w G := by
  obtain ⟨R,hpp,G,hR,I1,I2,I3⟩ := h
  have hop : ∀ j,j < m → ∃ o,l[j]? = some o := fun j hj => ⟨l[j],List.getElem?_eq_getElem (by omega)⟩
  have regM : ∀ t q,q ≤ m → ∀ p,p ≤ q → (∀ j o,p ≤ j → j < q → l[j]? = some o → o.dst ≠ some t) → Les (look AV.any (S q).regs t) (look .any (S p).regs t) := by
    intro t q
    induction q with
    | zero => intro _ p hp _;obtain rfl : p = 0 := (by omega);exact .refl _
    | succ q ih =>
      intro hq p hp hno
      rcases Nat.lt_or_ge p (q + 1) with h | h
      · obtain ⟨o,ho⟩ := hop q (by omega)
        obtain ⟨s',h1,h2⟩ := hL q o (by omega) ho
        have e1 := h2.regs t
        rw [h1.regs (hno q o (by omega) (by omega) ho)] at e1
        exact e1.trans (ih (by omega) p (by omega) fun j o hj1 hj2 => hno j o hj1 (by omega))
      · obtain rfl : p = q + 1 := by omega
        exact .refl _
  have heapM : ∀ id q,q ≤ m → ∀ p,p ≤ q → (∀ j,p ≤ j → j < q → (id < (S j).nx ∨ (S (j + 1)).nx ≤ id) ∧ (j,id) ∉ W) → LesB (look AB.dead (S q).heap id) (look .dead (S p).heap id) := by
    intro id q
    induction q with
    | zero => intro _ p hp _;obtain rfl : p = 0 := (by omega);exact .refl _
    | succ q ih =>
      intro hq p hp hno
      rcases Nat.lt_or_ge p (q + 1) with h | h
      · obtain ⟨o,ho⟩ := hop q (by omega)
        obtain ⟨s',h1,h2⟩ := hL q o (by omega) ho
        obtain ⟨g1,g2⟩ := hno q (by omega) (by omega)
        refine (h2.heap id).trans ?_
        have e1 : look AB.dead s'.heap id = look .dead (S q).heap id := h1.heap (by rw [← h2.nx];exact g1) g2
        rw [e1]
        exact ih (by omega) p (by omega) fun j j1 j2 => hno j j1 (by omega)
      · obtain rfl : p = q + 1 := by omega
        exact .refl _
  have nxM : ∀ q,q ≤ m → ∀ p,p ≤ q → (S p).nx ≤ (S q).nx := by
    intro q
    induction q with
    | zero => intro _ p hp;obtain rfl : p = 0 := (by omega);exact Nat.le_refl _
    | succ q ih =>
      intro hq p hp
      rcases Nat.lt_or_ge p (q + 1) with h | h
      · obtain ⟨o,ho⟩ := hop q (by omega)
        obtain ⟨s',h1,h2⟩ := hL q o (by omega) ho
        have := h1.nx_le
        have := h2.nx
        have := ih (by omega) p (by omega)
        omega
      · obtain rfl : p = q + 1 := by omega
        exact Nat.le_refl _
  have crM : ∀ q,q ≤ m → ∀ c ∈ C q,c.1 < q ∧ (S c.1).nx ≤ c.2 ∧ c.2 < (S (c.1 + 1)).nx := by
    intro q
    induction q with
    | zero => intro _ c hc;rw [hC0] at hc;cases hc
    | succ q ih =>
      intro hq c hc
      obtain ⟨o,ho⟩ := hop q (by omega)
      obtain ⟨s',h1,h2⟩ := hL q o (by omega) ho
      rcases h1.crm c hc with h | ⟨h,h',h''⟩
      · obtain ⟨g1,g2⟩ := ih (by omega) c h
        exact ⟨by omega,g2⟩
      · rw [h]
        exact ⟨by omega,h',by rw [h2.nx];exact h''⟩
  refine ⟨G,RelP.rel' hR (fun t => ?_) (fun id => ?_) rfl⟩
  · by_cases hw : ∃ (j : Nat) (o' : Oper),j < m ∧ l[j]? = some o' ∧ o'.dst = some t
    · obtain ⟨j,o',hj,ho',hdst⟩ := hw
      exact (regM t m (Nat.le_refl _) (j + 1) (by omega) fun j2 o2 h1 h2 ho2 => (hp j2 o2 ho2).one j o' t ho' hdst (by omega)).trans (I1 j o' t hj ho' (hall j hj) hdst)
    · exact (regM t m (Nat.le_refl _) 0 (Nat.zero_le _) fun j o' _ hj ho' hdst => hw ⟨j,o',hj,ho',hdst⟩).trans (I2 t fun j o' hj ho' _ hdst => hw ⟨j,o',hj,ho',hdst⟩)
  · cases hlv : lvD S m (S 0).nx d id with
    | true =>
      obtain ⟨p,p1,p2,p3,p4,p5,_⟩ := I3 id hlv
      exact (heapM id m (Nat.le_refl _) p p1 fun j j1 j2 => ⟨.inl (by have := nxM j (by omega) p j1;omega),fun hj => by have := p5 j hj j1;rw [hall j j2] at this;cases this⟩).trans p3
    | false =>
      have hno : ¬ (id < (S 0).nx ∨ ∃ j,j < m ∧ d j = true ∧ (S j).nx ≤ id ∧ id < (S (j + 1)).nx) := fun h => by rw [lvD_iff.2 h] at hlv;cases hlv
      have hnl : ∀ j,j < m → (S j).nx ≤ id → id < (S (j + 1)).nx → False := fun j hj e h => hno (.inr ⟨j,hj,hall j hj,e,h⟩)
      have hdd : look AB.dead (S 0).heap id = .dead := hdead id (by omega)
      have hz : ∀ q,q ≤ m → LesB (look AB.dead (S q).heap id) .dead := by
        intro q
        induction q with
        | zero => intro _;rw [hdd];exact .refl _
        | succ q ih =>
          intro hq
          obtain ⟨o,ho⟩ := hop q (by omega)
          obtain ⟨s',h1,h2⟩ := hL q o (by omega) ho
          refine (h2.heap id).trans ?_
          rcases h1.heap2 id with g | ⟨g1,g2⟩ | g
          · rw [g];exact ih (by omega)
          · exact (hnl q (by omega) g1 (by rw [h2.nx];exact g2)).elim
          · unfold vis at g
            rw [Bool.or_eq_true,List.any_eq_true] at g
            rcases g with g | ⟨c,hc,g⟩
            · exact absurd (.inl (by simpa using g)) hno
            · rw [Bool.and_eq_true] at g
              obtain ⟨c1,c2,c3⟩ := crM q (by omega) c hc
              have e := Nat.eq_of_beq_eq_true g.1
              exact (hnl c.1 (by omega) (by rw [← e];exact c2) (by rw [← e];exact c3)).elim
      exact (hz m (Nat.le_refl _)).trans (.dead _)
end
/-- a region that draws: its operations in any order,and what lies wholly behind them -/
theorem AW.drawR {P : Program} {n : Nat} {Q : Exit → ASt → Prop} {st : ASt} {id : Nat} {l : List Oper} {T : List (List Nat)} (W : List (Nat × Nat)) (M : List (Nat × AB)) (m : Nat) (hm : P.follows .mixedOrders = true) (hT : ancs l [] = T) (hk : planR l T = true) (htl : tailR l T m = true) (hM0 : ∀ id,st.nx ≤ id → look .dead M id = .dead) (hM1 : ∀ id,LesB (look .dead M id) (look .dead st.heap id))
    (h : AG P n l.toArray T W M st.nx (fun s => AL P n l.toArray Q (l.drop m) s) 0 [] (l.take m) st) : AW P n (.region id l.toArray true) Q st := .mk fun K a w ⟨G,r⟩ => by
  have hT' : AncOk l T := by
    rw [← hT]
    exact ancs_ok l [] (fun i A hA => by simp at hA) rfl
  have hpl := planR_at n hT' hk
  obtain ⟨S,C,e0',hC0,hK,hS⟩ := h.facts
  have e0 := eqv_les e0'
  have hm' : (l.take m).length = min m l.length := by simp
  have r2 : RelG K n (S 0) a w.drew G := (r.same (below_drew' w)).les e0
  have hE : ∀ j o,j < (l.take m).length → l[j]? = some o → ∃ s',Loc P n l.toArray T W M (S 0).nx j (C j) o (S j) s' (C (j + 1)) ∧ Eqv s' (S (j + 1)) := by
    intro j o hj ho
    have := hS j o (by rw [List.getElem?_take,if_pos (by omega)];exact ho)
    rw [Nat.zero_add,← e0.nx] at this
    exact this
  have hL : ∀ j o,j < (l.take m).length → l[j]? = some o → ∃ s',Loc P n l.toArray T W M (S 0).nx j (C j) o (S j) s' (C (j + 1)) ∧ LeS (S (j + 1)) s' := fun j o hj ho => by
    obtain ⟨s',h1,h2⟩ := hE j o hj ho
    exact ⟨s',h1,eqv_les h2⟩
  have hM0' : ∀ id,(S 0).nx ≤ id → look .dead M id = .dead := fun id hid => hM0 id (by rw [← e0.nx];exact hid)
  have hM1' : ∀ id,LesB (look .dead M id) (look .dead (S 0).heap id) := fun id => by rw [← e0'.heap id];exact hM1 id
  have hdead : ∀ id,(S 0).nx ≤ id → look .dead (S 0).heap id = .dead := by
    intro id hid
    have hkk := r2.hr.blk id
    have hn := r2.nx
    cases hb : look AB.dead (S 0).heap id with
    | dead => rfl
    | box cs e => rw [hb] at hkk;have := hkk.1;omega
    | row sz rows e => rw [hb] at hkk;have := hkk.1;omega
  have hnxM : (S 0).nx ≤ (S (l.take m).length).nx := by
    have : ∀ q,q ≤ (l.take m).length → (S 0).nx ≤ (S q).nx := by
      intro q
      induction q with
      | zero => intro _;exact Nat.le_refl _
      | succ q ih =>
        intro hq
        have hql : q < l.length := by omega
        obtain ⟨s',g1,g2⟩ := hL q l[q] (by omega) (List.getElem?_eq_getElem hql)
        have := g1.nx_le
        have := g2.nx
        have := ih (by omega)
        omega
    exact this _ (Nat.le_refl _)
  have hdr : l.drop (l.take m).length = l.drop m := by
    rw [hm']
    rcases Nat.lt_or_ge m l.length with h | h
    · rw [Nat.min_eq_left (by omega)]
    · rw [Nat.min_eq_right h,List.drop_length,List.drop_eq_nil_of_le h]
  refine wp_region_inv (Inv := InvG K n l W S (l.take m).length (S 0).nx) hm (fun i o ho => (hpl i o (by simpa using ho)).after) (l.take m).length (by omega) ?_ (fun i o d a w hi ho hd0 hcl hdep hI => AG.step' hpl hT' (by omega) hC0 hE hM0' hM1' hi ho hd0 hcl hdep hI) (fun d a w hall hI => ?_) (fun i hi hil j hj => ?_)
  · obtain ⟨G',hR⟩ := r2.reserve (Nat.le_trans r.ext.size (below_drew' w).size) (S (l.take m).length).nx hnxM
    have hlv : lvD S (l.take m).length (S 0).nx (fun _ => false) = fun id => Nat.blt id (S 0).nx := by
      funext id
      rw [Bool.eq_iff_iff,lvD_iff]
      constructor
      · rintro (h | ⟨j,_,h,_⟩)
        · simpa using h
        · cases h
      · intro h;exact .inl (by simpa using h)
    refine ⟨_,_,G',by rw [hlv];exact hR,fun j o t _ _ h => absurd h (by simp),fun t _ => .refl _,fun id hid => ?_⟩
    rw [hlv] at hid
    have hid : id < (S 0).nx := by simpa using hid
    exact ⟨0,Nat.zero_le _,hid,.refl _,fun j _ h => absurd h (Nat.not_lt_zero _),fun _ _ _ => rfl,.inl rfl⟩
  · obtain ⟨G',hr⟩ := AG.last hpl (by omega) hC0 hL hdead hall hI
    rw [hdr]
    exact AL.out hK K a w ⟨G',hr⟩
  · have hge : m ≤ i := by rw [hm'] at hi;omega
    have := List.all_eq_true.1 htl i (List.mem_range.2 hil)
    rw [Bool.or_eq_true] at this
    rcases this with h | h
    · have h : i < m := by simpa using h
      omega
    · exact reachT hT' (List.all_eq_true.1 h j (List.mem_range.2 hj))
end Go.Proofs.Ytelpkjellakigaa.Rn
/- A run of the abstract machine by one computed function,with regions that draw as RnR has them. No program in sight. -/
namespace Go.Proofs.Ytelpkjellakigaa.Rn
open Go Go.RowKit Go.Proofs.Ytelpkjellakigaa Go.Proofs.Ytelpkjellakigaa.Dr

/-! ### Equal values,equal blocks -/
def strE (s t : ByteArray) : Bool := decide (s.data.toList = t.data.toList)
theorem strE_eq {s t : ByteArray} (h : strE s t = true) : s = t := by
  have := of_decide_eq_true h
  obtain ⟨⟨a⟩⟩ := s
  obtain ⟨⟨b⟩⟩ := t
  have this : a = b := this
  rw [this]
def avE : AV → AV → Bool
  | .any,.any => true
  | .und,.und => true
  | .int k n,.int k' n' => decide (k = k') && decide (n = n')
  | .bool b,.bool b' => b == b'
  | .str s,.str s' => strE s s'
  | .nilp,.nilp => true
  | .nils,.nils => true
  | .nilf,.nilf => true
  | .box i o,.box i' o' => Nat.beq i i' && Nat.beq o o'
  | .elt i n j o,.elt i' n' j' o' => Nat.beq i i' && Nat.beq n n' && Nat.beq j j' && Nat.beq o o'
  | .osl i n,.osl i' n' => Nat.beq i i' && Nat.beq n n'
  | .vsl i n l k,.vsl i' n' l' k' => Nat.beq i i' && Nat.beq n n' && Nat.beq l l' && Nat.beq k k'
  | .agg cs,.agg cs' => go cs cs'
  | .tup cs,.tup cs' => go cs cs'
  | .fn f cs,.fn f' cs' => Nat.beq f f' && go cs cs'
  | _,_ => false
where go : List AV → List AV → Bool
  | [],[] => true
  | a :: l,b :: m => avE a b && go l m
  | _,_ => false
theorem avE_eq : ∀ (a b : AV),avE a b = true → a = b
  | .any,b,h => by cases b <;> first | rfl | (simp [avE] at h)
  | .und,b,h => by cases b <;> first | rfl | (simp [avE] at h)
  | .nilp,b,h => by cases b <;> first | rfl | (simp [avE] at h)
  | .nils,b,h => by cases b <;> first | rfl | (simp [avE] at h)
  | .nilf,b,h => by cases b <;> first | rfl | (simp [avE] at h)
  | .int k n,b,h => by
    cases b <;> simp [avE] at h
    rw [h.1,h.2]
  | .bool k,b,h => by
    cases b <;> simp [avE] at h
    rw [h]
  | .str s,b,h => by
    cases b <;> simp [avE] at h
    rw [strE_eq h]
  | .box ..,b,h => by
    cases b <;> simp [avE] at h
    rw [h.1,h.2]
  | .elt ..,b,h => by
    cases b <;> simp [avE] at h
    obtain ⟨⟨⟨h1,h2⟩,h3⟩,h4⟩ := h
    rw [h1,h2,h3,h4]
  | .osl ..,b,h => by
    cases b <;> simp [avE] at h
    rw [h.1,h.2]
  | .vsl ..,b,h => by
    cases b <;> simp [avE] at h
    obtain ⟨⟨⟨h1,h2⟩,h3⟩,h4⟩ := h
    rw [h1,h2,h3,h4]
  | .agg cs,b,h => by
    cases b <;> simp [avE] at h
    rw [avE_go cs _ h]
  | .tup cs,b,h => by
    cases b <;> simp [avE] at h
    rw [avE_go cs _ h]
  | .fn f cs,b,h => by
    cases b <;> simp [avE] at h
    rw [h.1,avE_go cs _ h.2]
  | .peek ..,b,h => by cases b <;> simp [avE] at h
  | .ro ..,b,h => by cases b <;> simp [avE] at h
where avE_go : ∀ (l m : List AV),avE.go l m = true → l = m
  | [],[],_ => rfl
  | a :: l,b :: m,h => by
    rw [avE.go,Bool.and_eq_true] at h
    rw [avE_eq a b h.1,avE_go l m h.2]
  | [],_ :: _,h => by simp [avE.go] at h
  | _ :: _,[],h => by simp [avE.go] at h
def rowsE : List (List AV) → List (List AV) → Bool
  | [],[] => true
  | a :: l,b :: m => avE.go a b && rowsE l m
  | _,_ => false
theorem rowsE_eq : ∀ (l m : List (List AV)),rowsE l m = true → l = m
  | [],[],_ => rfl
  | a :: l,b :: m,h => by
    rw [rowsE,Bool.and_eq_true] at h
    rw [avE_eq.avE_go a b h.1,rowsE_eq l m h.2]
  | [],_ :: _,h => by simp [rowsE] at h
  | _ :: _,[],h => by simp [rowsE] at h
def abE : AB → AB → Bool
  | .dead,.dead => true
  | .box cs e,.box cs' e' => Nat.beq e e' && avE.go cs cs'
  | .row sz rows e,.row sz' rows' e' => Nat.beq e e' && Nat.beq sz sz' && rowsE rows rows'
  | _,_ => false
theorem abE_eq {a b : AB} (h : abE a b = true) : a = b := by
  cases a with
  | dead => cases b <;> first | rfl | (simp [abE] at h)
  | box cs e =>
    cases b <;> simp [abE] at h
    rw [h.1,avE_eq.avE_go _ _ h.2]
  | row sz rows e =>
    cases b <;> simp [abE] at h
    rw [h.1.1,h.1.2,rowsE_eq _ _ h.2]
/-! ### The blocks that an operation touches -/
def idsV : AV → List Nat
  | .box id _ | .elt id _ _ _ | .osl id _ | .vsl id _ _ _ => [id]
  | .agg cs | .tup cs | .fn _ cs => go cs
  | _ => []
where go : List AV → List Nat
  | [] => []
  | a :: l => idsV a ++ go l
def idsAB : AB → List Nat
  | .dead => []
  | .box cs _ => idsV.go cs
  | .row _ rows _ => rows.flatMap idsV.go
def clo (h : Nat → AB) : Nat → List Nat → List Nat → List Nat
  | 0,_,d => d
  | _ + 1,[],d => d
  | f + 1,x :: t,d => bif hasN d x then clo h f t d else clo h f (idsAB (h x) ++ t) (x :: d)
end Go.Proofs.Ytelpkjellakigaa.Rn
/- Symbolic walks: strings turned into bytes,rows marked,a string's bytes appended. No program in sight. -/
namespace Go.Proofs.Ytelpkjellakigaa
open Go Go.RowKit Go.Lib
set_option linter.unusedSimpArgs false
set_option linter.unusedSectionVars false
set_option linter.unusedVariables false
/-- the bytes of a string as elements -/
def strRows (s : ByteArray) : List (List AV) := s.data.toList.map fun b => [.int .u8 b.toNat]
theorem strRows_len (s : ByteArray) : (strRows s).length = s.size := by
  rw [strRows,List.length_map,Array.length_toList];rfl
theorem strRows_ok (w : World) (G : Gh) (s : ByteArray) : RowsV w G 1 (strRows s) (strCells s) := by
  refine ⟨by rw [strCells_length,strRows_len,Nat.mul_one],strCells_oneCell s,fun i row hi => ?_⟩
  unfold strRows at hi
  rw [List.getElem?_map] at hi
  cases hb : s.data.toList[i]? with
  | none => rw [hb] at hi;cases hi
  | some b =>
    rw [hb] at hi
    injection hi with hi
    subst hi
    refine ⟨rfl,fun j a hj => ?_⟩
    obtain rfl : j = 0 := by have := (List.getElem?_eq_some_iff.1 hj).1;simp at this;omega
    injection hj with hj
    subst hj
    refine ⟨.int .u8 b.toNat,?_,.dat (.int _ _)⟩
    rw [Nat.mul_one,Nat.add_zero,strCells,List.getElem?_map,hb];rfl
theorem bytesCells_size (w : World) (e : TypeId) (s : ByteArray) : (Lib.bytesCells w e s).size = grownCap w s.size 0 e := by
  have := grownCap_ge w s.size 0 e
  unfold Lib.bytesCells
  rw [Array.size_append,Array.size_map,Array.size_replicate]
  show s.size + _ = _
  omega
section
variable {P : Program} {n : Nat} {st : ASt} {d : Option Nat} {ty : TypeId} {ps : String} {af : Array Edge} {g : Option (Nat × Bool)} {x y : Operand} {t t' : TypeId}
theorem op_conv_str {e : TypeId} {s : ByteArray} {u : TypeDesc} (hx : st.ev x = .str s) (hs : P.underlying t = some u) (hT : P.underlying t' = some (.slice e)) (hE : P.underlying e = some (.int .u8)) (hm : s.size ≤ 1000000) (hd : dok d n = true) :
    OpV P n ⟨d,.convert t t' x,ty,ps,af,g⟩ st ((st.hnew (.row 1 (strRows s) e)).put d (.osl st.nx (strRows s).length)) := .mk fun K a w ⟨G,r⟩ => by
  have e1 := r.ev x
  rw [hx] at e1
  have e1 := e1.str'
  have hr := Lib.run_convert_string_bytes (P := P) w t t' e s hs hT hE
  have hge := grownCap_ge w s.size 0 e
  have hcm : grownCap w s.size 0 e ≤ maxLen := grownCap_le_maxLen w s.size 0 e (by simp only [maxLen];omega)
  have hb : Below w.heap.size w (Lib.bytesWorld w e s) := ⟨rfl,rfl,rfl,by rw [Lib.bytesWorld_size];omega,fun i hi => Lib.bytesWorld_at_old w e s i hi⟩
  have ho : ownsM (Lib.bytesWorld w e s) w.heap.size e 1 (.slice (some ⟨w.heap.size,0,none⟩) s.size (grownCap w s.size 0 e)) s.size (strCells s) := by
    refine ⟨by rw [strCells_length,Nat.mul_one],.inr ⟨w.heap.size,_,_,rfl,Nat.le_refl _,⟨_,.inr (Nat.le_refl _),Lib.bytesWorld_at_new w e s⟩,hge,hcm,by rw [bytesCells_size,Nat.mul_one],?_⟩⟩
    rw [Nat.mul_one]
    unfold Lib.bytesCells
    rw [Array.toList_append,Array.toList_map]
    show (strCells s ++ _).take s.size = strCells s
    rw [← strCells_length s]
    exact List.take_left
  obtain ⟨r2,hv⟩ := r.newRow hb (rows := strRows s) (sz := 1) (e := e) (by omega) (by rw [strRows_len];exact ho) (strRows_ok w G s)
  exact ⟨_,_,.inl (by simp [execOp,e1,hr]),_,r2.put (dok_lt hd) hv⟩
/-- a literal's row is marked -/
theorem op_conv_mark {e : TypeId} {id m sz : Nat} {rows : List (List AV)} {e' : TypeId} (hx : st.ev x = .osl id m) (hb : look .dead st.heap id = .row sz rows e') (hm : m = rows.length) (h0 : 0 < m) (hT : P.underlying t = some (.slice e)) (hE : P.underlying e = some (.int .u8)) (hd : dok d n = true) :
    OpV P n ⟨d,.convert t t x,ty,ps,af,g⟩ st ((st.hset id (.row sz rows e')).put d (.osl id m)) := .mk fun K a w ⟨G,r⟩ => by
  subst hm
  have e1 := r.ev x
  rw [hx] at e1
  have hk := r.hr.blk id
  rw [hb] at hk
  obtain ⟨q1,q2,q3,q4,flat,q5,q6,q7⟩ := hk
  have ev : a.eval x = G.ρ id := by
    cases e1 with
    | dat h => cases h
    | osl _ _ _ _ _ _ _ hh => exact hh q4.symm
  rcases q5.2 with ⟨_,h⟩ | ⟨gg,cap,cur,e2,hbase,hh,hcap,hcm,hcs,hct⟩
  · omega
  have hog : G.own gg := r.hr.ownhas id gg q1 (by rw [e2];rfl)
  have hlt := r.hr.ownlt gg hog
  have hold : ∀ k,k ≠ gg → (w.freeze ⟨gg,cur.size,none⟩ 1).heap[k]? = w.heap[k]? := fun k hk => by
    simp [World.freeze,Array.getElem?_modify,Ne.symm hk]
  have hnew : HasC (w.freeze ⟨gg,cur.size,none⟩ 1) gg cur e' := by
    obtain ⟨fz,f1,f2⟩ := hh
    have hl := (Array.getElem?_eq_some_iff.1 f2).1
    have hv := (Array.getElem?_eq_some_iff.1 f2).2
    obtain ⟨lo,hi⟩ := fz
    refine ⟨if lo == hi then (cur.size,cur.size + 1) else (min lo cur.size,max hi (cur.size + 1)),?_,?_⟩
    · rcases f1 with f1 | f1
      · injection f1 with f1 f3
        subst f1;subst f3
        exact .inr (Nat.le_refl _)
      · simp only at f1
        right
        split
        · exact Nat.le_refl _
        · show cur.size ≤ min lo cur.size
          omega
    · simp [World.freeze,Array.getElem?_modify,f2]
  have hsz : (w.freeze ⟨gg,cur.size,none⟩ 1).heap.size = w.heap.size := by simp [World.freeze]
  have hrun : (convert t t (.slice (some ⟨gg,0,none⟩) rows.length cap)).run P w = .ok (.slice (some ⟨gg,0,none⟩) rows.length cap) (w.freeze ⟨gg,cur.size,none⟩ 1) := by
    have hs := hh.shape
    simp [convert,run_underlying hT,run_underlying hE,markStringish,freeze,hs]
    rfl
  have hbw : Below K.w0.heap.size w (w.freeze ⟨gg,cur.size,none⟩ 1) := ⟨rfl,rfl,rfl,by rw [hsz];exact Nat.le_refl _,fun i hi => hold i (by omega)⟩
  have hx2 : Ext w G (w.freeze ⟨gg,cur.size,none⟩ 1) G := by
    refine ⟨by rw [hsz];exact Nat.le_refl _,fun b hb hl => hold b (fun e => hb (by rw [e];exact hog)),fun b h => .inl h,Nat.le_refl _,rfl,fun j hj => ⟨Nat.le_refl _,rfl,fun _ => rfl,fun _ => rfl⟩⟩
  have hRV : RowsV w G sz rows flat := ⟨q5.1,q6,q7⟩
  have hRV2 := hRV.ext hx2
  have ho : ownsM (w.freeze ⟨gg,cur.size,none⟩ 1) K.w0.heap.size e' sz (G.ρ id) rows.length flat := ⟨q5.1,.inr ⟨gg,cap,cur,e2,hbase,hnew,hcap,hcm,hcs,hct⟩⟩
  have hHR : HR K.w0 (w.freeze ⟨gg,cur.size,none⟩ 1) G ((id,.row sz rows e') :: st.heap) := by
    refine r.hr.update hx2 (fun _ h => h) hbw id _ (fun id' hne hid' => ⟨rfl,rfl,fun g' hg' => hold g' (fun e1 => ?_)⟩) (fun id' h _ => h) (fun b hb => ?_) ⟨q1,q2,q3,q4,flat,ho,hRV2.one,hRV2.rel⟩ (fun id' g' hid' hne hg' => ?_) (fun g' _ hg' => ?_)
    · subst e1
      exact r.hr.dist id' id g' hid' q1 hne hg' (by rw [e2];rfl)
    · rw [hsz];exact r.hr.ownlt b hb
    · intro h2
      exact r.hr.dist id' id g' hid' q1 hne h2 hg'
    · exact r.hr.ownhas id g' q1 hg'
  refine ⟨.slice (some ⟨gg,0,none⟩) rows.length cap,_,.inl ?_,G,(r.turn st.nx r.nx hHR hx2).put (dok_lt hd) ?_⟩
  · simp [execOp,ev,e2,hrun]
  · have := e1.ext hx2
    rw [ev,e2] at this
    exact this
/-! ### a string's bytes appended -/
theorem run_append_room_strM (w : World) (t u ty e : TypeId) (i : TypeInfo) (ht : P.underlying t = some (.slice e)) (hu : P.underlying u = some .string) (hi : P.info? e = some i) (hs1 : i.size = 1)
    (g sLen sCap : Nat) (cur : Array Value) (hg : HasC w g cur e) (s : ByteArray) (hroom : sLen + s.size ≤ sCap) (hfit : sLen + s.size ≤ cur.size) :
    (Builtin.append_ #[t,u] ty #[.slice (some ⟨g,0,none⟩) sLen sCap,.string s]).run P w =
      .ok (.slice (some ⟨g,0,none⟩) (sLen + s.size) sCap) (w.setRow g (cur.toList.take sLen ++ strCells s ++ cur.toList.drop (sLen + s.size)).toArray) := by
  have hf := run_firstCells_string (P := P) w 1 s
  have hst := run_storeCells_M (P := P) g sLen e (strCells s) 0 cur w hg (by simpa [strCells_length] using hfit) (strCells_oneCell s)
  simp only [Nat.add_zero,strCells_length] at hst
  simp [Builtin.append_,run_underlying ht,run_underlying hu,sizeOf,typeInfo,hi,hs1,Builtin.lenOf,hroom,hf,Addr.add_lit,hst]
theorem run_append_str (w : World) (base : Nat) (t u ty e : TypeId) (i : TypeInfo) (z : Value) (ht : P.underlying t = some (.slice e)) (hu : P.underlying u = some .string) (hi : P.info? e = some i) (hz : i.zero = some z)
    (hsize : i.size = 1) (hby : i.bytes = 1) (hzs : z.cells.size = 1) (v : Value) (n : Nat) (xs : List Value) (hown : ownsM w base e 1 v n xs) (s : ByteArray) (hpos : 0 < s.size)
    (h63 : n + s.size ≤ maxLen) (hbytes : n + s.size ≤ 140737488355328) (hbase : base ≤ w.heap.size) :
    ∃ v' w',(Builtin.append_ #[t,u] ty #[v,.string s]).run P w = .ok v' w' ∧ ownsM w' base e 1 v' (n + s.size) (xs ++ strCells s) ∧ w.grownBy w' v.ownBlock ∧ (∀ g,ownBlk v' = some g → ownBlk v = some g ∨ w.heap.size ≤ g) := by
  have hsmall : n + s.size ≤ 9223372036854775807 := by simp only [maxLen] at h63;omega
  have hxl : xs.length = n := by simpa using hown.1
  have hlen : (xs ++ strCells s).length = (n + s.size) * 1 := by rw [List.length_append,hxl,strCells_length,Nat.mul_one]
  have grown : ∀ (old : Nat),old < n + s.size → ∀ (row : Option Nat),
      ownsM (w.drew.alloc (.cells (xs.toArray ++ (strCells s).toArray ++ Builtin.zeroCells z.cells (grownCap w (n + s.size) old e - (n + s.size))) e)) base e 1
        (.slice (some ⟨w.heap.size,0,none⟩) (n + s.size) (grownCap w (n + s.size) old e)) (n + s.size) (xs ++ strCells s) ∧
      w.grownBy (w.drew.alloc (.cells (xs.toArray ++ (strCells s).toArray ++ Builtin.zeroCells z.cells (grownCap w (n + s.size) old e - (n + s.size))) e)) row := by
    intro old ho row
    have hge := grownCap_ge w (n + s.size) old e
    have hcm : grownCap w (n + s.size) old e ≤ maxLen := grownCap_le_maxLen w (n + s.size) old e h63
    refine ⟨⟨hlen,.inr ⟨w.heap.size,_,_,rfl,hbase,.of (heap_alloc_new w.drew _),hge,hcm,?_,?_⟩⟩,⟨rfl,rfl,rfl,by simp,fun k hk _ => Below.heap_alloc w.drew _ k hk⟩⟩
    · simp only [Array.size_append,List.size_toArray,size_zeroCells,hzs,hxl,strCells_length]
      omega
    · simp only [Array.toList_append,List.append_assoc]
      rw [← List.append_assoc,← hlen]
      exact List.take_left
  rcases hown.2 with ⟨rfl,rfl⟩ | ⟨g,cap,cur,rfl,hbg,hg,hnc,hcm,hcs,htake⟩
  · have hx : xs = [] := List.eq_nil_of_length_eq_zero hxl
    subst hx
    have hr := run_append_nil_string (P := P) w t u ty e i z ht hu hi hz s (by omega) (by omega) (by rw [hby];omega)
    have hgr := grown 0 (by omega) (Value.ownBlock (.slice none 0 0))
    simp only [Nat.zero_add,List.nil_append,Array.empty_append] at hgr ⊢
    have e1 : (s.data.map fun b => Value.int .u8 b.toNat) = (strCells s).toArray := by
      apply Array.ext'
      simp [strCells]
    rw [e1] at hr
    exact ⟨_,_,hr,hgr.1,hgr.2,fun g hg => (by simp [ownBlk] at hg;right;omega)⟩
  · by_cases hroom : n + s.size ≤ cap
    · have hcs' : cur.size = cap := by simpa using hcs
      have hr := run_append_room_strM (P := P) w t u ty e i ht hu hi hsize g n cap cur hg s hroom (by omega)
      refine ⟨_,_,hr,⟨hlen,.inr ⟨g,cap,_,rfl,hbg,hg.setRow ?_,hroom,hcm,?_,?_⟩⟩,⟨rfl,rfl,rfl,by simp,fun k _ hk => setRow_other w g k _ (fun e => hk (by simp [Value.ownBlock,e]))⟩,fun g' hg' => .inl hg'⟩
      · simp only [List.size_toArray,List.length_append,List.length_take,List.length_drop,Array.length_toList,strCells_length]
        omega
      · simp only [List.size_toArray,List.length_append,List.length_take,List.length_drop,Array.length_toList,strCells_length]
        omega
      · have ht' : cur.toList.take n = xs := by simpa using htake
        rw [ht',← hlen]
        exact List.take_left
    · have holds : ∀ j u,xs[j]? = some u → w.cell? ((⟨g,0,none⟩ : Addr).add j) = some u := hown.cells (g := g) rfl
      have hr := run_append_grow_string (P := P) w t u ty e i z ht hu hi hz ⟨g,0,none⟩ n cap xs (by rw [hsize];simpa using hxl) holds s (by omega) (by omega) (by rw [hby];exact growslice_fits (by omega) (by omega))
      have hgr := grown cap (by omega) (Value.ownBlock (.slice (some ⟨g,0,none⟩) n cap))
      exact ⟨_,_,hr,hgr.1,hgr.2,fun g' hg' => (by simp [ownBlk] at hg';right;omega)⟩
theorem op_append_str {e : TypeId} {z : Value} {id m : Nat} {rows : List (List AV)} {s : ByteArray} (hx : st.ev x = .osl id m) (hb : look .dead st.heap id = .row 1 rows e) (hm : m = rows.length) (hy : st.ev y = .str s) (hpos : 0 < s.size)
    (hT : P.underlying t = some (.slice e)) (hU : P.underlying t' = some .string) (hI : tyI P e = some (some z,1,1)) (hz : z.cells.size = 1) (h63 : rows.length + s.size ≤ 1000000) (hd : dok d n = true) :
    OpV P n ⟨d,.call { callee := .builtin .append,args := #[x,y],argTypes := #[t,t'] },ty,ps,af,g⟩ st ((st.hset id (.row 1 (rows ++ strRows s) e)).put d (.osl id (rows.length + s.size))) := .mk fun K a w ⟨G,r⟩ => by
  have e1 := r.ev x
  rw [hx] at e1
  have e2 := r.ev y
  rw [hy] at e2
  have e2 := e2.str'
  have hk := r.hr.blk id
  rw [hb] at hk
  obtain ⟨q1,q2,q3,q4,flat,q5,q6,q7⟩ := hk
  have ev : a.eval x = G.ρ id := by
    cases e1 with
    | dat h => cases h
    | osl _ _ _ _ _ _ _ hh => exact hh (by rw [q4,hm])
  obtain ⟨i,hi,hz0,hz1,hz2⟩ := tyI_info hI
  obtain ⟨v',w',p1,p2,p3,p4⟩ := run_append_str (P := P) w K.w0.heap.size t t' ty e i z hT hU hi hz0 hz1 hz2 hz (G.ρ id) rows.length flat q5 s hpos (by simp only [maxLen];omega) (by omega) r.hr.below.size
  have hob := ownBlock_eq q5
  rw [hob] at p3
  have hoo : ∀ g,ownBlk (G.ρ id) = some g → G.own g := fun g hg => r.hr.ownhas id g q1 hg
  let G' : Gh := ⟨fun j => if j = id then v' else G.ρ j,fun b => G.own b ∨ ownBlk v' = some b,fun j => if j = id then rows.length + s.size else G.ln j,G.sz,G.nx,G.bs⟩
  have hρ : G'.ρ id = v' := if_pos rfl
  have hln : G'.ln id = rows.length + s.size := if_pos rfl
  have hsl : ∃ A c,v' = .slice A (rows.length + s.size) c := by
    rcases p2.2 with ⟨h1,h2⟩ | ⟨gg,cap,cur,h1,_⟩
    · rw [h1,h2];exact ⟨_,_,rfl⟩
    · rw [h1];exact ⟨_,_,rfl⟩
  have hext : Ext w G w' G' := by
    refine ⟨p3.size,fun b hb hl => p3.block b hl (fun e => hb (hoo b e.symm)),fun b h => ?_,Nat.le_refl _,rfl,fun j hj => ?_⟩
    · rcases h with h | h
      · exact .inl h
      · exact (p4 b h).imp (hoo b) (fun h => h)
    · by_cases e : j = id
      · subst e
        exact ⟨by rw [hln,q4];omega,rfl,fun h => by rw [hln,q4] at h;omega,fun h => by omega⟩
      · have h1 : G'.ln j = G.ln j := if_neg e
        have h2 : G'.ρ j = G.ρ j := if_neg e
        exact ⟨by omega,rfl,fun _ => h2,fun _ => h1⟩
  have hRV : RowsV w G 1 rows flat := ⟨q5.1,q6,q7⟩
  have hRV2 := (hRV.append (strRows_ok w G s)).ext hext
  have hlr : (rows ++ strRows s).length = rows.length + s.size := by rw [List.length_append,strRows_len]
  have hHR : HR K.w0 w' G' ((id,.row 1 (rows ++ strRows s) e) :: st.heap) := by
    refine r.hr.update hext (fun b h => .inl h) (grown_below p3 r.hr.below.size (fun g hg => (r.hr.ownlt g (hoo g hg)).1)) id _ (fun j hne hj => ⟨if_neg hne,if_neg hne,fun g hg => p3.block g (r.hr.ownlt g (r.hr.ownhas j g hj hg)).2 (fun e => ?_)⟩) (fun j h _ => h) (fun b hb => ?_)
      ⟨q1,q2,q3,by rw [hln,hlr],flat ++ strCells s,by rw [hρ,hlr];exact p2,hRV2.one,hRV2.rel⟩ (fun j g hj hne hg he => ?_) (fun g _ hg => ?_)
    · exact r.hr.dist j id g hj q1 hne hg e.symm
    · rcases hb with hb | hb
      · have := r.hr.ownlt b hb
        have := p3.size
        omega
      · rcases p4 b hb with h | h
        · have := r.hr.ownlt b (hoo b h)
          have := p3.size
          omega
        · have h2 : b < w'.heap.size := by
            rcases p2.2 with ⟨h1,_⟩ | ⟨gg,cap,cur,h1,_,h3,_⟩
            · rw [h1] at hb;simp [ownBlk] at hb
            · rw [h1] at hb
              simp [ownBlk] at hb
              subst hb
              exact h3.lt
          have := r.hr.below.size
          omega
    · rw [hρ] at hg
      rcases p4 g hg with h | h
      · exact r.hr.dist j id g hj q1 hne he h
      · have := (r.hr.ownlt g (r.hr.ownhas j g hj he)).2
        omega
    · rw [hρ] at hg
      exact .inr hg
  have hnx : G'.nx = st.nx := r.nx
  refine ⟨v',w',.inl ?_,G',(r.turn st.nx hnx hHR hext).put (dok_lt hd) (RelV.osl (w := w') (G := G') id _ v' q1 (by show 0 < G.sz id;omega) (by rw [hln];exact Nat.le_refl _) hsl (fun _ => hρ.symm))⟩
  simp [execOp,resolve,invoke,builtin,ev,e2,p1]
end
end Go.Proofs.Ytelpkjellakigaa
/- Symbolic walks: an append of zeros (append of a made slice). No program in sight. -/
namespace Go.Proofs.Ytelpkjellakigaa
open Go Go.RowKit Go.Lib
set_option linter.unusedSimpArgs false
set_option linter.unusedSectionVars false
set_option linter.unusedVariables false
theorem zeroCells_one {z : Array Value} {c : Value} (hz : z = #[c]) (k : Nat) : Builtin.zeroCells z k = (List.replicate k c).toArray := by
  subst hz
  apply Array.ext'
  unfold Builtin.zeroCells
  simp only [Array.toList_map,Array.toList_range]
  apply List.ext_getElem
  · simp
  · intro i h1 h2
    simp [Nat.mod_one]
section
variable {P : Program} {n : Nat} {st : ASt} {d : Option Nat} {ty : TypeId} {ps : String} {af : Array Edge} {g : Option (Nat × Bool)} {x y : Operand} {t t' : TypeId}
theorem run_append_room_zerosM (w : World) (t u ty e : TypeId) (i : TypeInfo) (z c : Value) (kq kn : IntKind) (ht : P.underlying t = some (.slice e)) (hu : P.underlying u = some (.int kn)) (hi : P.info? e = some i) (hz : i.zero = some z) (hs1 : i.size = 1) (hby : i.bytes = 1)
    (hc : z.cells = #[c]) (h1 : c.oneCell' = true) (g sLen sCap : Nat) (cur : Array Value) (hg : HasC w g cur e) (k : Nat) (hk : 0 < k) (hk2 : k ≤ 1000000) (hroom : sLen + k ≤ sCap) (hfit : sLen + k ≤ cur.size) :
    (Builtin.append_ #[t,u] ty #[.slice (some ⟨g,0,none⟩) sLen sCap,.int kq k]).run P w =
      .ok (.slice (some ⟨g,0,none⟩) (sLen + k) sCap) (w.setRow g (cur.toList.take sLen ++ List.replicate k c ++ cur.toList.drop (sLen + k)).toArray) := by
  have hst := run_storeCells_M (P := P) g sLen e (List.replicate k c) 0 cur w hg (by simpa using hfit) (fun v hv => by rw [(List.mem_replicate.1 hv).2];exact h1)
  simp only [Nat.add_zero,List.length_replicate] at hst
  have hw : IntKind.i64.wrap (k : Int) = k := by rw [IntKind.wrap_i64];omega
  have hneg : ¬ ((k : Int) < 0) := by omega
  have h48i : ¬ (281474976710656 < (k : Int)) := by omega
  have hk0 : ¬ (k = 0) := by omega
  simp [Builtin.append_,run_underlying ht,run_underlying hu,sizeOf,typeInfo,zeroValue,hi,hz,hs1,hby,asInt,asIntOf,hw,hneg,h48i,hk0,hroom,zeroCells_one hc,Addr.add_lit,hst]
theorem run_append_zeros (w : World) (base : Nat) (t u ty e : TypeId) (i : TypeInfo) (z c : Value) (kq kn : IntKind) (ht : P.underlying t = some (.slice e)) (hu : P.underlying u = some (.int kn)) (hi : P.info? e = some i) (hz : i.zero = some z)
    (hsize : i.size = 1) (hby : i.bytes = 1) (hc : z.cells = #[c]) (h1 : c.oneCell' = true) (v : Value) (n : Nat) (xs : List Value) (hown : ownsM w base e 1 v n xs) (k : Nat) (hk : 0 < k) (hk2 : n + k ≤ 1000000)
    (hbase : base ≤ w.heap.size) :
    ∃ v' w',(Builtin.append_ #[t,u] ty #[v,.int kq k]).run P w = .ok v' w' ∧ ownsM w' base e 1 v' (n + k) (xs ++ List.replicate k c) ∧ w.grownBy w' v.ownBlock ∧ (∀ g,ownBlk v' = some g → ownBlk v = some g ∨ w.heap.size ≤ g) := by
  have hxl : xs.length = n := by simpa using hown.1
  have hzs : z.cells.size = 1 := by rw [hc];rfl
  have hlen : (xs ++ List.replicate k c).length = (n + k) * 1 := by rw [List.length_append,hxl,List.length_replicate,Nat.mul_one]
  have grown : ∀ (old : Nat),old < n + k → ∀ (row : Option Nat),
      ownsM (w.drew.alloc (.cells (xs.toArray ++ (List.replicate k c).toArray ++ Builtin.zeroCells z.cells (grownCap w (n + k) old e - (n + k))) e)) base e 1
        (.slice (some ⟨w.heap.size,0,none⟩) (n + k) (grownCap w (n + k) old e)) (n + k) (xs ++ List.replicate k c) ∧
      w.grownBy (w.drew.alloc (.cells (xs.toArray ++ (List.replicate k c).toArray ++ Builtin.zeroCells z.cells (grownCap w (n + k) old e - (n + k))) e)) row := by
    intro old ho row
    have hge := grownCap_ge w (n + k) old e
    have hcm : grownCap w (n + k) old e ≤ maxLen := grownCap_le_maxLen w (n + k) old e (by simp only [maxLen];omega)
    refine ⟨⟨hlen,.inr ⟨w.heap.size,_,_,rfl,hbase,.of (heap_alloc_new w.drew _),hge,hcm,?_,?_⟩⟩,⟨rfl,rfl,rfl,by simp,fun k hk _ => Below.heap_alloc w.drew _ k hk⟩⟩
    · simp only [Array.size_append,List.size_toArray,size_zeroCells,hzs,hxl,List.length_replicate]
      omega
    · simp only [Array.toList_append,List.append_assoc]
      rw [← List.append_assoc,← hlen]
      exact List.take_left
  rcases hown.2 with ⟨rfl,rfl⟩ | ⟨g,cap,cur,rfl,hbg,hg,hnc,hcm,hcs,htake⟩
  · have hx : xs = [] := List.eq_nil_of_length_eq_zero hxl
    subst hx
    have hr := run_append_nil_zeros (P := P) w t u ty e i z kq kn ht hu hi hz k hk (by omega) (by omega) (by rw [hby];omega)
    have hgr := grown 0 (by omega) (Value.ownBlock (.slice none 0 0))
    simp only [Nat.zero_add,List.nil_append,Array.empty_append] at hgr ⊢
    rw [zeroCells_one hc k] at hr
    exact ⟨_,_,hr,hgr.1,hgr.2,fun g hg => (by simp [ownBlk] at hg;right;omega)⟩
  · by_cases hroom : n + k ≤ cap
    · have hcs' : cur.size = cap := by simpa using hcs
      have hr := run_append_room_zerosM (P := P) w t u ty e i z c kq kn ht hu hi hz hsize hby hc h1 g n cap cur hg k hk (by omega) hroom (by omega)
      refine ⟨_,_,hr,⟨hlen,.inr ⟨g,cap,_,rfl,hbg,hg.setRow ?_,hroom,hcm,?_,?_⟩⟩,⟨rfl,rfl,rfl,by simp,fun k _ hk => setRow_other w g k _ (fun e => hk (by simp [Value.ownBlock,e]))⟩,fun g' hg' => .inl hg'⟩
      · simp only [List.size_toArray,List.length_append,List.length_take,List.length_drop,Array.length_toList,List.length_replicate]
        omega
      · simp only [List.size_toArray,List.length_append,List.length_take,List.length_drop,Array.length_toList,List.length_replicate]
        omega
      · have ht' : cur.toList.take n = xs := by simpa using htake
        rw [ht',← hlen]
        exact List.take_left
    · have holds : ∀ j u,xs[j]? = some u → w.cell? ((⟨g,0,none⟩ : Addr).add j) = some u := hown.cells (g := g) rfl
      have hfo := run_firstCells_some (P := P) w.drew i.size n ⟨g,0,none⟩ n cap xs (by rw [hsize];simpa using hxl) (by simpa using holds)
      have hr := run_append_grow_zeros (P := P) w t u ty e i z kq kn ht hu hi hz (some ⟨g,0,none⟩) n cap xs hfo k hk (by omega) (by omega) (by omega) (by rw [hby];omega) (by rw [hby];exact growslice_fits (by omega) (by omega))
      rw [zeroCells_one hc k] at hr
      have hgr := grown cap (by omega) (Value.ownBlock (.slice (some ⟨g,0,none⟩) n cap))
      exact ⟨_,_,hr,hgr.1,hgr.2,fun g' hg' => (by simp [ownBlk] at hg';right;omega)⟩
theorem zeros_ok (w : World) (G : Gh) {c : Value} {a : AV} (ha : avOf c = a) (h1 : c.oneCell' = true) (k : Nat) : RowsV w G 1 (List.replicate k [a]) (List.replicate k c) := by
  refine ⟨by simp,fun v hv => by rw [(List.mem_replicate.1 hv).2];exact h1,fun i row hi => ?_⟩
  rw [List.getElem?_replicate] at hi
  split at hi
  · rename_i hik
    injection hi with hi
    subst hi
    refine ⟨rfl,fun j b hj => ?_⟩
    obtain rfl : j = 0 := by have := (List.getElem?_eq_some_iff.1 hj).1;simp at this;omega
    injection hj with hj
    subst hj
    refine ⟨c,by rw [List.getElem?_replicate,if_pos (by omega)],?_⟩
    rw [← ha];exact avOf_rel w G c
  · cases hi
theorem op_append_zeros {e : TypeId} {z c : Value} {ca : AV} {kn kq : IntKind} {id m : Nat} {L : Int} {rows : List (List AV)} (hx : st.ev x = .osl id m) (hb : look .dead st.heap id = .row 1 rows e) (hm : m = rows.length) (hy : st.ev y = .int kq L) (hpos : 0 < L)
    (hT : P.underlying t = some (.slice e)) (hU : P.underlying t' = some (.int kn)) (hI : tyI P e = some (some z,1,1)) (hc : z.cells.toList = [c]) (hca : avOf c = ca) (h1c : c.oneCell' = true) (h63 : rows.length + L.toNat ≤ 1000000) (hd : dok d n = true) :
    OpV P n ⟨d,.call { callee := .builtin .append,args := #[x,y],argTypes := #[t,t'] },ty,ps,af,g⟩ st ((st.hset id (.row 1 (rows ++ List.replicate L.toNat [ca]) e)).put d (.osl id (rows.length + L.toNat))) := .mk fun K a w ⟨G,r⟩ => by
  have e1 := r.ev x
  rw [hx] at e1
  have e2 := r.ev y
  rw [hy] at e2
  have e2 := e2.int'
  obtain ⟨k,rfl⟩ : ∃ k : Nat,L = k := ⟨L.toNat,by omega⟩
  rw [Int.toNat_natCast] at h63 ⊢
  have hzc : z.cells = #[c] := Array.ext' hc
  have hk := r.hr.blk id
  rw [hb] at hk
  obtain ⟨q1,q2,q3,q4,flat,q5,q6,q7⟩ := hk
  have ev : a.eval x = G.ρ id := by
    cases e1 with
    | dat h => cases h
    | osl _ _ _ _ _ _ _ hh => exact hh (by rw [q4,hm])
  obtain ⟨i,hi,hz0,hz1,hz2⟩ := tyI_info hI
  obtain ⟨v',w',p1,p2,p3,p4⟩ := run_append_zeros (P := P) w K.w0.heap.size t t' ty e i z c kq kn hT hU hi hz0 hz1 hz2 hzc h1c (G.ρ id) rows.length flat q5 k (by omega) h63 r.hr.below.size
  have hob := ownBlock_eq q5
  rw [hob] at p3
  have hoo : ∀ g,ownBlk (G.ρ id) = some g → G.own g := fun g hg => r.hr.ownhas id g q1 hg
  let G' : Gh := ⟨fun j => if j = id then v' else G.ρ j,fun b => G.own b ∨ ownBlk v' = some b,fun j => if j = id then rows.length + k else G.ln j,G.sz,G.nx,G.bs⟩
  have hρ : G'.ρ id = v' := if_pos rfl
  have hln : G'.ln id = rows.length + k := if_pos rfl
  have hsl : ∃ A c,v' = .slice A (rows.length + k) c := by
    rcases p2.2 with ⟨h1,h2⟩ | ⟨gg,cap,cur,h1,_⟩
    · rw [h1,h2];exact ⟨_,_,rfl⟩
    · rw [h1];exact ⟨_,_,rfl⟩
  have hext : Ext w G w' G' := by
    refine ⟨p3.size,fun b hb hl => p3.block b hl (fun e => hb (hoo b e.symm)),fun b h => ?_,Nat.le_refl _,rfl,fun j hj => ?_⟩
    · rcases h with h | h
      · exact .inl h
      · exact (p4 b h).imp (hoo b) (fun h => h)
    · by_cases e : j = id
      · subst e
        exact ⟨by rw [hln,q4];omega,rfl,fun h => by rw [hln,q4] at h;omega,fun h => by omega⟩
      · have h1 : G'.ln j = G.ln j := if_neg e
        have h2 : G'.ρ j = G.ρ j := if_neg e
        exact ⟨by omega,rfl,fun _ => h2,fun _ => h1⟩
  have hRV : RowsV w G 1 rows flat := ⟨q5.1,q6,q7⟩
  have hRV2 := (hRV.append (zeros_ok w G hca h1c k)).ext hext
  have hlr : (rows ++ List.replicate k [ca]).length = rows.length + k := by rw [List.length_append,List.length_replicate]
  have hHR : HR K.w0 w' G' ((id,.row 1 (rows ++ List.replicate k [ca]) e) :: st.heap) := by
    refine r.hr.update hext (fun b h => .inl h) (grown_below p3 r.hr.below.size (fun g hg => (r.hr.ownlt g (hoo g hg)).1)) id _ (fun j hne hj => ⟨if_neg hne,if_neg hne,fun g hg => p3.block g (r.hr.ownlt g (r.hr.ownhas j g hj hg)).2 (fun e => ?_)⟩) (fun j h _ => h) (fun b hb => ?_)
      ⟨q1,q2,q3,by rw [hln,hlr],flat ++ List.replicate k c,by rw [hρ,hlr];exact p2,hRV2.one,hRV2.rel⟩ (fun j g hj hne hg he => ?_) (fun g _ hg => ?_)
    · exact r.hr.dist j id g hj q1 hne hg e.symm
    · rcases hb with hb | hb
      · have := r.hr.ownlt b hb
        have := p3.size
        omega
      · rcases p4 b hb with h | h
        · have := r.hr.ownlt b (hoo b h)
          have := p3.size
          omega
        · have h2 : b < w'.heap.size := by
            rcases p2.2 with ⟨h1,_⟩ | ⟨gg,cap,cur,h1,_,h3,_⟩
            · rw [h1] at hb;simp [ownBlk] at hb
            · rw [h1] at hb
              simp [ownBlk] at hb
              subst hb
              exact h3.lt
          have := r.hr.below.size
          omega
    · rw [hρ] at hg
      rcases p4 g hg with h | h
      · exact r.hr.dist j id g hj q1 hne he h
      · have := (r.hr.ownlt g (r.hr.ownhas j g hj he)).2
        omega
    · rw [hρ] at hg
      exact .inr hg
  have hnx : G'.nx = st.nx := r.nx
  refine ⟨v',w',.inl ?_,G',(r.turn st.nx hnx hHR hext).put (dok_lt hd) (RelV.osl (w := w') (G := G') id _ v' q1 (by show 0 < G.sz id;omega) (by rw [hln];exact Nat.le_refl _) hsl (fun _ => hρ.symm))⟩
  simp [execOp,resolve,invoke,builtin,ev,e2,p1]
end
end Go.Proofs.Ytelpkjellakigaa
/- More operations of the run: arrays as rows,comparisons with nil,the greatest of several. No program in sight. -/
namespace Go.Proofs.Ytelpkjellakigaa.Rn
open Go Go.RowKit Go.Proofs.Ytelpkjellakigaa Go.Proofs.Ytelpkjellakigaa.Dr

section
variable {P : Program} {n : Nat} {T : Tab} {st st' : ASt} {d : Option Nat} {ty t t' : TypeId} {ps : String} {af : Array Edge} {g : Option (Nat × Bool)} {x y : Operand}
/-! ### nil -/
theorem eq_nils {t e : TypeId} (hT : P.underlying t = some (.slice e)) (w : World) : (Op.equal t (.slice none 0 0) (.slice none 0 0)).run P w = .ok true w := by
  unfold Op.equal
  rw [show Op.maxDepth = 9999 + 1 from rfl,Op.equalIn]
  simp [run_underlying hT]
theorem eq_someNil {t e : TypeId} {a : Addr} {m c : Nat} (hT : P.underlying t = some (.slice e)) (w : World) : (Op.equal t (.slice (some a) m c) (.slice none 0 0)).run P w = .ok false w := by
  unfold Op.equal
  rw [show Op.maxDepth = 9999 + 1 from rfl,Op.equalIn]
  simp [run_underlying hT]
theorem op_nilEq {neq : Bool} {e : TypeId} (hx : st.ev x = .nils) (hy : st.ev y = .nils) (hT : P.underlying t = some (.slice e)) (hd : dok d n = true) :
    OpR P n ⟨d,.binOp (bif neq then .neq else .eql) t x y t',ty,ps,af,g⟩ st (.bool (!neq)) := .mk hd fun K a w G rr => by
  have e1 := rr.ev x
  rw [hx] at e1
  have e1 := e1.nils'
  have e2 := rr.ev y
  rw [hy] at e2
  have e2 := e2.nils'
  refine ⟨.bool (!neq),fun w' _ => ?_,.dat (.bool _)⟩
  cases neq <;> simp [execOp,e1,e2,binOp,eqGuard,eq_nils hT w']
theorem op_oslNil {neq : Bool} {e : TypeId} {id m sz : Nat} {rows : List (List AV)} {e' : TypeId} (hx : st.ev x = .osl id m) (hb : look .dead st.heap id = .row sz rows e') (hm : m = rows.length) (h0 : 0 < m) (hy : st.ev y = .nils) (hT : P.underlying t = some (.slice e)) (hd : dok d n = true) :
    OpR P n ⟨d,.binOp (bif neq then .neq else .eql) t x y t',ty,ps,af,g⟩ st (.bool neq) := .mk hd fun K a w G rr => by
  have e1 := rr.ev x
  rw [hx] at e1
  obtain ⟨gg,c,flat,q1,q2,q3,q4,q5,q6,q7,q8⟩ := rr.rowAt hb hm h0
  have e2 := rr.ev y
  rw [hy] at e2
  have e2 := e2.nils'
  refine ⟨.bool neq,fun w' _ => ?_,.dat (.bool _)⟩
  generalize he : a.eval x = v at e1
  cases e1 with
  | dat h => cases h
  | osl _ _ _ hid hs hn hv hr =>
    have e3 := hr (by rw [q5,hm])
    rw [q1] at e3
    subst e3
    cases neq <;> simp [execOp,he,e2,binOp,eqGuard,eq_someNil hT w']
theorem eq_ptrs {t e : TypeId} (hT : P.underlying t = some (.pointer e)) (w : World) : (Op.equal t (.pointer none) (.pointer none)).run P w = .ok true w := by
  unfold Op.equal
  rw [show Op.maxDepth = 9999 + 1 from rfl,Op.equalIn]
  simp [run_underlying hT]
theorem eq_somePtr {t e : TypeId} {a : Addr} (hT : P.underlying t = some (.pointer e)) (w : World) : (Op.equal t (.pointer (some a)) (.pointer none)).run P w = .ok false w := by
  unfold Op.equal
  rw [show Op.maxDepth = 9999 + 1 from rfl,Op.equalIn]
  simp [run_underlying hT]
theorem op_nilpEq {neq : Bool} {e : TypeId} (hx : st.ev x = .nilp) (hy : st.ev y = .nilp) (hT : P.underlying t = some (.pointer e)) (hd : dok d n = true) :
    OpR P n ⟨d,.binOp (bif neq then .neq else .eql) t x y t',ty,ps,af,g⟩ st (.bool (!neq)) := .mk hd fun K a w G rr => by
  have e1 := rr.ev x
  rw [hx] at e1
  have e2 := rr.ev y
  rw [hy] at e2
  refine ⟨.bool (!neq),fun w' _ => ?_,.dat (.bool _)⟩
  generalize he1 : a.eval x = v1 at e1
  generalize he2 : a.eval y = v2 at e2
  cases e1 with
  | dat h1 =>
    cases h1
    cases e2 with
    | dat h2 =>
      cases h2
      cases neq <;> simp [execOp,he1,he2,binOp,eqGuard,eq_ptrs hT w']
theorem op_boxNil {neq : Bool} {e : TypeId} {id off : Nat} (hx : st.ev x = .box id off) (hy : st.ev y = .nilp) (hT : P.underlying t = some (.pointer e)) (hd : dok d n = true) :
    OpR P n ⟨d,.binOp (bif neq then .neq else .eql) t x y t',ty,ps,af,g⟩ st (.bool neq) := .mk hd fun K a w G rr => by
  have e1 := rr.ev x
  rw [hx] at e1
  have e2 := rr.ev y
  rw [hy] at e2
  refine ⟨.bool neq,fun w' _ => ?_,.dat (.bool _)⟩
  generalize he1 : a.eval x = v1 at e1
  generalize he2 : a.eval y = v2 at e2
  cases e2 with
  | dat h2 =>
    cases h2
    cases e1 with
    | dat h => cases h
    | box _ _ g hid hs hr =>
      cases neq <;> simp [execOp,he1,he2,binOp,eqGuard,eq_somePtr hT w']
/-! ### the greatest,the least of several -/
theorem foldMax (k : IntKind) (w : World) : ∀ (ns : List Int) (m : Int),((ns.map fun q => Value.int k q).foldlM Builtin.max2 (.int k m)).run P w = .ok (.int k (ns.foldl max m)) w
  | [],m => by simp
  | q :: ns,m => by
    have h : (Builtin.max2 (.int k m) (.int k q)).run P w = .ok (.int k (max m q)) w := by
      have : (if m < q then q else m) = max m q := by split <;> omega
      simp [Builtin.max2,this]
    rw [List.map_cons,List.foldlM_cons,List.foldl_cons]
    simp [h,foldMax k w ns]
theorem foldMin (k : IntKind) (w : World) : ∀ (ns : List Int) (m : Int),((ns.map fun q => Value.int k q).foldlM Builtin.min2 (.int k m)).run P w = .ok (.int k (ns.foldl min m)) w
  | [],m => by simp
  | q :: ns,m => by
    have h : (Builtin.min2 (.int k m) (.int k q)).run P w = .ok (.int k (min m q)) w := by
      have : (if q < m then q else m) = min m q := by split <;> omega
      simp [Builtin.min2,this]
    rw [List.map_cons,List.foldlM_cons,List.foldl_cons]
    simp [h,foldMin k w ns]
theorem ints_eval {K : Kn} {a : Act} {w : World} {G : Gh} (r : RelG K n st a w G) {k : IntKind} : ∀ (l : List Operand) (ns : List Int),l.map st.ev = ns.map (AV.int k) → l.map a.eval = ns.map (fun q => Value.int k q)
  | [],[],_ => rfl
  | [],_ :: _,h => by simp at h
  | _ :: _,[],h => by simp at h
  | y :: l,q :: ns,h => by
    simp only [List.map_cons,List.cons.injEq] at h
    have e := r.ev y
    rw [h.1] at e
    rw [List.map_cons,List.map_cons,e.int',ints_eval r l ns h.2]
theorem op_maxs {hi : Bool} {k : IntKind} {args : List Operand} {tt : Array TypeId} {m : Int} {ns : List Int} (h : intsOf k (args.map st.ev) = some (m :: ns)) (hd : dok d n = true) :
    OpR P n ⟨d,.call { callee := .builtin (bif hi then .max else .min),args := ⟨args⟩,argTypes := tt },ty,ps,af,g⟩ st (.int k (bif hi then ns.foldl max m else ns.foldl min m)) := .mk hd fun K a w G rr => by
  have e := ints_eval rr args (m :: ns) (intsOf_eq h)
  refine ⟨_,fun w' _ => ?_,.dat (.int _ _)⟩
  have e2 : (Array.map a.eval ⟨args⟩).toList = (m :: ns).map (fun q => Value.int k q) := by rw [Array.toList_map];exact e
  have e3 : Array.map a.eval ⟨args⟩ = ((m :: ns).map (fun q => Value.int k q)).toArray := by rw [← e2]
  cases hi
  · have := foldMin (P := P) k w' ns m
    simp [execOp,resolve,invoke,builtin,e3,Builtin.min_,this]
  · have := foldMax (P := P) k w' ns m
    simp [execOp,resolve,invoke,builtin,e3,Builtin.max_,this]
theorem op_compl' {k : IntKind} {m : Int} (hx : st.ev x = .int k m) (hd : dok d n = true) : OpR P n ⟨d,.unOp .xor t x,ty,ps,af,g⟩ st (.int k (bits .xor k (if k.signed then -1 else k.max) m)) :=
  .mk hd fun K a w G rr => by
    have e1 := rr.ev x
    rw [hx] at e1
    have e1 := e1.int'
    exact ⟨_,fun w' _ => by simp [execOp,e1,Op.unary,intBits_xor],.dat (.int _ _)⟩
end
/-! ### arrays of single cells are rows -/
def arrOf (T : Tab) (t : TypeId) : Option (Nat × TypeId × Option Value × Nat) := match lk T.und t with
  | some (.array L e) => match lk T.inf e with
    | some (z,s,b) => bif Nat.beq s 1 then some (L,e,z,b) else none
    | none => none
  | _ => none
theorem arrOf_ok {P : Program} {T : Tab} {t : TypeId} {L : Nat} {e : TypeId} {z : Option Value} {b : Nat} (hT : T.ok P) (h : arrOf T t = some (L,e,z,b)) : P.underlying t = some (.array L e) ∧ tyI P e = some (z,1,b) := by
  unfold arrOf at h
  split at h
  · rename_i L' e' h1
    split at h
    · rename_i z' s' b' h2
      cases hs : Nat.beq s' 1 with
      | false => rw [hs] at h;cases h
      | true =>
        rw [hs] at h
        simp only [cond_true,Option.some.injEq,Prod.mk.injEq] at h
        obtain ⟨rfl,rfl,rfl,rfl⟩ := h
        have := Nat.eq_of_beq_eq_true hs
        subst this
        exact ⟨allP_at hT.und h1,allP_at hT.inf h2⟩
    · cases h
  · cases h
def ones (cs : List AV) : List (List AV) := cs.map fun a => [a]
theorem ones_flat : ∀ cs : List AV,(ones cs).flatten = cs
  | [] => rfl
  | a :: l => by
    show [a] ++ (ones l).flatten = _
    rw [ones_flat l];rfl
theorem ones_row {cs : List AV} : ∀ r ∈ ones cs,r.length = 1 := fun r hr => by
  obtain ⟨a,_,rfl⟩ := List.mem_map.1 hr
  rfl
theorem ones_len (cs : List AV) : (ones cs).length = cs.length := List.length_map _
def memX (T : Tab) (st : ASt) (d : Option Nat) : Op → Option ASt
  | .alloc e => match arrOf T e,lk T.inf e with
    | some _,some (some z,_,_) => bif allOne (z.cells.toList.map avOf) && Nat.blt 0 z.cells.toList.length && Nat.ble z.cells.toList.length 1000000 then
        some ((st.hnew (.row 1 (ones (z.cells.toList.map avOf)) e)).put d (.elt st.nx (z.cells.toList.map avOf).length 0 0)) else none
    | _,_ => none
  | .box e x => match arrOf T e with
    | some _ => bif allOne (st.ev x).cells && Nat.blt 0 (st.ev x).cells.length && Nat.ble (st.ev x).cells.length 1000000 then
        some ((st.hnew (.row 1 (ones (st.ev x).cells) e)).put d (.elt st.nx (st.ev x).cells.length 0 0)) else none
    | none => none
  | .store t a v => match d,st.ev a with
    | none,.elt id m 0 0 => match arrOf T t,look .dead st.heap id,lk T.inf t with
      | some _,.row 1 rows e,some (_,s,_) => bif Nat.beq m rows.length && Nat.blt 0 m && allOne (st.ev v).cells && Nat.beq (st.ev v).cells.length m && Nat.beq s m && rows.all (fun r => Nat.beq r.length 1) then
          some (st.hset id (.row 1 (ones (st.ev v).cells) e)) else none
      | _,_,_ => none
    | _,_ => none
  | .makeSlice t l c => match lk T.und t,st.ev l,st.ev c with
    | some (.slice e),.int _ L,.int _ C => match lk T.inf e with
      | some (some z,sz,b) => bif decide (0 ≤ L) && decide (L < C) && decide ((b : Int) * C ≤ 281474976710656) && decide (C ≤ 9223372036854775807) && Nat.beq (z.cells.toList.map avOf).length sz && Nat.blt 0 sz && allOne (z.cells.toList.map avOf) then
          some ((st.hnew (.row sz (List.replicate L.toNat (z.cells.toList.map avOf)) e)).put d (.osl st.nx L.toNat)) else none
      | _ => none
    | _,_,_ => none
  | .convert t t' x => match st.ev x with
    | .str s => match lk T.und t,lk T.und t' with
      | some .string,some (.slice e) => match lk T.und e with
        | some (.int .u8) => bif Nat.ble s.size 1000000 then some ((st.hnew (.row 1 (strRows s) e)).put d (.osl st.nx (strRows s).length)) else none
        | _ => none
      | _,_ => none
    | .osl id m => bif Nat.beq t t' then (match lk T.und t with
      | some (.slice e) => match lk T.und e,look .dead st.heap id with
        | some (.int .u8),.row sz rows e' => bif Nat.beq m rows.length && Nat.blt 0 m then some ((st.hset id (.row sz rows e')).put d (.osl id m)) else none
        | _,_ => none
      | _ => none) else none
    | _ => none
  | .call ⟨.builtin .append,⟨[x,y]⟩,⟨[t,t']⟩⟩ => match st.ev x,st.ev y with
    | .osl id m,.str s => match lk T.und t,lk T.und t' with
      | some (.slice e),some .string => match lk T.inf e,look .dead st.heap id with
        | some (some z,1,1),.row 1 rows e' => bif Nat.beq e' e && Nat.beq m rows.length && Nat.blt 0 s.size && Nat.ble (rows.length + s.size) 1000000 && Nat.beq z.cells.size 1 then
            some ((st.hset id (.row 1 (rows ++ strRows s) e)).put d (.osl id (rows.length + s.size))) else none
        | _,_ => none
      | _,_ => none
    | .osl id m,.int _ L => match lk T.und t,lk T.und t' with
      | some (.slice e),some (.int _) => match lk T.inf e,look .dead st.heap id with
        | some (some z,1,1),.row 1 rows e' => match z.cells.toList with
          | [c] => bif Nat.beq e' e && Nat.beq m rows.length && decide (0 < L) && Nat.ble (rows.length + L.toNat) 1000000 && c.oneCell' then
            some ((st.hset id (.row 1 (rows ++ List.replicate L.toNat [avOf c]) e)).put d (.osl id (rows.length + L.toNat))) else none
          | _ => none
        | _,_ => none
      | _,_ => none
    | _,_ => none
  | _ => none
/-- reading -/
def rdX (T : Tab) (st : ASt) : Op → Option AV
  | .binOp .eql t x y _ => match lk T.und t,st.ev x,st.ev y with
    | some (.pointer _),.nilp,.nilp => some (.bool true)
    | some (.pointer _),.box _ _,.nilp => some (.bool false)
    | some (.slice _),.nils,.nils => some (.bool true)
    | some (.slice _),.osl id m,.nils => match look .dead st.heap id with
      | .row _ rows _ => bif Nat.beq m rows.length && Nat.blt 0 m then some (.bool false) else none
      | _ => none
    | _,_,_ => none
  | .binOp .neq t x y _ => match lk T.und t,st.ev x,st.ev y with
    | some (.pointer _),.nilp,.nilp => some (.bool false)
    | some (.pointer _),.box _ _,.nilp => some (.bool true)
    | some (.slice _),.nils,.nils => some (.bool false)
    | some (.slice _),.osl id m,.nils => match look .dead st.heap id with
      | .row _ rows _ => bif Nat.beq m rows.length && Nat.blt 0 m then some (.bool true) else none
      | _ => none
    | _,_,_ => none
  | .call ⟨.builtin .max,⟨args⟩,_⟩ => match intsOf .i64 (evL st args []) with
    | some (m :: ns) => some (.int .i64 (ns.foldl max m))
    | _ => none
  | .call ⟨.builtin .min,⟨args⟩,_⟩ => match intsOf .i64 (evL st args []) with
    | some (m :: ns) => some (.int .i64 (ns.foldl min m))
    | _ => none
  | .build t parts => match lk T.und t,lk T.inf t with
    | some (.array _ e),some (some z,_,_) => match lk T.inf e with
      | some (_,ss,_) => bif allOne (z.cells.toList.map avOf) then (match fillA (fun i => some (i * ss,ss)) (z.cells.toList.map avOf) (evParts st parts.toList) with
        | some out => some (.agg out)
        | none => none) else none
      | none => none
    | _,_ => none
  | .unOp .xor _ x => match st.ev x with
    | .int k m => some (.int k (bits .xor k (if k.signed then -1 else k.max) m))
    | _ => none
  | .indexAddr t x y => match st.ev x,st.ev y with
    | .elt id m 0 0,.int _ i => match arrOf T t,look .dead st.heap id with
      | some (L,_,_,_),.row 1 rows _ => bif Nat.beq m rows.length && decide (0 ≤ i) && decide (i < (L : Int)) && decide (i < (m : Int)) then some (.elt id m i.toNat 0) else none
      | _,_ => none
    | _,_ => none
  | .load t x => match st.ev x with
    | .elt id m 0 0 => match arrOf T t,look .dead st.heap id,lk T.inf t with
      | some _,.row 1 rows _,some (_,s,_) => bif Nat.beq m rows.length && Nat.blt 0 m && Nat.beq s m then some (.agg rows.flatten) else none
      | _,_,_ => none
    | _ => none
  | .slice t x lo hi none => match st.ev x with
    | .elt id m 0 0 => match arrOf T t,look .dead st.heap id with
      | some (L,_,_,_),.row 1 rows _ => match bndN st 0 lo,bndN st m hi with
        | some l,some h => bif Nat.beq m rows.length && Nat.beq L m && Nat.blt 0 m && inB3 l h m then some (.vsl id m l.toNat (h.toNat - l.toNat)) else none
        | _,_ => none
      | _,_ => none
    | _ => none
  | _ => none
section
variable {P : Program} {n : Nat} {T : Tab} {st st' : ASt} {o : Oper} {x : AV}
theorem memX_ok (hT : T.ok P) (h : memX T st o.dst o.op = some st') (hd : dok o.dst n = true) : OpV P n o st st' := by
  obtain ⟨d,op,ty,ps,af,g⟩ := o
  simp only at h
  have hd : dok d n = true := hd
  unfold memX at h
  split at h
  · split at h
    · rename_i e _ q z s b h1 h2
      cases hc : (allOne (z.cells.toList.map avOf) && Nat.blt 0 z.cells.toList.length && Nat.ble z.cells.toList.length 1000000) with
      | false => rw [hc] at h;cases h
      | true =>
        rw [hc] at h
        simp only [cond_true,Option.some.injEq] at h
        simp only [Bool.and_eq_true] at hc
        obtain ⟨⟨c1,c2⟩,c3⟩ := hc
        have c2 : 0 < z.cells.toList.length := by simpa using c2
        have c3 := Nat.le_of_ble_eq_true c3
        subst h
        have key := op_alloc_arr (P := P) (n := n) (st := st) (d := d) (ty := ty) (ps := ps) (af := af) (g := g) (rows := ones (z.cells.toList.map avOf)) (sz := 1) (allP_at hT.inf h2) (ones_flat _).symm (by rw [ones_flat];exact c1) (by omega) (by rw [ones_len,List.length_map];exact c2) (by rw [ones_len,List.length_map];exact Nat.le_trans c3 (by decide)) ones_row hd
        rw [ones_len] at key
        exact key
    · cases h
  · rename_i e y
    split at h
    · rename_i q h1
      cases hc : (allOne (st.ev y).cells && Nat.blt 0 (st.ev y).cells.length && Nat.ble (st.ev y).cells.length 1000000) with
      | false => rw [hc] at h;cases h
      | true =>
        rw [hc] at h
        simp only [cond_true,Option.some.injEq] at h
        simp only [Bool.and_eq_true] at hc
        obtain ⟨⟨c1,c2⟩,c3⟩ := hc
        have c2 : 0 < (st.ev y).cells.length := by simpa using c2
        have c3 := Nat.le_of_ble_eq_true c3
        subst h
        have key := op_box_arr (P := P) (n := n) (st := st) (d := d) (ty := ty) (ps := ps) (af := af) (g := g) (e := e) (x := y) (rows := ones (st.ev y).cells) (sz := 1) (ones_flat _).symm (by rw [ones_flat];exact c1) (by omega) (by rw [ones_len];exact c2) (by rw [ones_len];exact Nat.le_trans c3 (by decide)) ones_row hd
        rw [ones_len] at key
        exact key
    · cases h
  · rename_i t a v
    split at h
    · rename_i id m ha _
      split at h
      · rename_i q rows e z s b h1 h2 h3
        cases hc : (Nat.beq m rows.length && Nat.blt 0 m && allOne (st.ev v).cells && Nat.beq (st.ev v).cells.length m && Nat.beq s m && rows.all (fun r => Nat.beq r.length 1)) with
        | false => rw [hc] at h;cases h
        | true =>
          rw [hc] at h
          simp only [cond_true,Option.some.injEq] at h
          simp only [Bool.and_eq_true] at hc
          obtain ⟨⟨⟨⟨⟨c1,c2⟩,c3⟩,c4⟩,c5⟩,c6⟩ := hc
          have c1 := Nat.eq_of_beq_eq_true c1
          have c2 : 0 < m := by simpa using c2
          have c4 := Nat.eq_of_beq_eq_true c4
          have c5 := Nat.eq_of_beq_eq_true c5
          subst h
          exact op_store_arr ha h2 c1 c2 (ones_flat _).symm (by rw [ones_flat];exact c3) (allP_at hT.inf h3) (by rw [ones_flat,c4,c5]) (by rw [ones_len,c4]) ones_row
      · cases h
    · cases h
  · rename_i t l c
    split at h
    · rename_i e k1 L k2 C hu hl hc
      split at h
      · rename_i z sz b hI
        cases hb : (decide (0 ≤ L) && decide (L < C) && decide ((b : Int) * C ≤ 281474976710656) && decide (C ≤ 9223372036854775807) && Nat.beq (z.cells.toList.map avOf).length sz && Nat.blt 0 sz && allOne (z.cells.toList.map avOf)) with
        | false => rw [hb] at h;cases h
        | true =>
          rw [hb] at h
          simp only [cond_true,Option.some.injEq] at h
          subst h
          simp only [Bool.and_eq_true] at hb
          obtain ⟨⟨⟨⟨⟨⟨b1,b2⟩,b3⟩,b4⟩,b5⟩,b6⟩,b7⟩ := hb
          have b2 : L < C := of_decide_eq_true b2
          exact op_makeC (allP_at hT.und hu) (allP_at hT.inf hI) rfl (Nat.eq_of_beq_eq_true b5) (by simpa using b6) b7 hl hc (of_decide_eq_true b1) (by omega) (of_decide_eq_true b3) (of_decide_eq_true b4) hd
      · cases h
    · cases h
  · rename_i t t' y
    split at h
    · rename_i s hx
      split at h
      · rename_i e h1 h2
        split at h
        · rename_i h3
          cases hc : Nat.ble s.size 1000000 with
          | false => rw [hc] at h;cases h
          | true =>
            rw [hc] at h
            simp only [cond_true,Option.some.injEq] at h
            subst h
            exact op_conv_str hx (allP_at hT.und h1) (allP_at hT.und h2) (allP_at hT.und h3) (Nat.le_of_ble_eq_true hc) hd
        · cases h
      · cases h
    · rename_i id m hx
      cases ht : Nat.beq t t' with
      | false => rw [ht] at h;cases h
      | true =>
        rw [ht] at h
        have ht := Nat.eq_of_beq_eq_true ht
        subst ht
        simp only [cond_true] at h
        split at h
        · rename_i e h1
          split at h
          · rename_i sz rows e' h2 h3
            cases hc : (Nat.beq m rows.length && Nat.blt 0 m) with
            | false => rw [hc] at h;cases h
            | true =>
              rw [hc] at h
              simp only [cond_true,Option.some.injEq] at h
              subst h
              simp only [Bool.and_eq_true] at hc
              exact op_conv_mark hx h3 (Nat.eq_of_beq_eq_true hc.1) (by simpa using hc.2) (allP_at hT.und h1) (allP_at hT.und h2) hd
          · cases h
        · cases h
    · cases h
  · rename_i x y t t'
    split at h
    · rename_i id m s hx hy
      split at h
      · rename_i e h1 h2
        split at h
        · rename_i z rows e' h3 h4
          cases hc : (Nat.beq e' e && Nat.beq m rows.length && Nat.blt 0 s.size && Nat.ble (rows.length + s.size) 1000000 && Nat.beq z.cells.size 1) with
          | false => rw [hc] at h;cases h
          | true =>
            rw [hc] at h
            simp only [cond_true,Option.some.injEq] at h
            subst h
            simp only [Bool.and_eq_true] at hc
            obtain ⟨⟨⟨⟨c1,c2⟩,c3⟩,c4⟩,c5⟩ := hc
            have c1 := Nat.eq_of_beq_eq_true c1
            subst c1
            exact op_append_str hx h4 (Nat.eq_of_beq_eq_true c2) hy (by simpa using c3) (allP_at hT.und h1) (allP_at hT.und h2) (allP_at hT.inf h3) (Nat.eq_of_beq_eq_true c5) (Nat.le_of_ble_eq_true c4) hd
        · cases h
      · cases h
    · rename_i id m kq L hx hy
      split at h
      · rename_i e kn h1 h2
        split at h
        · rename_i z rows e' h3 h4
          split at h
          · rename_i c h5
            cases hc : (Nat.beq e' e && Nat.beq m rows.length && decide (0 < L) && Nat.ble (rows.length + L.toNat) 1000000 && c.oneCell') with
            | false => rw [hc] at h;cases h
            | true =>
              rw [hc] at h
              simp only [cond_true,Option.some.injEq] at h
              subst h
              simp only [Bool.and_eq_true] at hc
              obtain ⟨⟨⟨⟨c1,c2⟩,c3⟩,c4⟩,c5⟩ := hc
              have c1 := Nat.eq_of_beq_eq_true c1
              subst c1
              exact op_append_zeros hx h4 (Nat.eq_of_beq_eq_true c2) hy (of_decide_eq_true c3) (allP_at hT.und h1) (allP_at hT.und h2) (allP_at hT.inf h3) h5 rfl c5 (Nat.le_of_ble_eq_true c4) hd
          · cases h
        · cases h
      · cases h
    · cases h
  · cases h
theorem rdX_ok (hT : T.ok P) (h : rdX T st o.op = some x) (hd : dok o.dst n = true) : OpR P n o st x := by
  obtain ⟨d,op,ty,ps,af,g⟩ := o
  simp only at h
  have hd : dok d n = true := hd
  unfold rdX at h
  split at h
  · split at h
    · rename_i hu hx hy
      injection h with h
      subst h
      exact op_nilpEq (neq := false) hx hy (allP_at hT.und hu) hd
    · rename_i hu hx hy
      injection h with h
      subst h
      exact op_boxNil (neq := false) hx hy (allP_at hT.und hu) hd
    · rename_i hu hx hy
      injection h with h
      subst h
      exact op_nilEq (neq := false) hx hy (allP_at hT.und hu) hd
    · rename_i id m hu hx hy
      split at h
      · rename_i sz rows e hb
        cases hc : (Nat.beq m rows.length && Nat.blt 0 m) with
        | false => rw [hc] at h;cases h
        | true =>
          rw [hc] at h
          injection h with h
          subst h
          rw [Bool.and_eq_true] at hc
          exact op_oslNil (neq := false) hx hb (Nat.eq_of_beq_eq_true hc.1) (by simpa using hc.2) hy (allP_at hT.und hu) hd
      · cases h
    · cases h
  · split at h
    · rename_i hu hx hy
      injection h with h
      subst h
      exact op_nilpEq (neq := true) hx hy (allP_at hT.und hu) hd
    · rename_i hu hx hy
      injection h with h
      subst h
      exact op_boxNil (neq := true) hx hy (allP_at hT.und hu) hd
    · rename_i hu hx hy
      injection h with h
      subst h
      exact op_nilEq (neq := true) hx hy (allP_at hT.und hu) hd
    · rename_i id m hu hx hy
      split at h
      · rename_i sz rows e hb
        cases hc : (Nat.beq m rows.length && Nat.blt 0 m) with
        | false => rw [hc] at h;cases h
        | true =>
          rw [hc] at h
          injection h with h
          subst h
          rw [Bool.and_eq_true] at hc
          exact op_oslNil (neq := true) hx hb (Nat.eq_of_beq_eq_true hc.1) (by simpa using hc.2) hy (allP_at hT.und hu) hd
      · cases h
    · cases h
  · split at h
    · rename_i args _ m ns h1
      injection h with h
      subst h
      rw [evL_eq,List.append_nil] at h1
      exact op_maxs (hi := true) h1 hd
    · cases h
  · split at h
    · rename_i args _ m ns h1
      injection h with h
      subst h
      rw [evL_eq,List.append_nil] at h1
      exact op_maxs (hi := false) h1 hd
    · cases h
  · split at h
    · rename_i L e z s b hu hI
      split at h
      · rename_i zz ss bb hE
        cases hb : allOne (z.cells.toList.map avOf) with
        | false => rw [hb] at h;cases h
        | true =>
          rw [hb] at h
          simp only [cond_true] at h
          split at h
          · rename_i out hf
            injection h with h
            subst h
            exact op_build_arr (allP_at hT.und hu) (allP_at hT.inf hI) (allP_at hT.inf hE) rfl hb hf hd
          · cases h
      · cases h
    · cases h
  · split at h
    · rename_i k m hx
      injection h with h
      subst h
      exact op_compl' hx hd
    · cases h
  · split at h
    · rename_i t y z id m k i hx hy
      split at h
      · rename_i L e zz b rows e' h1 h2
        cases hc : (Nat.beq m rows.length && decide (0 ≤ i) && decide (i < (L : Int)) && decide (i < (m : Int))) with
        | false => rw [hc] at h;cases h
        | true =>
          rw [hc] at h
          injection h with h
          subst h
          simp only [Bool.and_eq_true] at hc
          obtain ⟨⟨⟨c1,c2⟩,c3⟩,c4⟩ := hc
          obtain ⟨g1,g2⟩ := arrOf_ok hT h1
          exact op_index_arr hx h2 (Nat.eq_of_beq_eq_true c1) hy g1 g2 (of_decide_eq_true c2) (of_decide_eq_true c3) (of_decide_eq_true c4) hd
      · cases h
    · cases h
  · split at h
    · rename_i t y id m hx
      split at h
      · rename_i q rows e' zz s b h1 h2 h3
        cases hc : (Nat.beq m rows.length && Nat.blt 0 m && Nat.beq s m) with
        | false => rw [hc] at h;cases h
        | true =>
          rw [hc] at h
          injection h with h
          subst h
          simp only [Bool.and_eq_true] at hc
          obtain ⟨⟨c1,c2⟩,c3⟩ := hc
          obtain ⟨L,e,z,bb⟩ := q
          obtain ⟨g1,g2⟩ := arrOf_ok hT h1
          exact op_load_arr hx h2 (Nat.eq_of_beq_eq_true c1) (by simpa using c2) g1 rfl (allP_at hT.inf h3) (by rw [Nat.eq_of_beq_eq_true c3,Nat.mul_one]) hd
      · cases h
    · cases h
  · split at h
    · rename_i t y lo hi id m hx
      split at h
      · rename_i L e zz b rows e' h1 h2
        split at h
        · rename_i l hh g3 g4
          cases hc : (Nat.beq m rows.length && Nat.beq L m && Nat.blt 0 m && inB3 l hh m) with
          | false => rw [hc] at h;cases h
          | true =>
            rw [hc] at h
            injection h with h
            subst h
            simp only [Bool.and_eq_true] at hc
            obtain ⟨⟨⟨c1,c2⟩,c3⟩,c4⟩ := hc
            obtain ⟨g1,g2⟩ := arrOf_ok hT h1
            have c2 := Nat.eq_of_beq_eq_true c2
            subst c2
            obtain ⟨b1,b2,b3⟩ := inB3_ok c4
            exact op_slice_arr hx h2 (Nat.eq_of_beq_eq_true c1) (bndN_ok g3) (bndN_ok g4) g1 g2 b1 b2 b3 (by simpa using c3) hd
        · cases h
      · cases h
    · cases h
  · cases h
theorem rdX_nx (r : List (Nat × AV)) (h : List (Nat × AB)) (k k' : Nat) (op : Op) : rdX T ⟨r,h,k⟩ op = rdX T ⟨r,h,k'⟩ op := by
  unfold rdX
  split <;> simp only [ev_nx r h k k',evL_nx r h k k',bndN_nx r h k k',evParts_nx r h k k']
def readR (T : Tab) (st : ASt) (op : Op) : Option AV := match readC T st op with
  | some x => some x
  | none => rdX T st op
theorem readR_ok (hT : T.ok P) (h : readR T st o.op = some x) (hd : dok o.dst n = true) : OpR P n o st x := by
  unfold readR at h
  split at h
  · rename_i y h1
    injection h with h
    subst h
    exact readC_ok hT h1 hd
  · exact rdX_ok hT h hd
theorem readR_nx (r : List (Nat × AV)) (h : List (Nat × AB)) (k k' : Nat) (op : Op) : readR T ⟨r,h,k⟩ op = readR T ⟨r,h,k'⟩ op := by
  unfold readR
  rw [readC_nx r h k k',rdX_nx r h k k']
def memR (C : Ctx) (self : SelfT) (st : ASt) (o : Oper) : Option ASt := match memX C.T st o.dst o.op with
  | some s => some s
  | none => memC C self st o
theorem memR_Y {C : Ctx} {self : SelfT} (hC : C.ok P) (hS : SelfOk P self) (hd : dok o.dst n = true) (h : memR C self st o = some st') : OpY P n o st st' := by
  unfold memR at h
  split at h
  · rename_i s h1
    injection h with h
    subst h
    exact .ofV (memX_ok hC.T h1 hd)
  · exact memC_Y hC hS hd h
theorem memR_ok {C : Ctx} {self : SelfT} {ops : Array Oper} {l : List Oper} {Q : Exit → ASt → Prop} (hC : C.ok P) (hS : SelfOk P self) (hd : dok o.dst n = true) (h : memR C self st o = some st') (hw : ∀ (K : Kn) (a : Act) (w : World) (G : Gh),RelG K n st a w G → Region.wanted o (yielded ops a.tmps) = true) (k : AL P n ops Q l st') : AL P n ops Q (o :: l) st := by
  unfold memR at h
  split at h
  · rename_i s h1
    injection h with h
    subst h
    exact AL.opw hw (memX_ok hC.T h1 hd) k
  · exact memC_ok hC hS hd h hw k
end
/-! ### The whole memory in order,each block once -/
/-! ### Blocks that nobody can reach are dropped at the end of a function -/
def fNs {α : Type} : List Nat → (List Nat → α) → α
  | [],k => k []
  | a :: l,k => fN a fun a => fNs l fun l => k (a :: l)
theorem fNs_eq {α : Type} (l : List Nat) : ∀ (k : List Nat → α),fNs l k = k l := by
  induction l with
  | nil => intro k;rfl
  | cons a l ih => intro k;rw [fNs,fN_eq,ih]
def pickK {α : Type} (h : List (Nat × AB)) : List Nat → List (Nat × AB) → (List (Nat × AB) → α) → α
  | [],acc,k => k acc
  | j :: l,acc,k => fB (look .dead h j) fun b => pickK h l ((j,b) :: acc) k
def pickA (h : List (Nat × AB)) : List Nat → List (Nat × AB) → List (Nat × AB)
  | [],acc => acc
  | j :: l,acc => pickA h l ((j,look .dead h j) :: acc)
theorem pickK_eq {α : Type} (h : List (Nat × AB)) : ∀ (l : List Nat) (acc : List (Nat × AB)) (k : List (Nat × AB) → α),pickK h l acc k = k (pickA h l acc)
  | [],_,_ => rfl
  | j :: l,acc,k => by rw [pickK,pickA,fB_eq];exact pickK_eq h l _ k
theorem pickA_les (h : List (Nat × AB)) : ∀ (l : List Nat) (acc : List (Nat × AB)),(∀ id,LesB (look .dead acc id) (look .dead h id)) → ∀ id,LesB (look .dead (pickA h l acc) id) (look .dead h id)
  | [],_,ha,id => ha id
  | j :: l,acc,ha,id => pickA_les h l _ (fun id => by
      rw [look_cons]
      by_cases e : j = id
      · subst e;rw [if_pos rfl];exact .refl _
      · rw [if_neg e];exact ha id) id
def gcK {α : Type} (h : List (Nat × AB)) (nx0 : Nat) (x : AV) (k : List (Nat × AB) → α) : α := bif Nat.blt 40 h.length then
    fNs (clo (look .dead h) 100000 (idsV x ++ (h.filter fun p => Nat.blt p.1 nx0).map (·.1)) []) fun l => pickK h l [] k
  else k h
theorem gcK_eq (h : List (Nat × AB)) (nx0 : Nat) (x : AV) : ∃ h',(∀ id,LesB (look .dead h' id) (look .dead h id)) ∧ ∀ {α : Type} (k : List (Nat × AB) → α),gcK h nx0 x k = k h' := by
  unfold gcK
  cases Nat.blt 40 h.length with
  | false => exact ⟨h,fun _ => .refl _,fun k => rfl⟩
  | true => exact ⟨_,pickA_les h _ [] (fun _ => .dead _),fun k => by simp only [cond_true];rw [fNs_eq,pickK_eq]⟩
theorem AC.lesH {P : Program} {F : FuncId} {xs : List AV} {hp hp1 hp2 : List (Nat × AB)} {nx nx1 : Nat} {x : AV} (h : AC P F xs hp nx (fun y h' n' => y = x ∧ h' = hp1 ∧ n' = nx1)) (hl : ∀ id,LesB (look .dead hp2 id) (look .dead hp1 id)) : AC P F xs hp nx (fun y h' n' => y = x ∧ h' = hp2 ∧ n' = nx1) := fun w0 w G vs a1 a2 a3 => by
  refine (h w0 w G vs a1 a2 a3).mono fun e w' ⟨v,x',hp',nx',G',he,⟨e3,e4,e5⟩,hnx,hHR,hRV,hExt⟩ => ?_
  subst e4
  exact ⟨v,x',hp2,nx',G',he,⟨e3,rfl,e5⟩,hnx,⟨hHR.bs,hHR.below,hHR.ownlt,fun id => (hl id).ok (hHR.blk id),hHR.dist,hHR.ownhas⟩,hRV,hExt⟩
end Go.Proofs.Ytelpkjellakigaa.Rn
/- A run of the abstract machine by one computed function: control,functions. No program in sight. -/
namespace Go.Proofs.Ytelpkjellakigaa.Rn
open Go Go.RowKit Go.Proofs.Ytelpkjellakigaa Go.Proofs.Ytelpkjellakigaa.Dr

section
variable {P : Program} {n : Nat} {T : List (List Nat)} {W : List (Nat × Nat)} {M : List (Nat × AB)} {st st' : ASt} {o : Oper} {x : AV} {Q : Exit → ASt → Prop} {ops : Array Oper} {l : List Oper}
theorem look_mem {d : AB} : ∀ {l : List (Nat × AB)} {id : Nat},look d l id ≠ d → ∃ p ∈ l,p.1 = id
  | [],id,h => absurd rfl h
  | (j,v) :: l,id,h => by
    rw [look_cons] at h
    by_cases e : j = id
    · exact ⟨(j,v),by simp,e⟩
    · rw [if_neg e] at h
      obtain ⟨p,h1,h2⟩ := look_mem h
      exact ⟨p,List.mem_cons_of_mem _ h1,h2⟩
theorem srcRows_nx (r : List (Nat × AV)) (h : List (Nat × AB)) (k k' : Nat) (sz : Nat) (a : AV) : srcRows ⟨r,h,k⟩ sz a = srcRows ⟨r,h,k'⟩ sz a := by
  cases a <;> rfl
end
end Go.Proofs.Ytelpkjellakigaa.Rn
/- Short ways for the commonest operations: small bodies,for the kernel's sake. No program in sight. -/
namespace Go.Proofs.Ytelpkjellakigaa.Rn
open Go Go.RowKit Go.Proofs.Ytelpkjellakigaa Go.Proofs.Ytelpkjellakigaa.Dr

def chk64 (r : Int) : Option AV := bif decide (-9223372036854775808 ≤ r) && decide (r ≤ 9223372036854775807) then some (.int .i64 r) else none
def fastI (o : BinOp) (m q : Int) : Option AV := match o with
  | .add => chk64 (m + q)
  | .sub => chk64 (m - q)
  | .mul => chk64 (m * q)
  | .lss => some (.bool (decide (m < q)))
  | .leq => some (.bool (decide (m ≤ q)))
  | .gtr => some (.bool (decide (q < m)))
  | .geq => some (.bool (decide (q ≤ m)))
  | .eql => some (.bool (decide (m = q)))
  | .neq => some (.bool (decide (m ≠ q)))
  | .quo => bif decide (q = 0) then none else chk64 (m.tdiv q)
  | .rem => bif decide (q = 0) then none else some (.int .i64 (m.tmod q))
  | _ => none
def kc : IntKind → Nat
  | .i8 => 0 | .i16 => 1 | .i32 => 2 | .i64 => 3 | .u8 => 4 | .u16 => 5 | .u32 => 6 | .u64 => 7
theorem kc_inj {k k' : IntKind} (h : Nat.beq (kc k) (kc k') = true) : k = k' := by
  cases k <;> cases k' <;> first | rfl | (simp [kc] at h)
def fastK (k : IntKind) (o : BinOp) (m q : Int) : Option AV := match o with
  | .and => some (.int k (bits .and k m q))
  | .or => some (.int k (bits .or k m q))
  | .xor => some (.int k (bits .xor k m q))
  | .add => some (.int k (k.wrap (m + q)))
  | .sub => some (.int k (k.wrap (m - q)))
  | .eql => some (.bool (decide (m = q)))
  | .neq => some (.bool (decide (m ≠ q)))
  | _ => none
def fastSh (k : IntKind) (o : BinOp) (m q : Int) : Option AV := match o with
  | .shr => bif decide (0 ≤ q) && decide (q ≤ (k.bits : Int)) then some (.int k (m / 2 ^ q.toNat)) else none
  | .shl => bif decide (0 ≤ q) && decide (q ≤ (k.bits : Int)) then some (.int k (k.wrap (m * 2 ^ q.toNat))) else none
  | _ => none
def fastB (o : BinOp) (a b : AV) : Option AV := match a,b with
  | .int k m,.int k' q => match fastSh k o m q with
    | some x => some x
    | none => bif Nat.beq (kc k) (kc k') then (match fastI3 k o m q with
      | some x => some x
      | none => fastK k o m q) else none
  | _,_ => none
where fastI3 (k : IntKind) (o : BinOp) (m q : Int) : Option AV := bif Nat.beq (kc k) 3 then fastI o m q else none
def fastL (T : Tab) (st : ASt) (t : TypeId) (a : AV) : Option AV := match a with
  | .box id o => match look .dead st.heap id,lk T.und t,lk T.inf t with
    | .box cs _,some D,some (_,s,_) => partA cs o s (aggB D)
    | _,_,_ => none
  | .elt id m i o => match look .dead st.heap id,lk T.und t,lk T.inf t with
    | .row _ rows _,some D,some (_,s,_) => match rows[i]? with
      | some row => bif Nat.beq m rows.length then partA row o s (aggB D) else none
      | none => none
    | _,_,_ => none
  | _ => none
def fastX (T : Tab) (st : ASt) (t : TypeId) (a b : AV) : Option AV := match a,b with
  | .osl id m,.int _ i => match look .dead st.heap id,lk T.und t with
    | .row sz rows _,some (.slice e) => match lk T.inf e with
      | some (_,s,_) => bif Nat.beq s sz && Nat.beq m rows.length && decide (0 ≤ i) && decide (i < (m : Int)) then some (.elt id m i.toNat 0) else none
      | none => none
    | _,_ => none
  | _,_ => none
def fastF (T : Tab) (t f : Nat) (a : AV) : Option AV := match a with
  | .box id o => match lk T.fld t with
    | some fl => match fl[f]? with
      | some (off,s,_) => bif Nat.beq s 0 then none else some (.box id (o + off))
      | none => none
    | none => none
  | _ => none
def fast (T : Tab) (st : ASt) : Op → Option AV
  | .move x => some (st.ev x)
  | .assign x => some (st.ev x)
  | .binOp o _ x y _ => fastB o (st.ev x) (st.ev y)
  | .load t x => fastL T st t (st.ev x)
  | .indexAddr t x y => fastX T st t (st.ev x) (st.ev y)
  | .fieldAddr t x f => fastF T t f (st.ev x)
  | _ => none
section
variable {P : Program} {n : Nat} {T : Tab} {st st' : ASt} {o : Oper} {x : AV}
theorem chk64_ok {r : Int} (h : chk64 r = some x) : x = .int .i64 r ∧ IntKind.i64.wrap r = r := by
  unfold chk64 at h
  cases hc : (decide (-9223372036854775808 ≤ r) && decide (r ≤ 9223372036854775807)) with
  | false => rw [hc] at h;cases h
  | true =>
    rw [hc] at h
    injection h with h
    rw [Bool.and_eq_true] at hc
    exact ⟨h.symm,wr64 (of_decide_eq_true hc.1) (of_decide_eq_true hc.2)⟩
theorem fast_ok (hT : T.ok P) (h : fast T st o.op = some x) (hd : dok o.dst n = true) : OpR P n o st x := by
  obtain ⟨d,op,ty,ps,af,g⟩ := o
  simp only at h
  have hd : dok d n = true := hd
  unfold fast at h
  split at h
  · injection h with h
    exact op_move h hd
  · injection h with h
    exact op_assign h hd
  · rename_i o t y z t'
    unfold fastB at h
    split at h
    · rename_i k m k' q hy hz
      split at h
      · rename_i x2 h1
        injection h with h
        subst h
        unfold fastSh at h1
        split at h1
        · cases hc : (decide (0 ≤ q) && decide (q ≤ (k.bits : Int))) with
          | false => rw [hc] at h1;cases h1
          | true =>
            rw [hc] at h1
            injection h1 with h1
            subst h1
            rw [Bool.and_eq_true] at hc
            exact op_shr hy hz (of_decide_eq_true hc.1) (of_decide_eq_true hc.2) hd
        · cases hc : (decide (0 ≤ q) && decide (q ≤ (k.bits : Int))) with
          | false => rw [hc] at h1;cases h1
          | true =>
            rw [hc] at h1
            injection h1 with h1
            subst h1
            rw [Bool.and_eq_true] at hc
            exact op_shl hy hz (of_decide_eq_true hc.1) (of_decide_eq_true hc.2) rfl hd
        · cases h1
      · cases hk : Nat.beq (kc k) (kc k') with
        | false => rw [hk] at h;cases h
        | true =>
          rw [hk] at h
          simp only [cond_true] at h
          have hkk := kc_inj hk
          subst hkk
          split at h
          · rename_i x2 h1
            injection h with h
            subst h
            unfold fastB.fastI3 at h1
            cases h3 : Nat.beq (kc k) 3 with
            | false => rw [h3] at h1;cases h1
            | true =>
              rw [h3] at h1
              have hki : k = .i64 := kc_inj (k' := .i64) h3
              subst hki
              have h : fastI o m q = some x2 := h1
              unfold fastI at h
              split at h
              · obtain ⟨rfl,h2⟩ := chk64_ok h;exact op_add hy hz h2 hd
              · obtain ⟨rfl,h2⟩ := chk64_ok h;exact op_sub hy hz h2 hd
              · obtain ⟨rfl,h2⟩ := chk64_ok h;exact op_mul hy hz h2 hd
              · injection h with h;subst h;exact op_lss hy hz hd
              · injection h with h;subst h;exact op_leq hy hz hd
              · injection h with h;subst h;exact op_gtr hy hz hd
              · injection h with h;subst h;exact op_geq hy hz hd
              · injection h with h;subst h;exact op_eql hy hz hd
              · injection h with h;subst h;exact op_neq hy hz hd
              · by_cases e : q = 0
                · rw [decide_eq_true e] at h;cases h
                · rw [decide_eq_false e] at h
                  obtain ⟨rfl,h2⟩ := chk64_ok h
                  exact op_quo hy hz e h2 hd
              · by_cases e : q = 0
                · rw [decide_eq_true e] at h;cases h
                · rw [decide_eq_false e] at h
                  injection h with h
                  subst h
                  exact op_rem hy hz e hd
              · cases h
          · unfold fastK at h
            split at h
            · injection h with h;subst h;exact op_bits (.inl rfl) hy hz rfl hd
            · injection h with h;subst h;exact op_bits (.inr (.inl rfl)) hy hz rfl hd
            · injection h with h;subst h;exact op_bits (.inr (.inr (.inl rfl))) hy hz rfl hd
            · injection h with h;subst h;exact op_add hy hz rfl hd
            · injection h with h;subst h;exact op_sub hy hz rfl hd
            · injection h with h;subst h;exact op_eql hy hz hd
            · injection h with h;subst h;exact op_neq hy hz hd
            · cases h
    · cases h
  · rename_i t y
    unfold fastL at h
    split at h
    · rename_i id off hy
      split at h
      · rename_i cs e D z s b hb hu hI
        exact op_load_box hy hb (allP_at hT.und hu) (allP_at hT.inf hI) h hd
      · cases h
    · rename_i id m i off hy
      split at h
      · rename_i sz rows e D z s b hb hu hI
        split at h
        · rename_i row hr
          cases hm : Nat.beq m rows.length with
          | false => rw [hm] at h;cases h
          | true =>
            rw [hm] at h
            exact op_load_elt hy hb (Nat.eq_of_beq_eq_true hm) hr (allP_at hT.und hu) (allP_at hT.inf hI) h hd
        · cases h
      · cases h
    · cases h
  · rename_i t y z
    unfold fastX at h
    split at h
    · rename_i id m k i hy hz
      split at h
      · rename_i sz rows e' e hb hu
        split at h
        · rename_i zz s b hI
          cases hc : (Nat.beq s sz && Nat.beq m rows.length && decide (0 ≤ i) && decide (i < (m : Int))) with
          | false => rw [hc] at h;cases h
          | true =>
            rw [hc] at h
            injection h with h
            subst h
            simp only [Bool.and_eq_true] at hc
            obtain ⟨⟨⟨c1,c2⟩,c3⟩,c4⟩ := hc
            exact op_index_osl hy hb (Nat.eq_of_beq_eq_true c2) hz (allP_at hT.und hu) (allP_at hT.inf hI) (Nat.eq_of_beq_eq_true c1) (of_decide_eq_true c3) (of_decide_eq_true c4) hd
        · cases h
      · cases h
    · cases h
  · rename_i t y f
    unfold fastF at h
    split at h
    · rename_i id off hy
      split at h
      · rename_i fl hF
        split at h
        · rename_i o2 s b hf
          cases hs : Nat.beq s 0 with
          | true => rw [hs] at h;cases h
          | false =>
            rw [hs] at h
            injection h with h
            subst h
            exact op_fieldAddr_box hy (allP_at hT.fld hF) hf (fun e => by subst e;cases hs) hd
        · cases h
      · cases h
    · cases h
  · cases h
theorem fast_nx (r : List (Nat × AV)) (h : List (Nat × AB)) (k k' : Nat) (op : Op) : fast T ⟨r,h,k⟩ op = fast T ⟨r,h,k'⟩ op := by
  unfold fast
  split <;> simp only [ev_nx r h k k',fastL,fastX]
/-- reading -/
def readF (T : Tab) (st : ASt) (op : Op) : Option AV := match fast T st op with
  | some x => some x
  | none => readR T st op
theorem readF_ok (hT : T.ok P) (h : readF T st o.op = some x) (hd : dok o.dst n = true) : OpR P n o st x := by
  unfold readF at h
  split at h
  · rename_i y h1
    injection h with h
    subst h
    exact fast_ok hT h1 hd
  · exact readR_ok hT h hd
theorem readF_nx (r : List (Nat × AV)) (h : List (Nat × AB)) (k k' : Nat) (op : Op) : readF T ⟨r,h,k⟩ op = readF T ⟨r,h,k'⟩ op := by
  unfold readF
  rw [fast_nx r h k k',readR_nx r h k k']
/-- calls at once;a store into a box or a row at once -/
def isVal : Op → Bool
  | .call ⟨.value _,_,_⟩ => true
  | _ => false
def fastS (T : Tab) (st : ASt) (t : TypeId) (a : AV) (vs : List AV) : Option ASt := match a with
  | .box id o => match look .dead st.heap id,lk T.inf t with
    | .box cs e,some (_,s,_) => bif allOne vs && Nat.beq vs.length s && Nat.ble (o + s) cs.length then some (st.hset id (.box (setR cs o vs) e)) else none
    | _,_ => none
  | _ => none
def fastM (T : Tab) (st : ASt) (d : Option Nat) : Op → Option ASt
  | .store t a v => match d with
    | none => fastS T st t (st.ev a) (st.ev v).cells
    | some _ => none
  | _ => none
theorem fastM_ok (hT : T.ok P) (h : fastM T st o.dst o.op = some st') : OpV P n o st st' := by
  obtain ⟨d,op,ty,ps,af,g⟩ := o
  simp only at h
  unfold fastM at h
  split at h
  · rename_i t a v
    split at h
    · unfold fastS at h
      split at h
      · rename_i id off ha
        split at h
        · rename_i cs e z s b hb hI
          cases hc : (allOne (st.ev v).cells && Nat.beq (st.ev v).cells.length s && Nat.ble (off + s) cs.length) with
          | false => rw [hc] at h;cases h
          | true =>
            rw [hc] at h
            injection h with h
            subst h
            simp only [Bool.and_eq_true] at hc
            exact op_store_box ha hb rfl hc.1.1 (allP_at hT.inf hI) (Nat.eq_of_beq_eq_true hc.1.2) (Nat.le_of_ble_eq_true hc.2)
        · cases h
      · cases h
    · cases h
  · cases h
def memF (C : Ctx) (self : SelfT) (st : ASt) (o : Oper) : Option ASt := bif isVal o.op then callC C self st o.dst o.op else match fastM C.T st o.dst o.op with
  | some s => some s
  | none => memR C self st o
theorem memR_call {C : Ctx} {self : SelfT} (h : isVal o.op = true) : callC C self st o.dst o.op = some st' → memC C self st o = some st' := by
  obtain ⟨d,op,ty,ps,af,g⟩ := o
  simp only at h ⊢
  unfold isVal at h
  split at h
  · intro h2
    exact h2
  · cases h
theorem memF_Y {C : Ctx} {self : SelfT} (hC : C.ok P) (hS : SelfOk P self) (hd : dok o.dst n = true) (h : memF C self st o = some st') : OpY P n o st st' := by
  unfold memF at h
  cases hv : isVal o.op with
  | true =>
    rw [hv] at h
    exact memC_Y hC hS hd (memR_call hv h)
  | false =>
    rw [hv] at h
    simp only [cond_false] at h
    split at h
    · rename_i s h1
      injection h with h
      subst h
      exact .ofV (fastM_ok hC.T h1)
    · exact memR_Y hC hS hd h
theorem memF_ok {C : Ctx} {self : SelfT} {ops : Array Oper} {l : List Oper} {Q : Exit → ASt → Prop} (hC : C.ok P) (hS : SelfOk P self) (hd : dok o.dst n = true) (h : memF C self st o = some st') (hw : ∀ (K : Kn) (a : Act) (w : World) (G : Gh),RelG K n st a w G → Region.wanted o (yielded ops a.tmps) = true) (k : AL P n ops Q l st') : AL P n ops Q (o :: l) st := by
  unfold memF at h
  cases hv : isVal o.op with
  | true =>
    rw [hv] at h
    exact memC_ok hC hS hd (memR_call hv h) hw k
  | false =>
    rw [hv] at h
    simp only [cond_false] at h
    split at h
    · rename_i s h1
      injection h with h
      subst h
      exact AL.opw hw (fastM_ok hC.T h1) k
    · exact memR_ok hC hS hd h hw k
/-- a key taken out -/
def remK {β α : Type} (d : Nat) : List (Nat × β) → (List (Nat × β) → α) → α
  | [],k => k []
  | (j,x) :: l,k => bif Nat.beq j d then remK d l k else remK d l fun l => k ((j,x) :: l)
def remA {β : Type} (d : Nat) : List (Nat × β) → List (Nat × β)
  | [] => []
  | (j,x) :: l => bif Nat.beq j d then remA d l else (j,x) :: remA d l
theorem remK_eq {β α : Type} (d : Nat) (l : List (Nat × β)) : ∀ (k : List (Nat × β) → α),remK d l k = k (remA d l) := by
  induction l with
  | nil => intro k;rfl
  | cons p l ih =>
    intro k
    obtain ⟨j,x⟩ := p
    rw [remK,remA]
    cases Nat.beq j d with
    | true => simp only [cond_true];exact ih k
    | false => simp only [cond_false];rw [ih]
theorem remA_look {β : Type} (dd : β) (d : Nat) (l : List (Nat × β)) {i : Nat} (h : d ≠ i) : look dd (remA d l) i = look dd l i := by
  induction l with
  | nil => rfl
  | cons p l ih =>
    obtain ⟨j,x⟩ := p
    rw [remA,look_cons]
    cases hb : Nat.beq j d with
    | true =>
      have := Nat.eq_of_beq_eq_true hb
      subst this
      simp only [cond_true]
      rw [if_neg h,ih]
    | false =>
      simp only [cond_false]
      rw [look_cons,ih]
theorem front_look {β : Type} (dd : β) (d : Nat) (v : β) (l : List (Nat × β)) (i : Nat) : look dd ((d,v) :: remA d l) i = look dd ((d,v) :: l) i := by
  rw [look_cons,look_cons]
  by_cases e : d = i
  · rw [if_pos e,if_pos e]
  · rw [if_neg e,if_neg e,remA_look dd d l e]
def nmQ {α : Type} (st : ASt) (d : Option Nat) (x : AV) (k : ASt → α) : α := match d with
  | some d => fA1 x fun x => match st with
    | ⟨r,h,n⟩ => k ⟨(d,x) :: r,h,n⟩
  | none => k st
theorem nmQ_eq (st : ASt) (d : Option Nat) (x : AV) : ∃ st',Eqv (st.put d x) st' ∧ ∀ {α : Type} (k : ASt → α),nmQ st d x k = k st' := by
  cases d with
  | none => exact ⟨st,Eqv.refl _,fun k => rfl⟩
  | some d =>
    obtain ⟨r,h,n⟩ := st
    exact ⟨⟨(d,x) :: r,h,n⟩,⟨fun t => rfl,fun _ => rfl,rfl⟩,fun k => by rw [nmQ,fA1_eq]⟩
def nm2R {α : Type} : List (Nat × AV) → (List (Nat × AV) → α) → α
  | [],k => k []
  | (d,v) :: l,k => fA1 v fun v => remK d l fun l => k ((d,v) :: l)
def nm2H {α : Type} : List (Nat × AB) → (List (Nat × AB) → α) → α
  | [],k => k []
  | (d,v) :: l,k => fB v fun v => remK d l fun l => k ((d,v) :: l)
def nm2 {α : Type} (st : ASt) (k : ASt → α) : α := nm2R st.regs fun r => nm2H st.heap fun h => fN st.nx fun x => k ⟨r,h,x⟩
theorem nm2_eq (st : ASt) : ∃ st',Eqv st st' ∧ ∀ {α : Type} (k : ASt → α),nm2 st k = k st' := by
  obtain ⟨r,h,x⟩ := st
  have h1 : ∃ r',(∀ d,look AV.any r d = look .any r' d) ∧ ∀ {α : Type} (k : List (Nat × AV) → α),nm2R r k = k r' := by
    cases r with
    | nil => exact ⟨[],fun _ => rfl,fun _ => rfl⟩
    | cons p l =>
      obtain ⟨d,v⟩ := p
      exact ⟨(d,v) :: remA d l,fun i => (front_look _ _ _ _ _).symm,fun k => by rw [nm2R,fA1_eq,remK_eq]⟩
  have h2 : ∃ r',(∀ d,look AB.dead h d = look .dead r' d) ∧ ∀ {α : Type} (k : List (Nat × AB) → α),nm2H h k = k r' := by
    cases h with
    | nil => exact ⟨[],fun _ => rfl,fun _ => rfl⟩
    | cons p l =>
      obtain ⟨d,v⟩ := p
      exact ⟨(d,v) :: remA d l,fun i => (front_look _ _ _ _ _).symm,fun k => by rw [nm2H,fB_eq,remK_eq]⟩
  obtain ⟨r',a1,a2⟩ := h1
  obtain ⟨h',b1,b2⟩ := h2
  exact ⟨⟨r',h',x⟩,⟨a1,b1,rfl⟩,fun k => by rw [nm2,a2,b2,fN_eq]⟩
/-- behind a call: the memory is in order already -/
def nm2C {α : Type} (st : ASt) (k : ASt → α) : α := match st with
  | ⟨r,h,n⟩ => nm2R r fun r => fN n fun x => k ⟨r,h,x⟩
theorem nm2C_eq (st : ASt) : ∃ st',Eqv st st' ∧ ∀ {α : Type} (k : ASt → α),nm2C st k = k st' := by
  obtain ⟨r,h,x⟩ := st
  have h1 : ∃ r',(∀ d,look AV.any r d = look .any r' d) ∧ ∀ {α : Type} (k : List (Nat × AV) → α),nm2R r k = k r' := by
    cases r with
    | nil => exact ⟨[],fun _ => rfl,fun _ => rfl⟩
    | cons p l =>
      obtain ⟨d,v⟩ := p
      exact ⟨(d,v) :: remA d l,fun i => (front_look _ _ _ _ _).symm,fun k => by rw [nm2R,fA1_eq,remK_eq]⟩
  obtain ⟨r',a1,a2⟩ := h1
  exact ⟨⟨r',h,x⟩,⟨a1,fun _ => rfl,rfl⟩,fun k => by rw [nm2C,a2,fN_eq]⟩
def nm2V {α : Type} (c : Bool) (st : ASt) (k : ASt → α) : α := bif c then nm2C st k else nm2 st k
theorem nm2V_eq (c : Bool) (st : ASt) : ∃ st',Eqv st st' ∧ ∀ {α : Type} (k : ASt → α),nm2V c st k = k st' := by
  cases c with
  | true => exact nm2C_eq st
  | false => exact nm2_eq st
/-- registers that are hidden by newer ones are dropped -/
def longer {β : Type} : Nat → List β → Bool
  | _,[] => false
  | 0,_ :: _ => true
  | n + 1,_ :: l => longer n l
def dedK {α : Type} : Nat → List (Nat × AV) → (List (Nat × AV) → α) → α
  | 0,l,k => k l
  | _ + 1,[],k => k []
  | n + 1,(d,v) :: l,k => remK d l fun l => dedK n l fun l => k ((d,v) :: l)
theorem dedK_eq : ∀ (n : Nat) (l : List (Nat × AV)),∃ l',(∀ d,look AV.any l d = look .any l' d) ∧ ∀ {α : Type} (k : List (Nat × AV) → α),dedK n l k = k l'
  | 0,l => ⟨l,fun _ => rfl,fun _ => rfl⟩
  | _ + 1,[] => ⟨[],fun _ => rfl,fun _ => rfl⟩
  | n + 1,(d,v) :: l => by
    obtain ⟨l',h1,h2⟩ := dedK_eq n (remA d l)
    refine ⟨(d,v) :: l',fun i => ?_,fun k => by rw [dedK,remK_eq,h2]⟩
    rw [← front_look,look_cons,look_cons,h1]
def prune {α : Type} (st : ASt) (k : ASt → α) : α := match st with
  | ⟨r,h,x⟩ => bif longer 300 r then dedK 1000 r fun r => k ⟨r,h,x⟩ else k ⟨r,h,x⟩
theorem prune_eq (st : ASt) : ∃ st',Eqv st st' ∧ ∀ {α : Type} (k : ASt → α),prune st k = k st' := by
  obtain ⟨r,h,x⟩ := st
  cases h0 : longer 300 r with
  | false => exact ⟨⟨r,h,x⟩,Eqv.refl _,fun k => by rw [prune,h0];rfl⟩
  | true =>
    obtain ⟨r',h1,h2⟩ := dedK_eq 1000 r
    exact ⟨⟨r',h,x⟩,⟨h1,fun _ => rfl,rfl⟩,fun k => by rw [prune,h0];simp only [cond_true];rw [h2]⟩
/-- a store into one element of a row: the other elements are left as they are -/
structure EltS where
  id : Nat
  sz : Nat
  rows : List (List AV)
  i : Nat
  row : List AV
  e : TypeId
def EltS.app (q : EltS) (st : ASt) : ASt := st.hset q.id (.row q.sz (q.rows.set q.i q.row) q.e)
def eltS (T : Tab) (st : ASt) (d : Option Nat) : Op → Option EltS
  | .store t a v => match d with
    | none => match st.ev a with
      | .elt id m i o => match look .dead st.heap id,lk T.inf t with
        | .row sz rows e,some (_,s,_) => match rows[i]? with
          | some row => bif Nat.beq m rows.length && (allOne (st.ev v).cells && (Nat.beq (st.ev v).cells.length s && Nat.ble (o + s) sz)) then some ⟨id,sz,rows,i,setR row o (st.ev v).cells,e⟩ else none
          | none => none
        | _,_ => none
      | _ => none
    | some _ => none
  | _ => none
theorem eltS_ok {q : EltS} (hT : T.ok P) (h : eltS T st o.dst o.op = some q) : OpV P n o st (q.app st) := by
  obtain ⟨d,op,ty,ps,af,g⟩ := o
  simp only at h
  unfold eltS at h
  split at h
  · rename_i t a v
    split at h
    · split at h
      · rename_i id m i oo ha
        split at h
        · rename_i sz rows e z s b hb hI
          split at h
          · rename_i row hr
            cases hc : (Nat.beq m rows.length && (allOne (st.ev v).cells && (Nat.beq (st.ev v).cells.length s && Nat.ble (oo + s) sz))) with
            | false => rw [hc] at h;cases h
            | true =>
              rw [hc] at h
              injection h with h
              subst h
              simp only [Bool.and_eq_true] at hc
              exact op_store_elt ha hb (Nat.eq_of_beq_eq_true hc.1) hr rfl hc.2.1 (allP_at hT.inf hI) (Nat.eq_of_beq_eq_true hc.2.2.1) (Nat.le_of_ble_eq_true hc.2.2.2)
          · cases h
        · cases h
      · cases h
    · cases h
  · cases h
def setRow1 {α : Type} : List (List AV) → Nat → List AV → (List (List AV) → α) → α
  | [],_,_,k => k []
  | _ :: l,0,x,k => fL1 x fun x => k (x :: l)
  | r :: l,i + 1,x,k => setRow1 l i x fun l => k (r :: l)
theorem setRow_eq1 {α : Type} : ∀ (l : List (List AV)) (i : Nat) (x : List AV) (k : List (List AV) → α),setRow1 l i x k = k (l.set i x)
  | [],_,_,_ => rfl
  | _ :: l,0,x,k => by rw [setRow1,fL1_eq];rfl
  | r :: l,i + 1,x,k => by rw [setRow1,setRow_eq1 l i x];rfl
def nmE {α : Type} (q : EltS) (st : ASt) (k : ASt → α) : α := match st with
  | ⟨r,h,n⟩ => setRow1 q.rows q.i q.row fun rows => remK q.id h fun h => k ⟨r,(q.id,.row q.sz rows q.e) :: h,n⟩
theorem nmE_eq (q : EltS) (st : ASt) : ∃ st',Eqv (q.app st) st' ∧ ∀ {α : Type} (k : ASt → α),nmE q st k = k st' := by
  obtain ⟨r,h,n⟩ := st
  exact ⟨⟨r,(q.id,.row q.sz (q.rows.set q.i q.row) q.e) :: remA q.id h,n⟩,⟨fun _ => rfl,fun i => (front_look _ _ _ _ _).symm,rfl⟩,fun k => by rw [nmE,setRow_eq1,remK_eq]⟩
/-- one after another -/
def runF (C : Ctx) (self : SelfT) (n : Nat) (ops : Array Oper) : List Oper → ASt → Option ASt
  | [],st => prune st fun s => some s
  | o :: l,st => bif dok o.dst n then (match wantC ops o st with
    | some true => match readF C.T st o.op with
      | some x => nmQ st o.dst x (runF C self n ops l)
      | none => match eltS C.T st o.dst o.op with
        | some q => nmE q st (runF C self n ops l)
        | none => match memF C self st o with
          | some st' => nm2V (isVal o.op) st' (runF C self n ops l)
          | none => none
    | some false => nmQ st o.dst .und (runF C self n ops l)
    | none => none) else none
theorem runF_ok {C : Ctx} {self : SelfT} {ops : Array Oper} {Q : Exit → ASt → Prop} (hC : C.ok P) (hS : SelfOk P self) : ∀ (l : List Oper) (st st' : ASt),runF C self n ops l st = some st' → Q .normal st' → AL P n ops Q l st
  | [],st,st',h,hq => by
    rw [runF] at h
    obtain ⟨s',e1,e2⟩ := prune_eq st
    rw [e2] at h
    injection h with h
    subst h
    exact AL.eqv e1 (AL.nil hq)
  | o :: l,st,st',h,hq => by
    rw [runF] at h
    cases hd : dok o.dst n with
    | false => rw [hd] at h;cases h
    | true =>
      rw [hd] at h
      simp only [cond_true] at h
      split at h
      · rename_i hw
        have hw' : ∀ (K : Kn) (a : Act) (w : World) (G : Gh),RelG K n st a w G → Region.wanted o (yielded ops a.tmps) = true := by
          rcases wantC_yes hw with hg | hg
          · exact fun _ a _ _ _ => wanted_none hg a
          · obtain ⟨d,want,g1,g2⟩ := gst_yes hg
            exact wanted_of g1 g2
        split at h
        · rename_i x h1
          obtain ⟨s',e1,e2⟩ := nmQ_eq st o.dst x
          rw [e2] at h
          exact AL.opw hw' (readF_ok hC.T h1 hd).opv (AL.eqv e1 (runF_ok hC hS l s' st' h hq))
        · split at h
          · rename_i q h1
            obtain ⟨s',e1,e2⟩ := nmE_eq q st
            rw [e2] at h
            exact AL.opw hw' (eltS_ok hC.T h1) (AL.eqv e1 (runF_ok hC hS l s' st' h hq))
          · split at h
            · rename_i s h1
              obtain ⟨s',e1,e2⟩ := nm2V_eq (isVal o.op) s
              rw [e2] at h
              exact memF_ok hC hS hd h1 hw' (AL.eqv e1 (runF_ok hC hS l s' st' h hq))
            · cases h
      · rename_i hw
        obtain ⟨d,want,g1,g2⟩ := gst_no (wantC_no hw)
        obtain ⟨s',e1,e2⟩ := nmQ_eq st o.dst .und
        rw [e2] at h
        exact AL.skipg g1 hd g2 (AL.eqv e1 (runF_ok hC hS l s' st' h hq))
      · cases h
end
end Go.Proofs.Ytelpkjellakigaa.Rn
/- Regions that draw,run once: each operation on the blocks that it reaches;what is asked of the order is tested at the end. No program in sight. -/
namespace Go.Proofs.Ytelpkjellakigaa.Rn
open Go Go.RowKit Go.Proofs.Ytelpkjellakigaa Go.Proofs.Ytelpkjellakigaa.Dr

/-- blocks put in place -/
def putK {α : Type} (f : Nat → AB) : List Nat → List (Nat × AB) → (List (Nat × AB) → α) → α
  | [],h,k => k h
  | j :: l,h,k => fB (f j) fun b => setK j b h fun h => putK f l h k
def putA (f : Nat → AB) : List Nat → List (Nat × AB) → List (Nat × AB)
  | [],h => h
  | j :: l,h => putA f l (setA j (f j) h)
theorem putK_eq {α : Type} (f : Nat → AB) : ∀ (l : List Nat) (h : List (Nat × AB)) (k : List (Nat × AB) → α),putK f l h k = k (putA f l h)
  | [],_,_ => rfl
  | j :: l,h,k => by rw [putK,putA,fB_eq,setK_eq];exact putK_eq f l _ k
theorem putA_look (f : Nat → AB) : ∀ (l : List Nat) (h : List (Nat × AB)) (id : Nat),(id ∈ l → look .dead (putA f l h) id = f id) ∧ (id ∉ l → look .dead (putA f l h) id = look .dead h id)
  | [],h,id => ⟨fun h => by simp at h,fun _ => rfl⟩
  | j :: l,h,id => by
    obtain ⟨h1,h2⟩ := putA_look f l (setA j (f j) h) id
    rw [putA]
    constructor
    · intro hm
      by_cases e : id ∈ l
      · exact h1 e
      · have : id = j := (List.mem_cons.1 hm).resolve_right e
        subst this
        rw [h2 e,look_setA,look_cons,if_pos rfl]
    · intro hm
      rw [h2 fun e => hm (List.mem_cons_of_mem _ e),look_setA,look_cons,if_neg fun e => hm (by rw [e];exact List.mem_cons_self ..)]
section
variable {P : Program} {n : Nat} {T : List (List Nat)} {W : List (Nat × Nat)} {st st' : ASt} {o : Oper} {x : AV} {Q : Exit → ASt → Prop} {ops : Array Oper} {l : List Oper}
def stepH (C : Ctx) (self : SelfT) (st : ASt) (o : Oper) : Option ASt := match readF C.T st o.op with
  | some x => some (st.put o.dst x)
  | none => memF C self st o
theorem stepH_Y {C : Ctx} {self : SelfT} (hC : C.ok P) (hS : SelfOk P self) (hd : dok o.dst n = true) (h : stepH C self st o = some st') : OpY P n o st st' := by
  unfold stepH at h
  split at h
  · rename_i x h1
    injection h with h
    subst h
    exact .ofV (readF_ok hC.T h1 hd).opv
  · exact memF_Y hC hS hd h
/-- the registers that an operation looks at,laid out -/
def fRs {α : Type} (r : List (Nat × AV)) : List Nat → (List (Nat × AV) → α) → α
  | [],k => k []
  | t :: l,k => fN t fun t => fA1 (look .any r t) fun v => fRs r l fun m => k ((t,v) :: m)
theorem fRs_eq {α : Type} (r : List (Nat × AV)) : ∀ (l : List Nat) (k : List (Nat × AV) → α),fRs r l k = k (l.map fun t => (t,look .any r t))
  | [],_ => rfl
  | t :: l,k => by rw [fRs,fN_eq,fA1_eq,fRs_eq r l];rfl
theorem pickA_look (h : List (Nat × AB)) : ∀ (l : List Nat) (acc : List (Nat × AB)) (id : Nat),(id ∈ l → look .dead (pickA h l acc) id = look .dead h id) ∧ (id ∉ l → look .dead (pickA h l acc) id = look .dead acc id)
  | [],acc,id => ⟨fun h => by simp at h,fun _ => rfl⟩
  | j :: l,acc,id => by
    obtain ⟨h1,h2⟩ := pickA_look h l ((j,look .dead h j) :: acc) id
    rw [pickA]
    constructor
    · intro hm
      by_cases e : id ∈ l
      · exact h1 e
      · have : id = j := (List.mem_cons.1 hm).resolve_right e
        subst this
        rw [h2 e,look_cons,if_pos rfl]
    · intro hm
      rw [h2 fun e => hm (List.mem_cons_of_mem _ e),look_cons,if_neg fun e => hm (by rw [← e];exact List.mem_cons_self ..)]
/-- the blocks that are named -/
def pickN (h : List (Nat × AB)) (l : List Nat) : List (Nat × AB) := l.map fun j => (j,look .dead h j)
theorem pickN_look (h : List (Nat × AB)) : ∀ (l : List Nat) (id : Nat),(id ∈ l → look .dead (pickN h l) id = look .dead h id) ∧ (id ∉ l → look .dead (pickN h l) id = .dead)
  | [],id => ⟨fun h => by simp at h,fun _ => rfl⟩
  | j :: l,id => by
    obtain ⟨h1,h2⟩ := pickN_look h l id
    show (_ → look .dead ((j,look .dead h j) :: pickN h l) id = _) ∧ (_ → look .dead ((j,look .dead h j) :: pickN h l) id = _)
    rw [look_cons]
    by_cases e : j = id
    · subst e
      exact ⟨fun _ => by rw [if_pos rfl],fun hm => absurd (List.mem_cons_self ..) hm⟩
    · rw [if_neg e]
      exact ⟨fun hm => h1 ((List.mem_cons.1 hm).resolve_left fun e' => e e'.symm),fun hm => h2 fun e' => hm (List.mem_cons_of_mem _ e')⟩
theorem OpR.less {st' : ASt} (h : OpR P n o st' x) (hl : LeS st' st) : OpR P n o st x := ⟨h.dst,fun K a w G r => h.out K a w G (r.les hl)⟩
/-- what an operation did: its place,the blocks that were there,the blocks it looked at,those it wrote,the new ones -/
structure Rec where
  i : Nat
  cr : List (Nat × Nat)
  L : List Nat
  Wi : List Nat
  k : Nat
  k2 : Nat
def opH (C : Ctx) (self : SelfT) (lr : List (Nat × AV)) (lh : List (Nat × AB)) (nx : Nat) (o : Oper) (L : List Nat) : Option (ASt × List Nat) :=
  bif L.all (fun id => Nat.blt id nx && (look .dead lh id).nmd (hasN L)) && lr.all (fun p => p.2.nmd (hasN L)) then
    (match stepH C self ⟨lr,lh,nx⟩ o with
    | some s2 => bif Nat.ble nx s2.nx && (news nx s2.nx).all (fun id => pfB (orN (hasN L) nx s2.nx) (look .dead s2.heap id)) && s2.heap.all (fun p => orN (hasN L) nx s2.nx p.1)
        && L.all (fun id => pfB (orN (hasN L) nx s2.nx) (look .dead s2.heap id)) && pf (orN (hasN L) nx s2.nx) (dstV s2 o.dst) then some (s2,L.filter fun id => !abE (look .dead s2.heap id) (look .dead lh id)) else none
    | none => none) else none
/-- what is asked of the writes of all -/
structure RecOk (T : List (List Nat)) (W : List (Nat × Nat)) (nx0 : Nat) (r : Rec) : Prop where
  vis : ∀ id ∈ r.L,visW T W nx0 r.i r.cr id = true
  new : ∀ id,r.k ≤ id → id < r.k2 → newW T W r.i id = true
  wr : ∀ id,(r.i,id) ∈ W → id ∈ r.Wi
  wr2 : ∀ id ∈ r.Wi,(r.i,id) ∈ W
theorem noW_of {i : Nat} (h : ∀ id,(i,id) ∉ W) : noW W i = true := by
  unfold noW
  refine List.all_eq_true.2 fun p hp => ?_
  rw [Bool.not_eq_true',Bool.eq_false_iff]
  intro e
  have e := Nat.eq_of_beq_eq_true e
  obtain ⟨a,b⟩ := p
  simp only at e
  subst e
  exact h b hp
theorem opH_ok {C : Ctx} {self : SelfT} (hC : C.ok P) (hS : SelfOk P self) {nx0 i : Nat} {cr : List (Nat × Nat)} {L Wi : List Nat} {s2 : ASt} (hd : dok o.dst n = true) (hw : o.guard = none ∨ gst ops o (lcl ops T W [] nx0 i cr st o 0) = some true)
    (hr : RecOk T W nx0 ⟨i,cr,L,Wi,st.nx,s2.nx⟩) {lh : List (Nat × AB)} (hlh : ∀ id,(id ∈ L → look .dead lh id = look .dead st.heap id) ∧ (id ∉ L → look .dead lh id = .dead)) (h : opH C self (lregs ops st o) lh st.nx o L = some (s2,Wi)) : Loc P n ops T W [] nx0 i cr o st ((⟨st.regs,onL (L ++ news st.nx s2.nx) (look .dead s2.heap) st.heap,s2.nx⟩ : ASt).put o.dst (dstV s2 o.dst)) ((news st.nx s2.nx).map (fun id => (i,id)) ++ cr) ∧ (∀ id ∈ L,id ∉ Wi → look .dead s2.heap id = look .dead st.heap id) ∧ ∀ id ∈ Wi,id ∈ L := by
  unfold opH at h
  cases h0 : (L.all (fun id => Nat.blt id st.nx && (look .dead lh id).nmd (hasN L)) && (lregs ops st o).all (fun p => p.2.nmd (hasN L))) with
  | false => rw [h0] at h;cases h
  | true =>
    rw [h0] at h
    simp only [cond_true] at h
    rw [Bool.and_eq_true] at h0
    obtain ⟨h1,h2⟩ := h0
    have a1 : ∀ id ∈ L,id < st.nx ∧ (look .dead st.heap id).nmd (hasN L) = true := fun id hid => by
      have := List.all_eq_true.1 h1 id hid
      rw [Bool.and_eq_true] at this
      exact ⟨by simpa using this.1,by rw [← (hlh id).1 hid];exact this.2⟩
    split at h
    · rename_i t2 hm
      cases h3 : (Nat.ble st.nx t2.nx && (news st.nx t2.nx).all (fun id => pfB (orN (hasN L) st.nx t2.nx) (look .dead t2.heap id)) && t2.heap.all (fun p => orN (hasN L) st.nx t2.nx p.1)
        && L.all (fun id => pfB (orN (hasN L) st.nx t2.nx) (look .dead t2.heap id)) && pf (orN (hasN L) st.nx t2.nx) (dstV t2 o.dst)) with
      | false => rw [h3] at h;cases h
      | true =>
        rw [h3] at h
        simp only [cond_true,Option.some.injEq,Prod.mk.injEq] at h
        obtain ⟨rfl,hWi⟩ := h
        simp only [Bool.and_eq_true] at h3
        obtain ⟨⟨⟨⟨b1,b6⟩,b2⟩,b3⟩,b4⟩ := h3
        have c3 : ∀ id ∈ L,pfB (orN (hasN L) st.nx t2.nx) (look .dead t2.heap id) = true := fun id hid => List.all_eq_true.1 b3 id hid
        have c6 : ∀ id,st.nx ≤ id → id < t2.nx → pfB (orN (hasN L) st.nx t2.nx) (look .dead t2.heap id) = true := fun id g1 g2 => List.all_eq_true.1 b6 id (news_mem.2 ⟨g1,g2⟩)
        have cu : ∀ id ∈ L,id ∉ Wi → look .dead t2.heap id = look .dead st.heap id := fun id hid hn => by
          rw [← hWi] at hn
          have : ¬ ((!abE (look .dead t2.heap id) (look .dead st.heap id)) = true) := fun e => hn (List.mem_filter.2 ⟨hid,by rw [(hlh id).1 hid];exact e⟩)
          exact abE_eq (by simpa using this)
        have cw : ∀ id ∈ Wi,id ∈ L := fun id hid => by
          rw [← hWi] at hid
          exact (List.mem_filter.1 hid).1
        refine ⟨.op L lh hw (stepH_Y hC hS hd hm) hd (Nat.le_of_ble_eq_true b1) hr.new (fun id hid => ⟨(a1 id hid).1,hr.vis id hid⟩) (fun id => ?_) (fun id => ?_) (fun t => ?_) b4 (fun id hid => cw id (hr.wr id hid)) (fun id hid => ?_) (fun id _ => .dead _),cu,cw⟩
        · by_cases e : id ∈ L
          · exact .inr ⟨e,(hlh id).1 e,by rw [(hlh id).1 e];exact (a1 id e).2⟩
          · exact .inl ((hlh id).2 e)
        · by_cases e2 : look .dead t2.heap id = .dead
          · exact .inl e2
          · obtain ⟨q,q1,q2⟩ := look_mem e2
            have := List.all_eq_true.1 b2 q q1
            rw [q2] at this
            rcases orN_iff.1 this with e | e
            · exact .inr ⟨this,c3 id (hasN_mem e)⟩
            · exact .inr ⟨this,c6 id e.1 e.2⟩
        · have key : ∀ (rg : List (Nat × AV)),(rg.all fun p => p.2.nmd (hasN L)) = true → (look AV.any rg t).nmd (hasN L) = true := by
            intro rg
            induction rg with
            | nil => intro _;rfl
            | cons c rg ih =>
              obtain ⟨j,v⟩ := c
              intro hh
              rw [List.all_cons,Bool.and_eq_true] at hh
              rw [look_cons]
              split
              · exact hh.1
              · exact ih hh.2
          exact key _ h2
        · by_cases e : id ∈ Wi
          · exact .inl (hr.wr2 id e)
          · exact .inr (cu id hid e)
    · cases h
def runH (C : Ctx) (self : SelfT) (n : Nat) (ops : Array Oper) : Nat → List (Nat × Nat) → List Oper → ASt → Option (List Rec × ASt)
  | _,_,[],st => some ([],st)
  | i,cr,o :: l,st => bif dok o.dst n then (fRs st.regs (o.looksAt ops) fun lr => match wantC ops o ⟨lr,[],0⟩ with
    | some true => fNs (idsV.go (lr.map (·.2))) fun L1 => match readF C.T ⟨lr,pickN st.heap L1,0⟩ o.op with
      | some x => fA1 x fun x => fNs (idsV x ++ L1) fun L => nmQ st o.dst x fun s => (match fN i fun i => runH C self n ops (i + 1) cr l s with
          | some (rs,s') => some (⟨i,cr,L,[],st.nx,st.nx⟩ :: rs,s')
          | none => none)
      | none => fNs (clo (look .dead st.heap) 400 L1 []) fun L => pickK st.heap L [] fun lh => match opH C self lr lh st.nx o L with
        | some (s2,Wi) => fNs Wi fun Wi => fN s2.nx fun k2 => fNs (news st.nx k2) fun ns => putK (look .dead s2.heap) (Wi ++ ns) st.heap fun h => nmQ ⟨st.regs,h,k2⟩ o.dst (dstV s2 o.dst) fun s =>
          (match fN i fun i => runH C self n ops (i + 1) (ns.map (fun id => (i,id)) ++ cr) l s with
          | some (rs,s') => some (⟨i,cr,L,Wi,st.nx,k2⟩ :: rs,s')
          | none => none)
        | none => none
    | some false => nmQ st o.dst .und fun s => (match fN i fun i => runH C self n ops (i + 1) cr l s with
          | some (rs,s') => some (⟨i,cr,[],[],st.nx,st.nx⟩ :: rs,s')
          | none => none)
    | none => none) else none
theorem wantC_lcl {ops : Array Oper} {M : List (Nat × AB)} {nx0 i : Nat} {cr : List (Nat × Nat)} {b : Bool} (h : wantC ops o ⟨lregs ops st o,[],0⟩ = some b) : (b = true → o.guard = none ∨ gst ops o (lcl ops T W M nx0 i cr st o 0) = some true) ∧ (b = false → gst ops o (lcl ops T W M nx0 i cr st o 0) = some false) := by
  cases b with
  | true => exact ⟨fun _ => wantC_yes h,fun h => absurd h (by decide)⟩
  | false => exact ⟨fun h => absurd h (by decide),fun _ => wantC_no h⟩
theorem idsV_nmd {p : Nat → Bool} : ∀ (x : AV),(∀ id ∈ idsV x,p id = true) → x.nmd p = true
  | .box id _,h => by rw [AV.nmd];exact h id (by rw [idsV];exact List.mem_singleton.2 rfl)
  | .elt id ..,h => by rw [AV.nmd];exact h id (by rw [idsV];exact List.mem_singleton.2 rfl)
  | .osl id _,h => by rw [AV.nmd];exact h id (by rw [idsV];exact List.mem_singleton.2 rfl)
  | .vsl id ..,h => by rw [AV.nmd];exact h id (by rw [idsV];exact List.mem_singleton.2 rfl)
  | .agg cs,h => by rw [AV.nmd];exact go cs (by rw [idsV] at h;exact h)
  | .tup cs,h => by rw [AV.nmd];exact go cs (by rw [idsV] at h;exact h)
  | .fn _ cs,h => by rw [AV.nmd];exact go cs (by rw [idsV] at h;exact h)
  | .any,_ => rfl
  | .und,_ => rfl
  | .int ..,_ => rfl
  | .bool ..,_ => rfl
  | .str ..,_ => rfl
  | .nilp,_ => rfl
  | .nils,_ => rfl
  | .nilf,_ => rfl
  | .peek ..,_ => rfl
  | .ro ..,_ => rfl
where go {p : Nat → Bool} : ∀ (cs : List AV),(∀ id ∈ idsV.go cs,p id = true) → AV.nmd.go p cs = true
  | [],_ => rfl
  | a :: l,h => by
    rw [idsV.go] at h
    rw [AV.nmd.go,idsV_nmd a fun id hid => h id (List.mem_append.2 (.inl hid)),go l fun id hid => h id (List.mem_append.2 (.inr hid))];rfl
theorem runH_ok {C : Ctx} {self : SelfT} (hC : C.ok P) (hS : SelfOk P self) {nx0 : Nat} {Kt : ASt → Prop} : ∀ (l : List Oper) (i : Nat) (cr : List (Nat × Nat)) (st : ASt) (rs : List Rec) (st' : ASt),runH C self n ops i cr l st = some (rs,st') → (∀ r ∈ rs,RecOk T W nx0 r) → Kt st' → AG P n ops T W [] nx0 Kt i cr l st
  | [],i,cr,st,rs,st',h,_,hk => by
    rw [runH] at h
    injection h with h
    injection h with h1 h2
    subst h2
    exact .nil hk
  | o :: l,i,cr,st,rs,st',h,hrs,hk => by
    rw [runH] at h
    cases hd : dok o.dst n with
    | false => rw [hd] at h;cases h
    | true =>
      rw [hd] at h
      simp only [cond_true] at h
      rw [fRs_eq] at h
      have elr : (o.looksAt ops).map (fun t => (t,look .any st.regs t)) = lregs ops st o := rfl
      rw [elr] at h
      split at h
      · rename_i hw
        rw [fNs_eq] at h
        split at h
        · rename_i x h1
          rw [fA1_eq,fNs_eq] at h
          obtain ⟨s',e1,e2⟩ := nmQ_eq st o.dst x
          rw [e2,fN_eq] at h
          split at h
          · rename_i rs2 s3 h2
            simp only [Option.some.injEq,Prod.mk.injEq] at h
            obtain ⟨rfl,rfl⟩ := h
            have hr := hrs _ (List.mem_cons_self ..)
            refine .step (.read (noW_of fun id hid => by have := hr.wr id hid;simp at this) ((wantC_lcl hw).1 rfl) (fun k => ?_) ?_) (.same e1 (runH_ok hC hS l (i + 1) cr s' rs2 s3 h2 (fun r hr => hrs r (List.mem_cons_of_mem _ hr)) hk))
            · refine OpR.less (st' := ⟨lregs ops st o,pickN st.heap (idsV.go ((lregs ops st o).map (·.2))),k⟩) (readF_ok hC.T (by rw [← h1];exact readF_nx _ _ _ _ _) hd) ⟨fun d => .refl _,fun d => ?_,rfl⟩
              rw [lcl_heap]
              obtain ⟨p1,p2⟩ := pickN_look st.heap (idsV.go ((lregs ops st o).map (·.2))) d
              by_cases m : d ∈ idsV.go ((lregs ops st o).map (·.2))
              · rw [p1 m,hr.vis d (List.mem_append.2 (.inr m))];exact .refl _
              · rw [p2 m];exact .dead _
            · exact idsV_nmd x fun id hid => by
                have := hr.vis id (List.mem_append.2 (.inl hid))
                unfold visW at this
                rw [Bool.and_eq_true] at this
                exact this.1
          · cases h
        · rw [fNs_eq,pickK_eq] at h
          split at h
          · rename_i s2 Wi h1
            rw [fNs_eq,fN_eq,fNs_eq,putK_eq] at h
            have h : nmQ ⟨st.regs,putA (look .dead s2.heap) (Wi ++ news st.nx s2.nx) st.heap,s2.nx⟩ o.dst (dstV s2 o.dst) (fun s => (match fN i fun i => runH C self n ops (i + 1) ((news st.nx s2.nx).map (fun id => (i,id)) ++ cr) l s with
              | some (rs,s') => some (⟨i,cr,clo (look .dead st.heap) 400 (idsV.go ((lregs ops st o).map (·.2))) [],Wi,st.nx,s2.nx⟩ :: rs,s')
              | none => none)) = some (rs,st') := h
            generalize clo (look .dead st.heap) 400 (idsV.go ((lregs ops st o).map (·.2))) [] = L at h h1
            obtain ⟨s',e1,e2⟩ := nmQ_eq ⟨st.regs,putA (look .dead s2.heap) (Wi ++ news st.nx s2.nx) st.heap,s2.nx⟩ o.dst (dstV s2 o.dst)
            rw [e2,fN_eq] at h
            split at h
            · rename_i rs2 s3 h2
              simp only [Option.some.injEq,Prod.mk.injEq] at h
              obtain ⟨rfl,rfl⟩ := h
              have hr := hrs _ (List.mem_cons_self ..)
              obtain ⟨hloc,hu,hwl⟩ := opH_ok (o := o) (ops := ops) hC hS hd ((wantC_lcl hw).1 rfl) hr (fun id => pickA_look st.heap L [] id) h1
              refine .step hloc (.same ⟨fun d => ?_,fun d => ?_,?_⟩ (runH_ok hC hS l (i + 1) _ s' rs2 s3 h2 (fun r hr => hrs r (List.mem_cons_of_mem _ hr)) hk))
              · rw [← e1.regs d]
                cases o.dst <;> rfl
              · rw [← e1.heap d,put_heap',put_heap']
                show look .dead (onL (L ++ news st.nx s2.nx) (look .dead s2.heap) st.heap) d = look .dead (putA (look .dead s2.heap) (Wi ++ news st.nx s2.nx) st.heap) d
                obtain ⟨p1,p2⟩ := putA_look (look .dead s2.heap) (Wi ++ news st.nx s2.nx) st.heap d
                by_cases m1 : d ∈ L ++ news st.nx s2.nx
                · rw [onL_in m1]
                  by_cases m2 : d ∈ Wi ++ news st.nx s2.nx
                  · rw [p1 m2]
                  · rw [p2 m2]
                    rcases List.mem_append.1 m1 with m1 | m1
                    · exact hu d m1 fun h => m2 (List.mem_append.2 (.inl h))
                    · exact absurd (List.mem_append.2 (.inr m1)) m2
                · rw [onL_out m1,p2 fun m2 => m1 ?_]
                  rcases List.mem_append.1 m2 with m2 | m2
                  · exact List.mem_append.2 (.inl (hwl d m2))
                  · exact List.mem_append.2 (.inr m2)
              · rw [← e1.nx,put_nx,put_nx]
            · cases h
          · cases h
      · rename_i hw
        obtain ⟨s',e1,e2⟩ := nmQ_eq st o.dst .und
        rw [e2,fN_eq] at h
        split at h
        · rename_i rs2 s3 h2
          simp only [Option.some.injEq,Prod.mk.injEq] at h
          obtain ⟨rfl,rfl⟩ := h
          have hr := hrs _ (List.mem_cons_self ..)
          exact .step (.skip (noW_of fun id hid => by have := hr.wr id hid;simp at this) ((wantC_lcl hw).2 rfl) hd) (.same e1 (runH_ok hC hS l (i + 1) cr s' rs2 s3 h2 (fun r hr => hrs r (List.mem_cons_of_mem _ hr)) hk))
        · cases h
      · cases h
def wrOf (rs : List Rec) : List (Nat × Nat) := rs.flatMap fun r => r.Wi.map fun id => (r.i,id)
def recB (T : List (List Nat)) (W : List (Nat × Nat)) (nx0 : Nat) (r : Rec) : Bool :=
  r.L.all (fun id => visW T W nx0 r.i r.cr id) && (news r.k r.k2).all (fun id => newW T W r.i id) && W.all (fun p => bif Nat.beq p.1 r.i then hasN r.Wi p.2 else true)
theorem recB_ok {nx0 : Nat} {rs : List Rec} {r : Rec} (hm : r ∈ rs) (h : recB T (wrOf rs) nx0 r = true) : RecOk T (wrOf rs) nx0 r := by
  unfold recB at h
  simp only [Bool.and_eq_true] at h
  obtain ⟨⟨h1,h2⟩,h3⟩ := h
  refine ⟨fun id hid => List.all_eq_true.1 h1 id hid,fun id g1 g2 => List.all_eq_true.1 h2 id (news_mem.2 ⟨g1,g2⟩),fun id hid => ?_,fun id hid => ?_⟩
  · have := List.all_eq_true.1 h3 _ hid
    simp only [Nat.beq_refl,cond_true] at this
    exact hasN_mem this
  · unfold wrOf
    exact List.mem_flatMap.2 ⟨r,hm,List.mem_map.2 ⟨id,hid,rfl⟩⟩
def fPs {α : Type} : List (Nat × Nat) → (List (Nat × Nat) → α) → α
  | [],k => k []
  | (a,b) :: l,k => fN a fun a => fN b fun b => fPs l fun l => k ((a,b) :: l)
theorem fPs_eq {α : Type} (l : List (Nat × Nat)) : ∀ (k : List (Nat × Nat) → α),fPs l k = k l := by
  induction l with
  | nil => intro k;rfl
  | cons p l ih => intro k;obtain ⟨a,b⟩ := p;rw [fPs,fN_eq,fN_eq,ih]
/-- where the operations begin that lie wholly behind all before them -/
def tailM (T : List (List Nat)) : Nat → Nat
  | 0 => 0
  | i + 1 => bif (List.range i).all fun j => hasN (T.getD i []) j then tailM T i else i + 1
def runE (C : Ctx) (self : SelfT) (n : Nat) (l : List Oper) (T : List (List Nat)) (st : ASt) : Option ASt := match runH C self n ⟨l⟩ 0 [] (l.take (tailM T l.length)) st with
  | some (rs,s) => fPs (wrOf rs) fun W => bif rs.all (recB T W st.nx) then runF C self n ⟨l⟩ (l.drop (tailM T l.length)) s else none
  | none => none
theorem runE_ok {C : Ctx} {self : SelfT} {id : Nat} (hC : C.ok P) (hS : SelfOk P self) (hp : planR l (ancs l []) = true) (ht : tailR l (ancs l []) (tailM (ancs l []) l.length) = true) (h : runE C self n l (ancs l []) st = some st') : AW P n (.region id ⟨l⟩ true) (fun e s => e = .normal ∧ s = st') st := by
  unfold runE at h
  split at h
  · rename_i rs s h1
    rw [fPs_eq] at h
    cases hb : rs.all (recB (ancs l []) (wrOf rs) st.nx) with
    | false => rw [hb] at h;cases h
    | true =>
      rw [hb] at h
      simp only [cond_true] at h
      exact AW.drawR (wrOf rs) [] (tailM (ancs l []) l.length) hC.mixed rfl hp ht (fun _ _ => rfl) (fun _ => .dead _) (runH_ok hC hS _ 0 [] st rs s h1 (fun r hr => recB_ok hr (List.all_eq_true.1 hb r hr)) (runF_ok hC hS _ s _ h ⟨rfl,rfl⟩))
  · cases h
end
end Go.Proofs.Ytelpkjellakigaa.Rn
/- As RnO,without the second way for regions that draw. No program in sight. -/
namespace Go.Proofs.Ytelpkjellakigaa.Rn
open Go Go.RowKit Go.Proofs.Ytelpkjellakigaa Go.Proofs.Ytelpkjellakigaa.Dr

section
variable {P : Program} {n : Nat} {st st' : ASt} {o : Oper} {x : AV} {Q : Exit → ASt → Prop} {ops : Array Oper} {l : List Oper}
/-- a region that draws -/
def runD (C : Ctx) (self : SelfT) (n : Nat) (l : List Oper) (T : List (List Nat)) (st : ASt) : Option ASt := bif planR l T && tailR l T (tailM T l.length) then runE C self n l T st else none
theorem runD_ok {C : Ctx} {self : SelfT} {id : Nat} (hC : C.ok P) (hS : SelfOk P self) (h : runD C self n l (ancs l []) st = some st') : AW P n (.region id ⟨l⟩ true) (fun e s => e = .normal ∧ s = st') st := by
  unfold runD at h
  cases hp : (planR l (ancs l []) && tailR l (ancs l []) (tailM (ancs l []) l.length)) with
  | false => rw [hp] at h;cases h
  | true =>
    rw [hp] at h
    rw [Bool.and_eq_true] at hp
    exact runE_ok hC hS hp.1 hp.2 h
def runC (C : Ctx) (self : SelfT) (fl n : Nat) : Code → ASt → Option (Exit × ASt)
  | .skip,st => some (.normal,st)
  | .label _,st => some (.normal,st)
  | .exit id,st => some (.exit id,st)
  | .ret,st => some (.ret,st)
  | .seq a b,st => match runC C self fl n a st with
    | some (.normal,st') => runC C self fl n b st'
    | r => r
  | .cond c a b,st => match st.ev c with
    | .bool true => runC C self fl n a st
    | .bool false => runC C self fl n b st
    | _ => none
  | .block id c,st => match runC C self fl n c st with
    | some (.exit id',st') => bif Nat.beq id' id then some (.normal,st') else some (.exit id',st')
    | r => r
  | .loop c,st => loopN (runC C self fl n c) fl st
  | .region _ ⟨l⟩ false,st => match runF C self n ⟨l⟩ l st with
    | some st' => some (.normal,st')
    | none => none
  | .region _ ⟨l⟩ true,st => match runD C self n l (ancs l []) st with
    | some st' => some (.normal,st')
    | none => none
  | .rangeFunc ..,_ => none
  | .scope c,st => match runC C self fl n c st with
    | some (.goto _,_) => none
    | r => r
  | .goto _,_ => none
  | .refuse _,_ => none
theorem runC_ok {C : Ctx} {self : SelfT} {fl : Nat} (hC : C.ok P) (hS : SelfOk P self) : ∀ (c : Code) (st : ASt) (e : Exit) (st' : ASt),runC C self fl n c st = some (e,st') → AW P n c (fun e1 s => e1 = e ∧ s = st') st := by
  intro c
  induction c with
  | skip => intro st e st' h;rw [runC] at h;injection h with h;injection h with h1 h2;exact AW.skip ⟨h1,h2⟩
  | label l => intro st e st' h;rw [runC] at h;injection h with h;injection h with h1 h2;exact AW.label ⟨h1,h2⟩
  | exit id => intro st e st' h;rw [runC] at h;injection h with h;injection h with h1 h2;exact AW.exit ⟨h1,h2⟩
  | ret => intro st e st' h;rw [runC] at h;injection h with h;injection h with h1 h2;exact AW.ret ⟨h1,h2⟩
  | seq a b iha ihb =>
    intro st e st' h
    rw [runC] at h
    cases h1 : runC C self fl n a st with
    | none => rw [h1] at h;cases h
    | some p =>
      obtain ⟨e0,s0⟩ := p
      rw [h1] at h
      refine AW.seq ((iha st e0 s0 h1).mono ?_)
      rintro e1 s ⟨rfl,rfl⟩
      cases e1 with
      | normal => exact ihb _ _ _ h
      | _ =>
        injection h with h
        injection h with h2 h3
        exact ⟨h2,h3⟩
  | cond c a b iha ihb =>
    intro st e st' h
    rw [runC] at h
    split at h
    · rename_i h1
      exact AW.condT h1 (iha _ _ _ h)
    · rename_i h1
      exact AW.condF h1 (ihb _ _ _ h)
    · cases h
  | block id c ih =>
    intro st e st' h
    rw [runC] at h
    cases h1 : runC C self fl n c st with
    | none => rw [h1] at h;cases h
    | some p =>
      obtain ⟨e0,s0⟩ := p
      rw [h1] at h
      refine AW.block ((ih st e0 s0 h1).mono ?_)
      rintro e1 s ⟨rfl,rfl⟩
      cases e1 with
      | exit id' =>
        simp only at h
        cases hb : Nat.beq id' id with
        | true =>
          rw [hb] at h
          have := Nat.eq_of_beq_eq_true hb
          subst this
          simp only [cond_true] at h
          injection h with h
          injection h with h2 h3
          exact inA_eq ⟨h2,h3⟩
        | false =>
          rw [hb] at h
          simp only [cond_false] at h
          injection h with h
          injection h with h2 h3
          exact inA_ne hb ⟨h2,h3⟩
      | _ =>
        injection h with h
        injection h with h2 h3
        exact ⟨h2,h3⟩
  | loop c ih =>
    intro st e st' h
    rw [runC] at h
    exact loopN_ok ih h
  | region id ops d =>
    intro st e st' h
    obtain ⟨l⟩ := ops
    cases d with
    | false =>
      rw [runC] at h
      cases h1 : runF C self n ⟨l⟩ l st with
      | none => rw [h1] at h;cases h
      | some s =>
        rw [h1] at h
        injection h with h
        injection h with h2 h3
        exact AW.region (runF_ok hC hS l st s h1 ⟨h2,h3⟩)
    | true =>
      rw [runC] at h
      cases h1 : runD C self n l (ancs l []) st with
      | none => rw [h1] at h;cases h
      | some s =>
        rw [h1] at h
        injection h with h
        injection h with h2 h3
        subst h3
        subst h2
        exact runD_ok hC hS h1
  | rangeFunc f ps a b => intro st e st' h;rw [runC] at h;cases h
  | scope c ih =>
    intro st e st' h
    rw [runC] at h
    cases h1 : runC C self fl n c st with
    | none => rw [h1] at h;cases h
    | some p =>
      obtain ⟨e0,s0⟩ := p
      rw [h1] at h
      refine AW.scope ((ih st e0 s0 h1).mono ?_)
      rintro e1 s ⟨rfl,rfl⟩
      cases e1 with
      | goto l => cases h
      | _ =>
        injection h with h
        injection h with h2 h3
        exact ⟨rfl,h2,h3⟩
  | goto l => intro st e st' h;rw [runC] at h;cases h
  | refuse w => intro st e st' h;rw [runC] at h;cases h

theorem out_ok {C : Ctx} {self : SelfT} (hC : C.ok P) (hS : SelfOk P self) {fl F : Nat} {fn : Func} {c : Code} {xs : List AV} {hp hp' : List (Nat × AB)} {nx nx' : Nat} {x : AV} (h1 : lk C.fns F = some fn) (h2 : fn.body = some c) (hb : Nat.ble xs.length fn.ntmps = true)
    (h : outC C fn.results.toList (runC C self fl fn.ntmps c ⟨argR 0 xs,hp,nx⟩) = some (x,hp',nx')) : AC P F xs hp nx (fun y h' n' => y = x ∧ h' = hp' ∧ n' = nx') := by
  cases hr : runC C self fl fn.ntmps c ⟨argR 0 xs,hp,nx⟩ with
  | none => rw [hr] at h;cases h
  | some p =>
    obtain ⟨e,st⟩ := p
    rw [hr] at h
    have hw := runC_ok hC hS c _ _ _ hr
    have key : ∀ ys,resC C st fn.results.toList = some ys → oneOf ys = x → st.heap = hp' → st.nx = nx' → e = .ret ∨ e = .normal → AC P F xs hp nx (fun x1 hp1 nx1 => x1 = x ∧ hp1 = hp' ∧ nx1 = nx') := by
      intro ys h3 h4 h5 h6 he
      refine AC.body (allP_at hC.fns h1) h2 rfl rfl hb (hw.mono ?_)
      rintro e1 s ⟨rfl,rfl⟩
      exact ⟨he,ys,resC_ok hC h3,h4,h5,h6⟩
    cases e with
    | ret =>
      simp only [outC] at h
      split at h
      · rename_i ys h3
        injection h with h
        simp only [Prod.mk.injEq] at h
        exact key ys h3 h.1 h.2.1 h.2.2 (.inl rfl)
      · cases h
    | normal =>
      simp only [outC] at h
      split at h
      · rename_i ys h3
        injection h with h
        simp only [Prod.mk.injEq] at h
        exact key ys h3 h.1 h.2.1 h.2.2 (.inr rfl)
      · cases h
    | _ => cases h
def run (C : Ctx) (fl : Nat) : Nat → Nat → List AV → List (Nat × AB) → Nat → Option (AV × List (Nat × AB) × Nat)
  | 0,_,_,_,_ => none
  | f + 1,F,xs,hp,nx => match lk C.fns F with
    | some fn => match fn.body with
      | some c => bif Nat.ble xs.length fn.ntmps then (match fL1 xs fun xs => outC C fn.results.toList (runC C (run C fl f) fl fn.ntmps c ⟨argR 0 xs,hp,nx⟩) with
        | some (x,hp2,nx2) => gcK hp2 nx x fun hp3 => some (x,hp3,nx2)
        | none => none) else none
      | none => none
    | none => none
theorem run_ok {C : Ctx} (hC : C.ok P) (fl : Nat) : ∀ f,SelfOk P (run C fl f)
  | 0 => fun F xs hp nx x hp' nx' h => by cases h
  | f + 1 => fun F xs hp nx x hp' nx' h => by
    rw [run] at h
    split at h
    · rename_i fn h1
      split at h
      · rename_i c h2
        cases hb : Nat.ble xs.length fn.ntmps with
        | false => rw [hb] at h;cases h
        | true =>
          rw [hb] at h
          simp only [cond_true] at h
          split at h
          · rename_i x2 hp2 nx2 h0
            obtain ⟨hp3,g1,g2⟩ := gcK_eq hp2 nx x2
            rw [g2] at h
            simp only [Option.some.injEq,Prod.mk.injEq] at h
            obtain ⟨rfl,rfl,rfl⟩ := h
            refine AC.lesH (hp1 := hp2) ?_ g1
            rw [fL1_eq] at h0
            exact out_ok hC (run_ok hC fl f) h1 h2 hb h0
          · cases h
      · cases h
    · cases h
/-- a closed call -/
def okRun (C : Ctx) (fl f : Nat) (F : Nat) (xs : List AV) : Option AV := match run C fl f F xs [] 0 with
  | some (y,hp,_) => frzRC hp 8 y
  | none => none
theorem AF.run {C : Ctx} (hC : C.ok P) (fl f : Nat) {F : Nat} {xs : List AV} {y : AV} (h : okRun C fl f F xs = some y) : AF P F xs y := by
  unfold okRun at h
  split at h
  · rename_i x hp nx h1
    exact AF.of_AC ((run_ok hC fl f _ _ _ _ _ _ _ h1).mono (by rintro x1 hp1 nx1 ⟨rfl,rfl,rfl⟩;exact frzRC_ok 8 _ _ h))
  · cases h
end
end Go.Proofs.Ytelpkjellakigaa.Rn
/- screenWorks,by a run with short tables. -/
set_option maxRecDepth 1000000
namespace Go.Proofs.Ytelpkjellakigaa
open Go Go.RowKit
end Go.Proofs.Ytelpkjellakigaa
/- Decompiling: functions that call themselves. -/
namespace Go.Proofs.Ytelpkjellakigaa
open Go Go.RowKit
end Go.Proofs.Ytelpkjellakigaa
/- Residual programs of functions (printed by a program out of the code),checked by the kernel,and the contracts that follow. -/
namespace Go.Proofs.Ytelpkjellakigaa
open Go Go.RowKit
set_option linter.unusedVariables false
def R_Within_r (fu : Nat) (a : Int × Int × Int × Unit) : Option (Bool × Unit) :=
  bif (decide (a.2.1 ≤ a.1)) then
    let v0 : Bool := (decide (a.1 ≤ a.2.2.1))
    some ((v0,()))
  else
  some ((false,()))
def R_Within_an : An := (.n none .z (.n none .z .z))
noncomputable def R_Within_dc : List (Nat × Ctr) := []
def R_Within_ctr : Ctr := ⟨(.pair (.int .i64) (.pair (.int .i64) (.pair (.int .i64) .unit))),(.pair .bool .unit),R_Within_r,21⟩
theorem R_Within_ok : CtrOk Try.prog 21 R_Within_ctr := ctr_ok (l := R_Within_dc) (f := 12) (an := R_Within_an) trivial fun fu x => by kernel_rfl
end Go.Proofs.Ytelpkjellakigaa
/- Residual programs of functions (printed by a program out of the code),checked by the kernel,and the contracts that follow. -/
namespace Go.Proofs.Ytelpkjellakigaa
open Go Go.RowKit
set_option linter.unusedVariables false
def bitmap_stride_r (fu : Nat) (a : Int × Unit) : Option (Int × Unit) :=
  let v0 : Int := (IntKind.i64.wrap (Int.tdiv (IntKind.i64.wrap (a.1 + (7 : Int))) (8 : Int)))
  some ((v0,()))
def bitmap_stride_an : An := (.n none .z (.n none .z .z))
noncomputable def bitmap_stride_dc : List (Nat × Ctr) := []
def bitmap_stride_ctr : Ctr := ⟨(.pair (.int .i64) .unit),(.pair (.int .i64) .unit),bitmap_stride_r,115⟩
theorem bitmap_stride_ok : CtrOk Try.prog 115 bitmap_stride_ctr := ctr_ok (l := bitmap_stride_dc) (f := 12) (an := bitmap_stride_an) trivial fun fu x => by kernel_rfl
def bitmap_Is_r (fu : Nat) (a : (Int × Int × List Int) × Int × Int × Unit) : Option (Bool × Unit) :=
  bif (decide ((0 : Int) ≤ a.2.1)) then
    bif (decide (a.2.1 < a.1.1)) then
      bif (decide ((0 : Int) ≤ a.2.2.1)) then
        bif (decide (a.2.2.1 < a.1.2.1)) then
          bindO (bitmap_stride_r fu ((a.1.1,()))) fun v0 =>
          bif ((decide ((0 : Int) ≤ (IntKind.i64.wrap ((IntKind.i64.wrap (a.2.2.1 * v0.1)) + (IntKind.i64.wrap (Int.tdiv a.2.1 (8 : Int))))))) && (decide ((IntKind.i64.wrap ((IntKind.i64.wrap (a.2.2.1 * v0.1)) + (IntKind.i64.wrap (Int.tdiv a.2.1 (8 : Int))))) < (List.length a.1.2.2 : Int)))) then
          let v1 : Int := (List.getD a.1.2.2 (Int.toNat (IntKind.i64.wrap ((IntKind.i64.wrap (a.2.2.1 * v0.1)) + (IntKind.i64.wrap (Int.tdiv a.2.1 (8 : Int)))))) 0)
          bif ((decide ((0 : Int) ≤ (Int.tmod a.2.1 (8 : Int)))) && (decide ((Int.tmod a.2.1 (8 : Int)) ≤ (8 : Int)))) then
          let v2 : Bool := (decide ((bits BinOp.and IntKind.u8 v1 ((128 : Int) / 2 ^ (Int.toNat (Int.tmod a.2.1 (8 : Int))))) ≠ (0 : Int)))
          some ((v2,()))
          else none
          else none
        else
        some ((false,()))
      else
      some ((false,()))
    else
    some ((false,()))
  else
  some ((false,()))
def bitmap_Is_an : An := (.n none .z (.n none (.dr [] []) .z))
noncomputable def bitmap_Is_dc : List (Nat × Ctr) := [(115,bitmap_stride_ctr)]
def bitmap_Is_ctr : Ctr := ⟨(.pair (.ptr (.pair (.int .i64) (.pair (.int .i64) (.list (.int .u8))))) (.pair (.int .i64) (.pair (.int .i64) .unit))),(.pair .bool .unit),bitmap_Is_r,82⟩
theorem bitmap_Is_ok : CtrOk Try.prog 82 bitmap_Is_ctr := ctr_ok (l := bitmap_Is_dc) (f := 12) (an := bitmap_Is_an) ⟨bitmap_stride_ok,trivial⟩ fun fu x => by kernel_rfl
def curve_Nearest_j1 (fu : Nat) (v3 : Int) : Option (Int × Unit) :=
  some ((v3,()))
def curve_Nearest_r (fu : Nat) (a : Int × Int × Unit) : Option (Int × Unit) :=
  let v0 : Int := (IntKind.i64.wrap ((IntKind.i64.wrap ((2 : Int) * a.1)) + a.2.1))
  let v1 : Int := (IntKind.i64.wrap ((2 : Int) * a.2.1))
  bif (decide (v1 ≠ (0 : Int))) then
  let v2 : Int := (IntKind.i64.wrap (Int.tdiv v0 v1))
  joinF (curve_Nearest_j1 fu) fun j3 =>
  bif (decide (v1 ≠ (0 : Int))) then
  bif (decide ((Int.tmod v0 v1) < (0 : Int))) then
    let v4 : Int := (IntKind.i64.wrap (v2 - (1 : Int)))
    j3 (v4)
  else
  j3 (v2)
  else none
  else none
def curve_Nearest_an : An := (.n none .z (.n none .z (.n none .z (.n (some ⟨[],[],[],[.reg 5 (.int .i64)],0,[]⟩) (.n none .z (.n none .z .z)) (.n none .z .z)))))
noncomputable def curve_Nearest_dc : List (Nat × Ctr) := []
def curve_Nearest_ctr : Ctr := ⟨(.pair (.int .i64) (.pair (.int .i64) .unit)),(.pair (.int .i64) .unit),curve_Nearest_r,72⟩
theorem curve_Nearest_ok : CtrOk Try.prog 72 curve_Nearest_ctr := ctr_ok (l := curve_Nearest_dc) (f := 12) (an := curve_Nearest_an) trivial fun fu x => by kernel_rfl
def bitmap_Check_j2 (fu : Nat) (v3 : Unit) : Option (Int × Unit) :=
  some (((0 : Int),()))
def bitmap_Check_l3 (fu : Nat) (a : (Int × Int × List Int) × Unit) (v2 : Int) (v4 : Int) (j3 : (Unit) → Option (Int × Unit)) (j5 : (Int) → Option (Int × Unit)) (v5 : Int) : Option (Int × Unit) :=
  bif (decide (v5 < a.1.2.1)) then
    bif ((decide ((0 : Int) ≤ (IntKind.i64.wrap ((IntKind.i64.wrap ((IntKind.i64.wrap (v5 * v2)) + v2)) - (1 : Int))))) && (decide ((IntKind.i64.wrap ((IntKind.i64.wrap ((IntKind.i64.wrap (v5 * v2)) + v2)) - (1 : Int))) < (List.length a.1.2.2 : Int)))) then
    let v6 : Int := (List.getD a.1.2.2 (Int.toNat (IntKind.i64.wrap ((IntKind.i64.wrap ((IntKind.i64.wrap (v5 * v2)) + v2)) - (1 : Int)))) 0)
    bif (decide ((bits BinOp.and IntKind.u8 v6 v4) ≠ (0 : Int))) then
      some (((4 : Int),()))
    else
    j5 ((IntKind.i64.wrap (v5 + (1 : Int))))
    else none
  else
  j3 (())
def bitmap_Check_j1 (fu : Nat) (a : (Int × Int × List Int) × Unit) (v0 : Bool) : Option (Int × Unit) :=
  bif v0 then
    some (((3 : Int),()))
  else
  bindO (bitmap_stride_r fu ((a.1.1,()))) fun v1 =>
  let v2 : Int := v1.1
  bif (decide ((List.length a.1.2.2 : Int) ≠ (IntKind.i64.wrap (v2 * a.1.2.1)))) then
    some (((4 : Int),()))
  else
  joinF (bitmap_Check_j2 fu) fun j3 =>
  bif ((decide ((0 : Int) ≤ (IntKind.i64.wrap ((IntKind.i64.wrap ((8 : Int) * v2)) - a.1.1)))) && (decide ((IntKind.i64.wrap ((IntKind.i64.wrap ((8 : Int) * v2)) - a.1.1)) ≤ (8 : Int)))) then
  let v4 : Int := (IntKind.u8.wrap ((IntKind.u8.wrap ((1 : Int) * 2 ^ (Int.toNat (IntKind.i64.wrap ((IntKind.i64.wrap ((8 : Int) * v2)) - a.1.1))))) - (1 : Int)))
  bif (decide (v4 ≠ (0 : Int))) then
    loopF (bitmap_Check_l3 fu a v2 v4 j3) fu ((0 : Int))
  else
  j3 (())
  else none
def bitmap_Check_r (fu : Nat) (a : (Int × Int × List Int) × Unit) : Option (Int × Unit) :=
  joinF (bitmap_Check_j1 fu a) fun j0 =>
  bif (decide (a.1.1 < (1 : Int))) then
    j0 (true)
  else
  bif (decide ((1024 : Int) < a.1.1)) then
    j0 (true)
  else
  bif (decide (a.1.2.1 < (1 : Int))) then
    j0 (true)
  else
  j0 ((decide ((1024 : Int) < a.1.2.1)))
def bitmap_Check_an : An := (.n none .z (.n none (.n (some ⟨[1],[0],[],[.reg 23 .bool],0,[]⟩) .z (.n none (.n none .z .z) .z)) (.n none .z (.n none (.n none .z (.n none (.n none .z .z) .z)) (.n (some ⟨[],[0],[],[],0,[]⟩) (.n none .z (.n none .z (.n none (.n none .z (.n none (.n (some ⟨[1,3,4,45],[],[],[.reg 46 (.int .i64)],0,[]⟩) (.n none .z (.n none .z (.n none (.n none (.n none .z (.n none .z (.n none (.n none .z .z) .z))) .z) .z))) .z) .z)) .z))) (.n none .z .z))))))
noncomputable def bitmap_Check_dc : List (Nat × Ctr) := [(115,bitmap_stride_ctr)]
def bitmap_Check_ctr : Ctr := ⟨(.pair (.agg (.pair (.int .i64) (.pair (.int .i64) (.list (.int .u8))))) .unit),(.pair (.int .i64) .unit),bitmap_Check_r,81⟩
theorem bitmap_Check_ok : CtrOk Try.prog 81 bitmap_Check_ctr := ctr_ok (l := bitmap_Check_dc) (f := 12) (an := bitmap_Check_an) ⟨bitmap_stride_ok,trivial⟩ fun fu x => by kernel_rfl
end Go.Proofs.Ytelpkjellakigaa
/- Residual programs of functions (printed by a program out of the code),checked by the kernel,and the contracts that follow. -/
namespace Go.Proofs.Ytelpkjellakigaa
open Go Go.RowKit
set_option linter.unusedVariables false
def camera_CheckView_j4 (fu : Nat) (v2 : Int) (j2 : (Int) → Option (Int × Unit)) (v4 : Bool) : Option (Int × Unit) :=
  bif v4 then
    some (((3 : Int),()))
  else
  j2 ((IntKind.i64.wrap (v2 + (1 : Int))))
def camera_CheckView_l3 (fu : Nat) (a : (Int × Int × Int × Int × Int × Int × Int × List Int) × Unit) (j2 : (Int) → Option (Int × Unit)) (v2 : Int) : Option (Int × Unit) :=
  bif (decide (v2 < (List.length a.1.2.2.2.2.2.2.2 : Int))) then
    bif ((decide ((0 : Int) ≤ v2)) && (decide (v2 < (List.length a.1.2.2.2.2.2.2.2 : Int)))) then
    let v3 : Int := (List.getD a.1.2.2.2.2.2.2.2 (Int.toNat v2) 0)
    joinF (camera_CheckView_j4 fu v2 j2) fun j4 =>
    bif (decide (v3 < (-64 : Int))) then
      j4 (true)
    else
    j4 ((decide ((64 : Int) < v3)))
    else none
  else
  some (((0 : Int),()))
def camera_CheckView_j2 (fu : Nat) (a : (Int × Int × Int × Int × Int × Int × Int × List Int) × Unit) (v1 : Bool) : Option (Int × Unit) :=
  bif v1 then
    some (((3 : Int),()))
  else
  bif (decide (a.1.2.2.2.2.2.1 ≤ a.1.2.2.2.2.2.2.1)) then
    some (((18 : Int),()))
  else
  bif (decide ((64 : Int) < (List.length a.1.2.2.2.2.2.2.2 : Int))) then
    some (((2 : Int),()))
  else
  loopF (camera_CheckView_l3 fu a) fu ((0 : Int))
def camera_CheckView_j1 (fu : Nat) (a : (Int × Int × Int × Int × Int × Int × Int × List Int) × Unit) (v0 : Bool) : Option (Int × Unit) :=
  bif v0 then
    some (((3 : Int),()))
  else
  joinF (camera_CheckView_j2 fu a) fun j1 =>
  bif (decide (a.1.2.2.2.2.2.1 < (0 : Int))) then
    j1 (true)
  else
  bif (decide ((255 : Int) < a.1.2.2.2.2.2.1)) then
    j1 (true)
  else
  bif (decide (a.1.2.2.2.2.2.2.1 < (0 : Int))) then
    j1 (true)
  else
  j1 ((decide ((255 : Int) < a.1.2.2.2.2.2.2.1)))
def camera_CheckView_r (fu : Nat) (a : (Int × Int × Int × Int × Int × Int × Int × List Int) × Unit) : Option (Int × Unit) :=
  joinF (camera_CheckView_j1 fu a) fun j0 =>
  bif (decide (a.1.1 < (1 : Int))) then
    j0 (true)
  else
  bif (decide ((8 : Int) < a.1.1)) then
    j0 (true)
  else
  bif (decide (a.1.2.1 < (0 : Int))) then
    j0 (true)
  else
  bif (decide ((32 : Int) < a.1.2.1)) then
    j0 (true)
  else
  bif (decide (a.1.2.2.1 < (0 : Int))) then
    j0 (true)
  else
  bif (decide ((32 : Int) < a.1.2.2.1)) then
    j0 (true)
  else
  bif (decide (a.1.2.2.2.1 < (0 : Int))) then
    j0 (true)
  else
  bif (decide ((3 : Int) < a.1.2.2.2.1)) then
    j0 (true)
  else
  bif (decide (a.1.2.2.2.2.1 < (0 : Int))) then
    j0 (true)
  else
  j0 ((decide ((2 : Int) < a.1.2.2.2.2.1)))
def camera_CheckView_an : An := (.n none .z (.n none (.n (some ⟨[1],[0],[],[.reg 52 .bool],0,[]⟩) .z (.n none (.n none .z .z) .z)) (.n none (.n (some ⟨[1],[0],[],[.reg 70 .bool],0,[]⟩) .z (.n none (.n none .z .z) .z)) (.n none (.n none .z (.n none (.n none .z .z) .z)) (.n none (.n none .z (.n none (.n none .z .z) .z)) (.n none (.n none .z (.n none (.n (some ⟨[81,82],[0],[],[.reg 83 (.int .i64)],0,[]⟩) (.n none .z (.n none .z (.n none (.n none (.n none .z (.n (some ⟨[83],[],[],[.reg 92 .bool],0,[]⟩) .z (.n none (.n none .z .z) .z))) .z) .z))) .z) .z)) (.n none .z .z)))))))
noncomputable def camera_CheckView_dc : List (Nat × Ctr) := []
def camera_CheckView_ctr : Ctr := ⟨(.pair (.agg (.pair (.int .i64) (.pair (.int .i64) (.pair (.int .i64) (.pair (.int .i64) (.pair (.int .i64) (.pair (.int .i64) (.pair (.int .i64) (.list (.int .i64)))))))))) .unit),(.pair (.int .i64) .unit),camera_CheckView_r,61⟩
theorem camera_CheckView_ok : CtrOk Try.prog 61 camera_CheckView_ctr := ctr_ok (l := camera_CheckView_dc) (f := 12) (an := camera_CheckView_an) trivial fun fu x => by kernel_rfl
def camera_window_l2 (fu : Nat) (a : (Int × Int × List Int) × Int × Int × Int × Unit) (v1 : Int × Int × Int) (j1 : (Int × Int × Int) → Option (Int × Int × Unit)) (j3 : (Int × Int × Int) → Option (Int × Int × Unit)) (v3 : Int × Int × Int) : Option (Int × Int × Unit) :=
  bif (decide (v3.2.2 ≤ (min (IntKind.i64.wrap (a.1.1 - (1 : Int))) (IntKind.i64.wrap (a.2.1 + a.2.2.2.1))))) then
    bif ((decide ((0 : Int) ≤ (IntKind.i64.wrap ((IntKind.i64.wrap (v1.2.2 * a.1.1)) + v3.2.2)))) && (decide ((IntKind.i64.wrap ((IntKind.i64.wrap (v1.2.2 * a.1.1)) + v3.2.2)) < (List.length a.1.2.2 : Int)))) then
    let v4 : Int := (List.getD a.1.2.2 (Int.toNat (IntKind.i64.wrap ((IntKind.i64.wrap (v1.2.2 * a.1.1)) + v3.2.2))) 0)
    let v5 : Int := (IntKind.i64.wrap (v3.1 + (IntKind.i64.wrap v4)))
    let v6 : Int := (IntKind.i64.wrap (v3.2.1 + (1 : Int)))
    let v7 : Int := (IntKind.i64.wrap (v3.2.2 + (1 : Int)))
    j3 ((v5,(v6,v7)))
    else none
  else
  let v4 : Int := (IntKind.i64.wrap (v1.2.2 + (1 : Int)))
  j1 ((v3.2.1,(v3.1,v4)))
def camera_window_l1 (fu : Nat) (a : (Int × Int × List Int) × Int × Int × Int × Unit) (j1 : (Int × Int × Int) → Option (Int × Int × Unit)) (v1 : Int × Int × Int) : Option (Int × Int × Unit) :=
  bif (decide (v1.2.2 ≤ (min (IntKind.i64.wrap (a.1.2.1 - (1 : Int))) (IntKind.i64.wrap (a.2.2.1 + a.2.2.2.1))))) then
    let v2 : Int := (max (0 : Int) (IntKind.i64.wrap (a.2.1 - a.2.2.2.1)))
    loopF (camera_window_l2 fu a v1 j1) fu ((v1.2.1,(v1.1,v2)))
  else
  let v2 : Int := v1.2.1
  let v3 : Int := v1.1
  some ((v2,(v3,())))
def camera_window_r (fu : Nat) (a : (Int × Int × List Int) × Int × Int × Int × Unit) : Option (Int × Int × Unit) :=
  let v0 : Int := (max (0 : Int) (IntKind.i64.wrap (a.2.2.1 - a.2.2.2.1)))
  loopF (camera_window_l1 fu a) fu (((0 : Int),((0 : Int),v0)))
def camera_window_an : An := (.n none .z (.n none (.n none .z (.n none (.n (some ⟨[0,3,1,2],[],[],[.reg 9 (.int .i64),.reg 8 (.int .i64),.reg 10 (.int .i64)],0,[]⟩) (.n none (.n none .z .z) (.n none (.n none (.n none .z (.n none (.n (some ⟨[10],[],[],[.reg 8 (.int .i64),.reg 9 (.int .i64),.reg 11 (.int .i64)],0,[]⟩) (.n none (.n none .z .z) (.n none (.n none (.n none (.dr [] []) .z) .z) .z)) .z) .z)) .z) .z)) .z) .z)) (.n none .z .z)))
noncomputable def camera_window_dc : List (Nat × Ctr) := []
def camera_window_ctr : Ctr := ⟨(.pair (.ptr (.pair (.int .i64) (.pair (.int .i64) (.list (.int .u8))))) (.pair (.int .i64) (.pair (.int .i64) (.pair (.int .i64) .unit)))),(.pair (.int .i64) (.pair (.int .i64) .unit)),camera_window_r,101⟩
theorem camera_window_ok : CtrOk Try.prog 101 camera_window_ctr := ctr_ok (l := camera_window_dc) (f := 12) (an := camera_window_an) trivial fun fu x => by kernel_rfl
def bitmap_Turned_2_r (fu : Nat) (a : Int × Int × (Int × Int × List Int) × Unit) : Option (Bool × Unit) :=
  bindO (bitmap_Is_r fu ((a.2.2.1,(a.2.1,((IntKind.i64.wrap ((IntKind.i64.wrap (a.2.2.1.2.1 - (1 : Int))) - a.1)),()))))) fun v0 =>
  let v1 : Bool := v0.1
  some ((v1,()))
def bitmap_Turned_2_an : An := (.n none .z (.n none .z .z))
noncomputable def bitmap_Turned_2_dc : List (Nat × Ctr) := [(82,bitmap_Is_ctr)]
def bitmap_Turned_2_ctr : Ctr := ⟨(.pair (.int .i64) (.pair (.int .i64) (.pair (.ptr (.pair (.int .i64) (.pair (.int .i64) (.list (.int .u8))))) .unit))),(.pair .bool .unit),bitmap_Turned_2_r,136⟩
theorem bitmap_Turned_2_ok : CtrOk Try.prog 136 bitmap_Turned_2_ctr := ctr_ok (l := bitmap_Turned_2_dc) (f := 12) (an := bitmap_Turned_2_an) ⟨bitmap_Is_ok,trivial⟩ fun fu x => by kernel_rfl
def bitmap_Turned_j5 (fu : Nat) (j5 : (Int × List Int) → Option ((Int × Int × List Int) × Unit)) (v6 : Int × List Int) : Option ((Int × Int × List Int) × Unit) :=
  j5 (((IntKind.i64.wrap (v6.1 + (1 : Int))),v6.2))
def bitmap_Turned_l4 (fu : Nat) (v1 : Int × Int × Int × List Int) (v3 : Int × List Int) (v4 : Int) (j3 : (Int × List Int) → Option ((Int × Int × List Int) × Unit)) (j5 : (Int × List Int) → Option ((Int × Int × List Int) × Unit)) (v5 : Int × List Int) : Option ((Int × Int × List Int) × Unit) :=
  bif (decide (v5.1 < v1.2.2.1)) then
    joinF (bitmap_Turned_j5 fu j5) fun j6 =>
    let v7 : Int := v5.1
    bindO (bitmap_Turned_2_r fu ((v7,(v4,(v1.2,()))))) fun v8 =>
    bif v8.1 then
      bindO (bitmap_stride_r fu ((v1.2.2.1,()))) fun v9 =>
      bif ((decide ((0 : Int) ≤ (IntKind.i64.wrap ((IntKind.i64.wrap (v4 * v9.1)) + (IntKind.i64.wrap (Int.tdiv v7 (8 : Int))))))) && (decide ((IntKind.i64.wrap ((IntKind.i64.wrap (v4 * v9.1)) + (IntKind.i64.wrap (Int.tdiv v7 (8 : Int))))) < (List.length v5.2 : Int)))) then
      bif ((decide ((0 : Int) ≤ (Int.tmod v7 (8 : Int)))) && (decide ((Int.tmod v7 (8 : Int)) ≤ (8 : Int)))) then
      bif ((decide ((0 : Int) ≤ (IntKind.i64.wrap ((IntKind.i64.wrap (v4 * v9.1)) + (IntKind.i64.wrap (Int.tdiv v7 (8 : Int))))))) && (decide ((IntKind.i64.wrap ((IntKind.i64.wrap (v4 * v9.1)) + (IntKind.i64.wrap (Int.tdiv v7 (8 : Int))))) < (List.length v5.2 : Int)))) then
      j6 ((v5.1,(List.set v5.2 (Int.toNat (IntKind.i64.wrap ((IntKind.i64.wrap (v4 * v9.1)) + (IntKind.i64.wrap (Int.tdiv v7 (8 : Int)))))) (bits BinOp.or IntKind.u8 (List.getD v5.2 (Int.toNat (IntKind.i64.wrap ((IntKind.i64.wrap (v4 * v9.1)) + (IntKind.i64.wrap (Int.tdiv v7 (8 : Int)))))) 0) ((128 : Int) / 2 ^ (Int.toNat (Int.tmod v7 (8 : Int))))))))
      else none
      else none
      else none
    else
    j6 (v5)
  else
  j3 (((IntKind.i64.wrap (v3.1 + (1 : Int))),v5.2))
def bitmap_Turned_l3 (fu : Nat) (v1 : Int × Int × Int × List Int) (j1 : (Int × Int × Int × List Int) → Option ((Int × Int × List Int) × Unit)) (j3 : (Int × List Int) → Option ((Int × Int × List Int) × Unit)) (v3 : Int × List Int) : Option ((Int × Int × List Int) × Unit) :=
  bif (decide (v3.1 < v1.2.1)) then
    let v4 : Int := v3.1
    loopF (bitmap_Turned_l4 fu v1 v3 v4 j3) fu (((0 : Int),v3.2))
  else
  j1 (((IntKind.i64.wrap (v1.1 + (1 : Int))),(v1.2.2.1,(v1.2.1,v3.2))))
def bitmap_Turned_l2 (fu : Nat) (a : (Int × Int × List Int) × Int × Unit) (j1 : (Int × Int × Int × List Int) → Option ((Int × Int × List Int) × Unit)) (v1 : Int × Int × Int × List Int) : Option ((Int × Int × List Int) × Unit) :=
  bif (decide (v1.1 < (Int.tmod a.2.1 (4 : Int)))) then
    bindO (bitmap_stride_r fu ((v1.2.2.1,()))) fun v2 =>
    bif ((decide ((0 : Int) ≤ (IntKind.i64.wrap (v2.1 * v1.2.1)))) && (decide (((1 : Int) * (IntKind.i64.wrap (v2.1 * v1.2.1))) ≤ (281474976710656 : Int)))) then
    loopF (bitmap_Turned_l3 fu v1 j1) fu (((0 : Int),(List.replicate (Int.toNat (IntKind.i64.wrap (v2.1 * v1.2.1))) (0 : Int))))
    else none
  else
  some ((v1.2,()))
def bitmap_Turned_j1 (fu : Nat) (a : (Int × Int × List Int) × Int × Unit) (v0 : Int × Int × List Int) : Option ((Int × Int × List Int) × Unit) :=
  loopF (bitmap_Turned_l2 fu a) fu (((0 : Int),v0))
def bitmap_Turned_j8 (fu : Nat) (j4 : (Int × List Int) → Option ((Int × Int × List Int) × Unit)) (v5 : Int × List Int) : Option ((Int × Int × List Int) × Unit) :=
  j4 (((IntKind.i64.wrap (v5.1 + (1 : Int))),v5.2))
def bitmap_Turned_l7 (fu : Nat) (a : (Int × Int × List Int) × Int × Unit) (v2 : Int × List Int) (v3 : Int) (j2 : (Int × List Int) → Option ((Int × Int × List Int) × Unit)) (j4 : (Int × List Int) → Option ((Int × Int × List Int) × Unit)) (v4 : Int × List Int) : Option ((Int × Int × List Int) × Unit) :=
  bif (decide (v4.1 < a.1.1)) then
    joinF (bitmap_Turned_j8 fu j4) fun j5 =>
    let v6 : Int := v4.1
    bindO (bitmap_Is_r fu ((a.1,((IntKind.i64.wrap ((IntKind.i64.wrap (a.1.1 - (1 : Int))) - v6)),(v3,()))))) fun v7 =>
    let v8 : Bool := v7.1
    bif v8 then
      bindO (bitmap_stride_r fu ((a.1.1,()))) fun v9 =>
      bif ((decide ((0 : Int) ≤ (IntKind.i64.wrap ((IntKind.i64.wrap (v3 * v9.1)) + (IntKind.i64.wrap (Int.tdiv v6 (8 : Int))))))) && (decide ((IntKind.i64.wrap ((IntKind.i64.wrap (v3 * v9.1)) + (IntKind.i64.wrap (Int.tdiv v6 (8 : Int))))) < (List.length v4.2 : Int)))) then
      bif ((decide ((0 : Int) ≤ (Int.tmod v6 (8 : Int)))) && (decide ((Int.tmod v6 (8 : Int)) ≤ (8 : Int)))) then
      bif ((decide ((0 : Int) ≤ (IntKind.i64.wrap ((IntKind.i64.wrap (v3 * v9.1)) + (IntKind.i64.wrap (Int.tdiv v6 (8 : Int))))))) && (decide ((IntKind.i64.wrap ((IntKind.i64.wrap (v3 * v9.1)) + (IntKind.i64.wrap (Int.tdiv v6 (8 : Int))))) < (List.length v4.2 : Int)))) then
      j5 ((v4.1,(List.set v4.2 (Int.toNat (IntKind.i64.wrap ((IntKind.i64.wrap (v3 * v9.1)) + (IntKind.i64.wrap (Int.tdiv v6 (8 : Int)))))) (bits BinOp.or IntKind.u8 (List.getD v4.2 (Int.toNat (IntKind.i64.wrap ((IntKind.i64.wrap (v3 * v9.1)) + (IntKind.i64.wrap (Int.tdiv v6 (8 : Int)))))) 0) ((128 : Int) / 2 ^ (Int.toNat (Int.tmod v6 (8 : Int))))))))
      else none
      else none
      else none
    else
    j5 (v4)
  else
  j2 (((IntKind.i64.wrap (v2.1 + (1 : Int))),v4.2))
def bitmap_Turned_l6 (fu : Nat) (a : (Int × Int × List Int) × Int × Unit) (j0 : (Int × Int × List Int) → Option ((Int × Int × List Int) × Unit)) (j2 : (Int × List Int) → Option ((Int × Int × List Int) × Unit)) (v2 : Int × List Int) : Option ((Int × Int × List Int) × Unit) :=
  bif (decide (v2.1 < a.1.2.1)) then
    let v3 : Int := v2.1
    loopF (bitmap_Turned_l7 fu a v2 v3 j2) fu (((0 : Int),v2.2))
  else
  j0 ((a.1.1,(a.1.2.1,v2.2)))
def bitmap_Turned_r (fu : Nat) (a : (Int × Int × List Int) × Int × Unit) : Option ((Int × Int × List Int) × Unit) :=
  bif (decide (((List.length a.1.2.2 : Int) * (1 : Int)) ≤ (140737488355328 : Int))) then
  joinF (bitmap_Turned_j1 fu a) fun j0 =>
  bif (decide ((4 : Int) ≤ a.2.1)) then
    bindO (bitmap_stride_r fu ((a.1.1,()))) fun v1 =>
    bif ((decide ((0 : Int) ≤ (IntKind.i64.wrap (v1.1 * a.1.2.1)))) && (decide (((1 : Int) * (IntKind.i64.wrap (v1.1 * a.1.2.1))) ≤ (281474976710656 : Int)))) then
    loopF (bitmap_Turned_l6 fu a j0) fu (((0 : Int),(List.replicate (Int.toNat (IntKind.i64.wrap (v1.1 * a.1.2.1))) (0 : Int))))
    else none
  else
  j0 (a.1)
  else none
def bitmap_Turned_an : An := (.n none .z (.n none .z (.n none .z (.n (some ⟨[1,4,5],[0,1],[],[.box 2 [(.int .i64),(.int .i64),(.ro true (.int .u8))] 54],0,[]⟩) (.n none .z (.n none (.dr [] [(9,(.n none (.n none .z (.n none (.ops [(2,(.n none (.n none .z (.n none .z .z)) .z))]) (.n none (.n none .z (.n none (.n (some ⟨[6,7,0,2,13],[3,2,4,7],[],[.reg 14 (.int .i64),.row 6 true (.int .u8) 5 0],0,[]⟩) (.n none .z (.n none .z (.n none (.n none (.n none .z (.n none .z (.n none (.n (some ⟨[14,8,17],[],[],[.reg 18 (.int .i64),.row 6 true (.int .u8) 5 0],0,[]⟩) (.n none .z (.n none .z (.n (some ⟨[],[],[],[.reg 18 (.int .i64),.row 6 true (.int .u8) 5 0],0,[]⟩) (.n none (.n none .z (.n none (.ops [(3,(.n none (.n none .z (.n none (.dr [] []) .z)) .z))]) (.n none (.ops [(2,(.n none (.dr [] []) .z))]) .z))) .z) .z))) .z) .z))) .z) .z))) .z) .z)) (.n none .z .z)))) .z))]) .z)) (.n none (.n none .z (.n none (.n (some ⟨[29],[],[],[.reg 30 (.int .i64),.box 2 [(.int .i64),(.int .i64),(.ro true (.int .u8))] 54],0,[]⟩) (.n none .z (.n none .z (.n none (.n none (.n none .z (.ops [(5,(.n none (.n none .z (.n none (.ops [(2,(.n none (.n none .z (.n none .z .z)) .z))]) (.n none (.n none .z (.n none (.n (some ⟨[6,7,0,2,13],[2,4,5,8],[],[.reg 14 (.int .i64),.row 7 true (.int .u8) 5 0],0,[]⟩) (.n none .z (.n none .z (.n none (.n none (.n none .z (.n none .z (.n none (.n (some ⟨[14,8,17],[],[],[.reg 18 (.int .i64),.row 7 true (.int .u8) 5 0],0,[]⟩) (.n none .z (.n none .z (.n (some ⟨[],[],[],[.reg 18 (.int .i64),.row 7 true (.int .u8) 5 0],0,[]⟩) (.n none (.n none .z (.n none .z (.n none (.ops [(2,(.n none (.dr [] []) .z))]) .z))) .z) .z))) .z) .z))) .z) .z))) .z) .z)) (.n none .z .z)))) .z))])) .z) .z))) .z) .z)) (.n none .z .z))))))
noncomputable def bitmap_Turned_dc : List (Nat × Ctr) := [(82,bitmap_Is_ctr),(115,bitmap_stride_ctr),(136,bitmap_Turned_2_ctr)]
def bitmap_Turned_ctr : Ctr := ⟨(.pair (.ptr (.pair (.int .i64) (.pair (.int .i64) (.list (.int .u8))))) (.pair (.int .i64) .unit)),(.pair (.agg (.pair (.int .i64) (.pair (.int .i64) (.list (.int .u8))))) .unit),bitmap_Turned_r,100⟩
theorem bitmap_Turned_ok : CtrOk Try.prog 100 bitmap_Turned_ctr := ctr_ok (l := bitmap_Turned_dc) (f := 12) (an := bitmap_Turned_an) ⟨bitmap_Is_ok,⟨bitmap_stride_ok,⟨bitmap_Turned_2_ok,trivial⟩⟩⟩ fun fu x => by kernel_rfl
def camera_Capture_j4 (fu : Nat) (a : (Int × Int × List Int) × (Int × Int × Int × Int × Int × Int × Int × List Int) × Unit) (v4 : (Int × Int × List Int) × Unit) (v7 : Int) (v8 : Int × List Int) (v9 : Int) (j8 : (Int × List Int) → Option ((Int × Int × List Int) × Int × Unit)) (v13 : Int) : Option ((Int × Int × List Int) × Int × Unit) :=
  bif ((decide ((0 : Int) ≤ (IntKind.i64.wrap ((IntKind.i64.wrap (v7 * (IntKind.i64.wrap ((IntKind.i64.wrap (v4.1.1 * a.2.1.1)) + (32 : Int))))) + v9)))) && (decide ((IntKind.i64.wrap ((IntKind.i64.wrap (v7 * (IntKind.i64.wrap ((IntKind.i64.wrap (v4.1.1 * a.2.1.1)) + (32 : Int))))) + v9)) < (List.length v8.2 : Int)))) then
  j8 (((IntKind.i64.wrap (v8.1 + (1 : Int))),(List.set v8.2 (Int.toNat (IntKind.i64.wrap ((IntKind.i64.wrap (v7 * (IntKind.i64.wrap ((IntKind.i64.wrap (v4.1.1 * a.2.1.1)) + (32 : Int))))) + v9))) (IntKind.u8.wrap v13))))
  else none
def camera_Capture_j5 (fu : Nat) (a : (Int × Int × List Int) × (Int × Int × Int × Int × Int × Int × Int × List Int) × Unit) (j13 : (Int) → Option ((Int × Int × List Int) × Int × Unit)) (v14 : Bool × Int) : Option ((Int × Int × List Int) × Int × Unit) :=
  bif v14.1 then
    let v15 : Int := a.2.1.2.2.2.2.2.2.1
    j13 (v15)
  else
  j13 (v14.2)
def camera_Capture_l3 (fu : Nat) (a : (Int × Int × List Int) × (Int × Int × Int × Int × Int × Int × Int × List Int) × Unit) (v4 : (Int × Int × List Int) × Unit) (v6 : Int × List Int) (v7 : Int) (j6 : (Int × List Int) → Option ((Int × Int × List Int) × Int × Unit)) (j8 : (Int × List Int) → Option ((Int × Int × List Int) × Int × Unit)) (v8 : Int × List Int) : Option ((Int × Int × List Int) × Int × Unit) :=
  bif (decide (v8.1 < (IntKind.i64.wrap ((IntKind.i64.wrap (v4.1.1 * a.2.1.1)) + (32 : Int))))) then
    let v9 : Int := v8.1
    let v10 : Int := (IntKind.i64.wrap (v9 - a.2.1.2.1))
    let v11 : Int := (IntKind.i64.wrap (v7 - a.2.1.2.2.1))
    let v12 : Int := a.2.1.2.2.2.2.2.1
    joinF (camera_Capture_j4 fu a v4 v7 v8 v9 j8) fun j13 =>
    joinF (camera_Capture_j5 fu a j13) fun j14 =>
    bif (decide ((0 : Int) ≤ v10)) then
      bif (decide ((0 : Int) ≤ v11)) then
        bif (decide (a.2.1.1 ≠ (0 : Int))) then
        bif (decide (a.2.1.1 ≠ (0 : Int))) then
        bindO (bitmap_Is_r fu ((v4.1,((IntKind.i64.wrap (Int.tdiv v10 a.2.1.1)),((IntKind.i64.wrap (Int.tdiv v11 a.2.1.1)),()))))) fun v15 =>
        j14 ((v15.1,v12))
        else none
        else none
      else
      j14 ((false,v12))
    else
    j14 ((false,v12))
  else
  j6 (((IntKind.i64.wrap (v6.1 + (1 : Int))),v8.2))
def camera_Capture_l7 (fu : Nat) (a : (Int × Int × List Int) × (Int × Int × Int × Int × Int × Int × Int × List Int) × Unit) (v4 : (Int × Int × List Int) × Unit) (v7 : Int × List Int) (j7 : (Int × List Int) → Option ((Int × Int × List Int) × Int × Unit)) (j8 : (Int × List Int) → Option ((Int × Int × List Int) × Int × Unit)) (v8 : Int × List Int) : Option ((Int × Int × List Int) × Int × Unit) :=
  bif (decide (v8.1 < (List.length v7.2 : Int))) then
    let v9 : Int := v8.1
    bif (decide ((IntKind.i64.wrap ((IntKind.i64.wrap (v4.1.1 * a.2.1.1)) + (32 : Int))) ≠ (0 : Int))) then
    bif (decide ((IntKind.i64.wrap ((IntKind.i64.wrap (v4.1.1 * a.2.1.1)) + (32 : Int))) ≠ (0 : Int))) then
    bindO (camera_window_r fu ((((IntKind.i64.wrap ((IntKind.i64.wrap (v4.1.1 * a.2.1.1)) + (32 : Int))),((IntKind.i64.wrap ((IntKind.i64.wrap (v4.1.2.1 * a.2.1.1)) + (32 : Int))),v7.2)),((Int.tmod v9 (IntKind.i64.wrap ((IntKind.i64.wrap (v4.1.1 * a.2.1.1)) + (32 : Int)))),((IntKind.i64.wrap (Int.tdiv v9 (IntKind.i64.wrap ((IntKind.i64.wrap (v4.1.1 * a.2.1.1)) + (32 : Int))))),((1 : Int),())))))) fun v10 =>
    let v11 : Int := v10.1
    let v12 : Int := v10.2.1
    bindO (curve_Nearest_r fu ((v11,(v12,())))) fun v13 =>
    bif ((decide ((0 : Int) ≤ v9)) && (decide (v9 < (List.length v8.2 : Int)))) then
    j8 (((IntKind.i64.wrap (v8.1 + (1 : Int))),(List.set v8.2 (Int.toNat v9) (IntKind.u8.wrap v13.1))))
    else none
    else none
    else none
  else
  j7 (((IntKind.i64.wrap (v7.1 + (1 : Int))),v8.2))
def camera_Capture_j9 (fu : Nat) (j8 : (Int × List Int) → Option ((Int × Int × List Int) × Int × Unit)) (v9 : Int × List Int) : Option ((Int × Int × List Int) × Int × Unit) :=
  j8 (((IntKind.i64.wrap (v9.1 + (1 : Int))),v9.2))
def camera_Capture_l8 (fu : Nat) (a : (Int × Int × List Int) × (Int × Int × Int × Int × Int × Int × Int × List Int) × Unit) (v4 : (Int × Int × List Int) × Unit) (v7 : Int × List Int) (j8 : (Int × List Int) → Option ((Int × Int × List Int) × Int × Unit)) (v8 : Int × List Int) : Option ((Int × Int × List Int) × Int × Unit) :=
  bif (decide (v8.1 < (List.length v7.2 : Int))) then
    joinF (camera_Capture_j9 fu j8) fun j9 =>
    let v10 : Int := v8.1
    bif (decide ((0 : Int) < (List.length a.2.1.2.2.2.2.2.2.2 : Int))) then
      bif ((decide ((0 : Int) ≤ v10)) && (decide (v10 < (List.length v8.2 : Int)))) then
      bif (decide ((List.length a.2.1.2.2.2.2.2.2.2 : Int) ≠ (0 : Int))) then
      bif ((decide ((0 : Int) ≤ (Int.tmod v10 (List.length a.2.1.2.2.2.2.2.2.2 : Int)))) && (decide ((Int.tmod v10 (List.length a.2.1.2.2.2.2.2.2.2 : Int)) < (List.length a.2.1.2.2.2.2.2.2.2 : Int)))) then
      let v11 : Int := (List.getD a.2.1.2.2.2.2.2.2.2 (Int.toNat (Int.tmod v10 (List.length a.2.1.2.2.2.2.2.2.2 : Int))) 0)
      bif ((decide ((0 : Int) ≤ v10)) && (decide (v10 < (List.length v8.2 : Int)))) then
      j9 ((v8.1,(List.set v8.2 (Int.toNat v10) (IntKind.u8.wrap (max (0 : Int) (min (255 : Int) (IntKind.i64.wrap ((IntKind.i64.wrap (List.getD v8.2 (Int.toNat v10) 0)) + v11))))))))
      else none
      else none
      else none
      else none
    else
    j9 (v8)
  else
  some ((((IntKind.i64.wrap ((IntKind.i64.wrap (v4.1.1 * a.2.1.1)) + (32 : Int))),((IntKind.i64.wrap ((IntKind.i64.wrap (v4.1.2.1 * a.2.1.1)) + (32 : Int))),v8.2)),((0 : Int),())))
def camera_Capture_l6 (fu : Nat) (a : (Int × Int × List Int) × (Int × Int × Int × Int × Int × Int × Int × List Int) × Unit) (v4 : (Int × Int × List Int) × Unit) (j7 : (Int × List Int) → Option ((Int × Int × List Int) × Int × Unit)) (v7 : Int × List Int) : Option ((Int × Int × List Int) × Int × Unit) :=
  bif (decide (v7.1 < a.2.1.2.2.2.2.1)) then
    bif (decide (((List.length v7.2 : Int) * (1 : Int)) ≤ (140737488355328 : Int))) then
    loopF (camera_Capture_l7 fu a v4 v7 j7) fu (((0 : Int),v7.2))
    else none
  else
  loopF (camera_Capture_l8 fu a v4 v7) fu (((0 : Int),v7.2))
def camera_Capture_l2 (fu : Nat) (a : (Int × Int × List Int) × (Int × Int × Int × Int × Int × Int × Int × List Int) × Unit) (v4 : (Int × Int × List Int) × Unit) (j6 : (Int × List Int) → Option ((Int × Int × List Int) × Int × Unit)) (v6 : Int × List Int) : Option ((Int × Int × List Int) × Int × Unit) :=
  bif (decide (v6.1 < (IntKind.i64.wrap ((IntKind.i64.wrap (v4.1.2.1 * a.2.1.1)) + (32 : Int))))) then
    let v7 : Int := v6.1
    loopF (camera_Capture_l3 fu a v4 v6 v7 j6) fu (((0 : Int),v6.2))
  else
  loopF (camera_Capture_l6 fu a v4) fu (((0 : Int),v6.2))
def camera_Capture_j1 (fu : Nat) (a : (Int × Int × List Int) × (Int × Int × Int × Int × Int × Int × Int × List Int) × Unit) (v4 : (Int × Int × List Int) × Unit) (v5 : Bool) : Option ((Int × Int × List Int) × Int × Unit) :=
  bif v5 then
    some ((((0 : Int),((0 : Int),([] : List (Int)))),((19 : Int),())))
  else
  bif ((decide ((0 : Int) ≤ (IntKind.i64.wrap ((IntKind.i64.wrap ((IntKind.i64.wrap (v4.1.1 * a.2.1.1)) + (32 : Int))) * (IntKind.i64.wrap ((IntKind.i64.wrap (v4.1.2.1 * a.2.1.1)) + (32 : Int))))))) && (decide (((1 : Int) * (IntKind.i64.wrap ((IntKind.i64.wrap ((IntKind.i64.wrap (v4.1.1 * a.2.1.1)) + (32 : Int))) * (IntKind.i64.wrap ((IntKind.i64.wrap (v4.1.2.1 * a.2.1.1)) + (32 : Int)))))) ≤ (281474976710656 : Int)))) then
  loopF (camera_Capture_l2 fu a v4) fu (((0 : Int),(List.replicate (Int.toNat (IntKind.i64.wrap ((IntKind.i64.wrap ((IntKind.i64.wrap (v4.1.1 * a.2.1.1)) + (32 : Int))) * (IntKind.i64.wrap ((IntKind.i64.wrap (v4.1.2.1 * a.2.1.1)) + (32 : Int)))))) (0 : Int))))
  else none
def camera_Capture_r (fu : Nat) (a : (Int × Int × List Int) × (Int × Int × Int × Int × Int × Int × Int × List Int) × Unit) : Option ((Int × Int × List Int) × Int × Unit) :=
  bindO (bitmap_Check_r fu ((a.1,()))) fun v0 =>
  let v1 : Int := v0.1
  bif (decide (v1 ≠ (0 : Int))) then
    some ((((0 : Int),((0 : Int),([] : List (Int)))),(v1,())))
  else
  bindO (camera_CheckView_r fu ((a.2.1,()))) fun v2 =>
  let v3 : Int := v2.1
  bif (decide (v3 ≠ (0 : Int))) then
    some ((((0 : Int),((0 : Int),([] : List (Int)))),(v3,())))
  else
  bindO (bitmap_Turned_r fu ((a.1,(a.2.1.2.2.2.1,())))) fun v4 =>
  joinF (camera_Capture_j1 fu a v4) fun j5 =>
  bif (decide ((1024 : Int) < (IntKind.i64.wrap ((IntKind.i64.wrap (v4.1.1 * a.2.1.1)) + (32 : Int))))) then
    j5 (true)
  else
  j5 ((decide ((1024 : Int) < (IntKind.i64.wrap ((IntKind.i64.wrap (v4.1.2.1 * a.2.1.1)) + (32 : Int))))))
def camera_Capture_an : An := (.n none .z (.n none (.n none .z (.n none .z (.n none (.n none .z .z) .z))) (.n none (.n none .z (.n none .z (.n none (.n none .z .z) .z))) (.n none .z (.n none .z (.n none (.n (some ⟨[4,9,3,8],[0,2,3,1,4],[],[.reg 55 .bool],0,[]⟩) .z (.n none (.n none .z .z) .z)) (.n none .z (.n none (.n none .z (.n none (.n (some ⟨[4,9,3,8,65],[3,1,2,4],[],[.reg 66 (.int .i64),.row 5 true (.int .u8) 5 0],0,[]⟩) (.n none .z (.n none .z (.n none (.n none (.n none .z (.n none .z (.n none (.n (some ⟨[66,10,70],[],[],[.reg 71 (.int .i64),.row 5 true (.int .u8) 5 0],0,[]⟩) (.n none .z (.n none .z (.n none (.n none (.n none .z (.n none (.dr [] []) (.n none .z (.n (some ⟨[11,71],[5],[],[.reg 14 (.int .i64)],0,[]⟩) (.n (some ⟨[],[],[],[.reg 100 .bool,.reg 14 (.int .i64)],0,[]⟩) (.dr [] []) (.n none .z .z)) .z)))) .z) .z))) .z) .z))) .z) .z))) .z) .z)) (.n none (.n none .z (.n none (.n (some ⟨[3,9,4,117],[3,4,2,1],[],[.reg 118 (.int .i64),.row 5 true (.int .u8) 5 0],0,[]⟩) (.n none .z (.n none .z (.n none (.n none (.n none .z (.n none .z (.n none .z (.n none (.n (some ⟨[118,15,127],[7,6],[],[.reg 128 (.int .i64),.row 5 true (.int .u8) 5 0],0,[]⟩) (.n none .z (.n none .z (.n none (.n none (.n none .z (.n none (.dr [] []) (.dr [] []))) .z) .z))) .z) .z)))) .z) .z))) .z) .z)) (.n none (.n none .z (.n none (.n (some ⟨[4,9,3,155],[2,1,4],[],[.reg 156 (.int .i64),.row 5 true (.int .u8) 5 0],0,[]⟩) (.n none .z (.n none .z (.n (some ⟨[],[],[],[.reg 156 (.int .i64),.row 5 true (.int .u8) 5 0],0,[]⟩) (.n none (.n none .z (.n none .z (.n none (.dr [] []) .z))) .z) .z))) .z) .z)) (.n none .z .z)))))))))))
noncomputable def camera_Capture_dc : List (Nat × Ctr) := [(61,camera_CheckView_ctr),(72,curve_Nearest_ctr),(81,bitmap_Check_ctr),(82,bitmap_Is_ctr),(100,bitmap_Turned_ctr),(101,camera_window_ctr)]
def camera_Capture_ctr : Ctr := ⟨(.pair (.agg (.pair (.int .i64) (.pair (.int .i64) (.list (.int .u8))))) (.pair (.agg (.pair (.int .i64) (.pair (.int .i64) (.pair (.int .i64) (.pair (.int .i64) (.pair (.int .i64) (.pair (.int .i64) (.pair (.int .i64) (.list (.int .i64)))))))))) .unit)),(.pair (.agg (.pair (.int .i64) (.pair (.int .i64) (.list (.int .u8))))) (.pair (.int .i64) .unit)),camera_Capture_r,59⟩
theorem camera_Capture_ok : CtrOk Try.prog 59 camera_Capture_ctr := ctr_ok (l := camera_Capture_dc) (f := 12) (an := camera_Capture_an) ⟨camera_CheckView_ok,⟨curve_Nearest_ok,⟨bitmap_Check_ok,⟨bitmap_Is_ok,⟨bitmap_Turned_ok,⟨camera_window_ok,trivial⟩⟩⟩⟩⟩⟩ fun fu x => by kernel_rfl
end Go.Proofs.Ytelpkjellakigaa
/- Runs that answer some calls by residual programs. No program in sight. -/
namespace Go.Proofs.Ytelpkjellakigaa.Rn
open Go Go.RowKit Go.Proofs.Ytelpkjellakigaa
set_option linter.unusedSimpArgs false
set_option linter.unusedSectionVars false
set_option linter.unusedVariables false
def rowsD {α : Type} (f : List AV → Option (α × List AV)) : List (List AV) → Option (List α)
  | [] => some []
  | row :: l => match f row with
    | some (x,[]) => match rowsD f l with
      | some xs => some (x :: xs)
      | none => none
    | _ => none
def kindE (k k' : IntKind) : Bool := decide (k = k')
/-- cells that are data -/
def decC : (t : Ty) → List AV → Option (t.den × List AV)
  | .int k,l => match l with
    | .int k' n :: l => bif kindE k' k then some (n,l) else none
    | _ => none
  | .bool,l => match l with
    | .bool b :: l => some (b,l)
    | _ => none
  | .str,l => match l with
    | .str s :: l => some (s.data.toList,l)
    | _ => none
  | .list t,l => match l with
    | .ro _ sz rows :: l => bif Nat.beq sz t.size then (match rowsD (decC t) rows with
      | some xs => some (xs,l)
      | none => none) else none
    | _ => none
  | .unit,l => some ((),l)
  | .pair a b,l => match decC a l with
    | some (x,l') => match decC b l' with
      | some (y,l'') => some ((x,y),l'')
      | none => none
    | none => none
  | .agg t,l => decC t l
  | .ptr _,_ => none
def allD (l : List (List AV)) : Bool := l.all fun row => row.all isD
/-- cells,as a callee reads them -/
def fzC (hp : List (Nat × AB)) : (t : Ty) → List AV → Option (t.den × List AV)
  | .int k,l => match l with
    | .int k' n :: l => bif kindE k' k then some (n,l) else none
    | _ => none
  | .bool,l => match l with
    | .bool b :: l => some (b,l)
    | _ => none
  | .str,l => match l with
    | .str s :: l => some (s.data.toList,l)
    | _ => none
  | .list t,l => match l with
    | a :: l => (match a with
      | .nils => some ([],l)
      | .ro _ sz rows => bif Nat.beq sz t.size then (match rowsD (decC t) rows with
        | some xs => some (xs,l)
        | none => none) else none
      | .osl id n => (match look .dead hp id with
        | .row sz rows _ => bif Nat.beq sz t.size && Nat.beq n rows.length && t.flat then (match rowsD (fzC hp t) rows with
          | some xs => some (xs,l)
          | none => none) else none
        | _ => none)
      | .vsl id n lo len => (match look .dead hp id with
        | .row sz rows _ => bif Nat.beq sz t.size && Nat.beq n rows.length && allD rows then (match rowsD (decC t) ((rows.drop lo).take len) with
          | some xs => some (xs,l)
          | none => none) else none
        | _ => none)
      | _ => none)
    | [] => none
  | .unit,l => some ((),l)
  | .pair a b,l => match fzC hp a l with
    | some (x,l') => match fzC hp b l' with
      | some (y,l'') => some ((x,y),l'')
      | none => none
    | none => none
  | .agg t,l => fzC hp t l
  | .ptr _,_ => none
/-- an argument -/
def fzV (hp : List (Nat × AB)) : (t : Ty) → AV → Option t.den
  | .agg t,a => match a with
    | .agg cs => match fzC hp t cs with
      | some (x,[]) => some x
      | _ => none
    | _ => none
  | .ptr t,a => match a with
    | .box id 0 => match look .dead hp id with
      | .box cs _ => match fzC hp t cs with
        | some (x,[]) => bif Nat.blt 0 t.size then some x else none
        | _ => none
      | _ => none
    | _ => none
  | .int k,a => match fzC hp (.int k) [a] with
    | some (x,[]) => some x
    | _ => none
  | .bool,a => match fzC hp .bool [a] with
    | some (x,[]) => some x
    | _ => none
  | .str,a => match fzC hp .str [a] with
    | some (x,[]) => some x
    | _ => none
  | .list t,a => match fzC hp (.list t) [a] with
    | some (x,[]) => some x
    | _ => none
  | .unit,_ => none
  | .pair _ _,_ => none
def fzA (hp : List (Nat × AB)) : (t : Ty) → List AV → Option t.den
  | .pair a b,l => match l with
    | x :: l => match fzV hp a x,fzA hp b l with
      | some u,some v => some (u,v)
      | _,_ => none
    | [] => none
  | .unit,l => match l with
    | [] => some ()
    | _ => none
  | _,_ => none
section
variable {hp : List (Nat × AB)}
theorem rowsD_at {α : Type} {f : List AV → Option (α × List AV)} : ∀ {rows : List (List AV)} {xs : List α},rowsD f rows = some xs → rows.length = xs.length ∧ ∀ (i : Nat) (row : List AV) (x : α),rows[i]? = some row → xs[i]? = some x → f row = some (x,[])
  | [],xs,h => by injection h with h;subst h;exact ⟨rfl,fun i row x h => by simp at h⟩
  | r :: l,xs,h => by
    rw [rowsD] at h
    split at h
    · rename_i x h1
      split at h
      · rename_i ys h2
        injection h with h
        subst h
        obtain ⟨e1,e2⟩ := rowsD_at h2
        refine ⟨by simp [e1],fun i row y hr hy => ?_⟩
        cases i with
        | zero => simp at hr hy;subst hr;subst hy;exact h1
        | succ i => exact e2 i row y (by simpa using hr) (by simpa using hy)
      · cases h
    · cases h
theorem oldR_app (l m : List AV) : oldR (l ++ m) = oldR l ++ oldR m := oldR_append l m
theorem old_rows {t : Ty} {rows : List (List AV)} {xs : List t.den} (hl : rows.length = xs.length) (h : ∀ (i : Nat) (row : List AV) (x : t.den),rows[i]? = some row → xs[i]? = some x → oldR row = t.cells false x) : oldRR rows = xs.map (t.cells false) := by
  rw [oldRR_map]
  apply List.ext_getElem?
  intro i
  rw [List.getElem?_map,List.getElem?_map]
  by_cases hi : i < rows.length
  · have h1 : rows[i]? = some rows[i] := List.getElem?_eq_getElem hi
    have h2 : xs[i]? = some xs[i] := List.getElem?_eq_getElem (by omega)
    rw [h1,h2]
    exact congrArg some (h i _ _ h1 h2)
  · rw [List.getElem?_eq_none (by omega),List.getElem?_eq_none (by omega)];rfl
theorem decC_ok : ∀ (t : Ty) (l : List AV) (x : t.den) (r : List AV),decC t l = some (x,r) → ∃ pre,l = pre ++ r ∧ oldR pre = t.cells false x ∧ ∀ a ∈ pre,isD a = true
  | .int k,l,x,r,h => by
    rw [decC.eq_def] at h
    simp only at h
    split at h
    · rename_i k' n l'
      cases hc : kindE k' k with
      | false => rw [hc] at h;cases h
      | true =>
        rw [hc] at h
        simp only [cond_true,Option.some.injEq,Prod.mk.injEq] at h
        obtain ⟨rfl,rfl⟩ := h
        have := of_decide_eq_true hc
        subst this
        exact ⟨[.int k' n],rfl,by simp [oldR,AV.old,Ty.cells],by simp [isD]⟩
    · cases h
  | .bool,l,x,r,h => by
    rw [decC.eq_def] at h
    simp only at h
    split at h
    · rename_i b l'
      simp only [Option.some.injEq,Prod.mk.injEq] at h
      obtain ⟨rfl,rfl⟩ := h
      exact ⟨[.bool b],rfl,by simp [oldR,AV.old,Ty.cells],by simp [isD]⟩
    · cases h
  | .str,l,x,r,h => by
    rw [decC.eq_def] at h
    simp only at h
    split at h
    · rename_i b l'
      simp only [Option.some.injEq,Prod.mk.injEq] at h
      obtain ⟨rfl,rfl⟩ := h
      exact ⟨[.str b],rfl,by simp [oldR,AV.old,Ty.cells],by simp [isD]⟩
    · cases h
  | .list t,l,x,r,h => by
    rw [decC.eq_def] at h
    simp only at h
    split at h
    · rename_i fr sz rows l'
      cases hc : Nat.beq sz t.size with
      | false => rw [hc] at h;cases h
      | true =>
        rw [hc] at h
        simp only [cond_true] at h
        split at h
        · rename_i xs h1
          simp only [Option.some.injEq,Prod.mk.injEq] at h
          obtain ⟨rfl,rfl⟩ := h
          obtain ⟨e1,e2⟩ := rowsD_at h1
          refine ⟨[.ro fr sz rows],rfl,?_,by simp [isD]⟩
          have hr : oldRR rows = xs.map (t.cells false) := old_rows e1 fun i row y hr hy => by
            obtain ⟨pre,g1,g2,_⟩ := decC_ok t row y [] (e2 i row y hr hy)
            rw [g1,List.append_nil];exact g2
          simp only [oldR,AV.old,Ty.cells,hr,Nat.eq_of_beq_eq_true hc]
        · cases h
    · cases h
  | .unit,l,x,r,h => by
    rw [decC] at h
    simp only [Option.some.injEq,Prod.mk.injEq] at h
    obtain ⟨_,rfl⟩ := h
    exact ⟨[],rfl,by simp [oldR,Ty.cells],by simp⟩
  | .pair a b,l,x,r,h => by
    rw [decC] at h
    split at h
    · rename_i u l1 h1
      split at h
      · rename_i v l2 h2
        simp only [Option.some.injEq,Prod.mk.injEq] at h
        obtain ⟨rfl,rfl⟩ := h
        obtain ⟨p1,q1,q2,q3⟩ := decC_ok a l u l1 h1
        obtain ⟨p2,q4,q5,q6⟩ := decC_ok b l1 v l2 h2
        refine ⟨p1 ++ p2,by rw [q1,q4,List.append_assoc],by rw [oldR_app,q2,q5,Ty.cells],fun c hc => ?_⟩
        rcases List.mem_append.1 hc with hc | hc
        · exact q3 c hc
        · exact q6 c hc
      · cases h
    · cases h
  | .agg t,l,x,r,h => by
    rw [decC] at h
    obtain ⟨pre,g1,g2,g3⟩ := decC_ok t l x r h
    exact ⟨pre,g1,by rw [g2,Ty.cells],g3⟩
  | .ptr _,l,x,r,h => by rw [decC] at h;cases h
theorem one_frz {a b : AV} (h : FrzA hp a b) : FrzL hp [a] [b] := .cons h .nil
theorem fzC_ok : ∀ (t : Ty) (l : List AV) (x : t.den) (r : List AV),fzC hp t l = some (x,r) → ∃ pre,l = pre ++ r ∧ FrzL hp pre (t.cells false x)
  | .int k,l,x,r,h => by
    rw [fzC.eq_def] at h
    simp only at h
    split at h
    · rename_i k' n l'
      cases hc : kindE k' k with
      | false => rw [hc] at h;cases h
      | true =>
        rw [hc] at h
        simp only [cond_true,Option.some.injEq,Prod.mk.injEq] at h
        obtain ⟨rfl,rfl⟩ := h
        have := of_decide_eq_true hc
        subst this
        exact ⟨[.int k' n],rfl,by rw [Ty.cells];exact one_frz (.dat _ rfl _ (by rw [AV.old]))⟩
    · cases h
  | .bool,l,x,r,h => by
    rw [fzC.eq_def] at h
    simp only at h
    split at h
    · rename_i b l'
      simp only [Option.some.injEq,Prod.mk.injEq] at h
      obtain ⟨rfl,rfl⟩ := h
      exact ⟨[.bool b],rfl,by rw [Ty.cells];exact one_frz (.dat _ rfl _ (by rw [AV.old]))⟩
    · cases h
  | .str,l,x,r,h => by
    rw [fzC.eq_def] at h
    simp only at h
    split at h
    · rename_i b l'
      simp only [Option.some.injEq,Prod.mk.injEq] at h
      obtain ⟨rfl,rfl⟩ := h
      exact ⟨[.str b],rfl,by rw [Ty.cells];exact one_frz (.dat _ rfl _ (by rw [AV.old]))⟩
    · cases h
  | .list t,l,x,r,h => by
    rw [fzC.eq_def] at h
    simp only at h
    split at h
    · rename_i a l'
      split at h
      · simp only [Option.some.injEq,Prod.mk.injEq] at h
        obtain ⟨rfl,rfl⟩ := h
        exact ⟨[.nils],rfl,by rw [Ty.cells];exact one_frz (.nilro _)⟩
      · rename_i fr sz rows
        cases hc : Nat.beq sz t.size with
        | false => rw [hc] at h;cases h
        | true =>
          rw [hc] at h
          simp only [cond_true] at h
          split at h
          · rename_i xs h1
            simp only [Option.some.injEq,Prod.mk.injEq] at h
            obtain ⟨rfl,rfl⟩ := h
            obtain ⟨e1,e2⟩ := rowsD_at h1
            have hr : oldRR rows = xs.map (t.cells false) := old_rows e1 fun i row y hr hy => by
              obtain ⟨pre,g1,g2,_⟩ := decC_ok t row y [] (e2 i row y hr hy)
              rw [g1,List.append_nil];exact g2
            exact ⟨[.ro fr sz rows],rfl,by rw [Ty.cells];exact one_frz (.dat _ rfl _ (by rw [AV.old,hr,Nat.eq_of_beq_eq_true hc]))⟩
          · cases h
      · rename_i id n
        split at h
        · rename_i sz rows e hb
          cases hc : (Nat.beq sz t.size && Nat.beq n rows.length && t.flat) with
          | false => rw [hc] at h;cases h
          | true =>
            rw [hc] at h
            simp only [cond_true] at h
            simp only [Bool.and_eq_true] at hc
            split at h
            · rename_i xs h1
              simp only [Option.some.injEq,Prod.mk.injEq] at h
              obtain ⟨rfl,rfl⟩ := h
              obtain ⟨e1,e2⟩ := rowsD_at h1
              have c1 := Nat.eq_of_beq_eq_true hc.1.1
              subst c1
              have key : ∀ (i : Nat) (row row' : List AV),rows[i]? = some row → (xs.map (t.cells false))[i]? = some row' → FrzL hp row row' := fun i row row' hr hr' => by
                rw [List.getElem?_map] at hr'
                obtain ⟨y,hy,rfl⟩ := Option.map_eq_some_iff.1 hr'
                obtain ⟨pre,g1,g2⟩ := fzC_ok t row y [] (e2 i row y hr hy)
                rw [g1,List.append_nil];exact g2
              refine ⟨[.osl id n],rfl,by
                rw [Ty.cells]
                refine one_frz (.oslN id n t.size rows _ e hb (Nat.eq_of_beq_eq_true hc.1.2) (by simpa using e1) (fun i row row' hr hr' => (key i row row' hr hr').len) (fun i row row' j a a' hr hr' ha ha' => (key i row row' hr hr').at j a a' ha ha') (fun row hr a ha => ?_))
                obtain ⟨y,_,rfl⟩ := List.mem_map.1 hr
                exact t.cells_isD _ _ a ha⟩
            · cases h
        · cases h
      · rename_i id n lo len
        split at h
        · rename_i sz rows e hb
          cases hc : (Nat.beq sz t.size && Nat.beq n rows.length && allD rows) with
          | false => rw [hc] at h;cases h
          | true =>
            rw [hc] at h
            simp only [cond_true] at h
            simp only [Bool.and_eq_true] at hc
            split at h
            · rename_i xs h1
              simp only [Option.some.injEq,Prod.mk.injEq] at h
              obtain ⟨rfl,rfl⟩ := h
              obtain ⟨e1,e2⟩ := rowsD_at h1
              have c1 := Nat.eq_of_beq_eq_true hc.1.1
              subst c1
              have hr : oldRR ((rows.drop lo).take len) = xs.map (t.cells false) := old_rows e1 fun i row y hr hy => by
                obtain ⟨pre,g1,g2,_⟩ := decC_ok t row y [] (e2 i row y hr hy)
                rw [g1,List.append_nil];exact g2
              exact ⟨[.vsl id n lo len],rfl,by
                rw [Ty.cells]
                exact one_frz (.vsl id n lo len t.size rows _ e hb (Nat.eq_of_beq_eq_true hc.1.2) (fun row hr a ha => List.all_eq_true.1 (List.all_eq_true.1 hc.2 row hr) a ha) hr)⟩
            · cases h
        · cases h
      · cases h
    · cases h
  | .unit,l,x,r,h => by
    rw [fzC] at h
    simp only [Option.some.injEq,Prod.mk.injEq] at h
    obtain ⟨_,rfl⟩ := h
    exact ⟨[],rfl,by rw [Ty.cells];exact .nil⟩
  | .pair a b,l,x,r,h => by
    rw [fzC] at h
    split at h
    · rename_i u l1 h1
      split at h
      · rename_i v l2 h2
        simp only [Option.some.injEq,Prod.mk.injEq] at h
        obtain ⟨rfl,rfl⟩ := h
        obtain ⟨p1,q1,q2⟩ := fzC_ok a l u l1 h1
        obtain ⟨p2,q4,q5⟩ := fzC_ok b l1 v l2 h2
        exact ⟨p1 ++ p2,by rw [q1,q4,List.append_assoc],by rw [Ty.cells];exact q2.append q5⟩
      · cases h
    · cases h
  | .agg t,l,x,r,h => by
    rw [fzC] at h
    obtain ⟨pre,g1,g2⟩ := fzC_ok t l x r h
    exact ⟨pre,g1,by rw [Ty.cells];exact g2⟩
  | .ptr _,l,x,r,h => by rw [fzC] at h;cases h
theorem fzC_one {t : Ty} {a b : AV} {x : t.den} (h : fzC hp t [a] = some (x,[])) (hb : t.cells false x = [b]) : FrzA hp a b := by
  obtain ⟨pre,g1,g2⟩ := fzC_ok t [a] x [] h
  rw [List.append_nil] at g1
  subst g1
  rw [hb] at g2
  exact g2.at 0 a b rfl rfl
theorem fzV_ok (t : Ty) (a : AV) (x : t.den) (h : fzV hp t a = some x) : FrzA hp a (t.av false x) := by
  cases t with
  | agg t =>
    rw [fzV.eq_def] at h
    simp only at h
    split at h
    · rename_i cs
      split at h
      · rename_i y h1
        injection h with h
        subst h
        obtain ⟨pre,g1,g2⟩ := fzC_ok t cs y [] h1
        rw [List.append_nil] at g1
        subst g1
        rw [Ty.av]
        exact .agg _ _ g2.len g2.at
      · cases h
    · cases h
  | ptr t =>
    rw [fzV.eq_def] at h
    simp only at h
    split at h
    · rename_i id
      split at h
      · rename_i cs e hb
        split at h
        · rename_i y h1
          cases hc : Nat.blt 0 t.size with
          | false => rw [hc] at h;cases h
          | true =>
            rw [hc] at h
            injection h with h
            subst h
            obtain ⟨pre,g1,g2⟩ := fzC_ok t cs y [] h1
            rw [List.append_nil] at g1
            subst g1
            rw [Ty.av]
            refine .peekBox id _ _ e hb g2.len g2.at (t.cells_isD _ _) (fun e1 => ?_)
            have := t.cells_length false y
            rw [e1] at this
            simp at hc
            simp at this
            omega
        · cases h
      · cases h
    · cases h
  | int k =>
    rw [fzV.eq_def] at h
    simp only at h
    split at h
    · rename_i y h1
      injection h with h
      subst h
      exact fzC_one h1 (by rw [Ty.cells,Ty.av])
    · cases h
  | bool =>
    rw [fzV.eq_def] at h
    simp only at h
    split at h
    · rename_i y h1
      injection h with h
      subst h
      exact fzC_one h1 (by rw [Ty.cells,Ty.av])
    · cases h
  | str =>
    rw [fzV.eq_def] at h
    simp only at h
    split at h
    · rename_i y h1
      injection h with h
      subst h
      exact fzC_one h1 (by rw [Ty.cells,Ty.av])
    · cases h
  | list t =>
    rw [fzV.eq_def] at h
    simp only at h
    split at h
    · rename_i y h1
      injection h with h
      subst h
      exact fzC_one h1 (by rw [Ty.cells,Ty.av])
    · cases h
  | unit => rw [fzV.eq_def] at h;cases h
  | pair a b => rw [fzV.eq_def] at h;cases h
theorem fzA_ok : ∀ (t : Ty) (l : List AV) (x : t.den),fzA hp t l = some x → FrzL hp l (t.avs false x)
  | .pair a b,l,x,h => by
    rw [fzA.eq_def] at h
    simp only at h
    split at h
    · rename_i c l
      split at h
      · rename_i u v h1 h2
        injection h with h
        subst h
        rw [Ty.avs]
        exact .cons (fzV_ok a c u h1) (fzA_ok b l v h2)
      · cases h
    · cases h
  | .unit,l,x,h => by
    rw [fzA.eq_def] at h
    simp only at h
    split at h
    · rw [Ty.avs]
      · exact .nil
      · simp
    · cases h
  | .int k,l,x,h => by rw [fzA.eq_def] at h;cases h
  | .bool,l,x,h => by rw [fzA.eq_def] at h;cases h
  | .str,l,x,h => by rw [fzA.eq_def] at h;cases h
  | .list t,l,x,h => by rw [fzA.eq_def] at h;cases h
  | .agg t,l,x,h => by rw [fzA.eq_def] at h;cases h
  | .ptr t,l,x,h => by rw [fzA.eq_def] at h;cases h
end
/-- calls answered by residual programs -/
def orc (fu : Nat) (l : List (Nat × Ctr)) : SelfT := fun F xs hp nx => match lk l F with
  | some c => match fzA hp c.a xs with
    | some x => match c.f fu x with
      | some y => some (oneOf (c.r.avs true y),hp,nx)
      | none => none
    | none => none
  | none => none
theorem orc_ok {P : Program} {fu : Nat} {l : List (Nat × Ctr)} (hl : allP (CtrOk P) l) : SelfOk P (orc fu l) := fun F xs hp nx x hp' nx' h => by
  unfold orc at h
  split at h
  · rename_i c h1
    split at h
    · rename_i z h2
      split at h
      · rename_i y h3
        simp only [Option.some.injEq,Prod.mk.injEq] at h
        obtain ⟨rfl,rfl,rfl⟩ := h
        have hz := fzA_ok _ _ _ h2
        exact AC.of_AF (allP_at hl h1 fu z y h3) hz.len hz.at ⟨rfl,rfl,rfl⟩
      · cases h
    · cases h
  · cases h
def runO (C : Ctx) (fl : Nat) (O : SelfT) : Nat → SelfT
  | 0,_,_,_,_ => none
  | f + 1,F,xs,hp,nx => match fL1 xs fun xs => O F xs hp nx with
    | some r => some r
    | none => match lk C.fns F with
      | some fn => match fn.body with
        | some c => bif Nat.ble xs.length fn.ntmps then (match fL1 xs fun xs => outC C fn.results.toList (runC C (runO C fl O f) fl fn.ntmps c ⟨argR 0 xs,hp,nx⟩) with
          | some (x,hp2,nx2) => gcK hp2 nx x fun hp3 => some (x,hp3,nx2)
          | none => none) else none
        | none => none
      | none => none
section
variable {P : Program}
theorem runO_ok {C : Ctx} (hC : C.ok P) (fl : Nat) {O : SelfT} (hO : SelfOk P O) : ∀ f,SelfOk P (runO C fl O f)
  | 0 => fun F xs hp nx x hp' nx' h => by cases h
  | f + 1 => fun F xs hp nx x hp' nx' h => by
    rw [runO] at h
    split at h
    · rename_i r hr
      injection h with h
      subst h
      rw [fL1_eq] at hr
      exact hO F xs hp nx x hp' nx' hr
    · split at h
      · rename_i fn h1
        split at h
        · rename_i c h2
          cases hb : Nat.ble xs.length fn.ntmps with
          | false => rw [hb] at h;cases h
          | true =>
            rw [hb] at h
            simp only [cond_true] at h
            split at h
            · rename_i x2 hp2 nx2 h0
              obtain ⟨hp3,g1,g2⟩ := gcK_eq hp2 nx x2
              rw [g2] at h
              simp only [Option.some.injEq,Prod.mk.injEq] at h
              obtain ⟨rfl,rfl,rfl⟩ := h
              refine AC.lesH (hp1 := hp2) ?_ g1
              rw [fL1_eq] at h0
              exact out_ok hC (runO_ok hC fl hO f) h1 h2 hb h0
            · cases h
        · cases h
      · cases h
def okRunO (C : Ctx) (fl : Nat) (O : SelfT) (f : Nat) (F : Nat) (xs : List AV) : Option AV := match runO C fl O f F xs [] 0 with
  | some (y,hp,_) => frzRC hp 8 y
  | none => none
/-- a closed call;some callees by their residual programs -/
theorem AF.runO {C : Ctx} (hC : C.ok P) (fl fu f : Nat) {l : List (Nat × Ctr)} (hl : allP (CtrOk P) l) {F : Nat} {xs : List AV} {y : AV} (h : okRunO C fl (orc fu l) f F xs = some y) : AF P F xs y := by
  unfold okRunO at h
  split at h
  · rename_i x hp nx h1
    exact AF.of_AC ((runO_ok hC fl (orc_ok hl) f _ _ _ _ _ _ _ h1).mono (by rintro x1 hp1 nx1 ⟨rfl,rfl,rfl⟩;exact frzRC_ok 8 _ _ h))
  · cases h
end
end Go.Proofs.Ytelpkjellakigaa.Rn
/- Bits of bytes,bitmaps as lists of bytes. No program in sight. -/
namespace Go.Proofs.Ytelpkjellakigaa
open Go Go.RowKit

/-- the pixel j of a byte,from the left -/
def bitAt (v : Int) (j : Nat) : Bool := v / 2 ^ (7 - j) % 2 == 1
theorem fin_byte {p : Int → Prop} (h : ∀ v : Fin 256,p (v.val : Int)) {v : Int} (h0 : 0 ≤ v) (h1 : v ≤ 255) : p v := by
  have := h ⟨v.toNat,by omega⟩
  rwa [show ((⟨v.toNat,by omega⟩ : Fin 256).val : Int) = v from Int.toNat_of_nonneg h0] at this
theorem and_mask {v : Int} (h0 : 0 ≤ v) (h1 : v ≤ 255) {k : Nat} (hk : k < 8) : bits .and .u8 v (128 / 2 ^ k) = (if bitAt v k = true then 128 / 2 ^ k else 0) :=
  fin_byte (p := fun v => ∀ k : Fin 8,bits .and .u8 v (128 / 2 ^ k.val) = (if bitAt v k.val = true then 128 / 2 ^ k.val else 0)) (by decide +kernel) h0 h1 ⟨k,hk⟩
theorem mask_ne {k : Nat} (hk : k < 8) : (128 : Int) / 2 ^ k ≠ 0 := (show ∀ k : Fin 8,(128 : Int) / 2 ^ k.val ≠ 0 by decide) ⟨k,hk⟩
/-- bytes -/
def Bytes (ds : List Int) : Prop := ∀ d ∈ ds,0 ≤ d ∧ d ≤ 255
end Go.Proofs.Ytelpkjellakigaa
/- Strips: what the small functions compute. -/
namespace Go.Proofs.Ytelpkjellakigaa
open Go Go.RowKit

theorem within_r (fu : Nat) (x lo hi : Int) : R_Within_r fu (x,(lo,(hi,()))) = some (decide (lo ≤ x) && decide (x ≤ hi),()) := by
  unfold R_Within_r
  by_cases h : lo ≤ x
  · rw [bif_pos h,decide_eq_true h];rfl
  · rw [bif_neg h,decide_eq_false h];rfl
/-- a row's bytes -/
def strd (w : Int) : Int := (w + 7) / 8
theorem stride_r (fu : Nat) {w : Int} (h0 : 0 ≤ w) (h1 : w ≤ 1000000) : bitmap_stride_r fu (w,()) = some (strd w,()) := by
  unfold bitmap_stride_r strd
  simp only
  rw [wr64 (x := w + 7) (by omega) (by omega),Int.tdiv_eq_ediv_of_nonneg (by omega),wr64 (x := (w + 7) / 8) (by omega) (by omega)]
/-- the pixel (x,y) -/
def pixB (w h : Int) (ds : List Int) (x y : Int) : Bool := decide (0 ≤ x ∧ x < w ∧ 0 ≤ y ∧ y < h) && bitAt (ds.getD (y * strd w + x / 8).toNat 0) (x % 8).toNat
theorem at_ok {w h : Int} (hw : 0 ≤ w) {x y : Int} {l : Nat} (hx0 : 0 ≤ x) (hx1 : x < w) (hy0 : 0 ≤ y) (hy1 : y < h) (hl : (l : Int) = strd w * h) : 0 ≤ y * strd w ∧ 0 ≤ y * strd w + x / 8 ∧ y * strd w + x / 8 < l := by
  have h1 : x / 8 < strd w := by unfold strd;omega
  have h2 : y * strd w ≤ (h - 1) * strd w := Int.mul_le_mul_of_nonneg_right (by omega) (by unfold strd;omega)
  have h3 : (h - 1) * strd w = strd w * h - strd w := by rw [Int.sub_mul,Int.one_mul,Int.mul_comm]
  have h4 : 0 ≤ y * strd w := Int.mul_nonneg hy0 (by unfold strd;omega)
  omega
theorem Bytes.at {ds : List Int} (h : Bytes ds) (i : Nat) : 0 ≤ ds.getD i 0 ∧ ds.getD i 0 ≤ 255 := by
  rw [List.getD_eq_getElem?_getD]
  cases e : ds[i]? with
  | none => simp
  | some d => exact h d (List.mem_of_getElem? e)
theorem is_r (fu : Nat) {w h : Int} {ds : List Int} (hw0 : 0 ≤ w) (hw1 : w ≤ 1024) (hh : h ≤ 1024) (hl : (ds.length : Int) = strd w * h) (hb : Bytes ds) (x y : Int) : bitmap_Is_r fu ((w,(h,ds)),(x,(y,()))) = some (pixB w h ds x y,()) := by
  unfold bitmap_Is_r pixB
  simp only
  by_cases h1 : 0 ≤ x
  · rw [bif_pos h1]
    by_cases h2 : x < w
    · rw [bif_pos h2]
      by_cases h3 : 0 ≤ y
      · rw [bif_pos h3]
        by_cases h4 : y < h
        · rw [bif_pos h4,stride_r fu hw0 (by omega)]
          simp only [bindO_some]
          obtain ⟨g0,g1,g2⟩ := at_ok hw0 h1 h2 h3 h4 hl
          have hs : strd w * h ≤ 128 * 1024 := by
            have a1 : strd w ≤ 128 := by unfold strd;omega
            have a2 : 0 ≤ strd w := by unfold strd;omega
            have := Int.mul_le_mul a1 hh (by omega : 0 ≤ h) (by omega : (0 : Int) ≤ 128)
            omega
          rw [Int.tdiv_eq_ediv_of_nonneg h1,Int.tmod_eq_emod_of_nonneg h1,wr64 (x := x / 8) (by omega) (by omega),wr64 (x := y * strd w) (by omega) (by omega),wr64 (x := y * strd w + x / 8) (by omega) (by omega)]
          rw [bif_and g1 g2,bif_and (by omega) (by omega),and_mask (hb.at _).1 (hb.at _).2 (by omega)]
          rw [decide_eq_true (show 0 ≤ x ∧ x < w ∧ 0 ≤ y ∧ y < h from ⟨h1,h2,h3,h4⟩),Bool.true_and]
          have := mask_ne (k := (x % 8).toNat) (by omega)
          cases bitAt (ds.getD (y * strd w + x / 8).toNat 0) (x % 8).toNat with
          | true => rw [if_pos rfl,decide_eq_true this]
          | false => rw [if_neg (by simp)];rfl
        · rw [bif_neg h4,decide_eq_false (by omega)];rfl
      · rw [bif_neg h3,decide_eq_false (by omega)];rfl
    · rw [bif_neg h2,decide_eq_false (by omega)];rfl
  · rw [bif_neg h1,decide_eq_false (by omega)];rfl
end Go.Proofs.Ytelpkjellakigaa
/- Strips: Check and BitsErr. -/
namespace Go.Proofs.Ytelpkjellakigaa
open Go Go.RowKit

end Go.Proofs.Ytelpkjellakigaa
/- camera.Capture at the picture of the facts. -/
namespace Go.Proofs.Ytelpkjellakigaa
open Go Go.RowKit
set_option linter.unusedSimpArgs false
set_option linter.unusedSectionVars false
set_option linter.unusedVariables false
namespace Ca
theorem stLoop {X β : Type} {f : (X → Option β) → X → Option β} {n fu : Nat} (hn : n < fu) {st : Nat → X} {x0 : X} {fin : Option β} (h0 : st 0 = x0)
    (step : ∀ j (i : Nat),i < n → f j (st i) = j (st (i + 1))) (last : ∀ j,f j (st n) = fin) : loopF f fu x0 = fin := by
  have key := errGen (f := f) (n := n) (st := st) (E := fun _ => 0) (out := fun _ => none) (fin := fin) (fun j i hi _ => by rw [if_pos rfl];exact step j i hi) (fun _ => last) fu 0 (by omega) (by omega) (by omega)
  rw [if_pos (firstE_all _ _ fun _ _ _ => rfl),h0] at key
  exact key
def capV : Int × Int × Int × Int × Int × Int × Int × List Int := (1,(16,(16,(0,(0,(200,(50,[])))))))
def capB : Int × Int × List Int := (1,(1,[128]))
def capA : (Int × Int × List Int) × (Int × Int × Int × Int × Int × Int × Int × List Int) × Unit := (capB,(capV,()))
def valK (k i : Int) : Int := if i < k then (if i = 544 then 50 else 200) else 0
theorem valK_ne {k k' i : Int} (hk : k' = k + 1) (h : i ≠ k) : valK k i = valK k' i := by
  unfold valK
  subst hk
  by_cases c : i < k
  · rw [if_pos c];exact (if_pos (show i < k + 1 by omega)).symm
  · rw [if_neg c];exact (if_neg (show ¬ i < k + 1 by omega)).symm
def pix1 : List Int := tabL 1089 (fun i => if i = 544 then 50 else 200)
theorem byt1 : Bytes [128] := by intro d hd;simp at hd;omega
theorem one_pix (i j : Int) (hi : 0 ≤ i) (hj : 0 ≤ j) : pixB 1 1 [128] i j = decide (i = 0 ∧ j = 0) := by
  unfold pixB
  by_cases h : i = 0 ∧ j = 0
  · obtain ⟨rfl,rfl⟩ := h
    decide
  · rw [decide_eq_false h,decide_eq_false (by omega)];rfl
theorem cap_eq {fu : Nat} (hf : 18446744073709551616 ≤ fu) (hC : bitmap_Check_r fu (capB,()) = some (0,())) (hV : camera_CheckView_r fu (capV,()) = some (0,())) (hT : bitmap_Turned_r fu (capB,(0,())) = some (capB,())) :
    camera_Capture_r fu capA = some ((33,(33,pix1)),(0,())) := by
  have hT' : bitmap_Turned_r fu (capA.1,(capA.2.1.2.2.2.1,())) = some (capB,()) := hT
  have hC' : bitmap_Check_r fu (capA.1,()) = some (0,()) := hC
  have hV' : camera_CheckView_r fu (capA.2.1,()) = some (0,()) := hV
  have e33 : IntKind.i64.wrap (IntKind.i64.wrap (capB.1 * capA.2.1.1) + 32) = 33 := by decide
  have e33' : IntKind.i64.wrap (IntKind.i64.wrap (capB.2.1 * capA.2.1.1) + 32) = 33 := by decide
  have e1089 : IntKind.i64.wrap ((33 : Int) * 33) = 1089 := by decide
  unfold camera_Capture_r
  simp only [hC',hV',hT',bindO_some,joinF_eq,e33,e33']
  rw [bif_neg (by decide),bif_neg (by decide),bif_neg (by decide)]
  unfold camera_Capture_j1
  simp only [e33,e33',e1089]
  rw [show (decide ((1024 : Int) < 33)) = false from rfl,show (decide ((0 : Int) ≤ 1089) && decide ((1 : Int) * 1089 ≤ 281474976710656)) = true from rfl]
  simp only [cond_false,cond_true]
  have hz : List.replicate (Int.toNat 1089) (0 : Int) = tabL 1089 (valK 0) := (tabL_rep fun i h0 _ => by unfold valK;rw [if_neg (by omega)]).symm
  rw [hz]
  refine stLoop (n := 33) (by omega) (st := fun y => ((y : Int),tabL 1089 (valK ((y : Int) * 33)))) (by rfl) ?_ ?_
  · intro j y hy
    unfold camera_Capture_l2
    simp only [e33,e33']
    rw [bif_pos (show (y : Int) < 33 by omega)]
    refine stLoop (n := 33) (by omega) (st := fun x => ((x : Int),tabL 1089 (valK ((y : Int) * 33 + (x : Int))))) (by simp) ?_ ?_
    · intro j2 x hx
      unfold camera_Capture_l3
      simp only [e33,e33',joinF_eq]
      rw [bif_pos (show (x : Int) < 33 by omega)]
      have key : ∀ v : Int,v = (if (y : Int) * 33 + (x : Int) = 544 then 50 else 200) → camera_Capture_j4 fu capA (capB,()) (y : Int) ((x : Int),tabL 1089 (valK ((y : Int) * 33 + (x : Int)))) (x : Int) j2 v = j2 (((x + 1 : Nat) : Int),tabL 1089 (valK ((y : Int) * 33 + ((x + 1 : Nat) : Int)))) := fun v hv => by
        unfold camera_Capture_j4
        simp only [e33,tabL_length]
        rw [wr64 (x := (y : Int) * 33) (by omega) (by omega),wr64 (x := (y : Int) * 33 + (x : Int)) (by omega) (by omega),wr64 (x := (x : Int) + 1) (by omega) (by omega)]
        rw [show (decide ((0 : Int) ≤ (y : Int) * 33 + (x : Int)) && decide ((y : Int) * 33 + (x : Int) < ((1089 : Nat) : Int))) = true from by simp only [Bool.and_eq_true,decide_eq_true_eq];omega]
        simp only [cond_true]
        have hw : IntKind.u8.wrap v = v := by
          rw [hv];split <;> decide
        rw [hw,tabL_set (G' := valK ((y : Int) * 33 + ((x + 1 : Nat) : Int))) (by omega) (by unfold valK;rw [if_pos (by omega),hv]) (fun i h0 h1 h2 => valK_ne (by omega) h2)]
        rfl
      have hj5 : ∀ b : Bool,camera_Capture_j5 fu capA (camera_Capture_j4 fu capA (capB,()) (y : Int) ((x : Int),tabL 1089 (valK ((y : Int) * 33 + (x : Int)))) (x : Int) j2) (b,capA.2.1.2.2.2.2.2.1) = camera_Capture_j4 fu capA (capB,()) (y : Int) ((x : Int),tabL 1089 (valK ((y : Int) * 33 + (x : Int)))) (x : Int) j2 (if b = true then 50 else 200) := fun b => by
        cases b <;> rfl
      have ex : IntKind.i64.wrap ((x : Int) - capA.2.1.2.1) = (x : Int) - 16 := wr64 (by show _ ≤ (x : Int) - 16;omega) (by show (x : Int) - 16 ≤ _;omega)
      have ey : IntKind.i64.wrap ((y : Int) - capA.2.1.2.2.1) = (y : Int) - 16 := wr64 (by show _ ≤ (y : Int) - 16;omega) (by show (y : Int) - 16 ≤ _;omega)
      rw [ex,ey]
      by_cases c1 : (0 : Int) ≤ (x : Int) - 16
      · rw [bif_pos c1]
        by_cases c2 : (0 : Int) ≤ (y : Int) - 16
        · rw [bif_pos c2,bif_pos (show capA.2.1.1 ≠ 0 by decide),bif_pos (show capA.2.1.1 ≠ 0 by decide)]
          have t1 : IntKind.i64.wrap (Int.tdiv ((x : Int) - 16) capA.2.1.1) = (x : Int) - 16 := by
            rw [show capA.2.1.1 = 1 from rfl,Int.tdiv_one];exact wr64 (by omega) (by omega)
          have t2 : IntKind.i64.wrap (Int.tdiv ((y : Int) - 16) capA.2.1.1) = (y : Int) - 16 := by
            rw [show capA.2.1.1 = 1 from rfl,Int.tdiv_one];exact wr64 (by omega) (by omega)
          rw [t1,t2]
          have hI : bitmap_Is_r fu (capB,((x : Int) - 16,((y : Int) - 16,()))) = some (decide ((x : Int) - 16 = 0 ∧ (y : Int) - 16 = 0),()) := by
            rw [← one_pix _ _ c1 c2]
            exact is_r fu (by omega) (by omega) (by omega) (by decide) byt1 _ _
          rw [hI]
          simp only [bindO_some]
          rw [hj5]
          refine key _ ?_
          by_cases c3 : (x : Int) - 16 = 0 ∧ (y : Int) - 16 = 0
          · rw [if_pos (decide_eq_true c3),if_pos (by omega)]
          · rw [if_neg (by rw [decide_eq_false c3];decide),if_neg (by omega)]
        · rw [bif_neg c2,hj5]
          refine key _ ?_
          rw [if_neg (by decide),if_neg (by omega)]
      · rw [bif_neg c1,hj5]
        refine key _ ?_
        rw [if_neg (by decide),if_neg (by omega)]
    · intro j2
      unfold camera_Capture_l3
      simp only [e33,e33',joinF_eq]
      rw [bif_neg (show ¬ ((33 : Nat) : Int) < 33 by omega),wr64 (x := (y : Int) + 1) (by omega) (by omega)]
      rw [show (y : Int) * 33 + ((33 : Nat) : Int) = ((y + 1 : Nat) : Int) * 33 by omega]
      rfl
  · intro j
    unfold camera_Capture_l2
    simp only [e33,e33']
    rw [bif_neg (show ¬ ((33 : Nat) : Int) < 33 by omega)]
    have hp : tabL 1089 (valK (((33 : Nat) : Int) * 33)) = pix1 := tabL_congr fun i h0 h1 => by unfold valK;rw [if_pos (by omega)]
    rw [hp]
    have hlen : pix1.length = 1089 := tabL_length _ _
    generalize pix1 = pp at hlen
    refine stLoop (n := 0) (by omega) (st := fun k => ((k : Int),pp)) rfl (fun _ i hi => absurd hi (by omega)) fun j2 => ?_
    unfold camera_Capture_l6
    simp only
    rw [bif_neg (show ¬ ((0 : Nat) : Int) < capA.2.1.2.2.2.2.1 by decide)]
    refine stLoop (n := 1089) (by omega) (st := fun k => ((k : Int),pp)) rfl ?_ ?_
    · intro j3 k hk
      unfold camera_Capture_l8 camera_Capture_j9
      simp only [joinF_eq,hlen]
      rw [bif_pos (show (k : Int) < ((1089 : Nat) : Int) by omega),bif_neg (show ¬ (0 : Int) < (List.length capA.2.1.2.2.2.2.2.2.2 : Int) by decide),wr64 (x := (k : Int) + 1) (by omega) (by omega)]
      rfl
    · intro j3
      unfold camera_Capture_l8
      simp only [hlen,e33,e33']
      rw [bif_neg (show ¬ ((1089 : Nat) : Int) < ((1089 : Nat) : Int) by omega)]
end Ca
def cap1 : (Int × Int × List Int) × Int × Unit := ((33,(33,(List.replicate 1089 200).set 544 50)),(0,()))
theorem pix1_eq : Ca.pix1 = (List.replicate 1089 200).set 544 50 := by kernel_rfl
theorem cap_fu : ∃ fu,camera_Capture_r fu Ca.capA = some cap1 := ⟨FU,by
  have h := Ca.cap_eq (fu := FU) (Nat.le_of_eq FU_val.symm) (by kernel_rfl) (by kernel_rfl) (by kernel_rfl)
  rw [pix1_eq] at h
  exact h⟩
def camera_CaptureT_r (_ : Nat) (a : (Int × Int × List Int) × (Int × Int × Int × Int × Int × Int × Int × List Int) × Unit) : Option ((Int × Int × List Int) × Int × Unit) := if a.1 = Ca.capA.1 ∧ a.2.1.1 = 1 ∧ a.2.1.2.1 = 16 ∧ a.2.1.2.2.1 = 16 ∧ a.2.1.2.2.2.1 = 0 ∧ a.2.1.2.2.2.2.1 = 0 ∧ a.2.1.2.2.2.2.2.1 = 200 ∧ a.2.1.2.2.2.2.2.2.1 = 50 ∧ a.2.1.2.2.2.2.2.2.2 = [] then some cap1 else none
def camera_CaptureT_ctr : Ctr := { camera_Capture_ctr with f := camera_CaptureT_r }
theorem camera_CaptureT_ok : CtrOk Try.prog 59 camera_CaptureT_ctr := fun fu x y h => by
  have h : camera_CaptureT_r fu x = some y := h
  obtain ⟨fu',hc⟩ := cap_fu
  unfold camera_CaptureT_r at h
  split at h
  · rename_i e
    have e' : x = Ca.capA := by
      obtain ⟨x1,⟨x2,x3,x4,x5,x6,x7,x8,x9⟩,⟨⟩⟩ := x
      obtain ⟨e1,e2,e3,e4,e5,e6,e7,e8,e9⟩ := e
      simp only at e1 e2 e3 e4 e5 e6 e7 e8 e9
      subst e1 e2 e3 e4 e5 e6 e7 e8 e9
      rfl
    subst e'
    exact camera_Capture_ok fu' Ca.capA y (hc.trans h)
  · cases h
end Go.Proofs.Ytelpkjellakigaa
/- linear.Row: what a bitmap in memory is (at any offset);bitmap.Is as the walks take it;bitmap.Row. -/
namespace Go.Proofs.Ytelpkjellakigaa
open Go Go.RowKit Go.Shelf
attribute [local go_sem] Oper.semAt_some

/-- a bitmap in a box -/
structure Pic (w h : Int) (ds : List Int) (Bb Bo n0 : Nat) (W : World) : Prop where
  c0 : W.cell? ⟨Bb,Bo,none⟩ = some (.int .i64 w)
  c1 : W.cell? ⟨Bb,Bo + 1,none⟩ = some (.int .i64 h)
  sl : ∃ A c,W.cell? ⟨Bb,Bo + 2,none⟩ = some (.slice A ds.length c) ∧ ds.length ≤ c ∧ c ≤ maxLen ∧ (∀ i,i < ds.length → A ≠ none) ∧
    ∀ (i : Nat) (v : Int),ds[i]? = some v → ∃ b o,A = some ⟨b,o,none⟩ ∧ b < n0 ∧ W.cell? ⟨b,o + i,none⟩ = some (.int .u8 v)
section
variable {w h : Int} {ds : List Int} {Bb Bo n0 : Nat} {W W' : World}
theorem Pic.kept {row : Option Nat} (p : Pic w h ds Bb Bo n0 W) (hg : W.grownBy W' row) (hr : ∀ r,row = some r → ∃ o : Obj,W.heap[r]? = some o ∧ o.isCells = false) : Pic w h ds Bb Bo n0 W' := by
  obtain ⟨A,c,h1,h2,h3,h4,h5⟩ := p.sl
  refine ⟨Go.cell_kept p.c0 hg hr,Go.cell_kept p.c1 hg hr,A,c,Go.cell_kept h1 hg hr,h2,h3,h4,fun i v hv => ?_⟩
  obtain ⟨b,o,e1,e0,e2⟩ := h5 i v hv
  exact ⟨b,o,e1,e0,Go.cell_kept e2 hg hr⟩
theorem grown_of_below (hb : Below W.heap.size W W') : W.grownBy W' none := ⟨hb.os,hb.tape,hb.output,hb.size,fun k hk _ => hb.block k hk⟩
/-- what a round of the caller's loop keeps -/
def Kp3 (n0 Bb B1 B2 : Nat) (A B : World) : Prop := Below n0 A B ∧ ∀ b,(b = Bb ∨ b = B1 ∨ b = B2) → B.heap[b]? = A.heap[b]?
theorem Pic.keep3 {B1 B2 : Nat} (p : Pic w h ds Bb Bo n0 W) (hk : Kp3 n0 Bb B1 B2 W W') : Pic w h ds Bb Bo n0 W' := by
  obtain ⟨A,c,h1,h2,h3,h4,h5⟩ := p.sl
  have e := hk.2 Bb (.inl rfl)
  refine ⟨(World.cell?_of_block (a := ⟨Bb,Bo,none⟩) e).trans p.c0,(World.cell?_of_block (a := ⟨Bb,Bo + 1,none⟩) e).trans p.c1,A,c,(World.cell?_of_block (a := ⟨Bb,Bo + 2,none⟩) e).trans h1,h2,h3,h4,fun i v hv => ?_⟩
  obtain ⟨b,o,e1,e0,e2⟩ := h5 i v hv
  exact ⟨b,o,e1,e0,(hk.1.cell (p := ⟨b,o + i,none⟩) e0).trans e2⟩
theorem keepIs {b : Nat} {v : Value} (hk : W.cell? ⟨b,0,none⟩ = some v) (hb : Below W.heap.size W W') : W'.cell? ⟨b,0,none⟩ = some v := Go.cell_kept hk (grown_of_below hb) (fun r e => by cases e)
theorem Pic.is (p : Pic w h ds Bb Bo n0 W) (hb : Below W.heap.size W W') : Pic w h ds Bb Bo n0 W' := p.kept (grown_of_below hb) (fun r e => by cases e)
theorem Pic.rel (p : Pic w h ds Bb Bo n0 W) : RelV W (Gh.none W.heap.size) (.peek (Ty.cells false (.pair (.int .i64) (.pair (.int .i64) (.list (.int .u8)))) (w,(h,ds))) 0) (.pointer (some ⟨Bb,Bo,none⟩)) := by
  obtain ⟨A,c,h1,h2,h3,h4,h5⟩ := p.sl
  have hro : RelD W (Gh.none W.heap.size).own (Gh.none W.heap.size).bs (.ro false 1 (ds.map (Ty.cells false (.int .u8)))) (.slice A ds.length c) := by
    have hl : (ds.map (Ty.cells false (.int .u8))).length = ds.length := List.length_map ..
    have hr := RelD.ro (w := W) (own := (Gh.none W.heap.size).own) (bs := (Gh.none W.heap.size).bs) false 1 (ds.map (Ty.cells false (.int .u8))) A c (fun i _ => .int .u8 (ds.getD i 0)) (by rw [hl];exact h2) h3 (fun i hi => h4 i (by rw [hl] at hi;exact hi)) (fun i row j a g1 g2 => ?_) (fun i row j a g1 g2 => ?_)
    · rw [hl] at hr;exact hr
    · rw [List.getElem?_map] at g1
      obtain ⟨v,hv,e⟩ := Option.map_eq_some_iff.1 g1
      subst e
      rw [Ty.cells] at g2
      cases j with
      | succ j => simp at g2
      | zero =>
        obtain ⟨b,o,e1,_,e2⟩ := h5 i v hv
        refine ⟨b,o,e1,fun h => h,(fun e => by cases e),?_⟩
        rw [Nat.mul_one,Nat.add_zero,e2,List.getD_eq_getElem?_getD,hv];rfl
    · rw [List.getElem?_map] at g1
      obtain ⟨v,hv,e⟩ := Option.map_eq_some_iff.1 g1
      subst e
      rw [Ty.cells] at g2
      cases j with
      | succ j => simp at g2
      | zero =>
        simp only [List.getElem?_cons_zero,Option.some.injEq] at g2
        subst g2
        rw [List.getD_eq_getElem?_getD,hv]
        exact .int .u8 v
  have ec : Ty.cells false (.pair (.int .i64) (.pair (.int .i64) (.list (.int .u8)))) (w,(h,ds)) = [.int .i64 w,.int .i64 h,.ro false 1 (ds.map (Ty.cells false (.int .u8)))] := by
    simp only [Ty.cells,Ty.size,List.cons_append,List.nil_append]
  rw [ec]
  refine .peek _ 0 Bb Bo (fun t => match t with | 0 => .int .i64 w | 1 => .int .i64 h | _ => .slice A ds.length c) (by simp) (fun h => h) (fun t a g => ?_) (fun t a g => ?_)
  · match t,g with
    | 0,_ => exact p.c0
    | 1,_ => exact p.c1
    | 2,_ => exact h1
    | t + 3,g => simp at g
  · match t,g with
    | 0,g => simp at g;subst g;exact .int .i64 w
    | 1,g => simp at g;subst g;exact .int .i64 h
    | 2,g => simp at g;subst g;exact hro
    | t + 3,g => simp at g
/-- bitmap.Is -/
theorem is_calls (p : Pic w h ds Bb Bo n0 W) (hw0 : 0 ≤ w) (hw1 : w ≤ 1024) (hh : h ≤ 1024) (hl : (ds.length : Int) = strd w * h) (hb : Bytes ds) (x y : Int) :
    Calls Try.prog 82 #[.pointer (some ⟨Bb,Bo,none⟩),.int .i64 x,.int .i64 y] W fun e W' => e = .returned (.bool (pixB w h ds x y)) ∧ Below W.heap.size W W' := by
  have hA := bitmap_Is_ok FU ((w,(h,ds)),(x,(y,()))) (pixB w h ds x y,()) (is_r FU hw0 hw1 hh hl hb x y)
  refine (hA.out W #[.pointer (some ⟨Bb,Bo,none⟩),.int .i64 x,.int .i64 y] ⟨rfl,fun i a v ha hv => ?_⟩).mono ?_
  · match i,ha,hv with
    | 0,ha,hv =>
      have ha : some (AV.peek (Ty.cells false (.pair (.int .i64) (.pair (.int .i64) (.list (.int .u8)))) (w,(h,ds))) 0) = some a := ha
      have hv : some (Value.pointer (some ⟨Bb,Bo,none⟩)) = some v := hv
      injection ha with ha
      injection hv with hv
      subst ha;subst hv
      exact p.rel
    | 1,ha,hv =>
      have ha : some (AV.int .i64 x) = some a := ha
      have hv : some (Value.int .i64 x) = some v := hv
      injection ha with ha
      injection hv with hv
      subst ha;subst hv
      exact rI _ _ _ _
    | 2,ha,hv =>
      have ha : some (AV.int .i64 y) = some a := ha
      have hv : some (Value.int .i64 y) = some v := hv
      injection ha with ha
      injection hv with hv
      subst ha;subst hv
      exact rI _ _ _ _
    | i + 3,ha,hv => simp at hv
  · rintro e W1 ⟨v,rfl,hB,hv⟩
    have hv : RelV W1 _ (.bool (pixB w h ds x y)) v := hv
    rw [hv.bool']
    exact ⟨rfl,hB⟩
theorem is_in (p : Pic w h ds Bb Bo n0 W) (hw0 : 0 ≤ w) (hw1 : w ≤ 1024) (hh : h ≤ 1024) (hl : (ds.length : Int) = strd w * h) (hb : Bytes ds) (x y : Int) (n : Nat) :
    CallsIn Fence.wide n Try.prog 82 #[.pointer (some ⟨Bb,Bo,none⟩),.int .i64 x,.int .i64 y] W fun e W' => e = .returned (.bool (pixB w h ds x y)) ∧ Below W.heap.size W W' :=
  callsIn_wide.2 (is_calls p hw0 hw1 hh hl hb x y)
end
set_option maxHeartbeats 1000000 in
/-- bitmap.Row: its two arguments are boxed;the function value has captured the boxes -/
theorem row_in (n : Nat) (v : Option Addr) (y : Int) (W : World) : CallsIn Fence.wide n Try.prog 202 #[.pointer v,.int .i64 y] W fun e W' => e = .returned (.func (.func 213) #[] #[.pointer (some ⟨W.heap.size,0,none⟩),.pointer (some ⟨W.heap.size + 1,0,none⟩)]) ∧ W' = (W.alloc (.cells #[.pointer v] 118)).alloc (.cells #[.int .i64 y] 3) := by
  refine callsIn_of_wp Try.func202 rfl trivial ?_ rfl
  simp only [Try.ntmps202,List.size_toArray,List.length_cons,List.length_nil,Nat.reduceAdd,Nat.reduceSub,Array.replicate_succ,Array.replicate_zero,List.push_toArray,List.append_toArray,List.nil_append,List.cons_append]
  gi_wp2
  go_ret
  exact ⟨rfl,rfl⟩
/-- the runs of a row from x on -/
inductive RF (p : Int → Bool) (w y : Int) : Int → List (Int × Int × Int) → Prop
  | done (x : Int) (h : w ≤ x) : RF p w y x []
  | skip (x : Int) (l : List (Int × Int × Int)) (h : x < w) (hp : p x = false) (t : RF p w y (x + 1) l) : RF p w y x l
  | run (x x' : Int) (l : List (Int × Int × Int)) (h : x < x') (h' : x' ≤ w) (hp : ∀ i,x ≤ i → i < x' → p i = true) (hq : x' < w → p x' = false) (t : RF p w y x' l) : RF p w y x ((y,x,x') :: l)
def encR3 (r : Int × Int × Int) : Value := .agg #[.int .i64 r.1,.int .i64 r.2.1,.int .i64 r.2.2]
set_option maxRecDepth 100000 in
set_option maxHeartbeats 4000000 in
theorem row1_in (n : Nat) (hn : 1 ≤ n) (l B1 B2 n0 Bb Bo N : Nat) (w h y : Int) (ds : List Int) (hw0 : 0 ≤ w) (hw1 : w ≤ 1024) (hh : h ≤ 1024) (hl : (ds.length : Int) = strd w * h) (hb : Bytes ds) (rs : List (Int × Int × Int)) (hrs : RF (fun x => pixB w h ds x y) w y 0 rs) (J Jx : List (Int × Int × Int) → World → Prop) (hJ : AbidesFrom N J)
    (hY : ∀ pre x W,J pre W → pre.length < rs.length → YieldAt Fence.wide (n - 1) Try.prog l #[encR3 x] W fun e W' =>
      (e = .returned (.bool true) ∧ J (pre ++ [x]) W' ∧ Kp3 n0 Bb B1 B2 W W') ∨ (e = .returned (.bool false) ∧ Jx (pre ++ [x]) W'))
    (W : World) (hc1 : W.cell? ⟨B1,0,none⟩ = some (.pointer (some ⟨Bb,Bo,none⟩))) (hc2 : W.cell? ⟨B2,0,none⟩ = some (.int .i64 y)) (hP : Pic w h ds Bb Bo n0 W) (h0 : J [] W) :
    CallsIn Fence.wide n Try.prog 213 #[.func (.yield l) #[] #[],.pointer (some ⟨B1,0,none⟩),.pointer (some ⟨B2,0,none⟩)] W fun e W' => (∃ v,e = .returned v) ∧
      ((∃ ys,ys = rs ∧ J ys W') ∨ (∃ pre,pre <+: rs ∧ Jx pre W')) := by
  refine callsIn_of_wp Try.func213 rfl trivial ?_ rfl
  simp only [Try.ntmps213,List.size_toArray,List.length_cons,List.length_nil,Nat.reduceAdd,Nat.reduceSub,Array.replicate_succ,Array.replicate_zero,List.push_toArray,List.append_toArray,List.nil_append,List.cons_append]
  gi_wp2
  gi_loopw [4] (fun p wr => ∃ (pre rest : List (Int × Int × Int)) (x : Int),p = .int .i64 x ∧ 0 ≤ x ∧ x ≤ w ∧ rs = pre ++ rest ∧ RF (fun x => pixB w h ds x y) w y x rest ∧ J pre wr ∧ Pic w h ds Bb Bo n0 wr ∧ wr.cell? ⟨B1,0,none⟩ = some (.pointer (some ⟨Bb,Bo,none⟩)) ∧ wr.cell? ⟨B2,0,none⟩ = some (.int .i64 y))
    (fun p wr => (w - intOf p).toNat)
  case atStart =>
    exact ⟨[],rs,0,rfl,by omega,hw0,rfl,hrs,h0,hP,hc1,hc2⟩
  case round =>
    obtain ⟨pre,rest,x,rfl,hx0,hx1,hx,hrf,hJs,hPs,hk1,hk2⟩ := hrel
    have hc0 := hPs.c0
    cases hrf with
    | done _ hd =>
      have hlt : ¬ x < w := by omega
      gi_wp2
      go_end0
      exact ⟨⟨_,rfl⟩,.inl hJs⟩
    | skip _ _ hlt hp t =>
      have hp : pixB w h ds x y = false := hp
      gi_wp2_with (refine ⟨trivial,?_⟩;gi_at_call 82;refine (is_in hPs hw0 hw1 hh hl hb x y _).mono ?_;rintro e W2 ⟨rfl,hB⟩;rw [hp])
      exact ⟨⟨pre,rest,x + 1,rfl,by omega,by omega,hx,t,hJ pre wr W2 none hJs (grown_of_below hB) (fun r e => by cases e),hPs.is hB,keepIs hk1 hB,keepIs hk2 hB⟩,by simp [intOf];omega⟩
    | run _ x' rest hlt hle hp hq t =>
      have hpx : pixB w h ds x y = true := hp x (by omega) hlt
      have hxw : x < w := by omega
      gi_wp2_with (refine ⟨trivial,?_⟩;gi_at_call 82;refine (is_in hPs hw0 hw1 hh hl hb x y _).mono ?_;rintro e W2 ⟨rfl,hB⟩;rw [hpx])
      have hJ2 := hJ pre wr W2 none hJs (grown_of_below hB) (fun r e => by cases e)
      have hP2 := hPs.is hB
      have k1 := keepIs hk1 hB
      have k2 := keepIs hk2 hB
      clear hJs hPs hk1 hk2 hc0 hB
      gi_loopw [4] (fun p wq => ∃ (x1 : Int),p = .int .i64 x1 ∧ x ≤ x1 ∧ x1 ≤ x' ∧ J pre wq ∧ Pic w h ds Bb Bo n0 wq ∧ wq.cell? ⟨B1,0,none⟩ = some (.pointer (some ⟨Bb,Bo,none⟩)) ∧ wq.cell? ⟨B2,0,none⟩ = some (.int .i64 y))
        (fun p wq => (w - intOf p).toNat)
      case atStart =>
        exact ⟨x,rfl,by omega,by omega,hJ2,hP2,k1,k2⟩
      case round =>
        clear hJ2 hP2 k1 k2
        obtain ⟨x1,rfl,hy0,hy1,hJ3,hP3,k1,k2⟩ := hrel
        have hc0 := hP3.c0
        by_cases hcase : x1 < x'
        · have hpx1 : pixB w h ds x1 y = true := hp x1 hy0 hcase
          have hx1w : x1 < w := by omega
          gi_wp2_with (refine ⟨trivial,?_⟩;gi_at_call 82;refine (is_in hP3 hw0 hw1 hh hl hb x1 y _).mono ?_;rintro e W4 ⟨rfl,hB⟩;rw [hpx1])
          exact ⟨⟨x1 + 1,rfl,by omega,by omega,hJ pre _ W4 none hJ3 (grown_of_below hB) (fun r e => by cases e),hP3.is hB,keepIs k1 hB,keepIs k2 hB⟩,by simp [intOf];omega⟩
        · have e1 : x1 = x' := by omega
          subst e1
          by_cases hx1w : x1 < w
          · have hpx1 : pixB w h ds x1 y = false := hq hx1w
            gi_wp2_with (refine ⟨trivial,?_⟩;gi_at_call 82;refine (is_in hP3 hw0 hw1 hh hl hb x1 y _).mono ?_;rintro e W4 ⟨rfl,hB⟩;rw [hpx1];have hJ4 := hJ pre _ W4 none hJ3 (grown_of_below hB) (fun r e => by cases e);have hP4 := hP3.is hB;have q1 := keepIs k1 hB;have q2 := keepIs k2 hB;obtain ⟨fn,tmps,assign,body,hy,hR⟩ := hY pre (y,x,x1) W4 hJ4 (by rw [hx];simp);simp only [encR3] at hy;clear hY hJ3 hP3 k1 k2)
            refine hR.mono ?_
            rintro e W5 (⟨rfl,hJ5,hk5⟩ | ⟨rfl,hJx5⟩)
            · gi_wp2
              exact ⟨⟨pre ++ [(y,x,x1)],rest,x1,rfl,by omega,by omega,by simp [hx],t,hJ5,hP4.keep3 hk5,(World.cell?_of_block (a := ⟨B1,0,none⟩) (hk5.2 B1 (.inr (.inl rfl)))).trans q1,(World.cell?_of_block (a := ⟨B2,0,none⟩) (hk5.2 B2 (.inr (.inr rfl)))).trans q2⟩,by simp [intOf];omega⟩
            · gi_wp2
              refine bodyPost_ret (results_none rfl _ _ _) rfl ?_
              exact ⟨⟨_,rfl⟩,.inr ⟨pre ++ [(y,x,x1)],⟨rest,by simp [hx]⟩,hJx5⟩⟩
          · have hP4 := hP3
            have q1 := k1
            have q2 := k2
            obtain ⟨fn,tmps,assign,body,hy,hR⟩ := hY pre (y,x,x1) wr hJ3 (by rw [hx];simp)
            simp only [encR3] at hy
            clear hY hJ3 hP3
            gi_wp2
            refine ⟨trivial,?_⟩
            gi_wp2
            refine hR.mono ?_
            rintro e W5 (⟨rfl,hJ5,hk5⟩ | ⟨rfl,hJx5⟩)
            · gi_wp2
              exact ⟨⟨pre ++ [(y,x,x1)],rest,x1,rfl,by omega,by omega,by simp [hx],t,hJ5,hP4.keep3 hk5,(World.cell?_of_block (a := ⟨B1,0,none⟩) (hk5.2 B1 (.inr (.inl rfl)))).trans q1,(World.cell?_of_block (a := ⟨B2,0,none⟩) (hk5.2 B2 (.inr (.inr rfl)))).trans q2⟩,by simp [intOf];omega⟩
            · gi_wp2
              refine bodyPost_ret (results_none rfl _ _ _) rfl ?_
              exact ⟨⟨_,rfl⟩,.inr ⟨pre ++ [(y,x,x1)],⟨rest,by simp [hx]⟩,hJx5⟩⟩
theorem row1_stops (n : Nat) (hn : 1 ≤ n) (B1 B2 n0 Bb Bo : Nat) (w h y : Int) (ds : List Int) (hw0 : 0 ≤ w) (hw1 : w ≤ 1024) (hh : h ≤ 1024) (hl : (ds.length : Int) = strd w * h) (hb : Bytes ds) (rs : List (Int × Int × Int)) (hrs : RF (fun x => pixB w h ds x y) w y 0 rs)
    (W : World) (hc1 : W.cell? ⟨B1,0,none⟩ = some (.pointer (some ⟨Bb,Bo,none⟩))) (hc2 : W.cell? ⟨B2,0,none⟩ = some (.int .i64 y)) (hP : Pic w h ds Bb Bo n0 W) :
    SeqStopsK Fence.wide n Try.prog 213 #[.pointer (some ⟨B1,0,none⟩),.pointer (some ⟨B2,0,none⟩)] (fun x => #[encR3 x]) (Kp3 n0 Bb B1 B2) (fun ys => ys = rs) (fun pre => pre <+: rs) rs.length W := fun l J Jx W' hW hJ _ hY h0 =>
  row1_in n hn l B1 B2 n0 Bb Bo W'.heap.size w h y ds hw0 hw1 hh hl hb rs hrs J Jx hJ hY W' (keepIs hc1 hW) (keepIs hc2 hW) (hP.is hW) h0
end Go.Proofs.Ytelpkjellakigaa
