/- A region that draws its order of evaluation, walked once in the order of the text: each operation leaves one value, whatever world that meets S it finds, and keeps S; one operation (number k) may bring about T besides. -/
import Derived.OrdersHeld
import Derived.WalkKit
import Derived.Lib.Hide
namespace Go.Proofs.Ytnbmldnahacnlaa
open Go

def planOk (ops : Array Oper) (n : Nat) : Bool :=
  (List.range ops.size).all fun i =>
    match ops[i]? with
    | none => false
    | some o =>
      (match o.op with | .select .. => false | _ => true) &&
      (o.after.all fun e => !Region.binds .any e || decide (e.on < i)) &&
      (match o.dst with | some d => decide (d < n) | none => true) &&
      (List.range ops.size).all fun j =>
        match ops[j]? with
        | none => false
        | some p =>
          match p.dst with
          | none => true
          | some d => (i == j || o.dst != some d) && (!(o.looksAt ops).contains d || (decide (j < i) && o.after.any fun e => Region.binds .any e && e.on == j))

structure PlanAt (ops : Array Oper) (n : Nat) (i : Nat) (o : Oper) : Prop where
  sel : ∀ cs b, o.op ≠ .select cs b
  after : ∀ e ∈ o.after, Region.binds .any e = true → e.on < i
  dst : ∀ d, o.dst = some d → d < n
  one : ∀ j p d, ops[j]? = some p → p.dst = some d → i ≠ j → o.dst ≠ some d
  look : ∀ j p d, ops[j]? = some p → p.dst = some d → d ∈ o.looksAt ops → j < i ∧ ∃ e ∈ o.after, Region.binds .any e = true ∧ e.on = j

theorem planOk_at {ops : Array Oper} {n : Nat} (h : planOk ops n = true) : ∀ i o, ops[i]? = some o → PlanAt ops n i o := by
  unfold planOk at h
  intro i o ho
  have hi : i < ops.size := (Array.getElem?_eq_some_iff.1 ho).1
  have h2 := List.all_eq_true.1 h i (List.mem_range.2 hi)
  simp only [ho, Bool.and_eq_true] at h2
  obtain ⟨⟨⟨h3, h5⟩, h6⟩, h7⟩ := h2
  have h8 : ∀ j p d, ops[j]? = some p → p.dst = some d → (i == j || o.dst != some d) = true ∧ (!(o.looksAt ops).contains d || (decide (j < i) && o.after.any fun e => Region.binds .any e && e.on == j)) = true := by
    intro j p d hp hd
    have hj : j < ops.size := (Array.getElem?_eq_some_iff.1 hp).1
    have := List.all_eq_true.1 h7 j (List.mem_range.2 hj)
    simp only [hp, hd, Bool.and_eq_true] at this
    exact this
  refine ⟨?_, ?_, ?_, ?_, ?_⟩
  · intro cs b e
    rw [e] at h3
    cases h3
  · intro e he hb
    have h5 := Array.all_eq_true_iff_forall_mem.1 h5 e he
    rw [hb] at h5
    simpa using h5
  · intro d hd
    rw [hd] at h6
    simpa using h6
  · intro j p d hp hd hne e
    have := (h8 j p d hp hd).1
    rw [e] at this
    simp at this
    exact hne this
  · intro j p d hp hd hm
    have := (h8 j p d hp hd).2
    have hc : (o.looksAt ops).contains d = true := by simpa using hm
    rw [hc] at this
    simp only [Bool.not_true, Bool.false_or, Bool.and_eq_true, decide_eq_true_eq] at this
    refine ⟨this.1, ?_⟩
    obtain ⟨m, hm, hb⟩ := Array.any_eq_true.1 this.2
    rw [Bool.and_eq_true] at hb
    exact ⟨o.after[m], Array.getElem_mem hm, hb.1, by simpa using hb.2⟩

section
variable {P : Program} {ops : Array Oper} {S : (Nat → Bool) → World → Prop}
/-- operation i has been done, besides d -/
def upd (d : Nat → Bool) (i : Nat) : Nat → Bool := fun j => d j || j == i
theorem upd_self (d : Nat → Bool) (i : Nat) : upd d i i = true := by simp [upd]
theorem upd_ne {d : Nat → Bool} {i j : Nat} (h : j ≠ i) : upd d i j = d j := by simp [upd, h]
/-- the operation, run in frame a, leaves v and keeps S, which may speak of what has been done -/
def Leaves (P : Program) (ops : Array Oper) (S : (Nat → Bool) → World → Prop) (i : Nat) (o : Oper) (a : Act) (v : Value) : Prop :=
  (Region.wanted o (yielded ops a.tmps) = true ∧ ∀ d w, d i = false → (∀ e ∈ o.after, Region.binds .any e = true → d e.on = true) → S d w → o.wp P a w (fun a' w' => a' = a.put o.dst v ∧ S (upd d i) w') (fun _ _ _ => False)) ∨
  (Region.wanted o (yielded ops a.tmps) = false ∧ v = undef ∧ ∀ d w, d i = false → S d w → S (upd d i) w)
theorem wanted_congr {o : Oper} {a b : Act} (h : ∀ t, t ∈ o.looksAt ops → a.tmps[t]? = b.tmps[t]?) : Region.wanted o (yielded ops a.tmps) = Region.wanted o (yielded ops b.tmps) := by
  unfold Region.wanted
  cases hg : o.guard with
  | none => rfl
  | some g =>
    obtain ⟨g, want⟩ := g
    have : yielded ops a.tmps g = yielded ops b.tmps g := by
      unfold yielded
      cases hd : (ops[g]?).bind (·.dst) with
      | none => rfl
      | some d =>
        have hm : d ∈ o.looksAt ops := by
          unfold Oper.looksAt
          refine List.mem_append_right _ ?_
          rw [hg]
          simp [hd]
        simp only [Option.bind_some]
        rw [h d hm]
    simp only [this]
inductive Plan0 (P : Program) (ops : Array Oper) (S : (Nat → Bool) → World → Prop) : Nat → Act → Act → Prop
  | done {i : Nat} {a : Act} (h : ops.size ≤ i) : Plan0 P ops S i a a
  | step {i : Nat} {a b : Act} {o : Oper} {v : Value} (ho : ops[i]? = some o) (hc : Leaves P ops S i o a v) (h : Plan0 P ops S (i + 1) (a.put o.dst v) b) : Plan0 P ops S i a b

/-- the frame before operation i -/
def frm (ops : Array Oper) (vs : Nat → Value) (a : Act) : Nat → Act
  | 0 => a
  | i + 1 => (frm ops vs a i).put ((ops[i]?).bind (·.dst)) (vs i)
theorem frm_succ (vs : Nat → Value) (a : Act) (i : Nat) : frm ops vs a (i + 1) = (frm ops vs a i).put ((ops[i]?).bind (·.dst)) (vs i) := rfl
theorem frm_congr {vs vs' : Nat → Value} {a : Act} : ∀ {i : Nat}, (∀ j, j < i → vs j = vs' j) → frm ops vs a i = frm ops vs' a i
  | 0, _ => rfl
  | i + 1, h => by
    rw [frm_succ, frm_succ, frm_congr (i := i) (fun j hj => h j (by omega)), h i (by omega)]
theorem frm_over {vs : Nat → Value} {a : Act} {i : Nat} (h : ops.size ≤ i) : frm ops vs a i = frm ops vs a ops.size := by
  obtain ⟨d, rfl⟩ : ∃ d, i = ops.size + d := ⟨i - ops.size, by omega⟩
  clear h
  induction d with
  | zero => rfl
  | succ d ih =>
    rw [← Nat.add_assoc]
    rw [frm_succ, Array.getElem?_eq_none (by omega), ih]
    rfl
theorem plan_frm {i : Nat} {a b : Act} (h : Plan0 P ops S i a b) : ∀ (a0 : Act) (vs : Nat → Value), frm ops vs a0 i = a →
    ∃ us : Nat → Value, (∀ j, j < i → us j = vs j) ∧ frm ops us a0 ops.size = b ∧ ∀ j o, i ≤ j → ops[j]? = some o → Leaves P ops S j o (frm ops us a0 j) (us j) := by
  induction h with
  | done h =>
    intro a0 vs hf
    refine ⟨vs, fun _ _ => rfl, by rw [← hf, frm_over h], fun j o hj ho => ?_⟩
    have := (Array.getElem?_eq_some_iff.1 ho).1
    omega
  | @step i a b o v ho hc _ ih =>
    intro a0 vs hf
    have e : frm ops (fun j => if j = i then v else vs j) a0 i = a := by
      rw [← hf]; exact frm_congr fun j hj => if_neg (by omega)
    obtain ⟨us, h1, h2, h3⟩ := ih a0 (fun j => if j = i then v else vs j) (by
      rw [frm_succ, ho, e]
      simp)
    refine ⟨us, fun j hj => by rw [h1 j (by omega)]; exact if_neg (by omega), h2, fun j o' hj ho' => ?_⟩
    rcases Nat.lt_or_ge i j with h | h
    · exact h3 j o' h ho'
    · obtain rfl : j = i := by omega
      rw [ho] at ho'
      cases ho'
      have : frm ops us a0 j = a := by
        rw [← e]; exact frm_congr fun m hm => h1 m (by omega)
      rw [this, h1 j (by omega)]
      simpa using hc

theorem frm_defers {vs : Nat → Value} {a : Act} : ∀ i, (frm ops vs a i).defers = a.defers
  | 0 => rfl
  | i + 1 => by
    rw [frm_succ, ← frm_defers (vs := vs) (a := a) i]
    cases (ops[i]?).bind (·.dst) <;> rfl
theorem frm_size {vs : Nat → Value} {a : Act} : ∀ i, (frm ops vs a i).tmps.size = a.tmps.size
  | 0 => rfl
  | i + 1 => by
    rw [frm_succ, ← frm_size (vs := vs) (a := a) i]
    cases (ops[i]?).bind (·.dst) <;> simp [Act.put]
theorem put_ne {a : Act} {d : Option Tmp} {v : Value} {t : Nat} (h : d ≠ some t) : (a.put d v).tmps[t]? = a.tmps[t]? := by
  cases d with
  | none => rfl
  | some d => simp [Act.put, Array.getElem?_setIfInBounds_ne (fun e => h (by rw [e]) : d ≠ t)]
theorem put_eq {a : Act} {v : Value} {t : Nat} (h : t < a.tmps.size) : (a.put (some t) v).tmps[t]? = some v := by
  simp [Act.put, h]
/-- a slot that no earlier operation writes -/
theorem frm_old {vs : Nat → Value} {a : Act} {t : Nat} : ∀ {i : Nat}, (∀ j o, j < i → ops[j]? = some o → o.dst ≠ some t) → (frm ops vs a i).tmps[t]? = a.tmps[t]?
  | 0, _ => rfl
  | i + 1, h => by
    rw [frm_succ, put_ne, frm_old (fun j o hj => h j o (by omega))]
    cases ho : ops[i]? with
    | none => simp
    | some o => exact h i o (by omega) ho
/-- a slot that an earlier operation wrote stays -/
theorem frm_new {n : Nat} (hp : ∀ i o, ops[i]? = some o → PlanAt ops n i o) {vs : Nat → Value} {a : Act} (ha : a.tmps.size = n) {t j : Nat} {o : Oper} (ho : ops[j]? = some o) (hd : o.dst = some t) :
    ∀ {i : Nat}, j < i → (frm ops vs a i).tmps[t]? = some (vs j)
  | 0, h => by omega
  | i + 1, h => by
    rw [frm_succ]
    by_cases hji : j = i
    · subst hji
      rw [ho]
      simp only [Option.bind_some, hd]
      exact put_eq (by rw [frm_size, ha]; exact (hp j o ho).dst t hd)
    · rw [put_ne, frm_new hp ha ho hd (by omega)]
      cases ho' : ops[i]? with
      | none => simp
      | some o' => exact (hp i o' ho').one j o t ho hd (fun e => hji e.symm)

/-- the frame in the midst of any order: what has come up has its value, the rest is as it was -/
structure Midst (ops : Array Oper) (vs : Nat → Value) (a0 : Act) (listed : Array Bool) (a : Act) : Prop where
  lsize : listed.size = ops.size
  size : a.tmps.size = a0.tmps.size
  defers : a.defers = a0.defers
  was : ∀ t, (∀ j o, listed.getD j false = true → ops[j]? = some o → o.dst ≠ some t) → a.tmps[t]? = a0.tmps[t]?
  is : ∀ t j o, listed.getD j false = true → ops[j]? = some o → o.dst = some t → a.tmps[t]? = some (vs j)

theorem wp_transfer {o : Oper} {a b : Act} {w : World} {v : Value} {G : World → Prop} {next : Act → World → Prop} {Q : Exit → Act → World → Prop}
    (he : execOp a.eval o = execOp b.eval o) (hd : ∀ d, o.dst = some d → d < b.tmps.size)
    (hdef : o.wp P b w (fun a' w' => a' = b.put o.dst v ∧ G w') (fun _ _ _ => False)) (hn : ∀ w', G w' → next (a.put o.dst v) w') : o.wp P a w next Q := by
  have key : ∀ u, b.put o.dst u = b.put o.dst v → a.put o.dst u = a.put o.dst v := by
    intro u hu
    cases hdd : o.dst with
    | none => rfl
    | some d =>
      rw [hdd] at hu
      have h1 := put_eq (a := b) (v := u) (hd d hdd)
      rw [hu, put_eq (hd d hdd)] at h1
      injection h1 with h1
      rw [h1]
  have keyd : ∀ (x : Deferred) (u : Value), ({ b with defers := x :: b.defers } : Act).put o.dst u ≠ b.put o.dst v := by
    intro x u hu
    have h1 : (({ b with defers := x :: b.defers } : Act).put o.dst u).defers = x :: b.defers := by cases o.dst <;> rfl
    have h2 : (b.put o.dst v).defers = b.defers := by cases o.dst <;> rfl
    rw [hu, h2] at h1
    have := congrArg List.length h1
    simp at this
  unfold Oper.wp at *
  rw [he]
  generalize (execOp b.eval o).run P w = r at *
  cases r with
  | ok n w' =>
    cases n <;> simp only [Oper.upon] at hdef ⊢
    case value u => rw [key u hdef.1]; exact hn _ hdef.2
    case skip => rw [key _ hdef.1]; exact hn _ hdef.2
    case defer d => exact absurd hdef.1 (keyd d _)
    case enter f args =>
      refine Calls.mono hdef fun e w'' he => ?_
      cases e with
      | returned u => obtain ⟨h1, h2⟩ := he; show next (a.put o.dst u) w''; rw [key u h1]; exact hn _ h2
      | panicked c => exact he.elim
      | outgrown => obtain ⟨_, _, h⟩ := he; exact h.elim
    case row row args => exact Rows.mono hdef fun u w'' he => by rw [key u he.1]; exact hn _ he.2
  | halt x w' => cases x <;> simp only [Oper.upon] at hdef ⊢

theorem wpAny_plan {Q : Exit → Act → World → Prop} {n : Nat} {a0 : Act} {vs : Nat → Value} (ha : a0.tmps.size = n)
    (hp : ∀ i o, ops[i]? = some o → PlanAt ops n i o) (hc : ∀ j o, ops[j]? = some o → Leaves P ops S j o (frm ops vs a0 j) (vs j))
    (hend : ∀ d w, (∀ i, i < ops.size → d i = true) → S d w → Q .normal (frm ops vs a0 ops.size) w) :
    ∀ (fuel : Nat) (listed : Array Bool) (a : Act) (w : World), listed.countP (fun b => !b) ≤ fuel → Midst ops vs a0 listed a → S (fun j => listed.getD j false) w → wpAny P .any ops Q fuel listed a w := by
  have fin : ∀ (listed : Array Bool) (a : Act) (w : World), Midst ops vs a0 listed a → S (fun j => listed.getD j false) w → Region.ready .any ops listed = [] → Q .normal a w := by
    intro listed a w hm hS hr
    have hall : ∀ i, i < ops.size → listed.getD i false = true := by
      intro i
      induction i using Nat.strongRecOn with
      | ind i ih =>
        intro hi
        rcases hb : listed.getD i false with _ | _
        · exfalso
          have hmem : i ∈ Region.ready .any ops listed := by
            rw [mem_ready]
            refine ⟨?_, ops[i], Array.getElem?_eq_getElem hi, fun e he hb' => ?_⟩
            · have : i < listed.size := by rw [hm.lsize]; exact hi
              simp [this] at hb ⊢; exact hb
            · have := (hp i _ (Array.getElem?_eq_getElem hi)).after e he hb'
              exact ih _ this (by omega)
          rw [hr] at hmem
          cases hmem
        · rfl
    have e : a = frm ops vs a0 ops.size := by
      have h1 : a.defers = (frm ops vs a0 ops.size).defers := by rw [frm_defers]; exact hm.defers
      have h2 : a.tmps = (frm ops vs a0 ops.size).tmps := by
        refine Array.ext_getElem? fun t => ?_
        by_cases hw : ∃ (j : Nat) (o : Oper), ops[j]? = some o ∧ o.dst = some t
        · obtain ⟨j, o, ho, hd⟩ := hw
          have hj := (Array.getElem?_eq_some_iff.1 ho).1
          rw [hm.is t j o (hall j hj) ho hd, frm_new hp ha ho hd hj]
        · have hw' : ∀ (j : Nat) (o : Oper), ops[j]? = some o → o.dst ≠ some t := fun j o ho hd => hw ⟨j, o, ho, hd⟩
          rw [hm.was t (fun j o _ => hw' j o), frm_old (fun j o _ => hw' j o)]
      cases a; simp only at h1 h2; rw [h1, h2]
    rw [e]
    exact hend _ w hall hS
  intro fuel
  induction fuel with
  | zero =>
    intro listed a w hf hm hS
    have hr : Region.ready .any ops listed = [] := by
      rcases he : Region.ready .any ops listed with _ | ⟨i, l⟩
      · rfl
      · exfalso
        have hmem : i ∈ Region.ready .any ops listed := by rw [he]; simp
        have h1 := (mem_ready.1 hmem).1
        have h0 : listed.countP (fun b => !b) = 0 := by omega
        rw [Array.countP_eq_zero] at h0
        have hi : i < listed.size := by
          rcases Nat.lt_or_ge i listed.size with h | h
          · exact h
          · simp [Array.getElem?_eq_none h] at h1
        have := h0 listed[i] (Array.getElem_mem hi)
        simp [hi] at h1
        simp [h1] at this
    exact ⟨hr, fin listed a w hm hS hr⟩
  | succ fuel ih =>
    intro listed a w hf hm hS
    refine ⟨fin listed a w hm hS, fun i hi => ?_⟩
    obtain ⟨h0, o, ho, hall⟩ := mem_ready.1 hi
    have pa := hp i o ho
    have hisz : i < ops.size := (Array.getElem?_eq_some_iff.1 ho).1
    have hil : i < listed.size := by rw [hm.lsize]; exact hisz
    have hag : ∀ t, t ∈ o.looksAt ops → a.tmps[t]? = (frm ops vs a0 i).tmps[t]? := by
      intro t htl
      by_cases hw : ∃ (j : Nat) (o' : Oper), ops[j]? = some o' ∧ o'.dst = some t
      · obtain ⟨j, o', ho', hd⟩ := hw
        obtain ⟨hj, e, hem, hb, hon⟩ := pa.look j o' t ho' hd htl
        have hlj := hall e hem hb
        rw [hon] at hlj
        rw [hm.is t j o' hlj ho' hd, frm_new hp ha ho' hd hj]
      · have hw' : ∀ (j : Nat) (o' : Oper), ops[j]? = some o' → o'.dst ≠ some t := fun j o' ho' hd => hw ⟨j, o', ho', hd⟩
        rw [hm.was t (fun j o' _ => hw' j o'), frm_old (fun j o' _ => hw' j o')]
    have he : execOp a.eval o = execOp (frm ops vs a0 i).eval o := by
      refine execOp_congr o pa.sel fun x hx => ?_
      cases x with
      | tmp t =>
        have htl : t ∈ o.looksAt ops := List.mem_append_left _ (List.mem_filterMap.2 ⟨.tmp t, by simpa using hx, rfl⟩)
        show a.tmps.getD t undef = (frm ops vs a0 i).tmps.getD t undef
        rw [Array.getD_eq_getD_getElem?, Array.getD_eq_getD_getElem?, hag t htl]
      | _ => rfl
    have hwc := wanted_congr hag
    have hd0 : listed.getD i false = false := by simpa [hil] using h0
    have hup : (fun j => (listed.setIfInBounds i true).getD j false) = upd (fun j => listed.getD j false) i := by
      funext j
      by_cases hji : j = i
      · subst hji
        rw [upd_self]
        simp [hil]
      · rw [upd_ne hji, getD_set_ne false (fun e => hji e.symm)]
    have go : ∀ w', S (upd (fun j => listed.getD j false) i) w' → wpAny P .any ops Q fuel (listed.setIfInBounds i true) (a.put o.dst (vs i)) w' := by
      intro w' g1
      refine ih _ _ _ ?_ ⟨by simp [hm.lsize], ?_, ?_, ?_, ?_⟩ (by rw [hup]; exact g1)
      · have hli : listed[i] = false := by simpa [hil] using h0
        have h5 := Array.countP_set (xs := listed) (p := fun b => !b) (a := true) hil
        have h6 : listed.setIfInBounds i true = listed.set i true hil := by simp [Array.setIfInBounds, hil]
        have h7 : 0 < listed.countP (fun b => !b) := Array.countP_pos_iff.2 ⟨listed[i], Array.getElem_mem hil, by simp [hli]⟩
        rw [h6, h5]
        simp [hli]
        omega
      · rw [← hm.size]; cases o.dst <;> simp [Act.put]
      · rw [← hm.defers]; cases o.dst <;> rfl
      · intro t ht
        have hne : o.dst ≠ some t := ht i o (by simp [hil]) ho
        rw [put_ne hne]
        exact hm.was t fun j o' hj ho' => ht j o' (getD_set_true hj) ho'
      · intro t j o' hj ho' hd
        by_cases hij : i = j
        · subst hij
          rw [ho] at ho'
          cases ho'
          rw [hd]
          exact put_eq (by rw [hm.size, ha]; exact pa.dst t hd)
        · rw [getD_set_ne false hij] at hj
          rw [put_ne (pa.one j o' t ho' hd hij)]
          exact hm.is t j o' hj ho' hd
    unfold wpOp
    simp only [ho]
    rcases hc i o ho with ⟨hwt, hcc⟩ | ⟨hwf, hv, hcc⟩
    · rw [hwc, hwt]
      simp only [if_true]
      exact .inl (wp_transfer (v := vs i) he (fun d hd => by rw [frm_size, ha]; exact pa.dst d hd) (hcc _ w hd0 hall hS) fun w' g1 => go w' g1)
    · rw [hwc, hwf]
      simp only [Bool.false_eq_true, if_false]
      rw [← hv]
      exact go w (hcc _ w hd0 hS)

/-- the same, with the operations that are left as a list -/
inductive PlanD (P : Program) (ops : Array Oper) (S : (Nat → Bool) → World → Prop) : Nat → List Oper → Act → Act → Prop
  | done {i : Nat} {a : Act} : PlanD P ops S i [] a a
  | step {i : Nat} {l : List Oper} {a b : Act} {o : Oper} {v : Value} (hc : Leaves P ops S i o a v) (h : PlanD P ops S (i + 1) l (a.put o.dst v) b) : PlanD P ops S i (o :: l) a b
theorem PlanD.plan0 {i : Nat} {l : List Oper} {a b : Act} (h : PlanD P ops S i l a b) : ops.toList.drop i = l → Plan0 P ops S i a b := by
  induction h with
  | done =>
    intro hd
    have := List.drop_eq_nil_iff.1 hd
    exact .done (by simpa using this)
  | @step i l a b o v hc _ ih =>
    intro hd
    have hi : ops[i]? = some o := by
      have h1 : (ops.toList.drop i)[0]? = some o := by rw [hd]; rfl
      rw [List.getElem?_drop] at h1
      simpa using h1
    refine .step hi hc (ih ?_)
    have h2 : (ops.toList.drop i).drop 1 = l := by rw [hd]; rfl
    rwa [List.drop_drop] at h2

/-- a region that draws its order, walked in the order of the text -/
theorem wp_region_planD {Q : Exit → Act → World → Prop} {id : Nat} {l : List Oper} {a b : Act} {w : World} (hm : P.follows .mixedOrders = true) (hk : planOk l.toArray a.tmps.size = true)
    (hS : S (fun _ => false) w.drew) (hp : PlanD P l.toArray S 0 l a b) (hend : ∀ d w', (∀ i, i < l.length → d i = true) → S d w' → Q .normal b w') : (Code.region id l.toArray true).wp P Q a w := by
  have hk2 := planOk_at hk
  obtain ⟨us, _, hb, hc⟩ := plan_frm (hp.plan0 (ops := l.toArray) (by simp)) a (fun _ => undef) rfl
  subst hb
  refine wp_region_any hm (wpAny_plan (vs := us) rfl hk2 (fun j o ho => hc j o (Nat.zero_le _) ho) (fun d w h => hend d w (by simpa using h)) _ _ _ _ ?_ ⟨by simp, rfl, rfl, fun _ _ => rfl, fun t j o hj => ?_⟩ ?_)
  · have := Array.countP_le_size (p := fun b => !b) (xs := Array.replicate l.toArray.size false)
    simpa using this
  · simp [Array.getElem?_replicate] at hj
    split at hj <;> simp at hj
  · have : (fun j => (Array.replicate l.toArray.size false).getD j false) = fun _ => false := by
      funext j
      simp only [List.size_toArray, Array.getD_eq_getD_getElem?, Array.getElem?_replicate]
      split <;> rfl
    rw [this]
    exact hS

/-- an operation that only yields a value, whatever S says of what has been done -/
theorem PlanD.yield {i : Nat} {l : List Oper} {a b : Act} {o : Oper} {v : Value} (hg : Region.wanted o (yielded ops a.tmps) = true) (hr : ∀ d w, d i = false → (∀ e ∈ o.after, Region.binds .any e = true → d e.on = true) → S d w → (execOp a.eval o).run P w = .ok (.value v) w)
    (hs : ∀ d w, S d w → S (upd d i) w) (h : PlanD P ops S (i + 1) l (a.put o.dst v) b) : PlanD P ops S i (o :: l) a b :=
  .step (.inl ⟨hg, fun d w h0 h1 hS => by unfold Oper.wp; rw [hr d w h0 h1 hS]; exact ⟨rfl, hs d w hS⟩⟩) h
theorem PlanD.skip {i : Nat} {l : List Oper} {a b : Act} {o : Oper} (hg : Region.wanted o (yielded ops a.tmps) = false) (hs : ∀ d w, S d w → S (upd d i) w) (h : PlanD P ops S (i + 1) l (a.put o.dst undef) b) : PlanD P ops S i (o :: l) a b :=
  .step (.inr ⟨hg, rfl, fun d w _ => hs d w⟩) h
theorem PlanD.call {i : Nat} {l : List Oper} {a b : Act} {o : Oper} {v : Value} {f : FuncId} {args : Array Value} (hg : Region.wanted o (yielded ops a.tmps) = true) (hr : ∀ w, (execOp a.eval o).run P w = .ok (.enter f args) w)
    (hc : ∀ d w, d i = false → S d w → Calls P f args w fun e w' => e = .returned v ∧ S (upd d i) w')
    (h : PlanD P ops S (i + 1) l (a.put o.dst v) b) : PlanD P ops S i (o :: l) a b :=
  .step (.inl ⟨hg, fun d w h0 h1 hS => by
    unfold Oper.wp
    rw [hr w]
    exact (hc d w h0 hS).mono fun e w' ⟨h1, h2⟩ => by subst h1; exact ⟨rfl, h2⟩⟩) h
/-- an operation that writes -/
theorem PlanD.act {i : Nat} {l : List Oper} {a b : Act} {o : Oper} {v : Value} (hg : Region.wanted o (yielded ops a.tmps) = true)
    (hr : ∀ d w, d i = false → (∀ e ∈ o.after, Region.binds .any e = true → d e.on = true) → S d w → ∃ w', ((execOp a.eval o).run P w = .ok (.value v) w' ∨ ((execOp a.eval o).run P w = .ok .skip w' ∧ v = undef)) ∧ S (upd d i) w')
    (h : PlanD P ops S (i + 1) l (a.put o.dst v) b) : PlanD P ops S i (o :: l) a b :=
  .step (.inl ⟨hg, fun d w h0 h1 hS => by
    obtain ⟨w', h2, h3⟩ := hr d w h0 h1 hS
    unfold Oper.wp
    rcases h2 with h2 | ⟨h2, h4⟩
    · rw [h2]; exact ⟨rfl, h3⟩
    · subst h4; rw [h2]; exact ⟨rfl, h3⟩⟩) h
end

/-! ### The common form: S of the world, and T that one operation brings about -/
def ST (S T : World → Prop) (k : Nat) (d : Nat → Bool) (w : World) : Prop := S w ∧ (d k = true → T w)
section
variable {P : Program} {ops : Array Oper} {S T : World → Prop} {k : Nat}
abbrev Plan (P : Program) (ops : Array Oper) (S T : World → Prop) (k : Nat) : Nat → List Oper → Act → Act → Prop := PlanD P ops (ST S T k)
theorem ST.up {i : Nat} (hk : k ≠ i) {d : Nat → Bool} {w w' : World} (h : ST S T k d w) (h1 : S w') (h2 : T w → T w') : ST S T k (upd d i) w' :=
  ⟨h1, fun e => h2 (h.2 (by rwa [upd_ne hk] at e))⟩
theorem Plan.done {i : Nat} {a : Act} : Plan P ops S T k i [] a a := PlanD.done
theorem wp_region_plan {Q : Exit → Act → World → Prop} {id : Nat} {l : List Oper} {a b : Act} {w : World} (hm : P.follows .mixedOrders = true) (hk : planOk l.toArray a.tmps.size = true) (hkk : k < l.length ∨ ∀ w, S w → T w)
    (hS : S w.drew) (hp : Plan P l.toArray S T k 0 l a b) (hend : ∀ w', S w' → T w' → Q .normal b w') : (Code.region id l.toArray true).wp P Q a w :=
  wp_region_planD hm hk ⟨hS, fun e => by cases e⟩ hp fun d w' hd h => hend w' h.1 (hkk.elim (fun g => h.2 (hd k g)) (fun g => g w' h.1))
theorem Plan.yield {i : Nat} {l : List Oper} {a b : Act} {o : Oper} {v : Value} (hg : Region.wanted o (yielded ops a.tmps) = true) (hk : k ≠ i) (hr : ∀ w, S w → (execOp a.eval o).run P w = .ok (.value v) w)
    (h : Plan P ops S T k (i + 1) l (a.put o.dst v) b) : Plan P ops S T k i (o :: l) a b :=
  PlanD.yield hg (fun _ w _ _ hS => hr w hS.1) (fun _ _ hS => hS.up hk hS.1 id) h
theorem Plan.skip {i : Nat} {l : List Oper} {a b : Act} {o : Oper} (hg : Region.wanted o (yielded ops a.tmps) = false) (hk : k ≠ i) (h : Plan P ops S T k (i + 1) l (a.put o.dst undef) b) : Plan P ops S T k i (o :: l) a b :=
  PlanD.skip hg (fun _ _ hS => hS.up hk hS.1 id) h
theorem Plan.call {i : Nat} {l : List Oper} {a b : Act} {o : Oper} {v : Value} {f : FuncId} {args : Array Value} (hg : Region.wanted o (yielded ops a.tmps) = true) (hk : k ≠ i) (hr : ∀ w, (execOp a.eval o).run P w = .ok (.enter f args) w)
    (hc : ∀ w, S w → Calls P f args w fun e w' => e = .returned v ∧ S w' ∧ (T w → T w'))
    (h : Plan P ops S T k (i + 1) l (a.put o.dst v) b) : Plan P ops S T k i (o :: l) a b :=
  PlanD.call hg hr (fun _ w _ hS => (hc w hS.1).mono fun _ _ ⟨h1, h2, h3⟩ => ⟨h1, hS.up hk h2 h3⟩) h
theorem Plan.store {i : Nat} {l : List Oper} {a b : Act} {o : Oper} {g : World → World} (hg : Region.wanted o (yielded ops a.tmps) = true) (hr : ∀ w, S w → (execOp a.eval o).run P w = .ok .skip (g w))
    (hS : ∀ w, S w → S (g w) ∧ T (g w)) (h : Plan P ops S T k (i + 1) l (a.put o.dst undef) b) : Plan P ops S T k i (o :: l) a b :=
  PlanD.act hg (fun _ w _ _ hw => ⟨g w, .inr ⟨hr w hw.1, rfl⟩, (hS w hw.1).1, fun _ => (hS w hw.1).2⟩) h
/-- a region that only reads and calls what keeps S -/
theorem wp_region_reads {Q : Exit → Act → World → Prop} {id : Nat} {l : List Oper} {a b : Act} {w : World} (hm : P.follows .mixedOrders = true) (hk : planOk l.toArray a.tmps.size = true)
    (hS : S w.drew) (hp : Plan P l.toArray S (fun _ => True) 100000 0 l a b) (hend : ∀ w', S w' → Q .normal b w') : (Code.region id l.toArray true).wp P Q a w :=
  wp_region_plan hm hk (.inr fun _ _ => trivial) hS hp fun w' h _ => hend w' h
end

/-! ### A new block that one operation (ka) makes and a later one (ks) fills, beside reads and calls that leave the world alone -/
def SA (S : World → Prop) (w0 : World) (o1 o2 : Obj) (ka ks : Nat) (d : Nat → Bool) (w : World) : Prop :=
  S w ∧ (d ks = true → d ka = true) ∧ w = if d ks = true then w0.alloc o2 else if d ka = true then w0.alloc o1 else w0
section
variable {P : Program} {ops : Array Oper} {S : World → Prop} {w0 : World} {o1 o2 : Obj} {ka ks : Nat}
abbrev PlanA (P : Program) (ops : Array Oper) (S : World → Prop) (w0 : World) (o1 o2 : Obj) (ka ks : Nat) : Nat → List Oper → Act → Act → Prop := PlanD P ops (SA S w0 o1 o2 ka ks)
theorem SA.up {i : Nat} (ha : ka ≠ i) (hs : ks ≠ i) {d : Nat → Bool} {w : World} (h : SA S w0 o1 o2 ka ks d w) : SA S w0 o1 o2 ka ks (upd d i) w := by
  unfold SA at *
  rw [upd_ne ha, upd_ne hs]
  exact h
theorem PlanA.done {i : Nat} {a : Act} : PlanA P ops S w0 o1 o2 ka ks i [] a a := PlanD.done
theorem PlanA.yield {i : Nat} {l : List Oper} {a b : Act} {o : Oper} {v : Value} (hg : Region.wanted o (yielded ops a.tmps) = true) (ha : ka ≠ i) (hs : ks ≠ i) (hr : ∀ w, S w → (execOp a.eval o).run P w = .ok (.value v) w)
    (h : PlanA P ops S w0 o1 o2 ka ks (i + 1) l (a.put o.dst v) b) : PlanA P ops S w0 o1 o2 ka ks i (o :: l) a b :=
  PlanD.yield hg (fun _ w _ _ hS => hr w hS.1) (fun _ _ hS => hS.up ha hs) h
theorem PlanA.call {i : Nat} {l : List Oper} {a b : Act} {o : Oper} {v : Value} {f : FuncId} {args : Array Value} (hg : Region.wanted o (yielded ops a.tmps) = true) (ha : ka ≠ i) (hs : ks ≠ i) (hr : ∀ w, (execOp a.eval o).run P w = .ok (.enter f args) w)
    (hc : ∀ w, S w → Calls P f args w fun e w' => e = .returned v ∧ w = w')
    (h : PlanA P ops S w0 o1 o2 ka ks (i + 1) l (a.put o.dst v) b) : PlanA P ops S w0 o1 o2 ka ks i (o :: l) a b :=
  PlanD.call hg hr (fun _ w _ hS => (hc w hS.1).mono fun _ _ ⟨h1, h2⟩ => ⟨h1, by subst h2; exact hS.up ha hs⟩) h
theorem PlanA.alloc {l : List Oper} {a b : Act} {o : Oper} {v : Value} (hg : Region.wanted o (yielded ops a.tmps) = true) (hne : ka ≠ ks) (hr : (execOp a.eval o).run P w0 = .ok (.value v) (w0.alloc o1)) (h1 : S (w0.alloc o1))
    (h : PlanA P ops S w0 o1 o2 ka ks (ka + 1) l (a.put o.dst v) b) : PlanA P ops S w0 o1 o2 ka ks ka (o :: l) a b :=
  PlanD.act hg (fun d w hd _ ⟨_, g2, g3⟩ => by
    have hks : d ks = false := by
      rw [Bool.eq_false_iff]; intro e; rw [g2 e] at hd; cases hd
    have hw : w = w0 := by
      rw [g3, hks, hd]; simp
    subst hw
    refine ⟨_, .inl hr, h1, fun _ => upd_self _ _, ?_⟩
    rw [upd_self, upd_ne (fun e => hne e.symm), hks]; simp) h
theorem PlanA.store {l : List Oper} {a b : Act} {o : Oper} (hg : Region.wanted o (yielded ops a.tmps) = true) (hne : ka ≠ ks) (he : (o.after.any fun e => Region.binds .any e && e.on == ka) = true) (hr : (execOp a.eval o).run P (w0.alloc o1) = .ok .skip (w0.alloc o2)) (h1 : S (w0.alloc o2))
    (h : PlanA P ops S w0 o1 o2 ka ks (ks + 1) l (a.put o.dst undef) b) : PlanA P ops S w0 o1 o2 ka ks ks (o :: l) a b :=
  PlanD.act hg (fun d w hd hdep ⟨_, _, g3⟩ => by
    have hka : d ka = true := by
      obtain ⟨m, hm, hb⟩ := Array.any_eq_true.1 he
      rw [Bool.and_eq_true] at hb
      have := hdep o.after[m] (Array.getElem_mem hm) hb.1
      rwa [show (o.after[m]).on = ka by simpa using hb.2] at this
    have hw : w = w0.alloc o1 := by
      rw [g3, hd, hka]; simp
    subst hw
    refine ⟨_, .inr ⟨hr, rfl⟩, h1, fun _ => by rw [upd_ne hne]; exact hka, ?_⟩
    rw [upd_self]; simp) h
theorem wp_region_planA {Q : Exit → Act → World → Prop} {id : Nat} {l : List Oper} {a b : Act} {w : World} (hm : P.follows .mixedOrders = true) (hk : planOk l.toArray a.tmps.size = true) (hks : ks < l.length)
    (hS : S w.drew) (hp : PlanA P l.toArray S w.drew o1 o2 ka ks 0 l a b) (hend : S (w.drew.alloc o2) → Q .normal b (w.drew.alloc o2)) : (Code.region id l.toArray true).wp P Q a w :=
  wp_region_planD hm hk (show SA S w.drew o1 o2 ka ks (fun _ => false) w.drew from ⟨hS, fun (e : false = true) => (by cases e), rfl⟩) hp fun d w' hd ⟨h1, _, h3⟩ => by
    rw [hd ks hks] at h3
    simp only [if_true] at h3
    subst h3
    exact hend h1
end

/-! ### One store (ks), beside reads and calls that leave the world alone -/
def SW (S : World → Prop) (w0 w1 : World) (ks : Nat) (d : Nat → Bool) (w : World) : Prop := S w ∧ w = if d ks = true then w1 else w0
section
variable {P : Program} {ops : Array Oper} {S : World → Prop} {w0 w1 : World} {ks : Nat}
abbrev PlanW (P : Program) (ops : Array Oper) (S : World → Prop) (w0 w1 : World) (ks : Nat) : Nat → List Oper → Act → Act → Prop := PlanD P ops (SW S w0 w1 ks)
theorem SW.up {i : Nat} (hs : ks ≠ i) {d : Nat → Bool} {w : World} (h : SW S w0 w1 ks d w) : SW S w0 w1 ks (upd d i) w := by
  unfold SW at *
  rw [upd_ne hs]
  exact h
theorem PlanW.done {i : Nat} {a : Act} : PlanW P ops S w0 w1 ks i [] a a := PlanD.done
theorem PlanW.yield {i : Nat} {l : List Oper} {a b : Act} {o : Oper} {v : Value} (hg : Region.wanted o (yielded ops a.tmps) = true) (hs : ks ≠ i) (hr : ∀ w, S w → (execOp a.eval o).run P w = .ok (.value v) w)
    (h : PlanW P ops S w0 w1 ks (i + 1) l (a.put o.dst v) b) : PlanW P ops S w0 w1 ks i (o :: l) a b :=
  PlanD.yield hg (fun _ w _ _ hS => hr w hS.1) (fun _ _ hS => hS.up hs) h
theorem PlanW.call {i : Nat} {l : List Oper} {a b : Act} {o : Oper} {v : Value} {f : FuncId} {args : Array Value} (hg : Region.wanted o (yielded ops a.tmps) = true) (hs : ks ≠ i) (hr : ∀ w, (execOp a.eval o).run P w = .ok (.enter f args) w)
    (hc : ∀ w, S w → Calls P f args w fun e w' => e = .returned v ∧ w = w')
    (h : PlanW P ops S w0 w1 ks (i + 1) l (a.put o.dst v) b) : PlanW P ops S w0 w1 ks i (o :: l) a b :=
  PlanD.call hg hr (fun _ w _ hS => (hc w hS.1).mono fun _ _ ⟨h1, h2⟩ => ⟨h1, by subst h2; exact hS.up hs⟩) h
theorem PlanW.store {l : List Oper} {a b : Act} {o : Oper} (hg : Region.wanted o (yielded ops a.tmps) = true) (hr : (execOp a.eval o).run P w0 = .ok .skip w1) (h1 : S w1)
    (h : PlanW P ops S w0 w1 ks (ks + 1) l (a.put o.dst undef) b) : PlanW P ops S w0 w1 ks ks (o :: l) a b :=
  PlanD.act hg (fun d w hd _ ⟨_, g3⟩ => by
    have hw : w = w0 := by
      rw [g3, hd]; simp
    subst hw
    exact ⟨_, .inr ⟨hr, rfl⟩, h1, by rw [upd_self]; simp⟩) h
theorem wp_region_planW {Q : Exit → Act → World → Prop} {id : Nat} {l : List Oper} {a b : Act} {w : World} (hm : P.follows .mixedOrders = true) (hk : planOk l.toArray a.tmps.size = true) (hks : ks < l.length)
    (hS : S w.drew) (hp : PlanW P l.toArray S w.drew w1 ks 0 l a b) (hend : S w1 → Q .normal b w1) : (Code.region id l.toArray true).wp P Q a w :=
  wp_region_planD hm hk (show SW S w.drew w1 ks (fun _ => false) w.drew from ⟨hS, rfl⟩) hp fun d w' hd ⟨h1, h3⟩ => by
    rw [hd ks hks] at h3
    simp only [if_true] at h3
    subst h3
    exact hend h1
end
end Go.Proofs.Ytnbmldnahacnlaa
