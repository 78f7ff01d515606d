/- A region that draws its order, by an invariant of what has been done; a tail that waits for all before it goes in the order of the text. No program in sight. -/
import Derived.Test.YtnbmldnahacnlaaSxZ
namespace Go.Proofs.Ytnbmldnahacnlaa
open Go Go.RowKit

/-- operation k comes ahead of operation i, by edges that bind -/
inductive Reach (l : List Oper) : Nat → Nat → Prop
  | edge {i : Nat} {o : Oper} {e : Edge} (ho : l[i]? = some o) (he : e ∈ o.after) (hb : Region.binds .any e = true) : Reach l i e.on
  | step {i k : Nat} {o : Oper} {e : Edge} (ho : l[i]? = some o) (he : e ∈ o.after) (hb : Region.binds .any e = true) (h : Reach l e.on k) : Reach l i k
def ClosedD (l : List Oper) (d : Nat → Bool) : Prop := ∀ j o, l[j]? = some o → d j = true → ∀ e ∈ o.after, Region.binds .any e = true → d e.on = true
theorem Reach.done' {l : List Oper} {d : Nat → Bool} (hd : ClosedD l d) {i k : Nat} (h : Reach l i k) : d i = true → d k = true := by
  induction h with
  | edge ho he hb => intro hi; exact hd _ _ ho hi _ he hb
  | step ho he hb _ ih => intro hi; exact ih (hd _ _ ho hi _ he hb)
theorem Reach.done {l : List Oper} {d : Nat → Bool} (hd : ClosedD l d) {i k : Nat} {o : Oper} (ho : l[i]? = some o) (hi : ∀ e ∈ o.after, Region.binds .any e = true → d e.on = true) (h : Reach l i k) : d k = true := by
  cases h with
  | edge ho' he hb => rw [ho] at ho'; cases ho'; exact hi _ he hb
  | step ho' he hb h => rw [ho] at ho'; cases ho'; exact h.done' hd (hi _ he hb)
def unionN : List Nat → List Nat → List Nat
  | [], b => b
  | a :: l, b => unionN l (bif hasN b a then b else a :: b)
theorem unionN_mem {k : Nat} : ∀ {l b : List Nat}, k ∈ unionN l b → k ∈ l ∨ k ∈ b
  | [], b, h => .inr h
  | a :: l, b, h => by
    rw [unionN] at h
    rcases unionN_mem h with h | h
    · exact .inl (List.mem_cons_of_mem _ h)
    · cases hb : hasN b a with
      | true => rw [hb] at h; exact .inr h
      | false =>
        rw [hb] at h
        rcases List.mem_cons.1 h with h | h
        · subst h; exact .inl (by simp)
        · exact .inr h
def ancE (T : List (List Nat)) : List Edge → List Nat → List Nat
  | [], acc => acc
  | e :: l, acc => ancE T l (bif Region.binds .any e then unionN (e.on :: T.getD e.on []) acc else acc)
def ancs : List Oper → List (List Nat) → List (List Nat)
  | [], T => T
  | o :: l, T => ancs l (T ++ [ancE T o.after.toList []])
def AncOk (l : List Oper) (T : List (List Nat)) : Prop := ∀ i A, T[i]? = some A → ∀ k ∈ A, Reach l i k
theorem ancE_ok {l : List Oper} {T : List (List Nat)} (hT : AncOk l T) {i : Nat} {o : Oper} (ho : l[i]? = some o) : ∀ (es : List Edge) (acc : List Nat), (∀ e ∈ es, e ∈ o.after) → (∀ k ∈ acc, Reach l i k) → ∀ k ∈ ancE T es acc, Reach l i k
  | [], acc, _, ha, k, hk => ha k hk
  | e :: es, acc, he, ha, k, hk => by
    rw [ancE] at hk
    refine ancE_ok hT ho es _ (fun e' h => he e' (List.mem_cons_of_mem _ h)) (fun k' hk' => ?_) k hk
    cases hb : Region.binds .any e with
    | false => rw [hb] at hk'; exact ha k' hk'
    | true =>
      rw [hb] at hk'
      simp only [cond_true] at hk'
      have hem := he e (by simp)
      rcases unionN_mem hk' with h | h
      · rcases List.mem_cons.1 h with rfl | h
        · exact .edge ho hem hb
        · cases hT' : T[e.on]? with
          | none => rw [List.getD_eq_getElem?_getD, hT'] at h; simp at h
          | some A => rw [List.getD_eq_getElem?_getD, hT'] at h; exact .step ho hem hb (hT _ _ hT' _ h)
      · exact ha k' h
theorem ancs_ok {l : List Oper} : ∀ (r : List Oper) (T : List (List Nat)), AncOk l T → l.drop T.length = r → AncOk l (ancs r T)
  | [], T, hT, _ => hT
  | o :: r, T, hT, hd => by
    rw [ancs]
    have ho : l[T.length]? = some o := by
      have h1 : (l.drop T.length)[0]? = some o := by rw [hd]; rfl
      rw [List.getElem?_drop] at h1
      simpa using h1
    refine ancs_ok r _ (fun i A hA => ?_) ?_
    · by_cases hi : i < T.length
      · rw [List.getElem?_append_left hi] at hA
        exact hT i A hA
      · rw [List.getElem?_append_right (by omega)] at hA
        have hi2 : i - T.length = 0 := by
          have := (List.getElem?_eq_some_iff.1 hA).1
          simp at this
          omega
        rw [hi2] at hA
        simp at hA
        subst hA
        have : i = T.length := by omega
        subst this
        exact ancE_ok hT ho _ _ (fun e he => by simpa using he) (fun k hk => by cases hk)
    · rw [List.length_append, List.length_singleton, ← List.drop_drop, hd]; rfl
def tailOk' (T : List (List Nat)) : Nat → List Oper → Bool
  | _, [] => true
  | i, _ :: l => ((List.range i).all fun j => hasN (T.getD i []) j) && tailOk' T (i + 1) l
theorem tailOk_at {T : List (List Nat)} : ∀ {l : List Oper} {i : Nat}, tailOk' T i l = true → ∀ j, j < l.length → ∀ k, k < i + j → k ∈ T.getD (i + j) []
  | [], _, _, j, hj, _, _ => by simp at hj
  | _ :: l, i, h, j, hj, k, hk => by
    rw [tailOk', Bool.and_eq_true] at h
    cases j with
    | zero => exact hasN_mem (List.all_eq_true.1 h.1 k (List.mem_range.2 (by omega)))
    | succ j =>
      have := tailOk_at h.2 j (by simpa using hj) k (by omega)
      rwa [show i + 1 + j = i + (j + 1) by omega] at this

section
variable {P : Program}
theorem wp_region_inv {Q : Exit → Act → World → Prop} {Inv : (Nat → Bool) → Act → World → Prop} {id n : Nat} {l : List Oper} {a : Act} {w : World} (hm : P.follows .mixedOrders = true) (hp : ∀ i o, l.toArray[i]? = some o → PlanAt l.toArray n i o) (k : Nat) (hkl : k ≤ l.length)
    (start : Inv (fun _ => false) a w.drew)
    (step : ∀ i o d a w, i < k → l[i]? = some o → d i = false → ClosedD l d → (∀ e ∈ o.after, Region.binds .any e = true → d e.on = true) → Inv d a w →
      if Region.wanted o (yielded l.toArray a.tmps) then o.wp P a w (fun a' w' => Inv (upd d i) a' w') Q else Inv (upd d i) (a.put o.dst undef) w)
    (fin : ∀ d a w, (∀ i, i < k → d i = true) → Inv d a w → wpList P l.toArray Q (l.drop k) a w)
    (tail : ∀ i, k ≤ i → i < l.length → ∀ j, j < i → Reach l i j) : (Code.region id l.toArray true).wp P Q a w := by
  refine wp_region_any hm ?_
  let St (listed : Array Bool) (a : Act) (w : World) : Prop :=
    (ClosedD l (fun j => listed.getD j false) ∧ (∀ j, k ≤ j → listed.getD j false = false) ∧ Inv (fun j => listed.getD j false) a w) ∨
    (∃ i, k ≤ i ∧ i ≤ l.length ∧ (∀ j, listed.getD j false = true ↔ j < i) ∧ wpList P l.toArray Q (l.drop i) a w)
  have conv : ∀ (listed : Array Bool) (a : Act) (w : World), listed.size = l.length → St listed a w → (∀ j, j < k → listed.getD j false = true) → ∃ i, k ≤ i ∧ i ≤ l.length ∧ (∀ j, listed.getD j false = true ↔ j < i) ∧ wpList P l.toArray Q (l.drop i) a w := by
    intro listed a w _ hs hall
    rcases hs with ⟨_, h2, h3⟩ | h
    · refine ⟨k, Nat.le_refl _, hkl, fun j => ⟨fun h => ?_, hall j⟩, fin _ a w hall h3⟩
      rcases Nat.lt_or_ge j k with h' | h'
      · exact h'
      · rw [h2 j h'] at h; cases h
    · exact h
  have rd : ∀ (listed : Array Bool) (j : Nat), listed.size = l.length → j < l.length → listed.getD j false = false → (∀ o, l[j]? = some o → ∀ e ∈ o.after, Region.binds .any e = true → listed.getD e.on false = true) → j ∈ Region.ready .any l.toArray listed := by
    intro listed j hsz hj hf he
    rw [mem_ready]
    refine ⟨?_, l[j], by simp [hj], fun e hem hb => he _ (List.getElem?_eq_getElem hj) e hem hb⟩
    have hl : j < listed.size := by omega
    simp [hl] at hf ⊢; exact hf
  have key : ∀ (fuel : Nat) (listed : Array Bool) (a : Act) (w : World), listed.size = l.length → listed.countP (fun b => !b) ≤ fuel → St listed a w → wpAny P .any l.toArray Q fuel listed a w := by
    have fin' : ∀ (listed : Array Bool) (a : Act) (w : World), listed.size = l.length → St listed a w → Region.ready .any l.toArray listed = [] → Q .normal a w := by
      intro listed a w hsz hs hr
      have hall : ∀ j, j < k → listed.getD j false = true := by
        intro j
        induction j using Nat.strongRecOn with
        | ind j ih =>
          intro hj
          rcases hb : listed.getD j false with _ | _
          · exfalso
            have := rd listed j hsz (by omega) hb (fun o ho e he hb' => by
              have := (hp j o (by simpa using ho)).after e he hb'
              exact ih _ this (by omega))
            rw [hr] at this
            cases this
          · rfl
      obtain ⟨i, h1, h2, h3, h4⟩ := conv listed a w hsz hs hall
      rcases Nat.lt_or_ge i l.length with hi | hi
      · exfalso
        have hf : listed.getD i false = false := by
          rcases hb : listed.getD i false with _ | _
          · rfl
          · have := (h3 i).1 hb; omega
        have := rd listed i hsz hi hf (fun o ho e he hb' => (h3 _).2 ((hp i o (by simpa using ho)).after e he hb'))
        rw [hr] at this
        cases this
      · obtain rfl : i = l.length := by omega
        rw [List.drop_length] at h4
        exact h4
    intro fuel
    induction fuel with
    | zero =>
      intro listed a w hsz hf hs
      have hr : Region.ready .any l.toArray listed = [] := by
        rcases he : Region.ready .any l.toArray listed with _ | ⟨i, rest⟩
        · rfl
        · exfalso
          have hmem : i ∈ Region.ready .any l.toArray listed := by rw [he]; simp
          have h1 := (mem_ready.1 hmem).1
          have h0 : listed.countP (fun b => !b) = 0 := by omega
          rw [Array.countP_eq_zero] at h0
          have hi : i < listed.size := by
            rcases Nat.lt_or_ge i listed.size with h | h
            · exact h
            · simp [Array.getElem?_eq_none h] at h1
          have := h0 listed[i] (Array.getElem_mem hi)
          simp [hi] at h1
          simp [h1] at this
      exact ⟨hr, fin' listed a w hsz hs hr⟩
    | succ fuel ih =>
      intro listed a w hsz hf hs
      refine ⟨fin' listed a w hsz hs, fun i hi => ?_⟩
      obtain ⟨h0, o, ho, hall⟩ := mem_ready.1 hi
      have hol : l[i]? = some o := by simpa using ho
      have hil : i < listed.size := by rw [hsz]; exact (List.getElem?_eq_some_iff.1 hol).1
      have hd0 : listed.getD i false = false := by simpa [hil] using h0
      have hup : ∀ j, (listed.setIfInBounds i true).getD j false = upd (fun j => listed.getD j false) i j := by
        intro j
        by_cases hji : j = i
        · subst hji
          rw [upd_self]
          simp [hil]
        · rw [upd_ne hji, getD_set_ne false (fun e => hji e.symm)]
      have hup' : (fun j => (listed.setIfInBounds i true).getD j false) = upd (fun j => listed.getD j false) i := funext hup
      have hcnt : (listed.setIfInBounds i true).countP (fun b => !b) ≤ fuel := by
        have hli : listed[i] = false := by simpa [hil] using h0
        have h5 := Array.countP_set (xs := listed) (p := fun b => !b) (a := true) hil
        have h6 : listed.setIfInBounds i true = listed.set i true hil := by simp [Array.setIfInBounds, hil]
        have h7 : 0 < listed.countP (fun b => !b) := Array.countP_pos_iff.2 ⟨listed[i], Array.getElem_mem hil, by simp [hli]⟩
        rw [h6, h5]
        simp [hli]
        omega
      have phase2 : (∃ i, k ≤ i ∧ i ≤ l.length ∧ (∀ j, listed.getD j false = true ↔ j < i) ∧ wpList P l.toArray Q (l.drop i) a w) → wpOp P l.toArray Q i (wpAny P .any l.toArray Q fuel (listed.setIfInBounds i true)) a w := by
        rintro ⟨i', h1, h2, h3, h4⟩
        have hge : i' ≤ i := by
          rcases Nat.lt_or_ge i i' with h | h
          · have := (h3 i).2 h; rw [hd0] at this; cases this
          · exact h
        have hcl : ClosedD l (fun j => listed.getD j false) := fun j o' ho' hj e he hb => (h3 _).2 (by
          have := (hp j o' (by simpa using ho')).after e he hb
          have := (h3 j).1 hj
          omega)
        have hle : i ≤ i' := by
          rcases Nat.lt_or_ge i' i with h | h
          · have := (tail i (by omega) (by omega) i' h).done hcl hol hall
            have := (h3 i').1 this
            omega
          · exact h
        obtain rfl : i = i' := by omega
        have hdr : l.drop i = o :: l.drop (i + 1) := by
          obtain ⟨hlt, he⟩ := List.getElem?_eq_some_iff.1 hol
          rw [List.drop_eq_getElem_cons hlt, he]
        rw [hdr] at h4
        have next : ∀ a' w', wpList P l.toArray Q (l.drop (i + 1)) a' w' → wpAny P .any l.toArray Q fuel (listed.setIfInBounds i true) a' w' := fun a' w' h =>
          ih _ a' w' (by simp [hsz]) hcnt (.inr ⟨i + 1, by omega, by omega, fun j => by
            rw [hup j]
            simp only [upd, Bool.or_eq_true, beq_iff_eq]
            rw [h3 j]
            omega, h⟩)
        unfold wpOp
        simp only [ho]
        unfold wpList at h4
        split
        · rename_i hw
          rw [if_pos hw] at h4
          exact h4.imp (Oper.wp_mono next) (fun h => h)
        · rename_i hw
          rw [if_neg hw] at h4
          exact next _ _ h4
      by_cases hdone : ∀ j, j < k → listed.getD j false = true
      · exact phase2 (conv listed a w hsz hs hdone)
      · rcases hs with ⟨h1, h2, h3⟩ | h
        · have hik : i < k := by
            rcases Nat.lt_or_ge i k with h | h
            · exact h
            · exfalso
              apply hdone
              intro j hj
              exact (tail i h (by omega) j (by omega)).done h1 hol hall
          have hst := step i o _ a w hik hol hd0 h1 hall h3
          have next : ∀ a' w', Inv (upd (fun j => listed.getD j false) i) a' w' → wpAny P .any l.toArray Q fuel (listed.setIfInBounds i true) a' w' := fun a' w' h =>
            ih _ a' w' (by simp [hsz]) hcnt (.inl ⟨fun j o' ho' hj e he hb => by
              rw [hup'] at hj ⊢
              by_cases hji : j = i
              · subst hji
                rw [hol] at ho'
                cases ho'
                simp [upd, hall e he hb]
              · rw [upd_ne hji] at hj
                have := h1 j o' ho' hj e he hb
                simp [upd, this], fun j hj => by
              rw [hup j, upd_ne (by omega)]
              exact h2 j hj, by rw [hup']; exact h⟩)
          unfold wpOp
          simp only [ho]
          split
          · rename_i hw
            rw [if_pos hw] at hst
            exact .inl (Oper.wp_mono next hst)
          · rename_i hw
            rw [if_neg hw] at hst
            exact next _ _ hst
        · exact phase2 h
  have hg : ∀ j, (Array.replicate l.toArray.size false).getD j false = false := by
    intro j
    simp only [List.size_toArray, Array.getD_eq_getD_getElem?, Array.getElem?_replicate]
    split <;> rfl
  refine key _ _ _ _ (by simp) ?_ (.inl ⟨fun j o ho hj => ?_, fun j _ => hg j, ?_⟩)
  · have := Array.countP_le_size (p := fun b => !b) (xs := Array.replicate l.toArray.size false)
    simpa using this
  · have hj : (Array.replicate l.toArray.size false).getD j false = true := hj
    rw [hg j] at hj; cases hj
  · have : (fun j => (Array.replicate l.toArray.size false).getD j false) = fun _ => false := funext hg
    rw [this]
    exact start
end
end Go.Proofs.Ytnbmldnahacnlaa
