/- The shares of sets of inks: products, their sum. No program in sight. -/
import Derived.Below
namespace Go.Proofs.Ytlbnicapkfmdoaa

def stepL (acc : List Int) (v : Int) : List Int := acc.map (· * (255 - v)) ++ acc.map (· * v)
def shareK (ts : List Int) (k : Nat) : List Int := (ts.take k).foldl stepL [1]
def shareL (ts : List Int) : List Int := ts.foldl stepL [1]
theorem stepL_length (acc : List Int) (v : Int) : (stepL acc v).length = 2 * acc.length := by simp [stepL]; omega
theorem foldl_length (ts : List Int) : ∀ acc : List Int, (ts.foldl stepL acc).length = 2 ^ ts.length * acc.length := by
  induction ts with
  | nil => intro acc; simp
  | cons v ts ih =>
    intro acc
    rw [List.foldl_cons, ih, stepL_length, List.length_cons, Nat.pow_succ]
    rw [Nat.mul_assoc]
theorem shareL_length (ts : List Int) : (shareL ts).length = 2 ^ ts.length := by unfold shareL; rw [foldl_length]; simp
theorem shareK_length {ts : List Int} {k : Nat} (h : k ≤ ts.length) : (shareK ts k).length = 2 ^ k := by
  unfold shareK; rw [foldl_length, List.length_take, Nat.min_eq_left h]; simp
theorem shareK_succ {ts : List Int} {k : Nat} {v : Int} (h : ts[k]? = some v) : shareK ts (k + 1) = stepL (shareK ts k) v := by
  unfold shareK
  rw [List.take_add_one, h, List.foldl_append]
  rfl
theorem shareK_all (ts : List Int) : shareK ts ts.length = shareL ts := by unfold shareK; rw [List.take_length]; rfl
theorem shareK_zero (ts : List Int) : shareK ts 0 = [1] := rfl

def Bd (acc : List Int) (m : Int) : Prop := ∀ x ∈ acc, 0 ≤ x ∧ x ≤ m
theorem stepL_bd {acc : List Int} {v m : Int} (h : Bd acc m) (hv : 0 ≤ v) (hv1 : v ≤ 255) (hm : 0 ≤ m) : Bd (stepL acc v) (m * 255) := by
  intro x hx
  unfold stepL at hx
  rw [List.mem_append] at hx
  rcases hx with hx | hx
  · obtain ⟨y, hy, rfl⟩ := List.mem_map.1 hx
    obtain ⟨h0, h1⟩ := h y hy
    exact ⟨Int.mul_nonneg h0 (by omega), Int.mul_le_mul h1 (by omega) (by omega) hm⟩
  · obtain ⟨y, hy, rfl⟩ := List.mem_map.1 hx
    obtain ⟨h0, h1⟩ := h y hy
    exact ⟨Int.mul_nonneg h0 hv, Int.mul_le_mul h1 hv1 hv hm⟩
theorem foldl_bd {ts : List Int} (ht : ∀ v ∈ ts, 0 ≤ v ∧ v ≤ 255) : ∀ {acc : List Int} {m : Int}, Bd acc m → 0 ≤ m → Bd (ts.foldl stepL acc) (m * 255 ^ ts.length) := by
  induction ts with
  | nil => intro acc m h hm; simpa using h
  | cons v ts ih =>
    intro acc m h hm
    obtain ⟨hv, hv1⟩ := ht v (by simp)
    have := ih (fun u hu => ht u (by simp [hu])) (stepL_bd h hv hv1 hm) (Int.mul_nonneg hm (by omega))
    rw [List.foldl_cons, List.length_cons, Int.pow_succ, Int.mul_comm (255 ^ ts.length), ← Int.mul_assoc]
    exact this
theorem pow255_le {k : Nat} (h : k ≤ 6) : (255 : Int) ^ k ≤ 274941996890625 := by
  rcases (show k = 0 ∨ k = 1 ∨ k = 2 ∨ k = 3 ∨ k = 4 ∨ k = 5 ∨ k = 6 by omega) with rfl | rfl | rfl | rfl | rfl | rfl | rfl <;> decide
theorem pow255_pos (k : Nat) : 0 < (255 : Int) ^ k := Int.pow_pos (by omega)
theorem shareK_bd {ts : List Int} (ht : ∀ v ∈ ts, 0 ≤ v ∧ v ≤ 255) {k : Nat} (hk : k ≤ 6) : Bd (shareK ts k) 274941996890625 := by
  have h := foldl_bd (ts := ts.take k) (fun v hv => ht v (List.mem_of_mem_take hv)) (acc := [1]) (m := 1) (by intro x hx; simp at hx; omega) (by omega)
  intro x hx
  obtain ⟨h0, h1⟩ := h x hx
  have := pow255_le (k := (ts.take k).length) (by rw [List.length_take]; omega)
  omega
theorem sum_map_mul (l : List Int) (c : Int) : (l.map (· * c)).sum = l.sum * c := by
  induction l with
  | nil => simp
  | cons x l ih => simp [ih, Int.add_mul]
theorem stepL_sum (acc : List Int) (v : Int) : (stepL acc v).sum = 255 * acc.sum := by
  unfold stepL
  rw [List.sum_append, sum_map_mul, sum_map_mul, ← Int.mul_add]
  rw [show 255 - v + v = 255 by omega, Int.mul_comm]
theorem shareL_sum (ts : List Int) : (shareL ts).sum = 255 ^ ts.length := by
  have : ∀ acc : List Int, (ts.foldl stepL acc).sum = 255 ^ ts.length * acc.sum := by
    induction ts with
    | nil => intro acc; simp
    | cons v ts ih => intro acc; rw [List.foldl_cons, ih, stepL_sum, List.length_cons, Int.pow_succ, Int.mul_assoc]
  unfold shareL
  rw [this]; simp

/-- on the way from acc to stepL acc x -/
def accA (acc : List Int) (x : Int) (j : Nat) : List Int := acc ++ (acc.take j).map (· * x)
def accB (acc : List Int) (x : Int) (j : Nat) : List Int := (acc.take j).map (· * (255 - x)) ++ (acc.drop j ++ acc.map (· * x))
theorem split_at {acc : List Int} {j : Nat} {y : Int} (h : acc[j]? = some y) : ∃ l1 l2, acc = l1 ++ y :: l2 ∧ l1.length = j := by
  obtain ⟨hj, e⟩ := List.getElem?_eq_some_iff.1 h
  refine ⟨acc.take j, acc.drop (j + 1), ?_, by rw [List.length_take]; omega⟩
  rw [← e, List.getElem_cons_drop, List.take_append_drop]
theorem accA_zero (acc : List Int) (x : Int) : accA acc x 0 = acc := by simp [accA]
theorem accA_succ {acc : List Int} {x y : Int} {j : Nat} (h : acc[j]? = some y) : accA acc x (j + 1) = accA acc x j ++ [y * x] := by
  unfold accA
  rw [List.take_add_one, h]
  simp
theorem accA_length {acc : List Int} {x : Int} {j : Nat} (h : j ≤ acc.length) : (accA acc x j).length = acc.length + j := by
  unfold accA; rw [List.length_append, List.length_map, List.length_take, Nat.min_eq_left h]
theorem accA_at {acc : List Int} {x : Int} {j i : Nat} (h : i < acc.length) : (accA acc x j)[i]? = acc[i]? := by
  unfold accA; rw [List.getElem?_append_left h]
theorem accA_all (acc : List Int) (x : Int) : accA acc x acc.length = accB acc x 0 := by simp [accA, accB]
theorem accB_at {acc : List Int} {x y : Int} {j : Nat} (h : acc[j]? = some y) : (accB acc x j)[j]? = some y := by
  obtain ⟨l1, l2, rfl, rfl⟩ := split_at h
  simp [accB]
theorem accB_set {acc : List Int} {x y : Int} {j : Nat} (h : acc[j]? = some y) : (accB acc x j).set j (y * (255 - x)) = accB acc x (j + 1) := by
  obtain ⟨l1, l2, rfl, rfl⟩ := split_at h
  simp [accB, List.take_append, List.drop_append]
  rw [List.take_of_length_le (by rw [List.length_map]; omega), List.drop_eq_nil_of_le (Nat.le_succ _)]
  rfl
theorem accB_all (acc : List Int) (x : Int) : accB acc x acc.length = stepL acc x := by simp [accB, stepL]
theorem accB_length {acc : List Int} {x : Int} {j : Nat} (h : j ≤ acc.length) : (accB acc x j).length = acc.length + acc.length := by
  unfold accB; simp; omega

/-- the weight of a set -/
def wtL : List Int → Nat → Int
  | [], _ => 1
  | v :: vs, s => (if s % 2 = 1 then v else 255 - v) * wtL vs (s / 2)
theorem wtL_snoc (us : List Int) (v : Int) : ∀ s : Nat, wtL (us ++ [v]) s = wtL us s * (if s / 2 ^ us.length % 2 = 1 then v else 255 - v) := by
  induction us with
  | nil => intro s; simp [wtL]
  | cons u us ih =>
    intro s
    rw [List.cons_append]
    unfold wtL
    rw [ih, List.length_cons, Nat.div_div_eq_div_mul, Nat.pow_succ, Nat.mul_comm 2, Int.mul_assoc]
theorem wtL_mod (us : List Int) : ∀ s q : Nat, wtL us (s + 2 ^ us.length * q) = wtL us s := by
  induction us with
  | nil => intro s q; simp [wtL]
  | cons u us ih =>
    intro s q
    unfold wtL
    rw [List.length_cons, Nat.pow_succ]
    have h1 : (s + 2 ^ us.length * 2 * q) % 2 = s % 2 := by
      rw [Nat.mul_comm (2 ^ us.length), Nat.mul_assoc]; omega
    have h2 : (s + 2 ^ us.length * 2 * q) / 2 = s / 2 + 2 ^ us.length * q := by
      rw [Nat.mul_comm (2 ^ us.length), Nat.mul_assoc]; omega
    rw [h1, h2, ih]
theorem share_at (ts : List Int) : ∀ k, k ≤ ts.length → ∀ s, s < 2 ^ k → (shareK ts k)[s]? = some (wtL (ts.take k) s) := by
  intro k
  induction k with
  | zero =>
    intro _ s hs
    obtain rfl : s = 0 := by simpa using hs
    rfl
  | succ k ih =>
    intro hk s hs
    have hv : ts[k]? = some ts[k] := List.getElem?_eq_getElem (by omega)
    have hlen := shareK_length (ts := ts) (k := k) (by omega)
    have htl : (ts.take k).length = k := by rw [List.length_take]; omega
    rw [shareK_succ hv, List.take_add_one, hv]
    show (stepL (shareK ts k) ts[k])[s]? = some (wtL (ts.take k ++ [ts[k]]) s)
    rw [wtL_snoc, htl]
    unfold stepL
    by_cases hlt : s < 2 ^ k
    · rw [List.getElem?_append_left (by rw [List.length_map, hlen]; exact hlt), List.getElem?_map, ih (by omega) s hlt, Nat.div_eq_of_lt hlt]
      rfl
    · have h2 : s < 2 ^ k + 2 ^ k := by rw [Nat.pow_succ] at hs; omega
      have hd : s / 2 ^ k = 1 := by
        refine Nat.div_eq_of_lt_le ?_ ?_ <;> omega
      rw [List.getElem?_append_right (by rw [List.length_map, hlen]; omega), List.length_map, hlen, List.getElem?_map, ih (by omega) (s - 2 ^ k) (by omega), hd]
      have := wtL_mod (ts.take k) (s - 2 ^ k) 1
      rw [htl, Nat.mul_one, Nat.sub_add_cancel (by omega)] at this
      rw [this]
      rfl
end Go.Proofs.Ytlbnicapkfmdoaa
