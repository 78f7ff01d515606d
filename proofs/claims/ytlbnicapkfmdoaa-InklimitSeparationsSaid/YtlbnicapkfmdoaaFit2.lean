/- Plain facts on the pool of curve.Fit. -/
import Derived.Test.YtlbnicapkfmdoaaFit1
import Derived.Test.YtlbnicapkfmdoaaPairs
namespace Go.Proofs.Ytlbnicapkfmdoaa
open Go.RowKit

def PoolOk (r : List (Int × Int)) : Prop := ∀ b ∈ r, 1 ≤ b.2 ∧ 0 ≤ b.1 ∧ b.1 ≤ 65280 * b.2
def poolN (r : List (Int × Int)) : Int := (r.map (·.2)).sum
theorem poolN_cons (b : Int × Int) (r : List (Int × Int)) : poolN (b :: r) = b.2 + poolN r := by simp [poolN]
theorem pushB_ok {r : List (Int × Int)} {b : Int × Int} (h : PoolOk (b :: r)) : PoolOk (pushB r b) ∧ poolN (pushB r b) = poolN (b :: r) := by
  induction r generalizing b with
  | nil => exact ⟨h, rfl⟩
  | cons l r ih =>
    unfold pushB
    split
    · exact ⟨h, rfl⟩
    · have hb := h b (by simp)
      have hl := h l (by simp)
      obtain ⟨i1, i2⟩ := ih (b := (l.1 + b.1, l.2 + b.2)) (by
        intro c hc
        rcases List.mem_cons.1 hc with rfl | hc
        · simp only; omega
        · exact h c (by simp [hc]))
      refine ⟨i1, ?_⟩
      rw [i2]; simp only [poolN_cons]; omega
theorem poolN_nonneg {r : List (Int × Int)} (h : PoolOk r) : 0 ≤ poolN r := by
  induction r with
  | nil => simp [poolN]
  | cons b r ih =>
    have := ih (fun c hc => h c (by simp [hc]))
    have := h b (by simp)
    rw [poolN_cons]; omega
/-- two blocks at the end of a pool of at most 31 samples: no product wraps -/
theorem pool_two {s m s' m' k : Int} {r : List (Int × Int)} (h : PoolOk ((s, m) :: (s', m') :: r)) (hn : poolN ((s, m) :: (s', m') :: r) = k) (hk : k ≤ 31) :
    1 ≤ m ∧ 1 ≤ m' ∧ m + m' ≤ 31 ∧ 0 ≤ s ∧ 0 ≤ s' ∧ s ≤ 2023680 ∧ s' ≤ 2023680 ∧ 0 ≤ s * m' ∧ s * m' ≤ 62734080 ∧ 0 ≤ s' * m ∧ s' * m ≤ 62734080 := by
  have h1 := h (s, m) (by simp)
  have h2 := h (s', m') (by simp)
  have h3 := poolN_nonneg (r := r) (fun c hc => h c (by simp [hc]))
  rw [poolN_cons, poolN_cons] at hn
  simp only at h1 h2 hn
  obtain ⟨a1, a2⟩ := mul_bd (a := s) (b := m') (m := 2023680) (n := 31) (by omega) (by omega) (by omega) (by omega)
  obtain ⟨b1, b2⟩ := mul_bd (a := s') (b := m) (m := 2023680) (n := 31) (by omega) (by omega) (by omega) (by omega)
  omega
theorem pool_one {s m k : Int} {r : List (Int × Int)} (h : PoolOk ((s, m) :: r)) (hn : poolN ((s, m) :: r) = k) (hk : k ≤ 31) : 1 ≤ m ∧ m ≤ 31 ∧ 0 ≤ s ∧ s ≤ 2023680 := by
  have h1 := h (s, m) (by simp)
  have h3 := poolN_nonneg (r := r) (fun c hc => h c (by simp [hc]))
  rw [poolN_cons] at hn
  simp only at h1 hn
  omega
theorem pool_merge {s m s' m' : Int} {r : List (Int × Int)} (h : PoolOk ((s, m) :: (s', m') :: r)) : PoolOk ((s' + s, m' + m) :: r) ∧ poolN ((s' + s, m' + m) :: r) = poolN ((s, m) :: (s', m') :: r) := by
  have h1 := h (s, m) (by simp)
  have h2 := h (s', m') (by simp)
  refine ⟨?_, by simp only [poolN_cons]; omega⟩
  intro c hc
  rcases List.mem_cons.1 hc with rfl | hc
  · simp only at h1 h2 ⊢; omega
  · exact h c (by simp [hc])
theorem push_keep {s m s' m' : Int} {r : List (Int × Int)} (h : s' * m ≤ s * m') : pushB ((s', m') :: r) (s, m) = (s, m) :: (s', m') :: r := by
  unfold pushB; rw [if_pos h]
theorem push_join {s m s' m' : Int} {r : List (Int × Int)} (h : ¬ s' * m ≤ s * m') : pushB ((s', m') :: r) (s, m) = pushB r (s' + s, m' + m) := by
  conv => lhs; unfold pushB
  rw [if_neg h]
theorem poolN_ge {r : List (Int × Int)} (h : PoolOk r) : (r.length : Int) ≤ poolN r := by
  induction r with
  | nil => simp [poolN]
  | cons b r ih =>
    have := ih (fun c hc => h c (by simp [hc]))
    have := h b (by simp)
    rw [poolN_cons]; simp; omega
theorem poolB_snoc (ps : List (Int × Int)) (p : Int × Int) : poolB (ps ++ [p]) = pushB (poolB ps) (p.2, 1) := by simp [poolB]
theorem poolB_ok {ps : List (Int × Int)} (h : ∀ p ∈ ps, 0 ≤ p.2 ∧ p.2 ≤ 65280) : PoolOk (poolB ps) ∧ poolN (poolB ps) = ps.length := by
  unfold poolB
  have key : ∀ (l : List (Int × Int)) (r : List (Int × Int)), (∀ p ∈ l, 0 ≤ p.2 ∧ p.2 ≤ 65280) → PoolOk r →
      PoolOk (l.foldl (fun r p => pushB r (p.2, 1)) r) ∧ poolN (l.foldl (fun r p => pushB r (p.2, 1)) r) = poolN r + l.length := by
    intro l
    induction l with
    | nil => intro r _ hr; exact ⟨hr, by simp⟩
    | cons p l ih =>
      intro r hl hr
      have hp := hl p (by simp)
      obtain ⟨p1, p2⟩ := pushB_ok (r := r) (b := (p.2, 1)) (by
        intro c hc
        rcases List.mem_cons.1 hc with rfl | hc
        · simp only; omega
        · exact hr c hc)
      obtain ⟨i1, i2⟩ := ih (pushB r (p.2, 1)) (fun q hq => hl q (by simp [hq])) p1
      refine ⟨i1, ?_⟩
      simp only [List.foldl_cons]
      rw [i2, p2, poolN_cons]; simp; omega
  have := key ps [] h (by intro c hc; simp at hc)
  simpa [poolN] using this
theorem fscan_ok {px : Int} {l : List (Int × Int)} (h : fitScan px l = 0) : ∀ p ∈ l, 0 ≤ p.1 ∧ p.1 ≤ 65280 ∧ 0 ≤ p.2 ∧ p.2 ≤ 65280 := by
  induction l generalizing px with
  | nil => simp
  | cons p r ih =>
    obtain ⟨x, y⟩ := p
    by_cases h1 : x < 0 ∨ 65280 < x ∨ y < 0 ∨ 65280 < y
    · rw [fscan_out h1] at h; omega
    by_cases h2 : x ≤ px
    · rw [fscan_order h1 h2] at h; omega
    rw [fscan_on h1 h2] at h
    intro q hq
    rcases List.mem_cons.1 hq with rfl | hq
    · simp only; omega
    · exact ih h q hq
theorem valsB_nil : valsB [] = [] := rfl
theorem valsB_append (a b : List (Int × Int)) : valsB (a ++ b) = valsB a ++ valsB b := by simp [valsB]
theorem valsB_one (b : Int × Int) : valsB [b] = List.replicate b.2.toNat (rnd b.1 b.2) := by simp [valsB]
theorem valsB_length {bs : List (Int × Int)} (h : PoolOk bs) : ((valsB bs).length : Int) = poolN bs := by
  induction bs with
  | nil => rfl
  | cons b bs ih =>
    have hb := h b (by simp)
    rw [show b :: bs = [b] ++ bs from rfl, valsB_append, valsB_one]
    rw [List.length_append, List.length_replicate, List.singleton_append, poolN_cons, ← ih (fun c hc => h c (by simp [hc]))]
    omega
theorem poolOk_reverse {r : List (Int × Int)} (h : PoolOk r) : PoolOk r.reverse := fun b hb => h b (by simpa using hb)
theorem poolN_reverse (r : List (Int × Int)) : poolN r.reverse = poolN r := by
  simp [poolN, List.sum_reverse]
theorem fitZ_length {ps : List (Int × Int)} (h : ∀ p ∈ ps, 0 ≤ p.2 ∧ p.2 ≤ 65280) : (valsB (poolB ps).reverse).length = ps.length ∧ (fitZ ps).length = ps.length := by
  obtain ⟨h1, h2⟩ := poolB_ok h
  have h3 := valsB_length (poolOk_reverse h1)
  rw [poolN_reverse, h2] at h3
  have h4 : (valsB (poolB ps).reverse).length = ps.length := by omega
  exact ⟨h4, by simp [fitZ, h4]⟩
theorem fitZ_at {ps : List (Int × Int)} {k j : Nat} {s n x y : Int} (hb : (poolB ps).reverse[k]? = some (s, n)) (hj : (j : Int) < n)
    (hx : ps[(valsB ((poolB ps).reverse.take k)).length + j]? = some (x, y)) : (fitZ ps)[(valsB ((poolB ps).reverse.take k)).length + j]? = some (x, rnd s n) := by
  unfold fitZ
  have hv : (valsB (poolB ps).reverse)[(valsB ((poolB ps).reverse.take k)).length + j]? = some (rnd s n) := by
    generalize (poolB ps).reverse = bs at *
    have hk : k < bs.length := (List.getElem?_eq_some_iff.1 hb).1
    have hsplit : bs = bs.take k ++ ([(s, n)] ++ bs.drop (k + 1)) := by
      have := drop_at hb
      rw [List.singleton_append, ← this, List.take_append_drop]
    conv => lhs; rw [hsplit]
    rw [List.take_append_of_le_length (by simp; omega), List.take_take, Nat.min_self, valsB_append, valsB_append, valsB_one]
    rw [List.getElem?_append_right (by omega), Nat.add_sub_cancel_left, List.getElem?_append_left (by simp; omega)]
    rw [List.getElem?_replicate, if_pos (by omega)]
  rw [List.getElem?_zip_eq_some]
  exact ⟨by simp [hx], hv⟩
theorem valsB_take {bs : List (Int × Int)} {k : Nat} {s n : Int} (hb : bs[k]? = some (s, n)) : (valsB (bs.take (k + 1))).length = (valsB (bs.take k)).length + n.toNat := by
  rw [List.take_add_one, hb, Option.toList_some, valsB_append, valsB_one]
  simp
theorem valsB_take_le {bs : List (Int × Int)} (k : Nat) : (valsB (bs.take k)).length ≤ (valsB bs).length := by
  conv => rhs; rw [← List.take_append_drop k bs, valsB_append]
  simp
theorem fitL_is {ps L1 : List (Int × Int)} {x0 y0 u v : Int} (hz : (fitZ ps)[0]? = some (x0, y0)) (h1 : L1 = if 0 < x0 then (0, y0) :: fitZ ps else fitZ ps) (hl : L1[L1.length - 1]? = some (u, v)) :
    fitL ps = if u < 65280 then L1 ++ [(65280, v)] else L1 := by
  unfold fitL fitEnds
  rw [getD_at hz]
  simp only
  rw [← h1, getD_at hl]
end Go.Proofs.Ytlbnicapkfmdoaa
