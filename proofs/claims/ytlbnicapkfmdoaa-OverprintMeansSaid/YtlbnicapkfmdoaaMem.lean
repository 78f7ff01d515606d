/- Slices that read as lists: what a walk asks of them. -/
import Derived.Test.YtlbnicapkfmdoaaNum
import Derived.Lib.Hide
import Derived.Deep.QuietTactic
import Derived.BigQuiet
import Derived.Deep.LoopGhost
import Derived.Deep.DeepCutAuto
import Derived.Deep.RegionHeld3
import Derived.Deep.DeepFit
import Derived.Deep.DeepMust
import Derived.Maps.AppendAt
import Derived.Deep.AppendLies
namespace Go.Proofs.Ytlbnicapkfmdoaa
open Go.RowKit

theorem lt_of_cell {w : World} {a : Addr} {v : Value} (h : w.cell? a = some v) : a.block < w.heap.size := by
  rcases Nat.lt_or_ge a.block w.heap.size with h' | h'
  · exact h'
  · have : w.heap[a.block]? = none := Array.getElem?_eq_none h'
    simp [World.cell?, this] at h
theorem cell_kept {w w' : World} (hb : Below w.heap.size w w') {a : Addr} {v : Value} (h : w.cell? a = some v) : w'.cell? a = some v :=
  (hb.cell (lt_of_cell h)).trans h

/-- a callee that leaves the world alone, met inside a quiet region -/
theorem quietL {P : Program} {f : FuncId} {args : Array Value} {w : World} {n : Nat} {v : Value}
    (h : Calls P f args (w.drewN n) fun e w' => e = .returned v ∧ w.drewN n = w') : Calls P f args (w.drewN n) fun e w' => e = .returned v ∧ ∃ m, w' = w.drewN m :=
  h.mono fun _ _ ⟨he, hm⟩ => ⟨he, n, hm.symm⟩
theorem quietL2 {P : Program} {f : FuncId} {args : Array Value} {w : World} {a n : Nat} {v : Value}
    (h : Calls P f args (w.drewN (a + n)) fun e w' => e = .returned v ∧ w.drewN (a + n) = w') : Calls P f args (w.drewN (a + n)) fun e w' => e = .returned v ∧ ∃ m, w' = w.drewN (a + m) :=
  h.mono fun _ _ ⟨he, hm⟩ => ⟨he, n, hm.symm⟩
theorem i64_in {a : Int} (h0 : -9223372036854775808 ≤ a) (h1 : a < 9223372036854775808) : IntKind.i64.wrap a = a := by
  rw [IntKind.wrap_i64]; omega
theorem below_drewN {B : Nat} {a w : World} (h : Below B a w) (n : Nat) : Below B a (w.drewN n) := ⟨h.os, h.tape, h.output, h.size, h.block⟩

/-- from address A on lie the cells vs -/
def Cells (w : World) (A : Option Addr) (vs : List Value) : Prop := ∀ i v, vs[i]? = some v → ∃ b o, A = some ⟨b, o, none⟩ ∧ w.cell? ⟨b, o + i, none⟩ = some v
/-- a slice at A reads as the numbers xs -/
def Ints (w : World) (A : Option Addr) (xs : List Int) : Prop := Cells w A (xs.map (.int .i64))
/-- a slice at A reads as the pairs ps (a struct of two numbers each) -/
def Pts (w : World) (A : Option Addr) (ps : List (Int × Int)) : Prop :=
  ∀ i p, ps[i]? = some p → ∃ b o, A = some ⟨b, o, none⟩ ∧ w.cell? ⟨b, o + i * 2, none⟩ = some (.int .i64 p.1) ∧ w.cell? ⟨b, o + i * 2 + 1, none⟩ = some (.int .i64 p.2)

theorem Cells.kept {w w' : World} {A : Option Addr} {vs : List Value} (h : Cells w A vs) (hb : Below w.heap.size w w') : Cells w' A vs := fun i v hv =>
  let ⟨b, o, e, hc⟩ := h i v hv
  ⟨b, o, e, cell_kept hb hc⟩
theorem Ints.kept {w w' : World} {A : Option Addr} {xs : List Int} (h : Ints w A xs) (hb : Below w.heap.size w w') : Ints w' A xs := Cells.kept h hb
theorem Pts.kept {w w' : World} {A : Option Addr} {ps : List (Int × Int)} (h : Pts w A ps) (hb : Below w.heap.size w w') : Pts w' A ps := fun i p hp =>
  let ⟨b, o, e, h1, h2⟩ := h i p hp
  ⟨b, o, e, cell_kept hb h1, cell_kept hb h2⟩
theorem Cells.nil (w : World) (A : Option Addr) : Cells w A [] := fun i v h => by simp at h
theorem Ints.nil (w : World) (A : Option Addr) : Ints w A [] := Cells.nil w A
theorem Pts.nil (w : World) (A : Option Addr) : Pts w A [] := fun i v h => by simp at h
theorem Ints.at {w : World} {A : Option Addr} {xs : List Int} (h : Ints w A xs) {i : Nat} (hi : i < xs.length) :
    ∃ b o x, A = some ⟨b, o, none⟩ ∧ Hid (xs[i]? = some x) ∧ w.cell? ⟨b, o + i, none⟩ = some (.int .i64 x) := by
  have hx : xs[i]? = some xs[i] := List.getElem?_eq_getElem hi
  obtain ⟨b, o, e, hc⟩ := h i (.int .i64 xs[i]) (by simp [hx])
  exact ⟨b, o, xs[i], e, hx, hc⟩
theorem Pts.at {w : World} {A : Option Addr} {ps : List (Int × Int)} (h : Pts w A ps) {i : Nat} (hi : i < ps.length) :
    ∃ b o x y, A = some ⟨b, o, none⟩ ∧ Hid (ps[i]? = some (x, y)) ∧ w.cell? ⟨b, o + i * 2, none⟩ = some (.int .i64 x) ∧ w.cell? ⟨b, o + i * 2 + 1, none⟩ = some (.int .i64 y) := by
  have hx : ps[i]? = some ps[i] := List.getElem?_eq_getElem hi
  obtain ⟨b, o, e, h1, h2⟩ := h i _ hx
  exact ⟨b, o, ps[i].1, ps[i].2, e, hx, h1, h2⟩
/-- another element of the same slice -/
theorem Pts.same {w : World} {b o : Nat} {ps : List (Int × Int)} (h : Pts w (some ⟨b, o, none⟩) ps) {i : Nat} (hi : i < ps.length) :
    ∃ x y, Hid (ps[i]? = some (x, y)) ∧ w.cell? ⟨b, o + i * 2, none⟩ = some (.int .i64 x) ∧ w.cell? ⟨b, o + i * 2 + 1, none⟩ = some (.int .i64 y) := by
  obtain ⟨b', o', x, y, e, hx, h1, h2⟩ := h.at hi
  obtain ⟨rfl, rfl⟩ : b = b' ∧ o = o' := by injection e with e; injection e with e1 e2; exact ⟨e1, e2⟩
  exact ⟨x, y, hx, h1, h2⟩
theorem Ints.same {w : World} {b o : Nat} {xs : List Int} (h : Ints w (some ⟨b, o, none⟩) xs) {i : Nat} (hi : i < xs.length) :
    ∃ x, Hid (xs[i]? = some x) ∧ w.cell? ⟨b, o + i, none⟩ = some (.int .i64 x) := by
  obtain ⟨b', o', x, e, hx, h1⟩ := h.at hi
  obtain ⟨rfl, rfl⟩ : b = b' ∧ o = o' := by injection e with e; injection e with e1 e2; exact ⟨e1, e2⟩
  exact ⟨x, hx, h1⟩

/-- the least index at which a test fails, by a Bool function -/
theorem all_upto {xs : List Int} {p : Int → Bool} {k : Nat} {x : Int} (h : (xs.take k).all p = true) (hx : xs[k]? = some x) (hp : p x = true) : (xs.take (k + 1)).all p = true := by
  rw [List.take_add_one, hx]
  simp [h, hp]
theorem all_not {xs : List Int} {p : Int → Bool} {k : Nat} {x : Int} (hx : xs[k]? = some x) (hp : p x = false) : xs.all p = false := by
  have hm : x ∈ xs := List.mem_of_getElem? hx
  rw [Bool.eq_false_iff]
  intro h
  have := List.all_eq_true.1 h x hm
  rw [hp] at this
  cases this

/-- the error of a list of n numbers from 0 to m -/
def tonesE (xs : List Int) (n m : Int) : Int := if (xs.length : Int) ≠ n then 4 else if xs.all (fun v => within v 0 m) = true then 0 else 3

set_option maxHeartbeats 400000 in
theorem tones_any (A : Option Addr) (xs : List Int) (c : Nat) (n : Int) (w : World) (hl : xs.length ≤ maxLen) (h : Ints w A xs) :
    Calls Try.prog 56 #[.slice A xs.length c, .int .i64 n] w fun e w' => e = .returned (.int .i64 (tonesE xs n 255)) ∧ w = w' := by
  unfold maxLen at hl
  by_cases hn : (xs.length : Int) = n
  · have hb : ((xs.length : Int) != n) = false := by simp [hn]
    have hE := Lib.hid (show tonesE xs n 255 = if xs.all (fun v => within v 0 255) = true then 0 else 3 from if_neg (by simpa using hn))
    clear hn
    go_enter Try.func56, Try.ntmps56
    go_wp2
    go_loop [6, 13] (fun _ i => ∃ k : Nat, k ≤ xs.length ∧ i = .int .i64 k ∧ Hid ((xs.take k).all (fun v => within v 0 255) = true)) (fun _ i => xs.length - (intOf i).toNat)
    case atStart => exact ⟨0, Nat.zero_le _, rfl, rfl⟩
    case round =>
      obtain ⟨k, hk, rfl, hall⟩ := hrel
      by_cases hlt : k < xs.length
      · obtain ⟨b, o, x, rfl, hx, hc⟩ := h.at hlt
        have HI := Lib.hid h
        clear h
        by_cases h0 : 0 ≤ x ∧ x ≤ 255
        · obtain ⟨h0, h1⟩ := h0
          go_wp2
          go_round
          case rel => exact ⟨k + 1, by omega, by go_num, all_upto hall.out hx.out (within_mk h0 h1)⟩
          case measure => simp [intOf]; omega
        · have hf := Lib.hid (all_not (p := fun v => within v 0 255) hx.out (within_not (by omega)))
          by_cases h1 : x < 0
          · go_wp2
            go_ret
            exact ⟨ret_int (by rw [hE.out, hf.out]; rfl), rfl⟩
          · have h2 : 255 < x := by omega
            go_wp2
            go_ret
            exact ⟨ret_int (by rw [hE.out, hf.out]; rfl), rfl⟩
      · obtain rfl : k = xs.length := by omega
        have ha := hall.out
        rw [List.take_length] at ha
        have HA := Lib.hid ha
        clear ha
        go_wp2
        go_ret
        exact ⟨ret_int (by rw [hE.out, HA.out]; rfl), rfl⟩
  · have hb : ((xs.length : Int) != n) = true := by simpa using hn
    have hE := Lib.hid (show tonesE xs n 255 = 4 from if_pos hn)
    clear hn
    go_enter Try.func56, Try.ntmps56
    go_wp2
    go_ret
    exact ⟨ret_int hE.out.symm, rfl⟩

set_option maxHeartbeats 400000 in
theorem tonesErr_any (A : Option Addr) (xs : List Int) (c : Nat) (n m : Int) (w : World) (hl : xs.length ≤ maxLen) (h : Ints w A xs) :
    Calls Try.prog 26 #[.slice A xs.length c, .int .i64 n, .int .i64 m] w fun e w' => e = .returned (.int .i64 (tonesE xs n m)) ∧ w = w' := by
  unfold maxLen at hl
  by_cases hn : (xs.length : Int) = n
  · have hb : ((xs.length : Int) != n) = false := by simp [hn]
    have hE := Lib.hid (show tonesE xs n m = if xs.all (fun v => within v 0 m) = true then 0 else 3 from if_neg (by simpa using hn))
    clear hn
    go_enter Try.func26, Try.ntmps26
    go_wp2
    go_loop [8, 15] (fun _ i => ∃ k : Nat, k ≤ xs.length ∧ i = .int .i64 k ∧ Hid ((xs.take k).all (fun v => within v 0 m) = true)) (fun _ i => xs.length - (intOf i).toNat)
    case atStart => exact ⟨0, Nat.zero_le _, rfl, rfl⟩
    case round =>
      obtain ⟨k, hk, rfl, hall⟩ := hrel
      by_cases hlt : k < xs.length
      · obtain ⟨b, o, x, rfl, hx, hc⟩ := h.at hlt
        have HI := Lib.hid h
        clear h
        by_cases h0 : within x 0 m = true
        · go_wp2_with (go_at_call 16; refine (within_any _ _ _ _).mono ?_; rintro e w' ⟨rfl, rfl⟩)
          go_round
          case rel => exact ⟨k + 1, by omega, by go_num, all_upto hall.out hx.out h0⟩
          case measure => simp [intOf]; omega
        · have h0 : within x 0 m = false := by simpa using h0
          have hf := Lib.hid (all_not (p := fun v => within v 0 m) hx.out h0)
          go_wp2_with (go_at_call 16; refine (within_any _ _ _ _).mono ?_; rintro e w' ⟨rfl, rfl⟩)
          go_ret
          exact ⟨ret_int (by rw [hE.out, hf.out]; rfl), rfl⟩
      · obtain rfl : k = xs.length := by omega
        have ha := hall.out
        rw [List.take_length] at ha
        have HA := Lib.hid ha
        clear ha
        go_wp2
        go_ret
        exact ⟨ret_int (by rw [hE.out, HA.out]; rfl), rfl⟩
  · have hb : ((xs.length : Int) != n) = true := by simpa using hn
    have hE := Lib.hid (show tonesE xs n m = 4 from if_pos hn)
    clear hn
    go_enter Try.func26, Try.ntmps26
    go_wp2
    go_ret
    exact ⟨ret_int hE.out.symm, rfl⟩
end Go.Proofs.Ytlbnicapkfmdoaa
