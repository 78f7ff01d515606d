/- As RnO, without the second way for regions that draw. No program in sight. -/
import Derived.Test.YtjhdjjoacedlpaaZCC4
/- As RnO, without the second way for regions that draw. No program in sight. -/
namespace Go.Proofs.Ytjhdjjoacedlpaa.Rn
open Go Go.RowKit Go.Proofs.Ytjhdjjoacedlpaa Go.Proofs.Ytjhdjjoacedlpaa.Dr

section
variable {P : Program} {n : Nat} {st st' : ASt} {o : Oper} {x : AV} {Q : Exit → ASt → Prop} {ops : Array Oper} {l : List Oper}
def runD (C : Ctx) (self : SelfT) (n : Nat) (l : List Oper) (T : List (List Nat)) (st : ASt) : Option ASt := bif planR l T && tailR l T (tailM T l.length) then runE C self n l T st else none
theorem runD_ok {C : Ctx} {self : SelfT} {id : Nat} (hC : C.ok P) (hS : SelfOk P self) (h : runD C self n l (ancs l []) st = some st') : AW P n (.region id ⟨l⟩ true) (fun e s => e = .normal ∧ s = st') st := by
  unfold runD at h
  cases hp : (planR l (ancs l []) && tailR l (ancs l []) (tailM (ancs l []) l.length)) with
  | false => rw [hp] at h; cases h
  | true =>
    rw [hp] at h; rw [Bool.and_eq_true] at hp; exact runE_ok hC hS hp.1 hp.2 h
def runC (C : Ctx) (self : SelfT) (fl n : Nat) : Code → ASt → Option (Exit × ASt)
  | .skip, st => some (.normal, st)
  | .label _, st => some (.normal, st)
  | .exit id, st => some (.exit id, st)
  | .ret, st => some (.ret, st)
  | .seq a b, st => match runC C self fl n a st with
    | some (.normal, st') => runC C self fl n b st'
    | r => r
  | .cond c a b, st => match st.ev c with
    | .bool true => runC C self fl n a st
    | .bool false => runC C self fl n b st
    | _ => none
  | .block id c, st => match runC C self fl n c st with
    | some (.exit id', st') => bif Nat.beq id' id then some (.normal, st') else some (.exit id', st')
    | r => r
  | .loop c, st => loopN (runC C self fl n c) fl st
  | .region _ ⟨l⟩ false, st => match runF C self n ⟨l⟩ l st with
    | some st' => some (.normal, st')
    | none => none
  | .region _ ⟨l⟩ true, st => match runD C self n l (ancs l []) st with
    | some st' => some (.normal, st')
    | none => none
  | .rangeFunc .., _ => none
  | .scope c, st => match runC C self fl n c st with
    | some (.goto _, _) => none
    | r => r
  | .goto _, _ => none
  | .refuse _, _ => none
theorem runC_ok {C : Ctx} {self : SelfT} {fl : Nat} (hC : C.ok P) (hS : SelfOk P self) : ∀ (c : Code) (st : ASt) (e : Exit) (st' : ASt), runC C self fl n c st = some (e, st') → AW P n c (fun e1 s => e1 = e ∧ s = st') st := by
  intro c
  induction c with
  | skip => intro st e st' h; rw [runC] at h; injection h with h; injection h with h1 h2; exact AW.skip ⟨h1, h2⟩
  | label l => intro st e st' h; rw [runC] at h; injection h with h; injection h with h1 h2; exact AW.label ⟨h1, h2⟩
  | exit id => intro st e st' h; rw [runC] at h; injection h with h; injection h with h1 h2; exact AW.exit ⟨h1, h2⟩
  | ret => intro st e st' h; rw [runC] at h; injection h with h; injection h with h1 h2; exact AW.ret ⟨h1, h2⟩
  | seq a b iha ihb =>
    intro st e st' h; rw [runC] at h
    cases h1 : runC C self fl n a st with
    | none => rw [h1] at h; cases h
    | some p =>
      obtain ⟨e0, s0⟩ := p; rw [h1] at h; refine AW.seq ((iha st e0 s0 h1).mono ?_)
      rintro e1 s ⟨rfl, rfl⟩
      cases e1 with
      | normal => exact ihb _ _ _ h
      | _ =>
        injection h with h
        injection h with h2 h3
        exact ⟨h2, h3⟩
  | cond c a b iha ihb =>
    intro st e st' h; rw [runC] at h; split at h
    · rename_i h1; exact AW.condT h1 (iha _ _ _ h)
    · rename_i h1; exact AW.condF h1 (ihb _ _ _ h)
    · cases h
  | block id c ih =>
    intro st e st' h; rw [runC] at h
    cases h1 : runC C self fl n c st with
    | none => rw [h1] at h; cases h
    | some p =>
      obtain ⟨e0, s0⟩ := p; rw [h1] at h; refine AW.block ((ih st e0 s0 h1).mono ?_)
      rintro e1 s ⟨rfl, rfl⟩
      cases e1 with
      | exit id' =>
        simp only at h
        cases hb : Nat.beq id' id with
        | true =>
          rw [hb] at h; have := Nat.eq_of_beq_eq_true hb; subst this; simp only [cond_true] at h; injection h with h
          injection h with h2 h3
          exact inA_eq ⟨h2, h3⟩
        | false =>
          rw [hb] at h; simp only [cond_false] at h; injection h with h
          injection h with h2 h3
          exact inA_ne hb ⟨h2, h3⟩
      | _ =>
        injection h with h
        injection h with h2 h3
        exact ⟨h2, h3⟩
  | loop c ih =>
    intro st e st' h; rw [runC] at h; exact loopN_ok ih h
  | region id ops d =>
    intro st e st' h; obtain ⟨l⟩ := ops
    cases d with
    | false =>
      rw [runC] at h
      cases h1 : runF C self n ⟨l⟩ l st with
      | none => rw [h1] at h; cases h
      | some s =>
        rw [h1] at h; injection h with h
        injection h with h2 h3
        exact AW.region (runF_ok hC hS l st s h1 ⟨h2, h3⟩)
    | true =>
      rw [runC] at h
      cases h1 : runD C self n l (ancs l []) st with
      | none => rw [h1] at h; cases h
      | some s =>
        rw [h1] at h; injection h with h
        injection h with h2 h3
        subst h3; subst h2; exact runD_ok hC hS h1
  | rangeFunc f ps a b => intro st e st' h; rw [runC] at h; cases h
  | scope c ih =>
    intro st e st' h; rw [runC] at h
    cases h1 : runC C self fl n c st with
    | none => rw [h1] at h; cases h
    | some p =>
      obtain ⟨e0, s0⟩ := p; rw [h1] at h; refine AW.scope ((ih st e0 s0 h1).mono ?_)
      rintro e1 s ⟨rfl, rfl⟩
      cases e1 with
      | goto l => cases h
      | _ =>
        injection h with h
        injection h with h2 h3
        exact ⟨rfl, h2, h3⟩
  | goto l => intro st e st' h; rw [runC] at h; cases h
  | refuse w => intro st e st' h; rw [runC] at h; cases h

theorem out_ok {C : Ctx} {self : SelfT} (hC : C.ok P) (hS : SelfOk P self) {fl F : Nat} {fn : Func} {c : Code} {xs : List AV} {hp hp' : List (Nat × AB)} {nx nx' : Nat} {x : AV} (h1 : lk C.fns F = some fn) (h2 : fn.body = some c) (hb : Nat.ble xs.length fn.ntmps = true)
    (h : outC C fn.results.toList (runC C self fl fn.ntmps c ⟨argR 0 xs, hp, nx⟩) = some (x, hp', nx')) : AC P F xs hp nx (fun y h' n' => y = x ∧ h' = hp' ∧ n' = nx') := by
  cases hr : runC C self fl fn.ntmps c ⟨argR 0 xs, hp, nx⟩ with
  | none => rw [hr] at h; cases h
  | some p =>
    obtain ⟨e, st⟩ := p; rw [hr] at h; have hw := runC_ok hC hS c _ _ _ hr
    have key : ∀ ys, resC C st fn.results.toList = some ys → oneOf ys = x → st.heap = hp' → st.nx = nx' → e = .ret ∨ e = .normal → AC P F xs hp nx (fun x1 hp1 nx1 => x1 = x ∧ hp1 = hp' ∧ nx1 = nx') := by
      intro ys h3 h4 h5 h6 he; refine AC.body (allP_at hC.fns h1) h2 rfl rfl hb (hw.mono ?_)
      rintro e1 s ⟨rfl, rfl⟩
      exact ⟨he, ys, resC_ok hC h3, h4, h5, h6⟩
    cases e with
    | ret =>
      simp only [outC] at h; split at h
      · rename_i ys h3; injection h with h
        simp only [Prod.mk.injEq] at h; exact key ys h3 h.1 h.2.1 h.2.2 (.inl rfl)
      · cases h
    | normal =>
      simp only [outC] at h; split at h
      · rename_i ys h3; injection h with h
        simp only [Prod.mk.injEq] at h; exact key ys h3 h.1 h.2.1 h.2.2 (.inr rfl)
      · cases h
    | _ => cases h
def run (C : Ctx) (fl : Nat) : Nat → Nat → List AV → List (Nat × AB) → Nat → Option (AV × List (Nat × AB) × Nat)
  | 0, _, _, _, _ => none
  | f + 1, F, xs, hp, nx => match lk C.fns F with
    | some fn => match fn.body with
      | some c => bif Nat.ble xs.length fn.ntmps then (match fL1 xs fun xs => outC C fn.results.toList (runC C (run C fl f) fl fn.ntmps c ⟨argR 0 xs, hp, nx⟩) with
        | some (x, hp2, nx2) => gcK hp2 nx x fun hp3 => some (x, hp3, nx2)
        | none => none) else none
      | none => none
    | none => none
theorem run_ok {C : Ctx} (hC : C.ok P) (fl : Nat) : ∀ f, SelfOk P (run C fl f)
  | 0 => fun F xs hp nx x hp' nx' h => by cases h
  | f + 1 => fun F xs hp nx x hp' nx' h => by
    rw [run] at h; split at h
    · rename_i fn h1; split at h
      · rename_i c h2
        cases hb : Nat.ble xs.length fn.ntmps with
        | false => rw [hb] at h; cases h
        | true =>
          rw [hb] at h; simp only [cond_true] at h; split at h
          · rename_i x2 hp2 nx2 h0; obtain ⟨hp3, g1, g2⟩ := gcK_eq hp2 nx x2; rw [g2] at h; simp only [Option.some.injEq, Prod.mk.injEq] at h; obtain ⟨rfl, rfl, rfl⟩ := h; refine AC.lesH (hp1 := hp2) ?_ g1; rw [fL1_eq] at h0; exact out_ok hC (run_ok hC fl f) h1 h2 hb h0
          · cases h
      · cases h
    · cases h
def okRun (C : Ctx) (fl f : Nat) (F : Nat) (xs : List AV) : Option AV := match run C fl f F xs [] 0 with
  | some (y, hp, _) => frzRC hp 8 y
  | none => none
theorem AF.run {C : Ctx} (hC : C.ok P) (fl f : Nat) {F : Nat} {xs : List AV} {y : AV} (h : okRun C fl f F xs = some y) : AF P F xs y := by
  unfold okRun at h; split at h
  · rename_i x hp nx h1; exact AF.of_AC ((run_ok hC fl f _ _ _ _ _ _ _ h1).mono (by rintro x1 hp1 nx1 ⟨rfl, rfl, rfl⟩; exact frzRC_ok 8 _ _ h))
  · cases h
end
end Go.Proofs.Ytjhdjjoacedlpaa.Rn
/- conditionWorks, by a run with short tables. -/
set_option maxRecDepth 1000000
namespace Go.Proofs.Ytjhdjjoacedlpaa
open Go Go.RowKit
def conditionWorks_tab : Tab := {
  und := [(3, .int .i64),
    (9, .string),
    (24, .slice 3),
    (187, .array 4 3),
    (106, .struct #[fd "Name" 9 0 false "" 0, fd "Paper" 30 1 false "" 16, fd "Solid" 30 4 false "" 40, fd "Curve" 73 7 false "" 64, fd "Process" 24 8 false "" 88]),
    (5, .int .u8),
    (86, .slice 106),
    (143, .struct #[fd "X" 3 0 false "" 0, fd "Y" 3 1 false "" 8]),
    (22, .slice 9),
    (26, .struct #[fd "In" 3 0 false "" 0, fd "Out" 3 1 false "" 8, fd "Size" 3 2 false "" 16, fd "Values" 24 3 false "" 24]),
    (88, .struct #[fd "Inks" 22 0 false "" 0, fd "Process" 24 1 false "" 24, fd "Light" 24 2 false "" 48, fd "Gray" 26 3 false "" 72, fd "RGB" 26 7 false "" 120, fd "Spots" 86 11 false "" 168, fd "Total" 3 12 false "" 192]),
    (90, .array 8 5),
    (71, .slice 143),
    (73, .struct #[fd "Points" 71 0 false "" 0]),
    (32, .int .i64),
    (169, .pointer 88),
    (176, .pointer 106),
    (97, .array 4 5),
    (57, .slice 5),
    (122, .pointer 26),
    (4, .bool),
    (30, .struct #[fd "L" 3 0 false "" 0, fd "A" 3 1 false "" 8, fd "B" 3 2 false "" 16])],
  inf := [(3, (some (.int .i64 0), 1, 8)),
    (9, (some (.string ByteArray.empty), 1, 16)),
    (24, (some (.slice none 0 0), 1, 24)),
    (187, (some (.agg #[.int .i64 0, .int .i64 0, .int .i64 0, .int .i64 0]), 4, 32)),
    (106, (some (.agg #[.string ByteArray.empty, .int .i64 0, .int .i64 0, .int .i64 0, .int .i64 0, .int .i64 0, .int .i64 0, .slice none 0 0, .slice none 0 0]), 9, 112)),
    (5, (some (.int .u8 0), 1, 1)),
    (86, (some (.slice none 0 0), 1, 24)),
    (143, (some (.agg #[.int .i64 0, .int .i64 0]), 2, 16)),
    (22, (some (.slice none 0 0), 1, 24)),
    (26, (some (.agg #[.int .i64 0, .int .i64 0, .int .i64 0, .slice none 0 0]), 4, 48)),
    (88, (some (.agg #[.slice none 0 0, .slice none 0 0, .slice none 0 0, .int .i64 0, .int .i64 0, .int .i64 0, .slice none 0 0, .int .i64 0, .int .i64 0, .int .i64 0, .slice none 0 0, .slice none 0 0, .int .i64 0]), 13, 200)),
    (90, (some (.agg #[.int .u8 0, .int .u8 0, .int .u8 0, .int .u8 0, .int .u8 0, .int .u8 0, .int .u8 0, .int .u8 0]), 8, 8)),
    (71, (some (.slice none 0 0), 1, 24)),
    (73, (some (.agg #[.slice none 0 0]), 1, 24)),
    (32, (some (.int .i64 0), 1, 8)),
    (169, (some (.pointer none), 1, 8)),
    (176, (some (.pointer none), 1, 8)),
    (97, (some (.agg #[.int .u8 0, .int .u8 0, .int .u8 0, .int .u8 0]), 4, 4)),
    (57, (some (.slice none 0 0), 1, 24)),
    (122, (some (.pointer none), 1, 8)),
    (4, (some (.bool false), 1, 1)),
    (30, (some (.agg #[.int .i64 0, .int .i64 0, .int .i64 0]), 3, 24))],
  fld := [(106, [(0, (1, false)), (1, (3, true)), (4, (3, true)), (7, (1, true)), (8, (1, false))]),
    (143, [(0, (1, false)), (1, (1, false))]),
    (26, [(0, (1, false)), (1, (1, false)), (2, (1, false)), (3, (1, false))]),
    (88, [(0, (1, false)), (1, (1, false)), (2, (1, false)), (3, (4, true)), (7, (4, true)), (11, (1, false)), (12, (1, false))]),
    (73, [(0, (1, false))]),
    (30, [(0, (1, false)), (1, (1, false)), (2, (1, false))])],
  eqs := [(187, 4), (143, 2), (90, 8), (97, 4), (30, 3)] }
theorem conditionWorks_tab_ok : conditionWorks_tab.ok Try.prog := ⟨(by unfold conditionWorks_tab; (repeat (refine alP1 (by kernel_rfl) ?_)); exact trivial),
  (by unfold conditionWorks_tab; (repeat (refine alP1 (by kernel_rfl) ?_)); exact trivial),
  (by unfold conditionWorks_tab; (repeat (refine alP1 (by kernel_rfl) ?_)); exact trivial),
  (by unfold conditionWorks_tab; (repeat (refine alP1 ⟨by kernel_rfl, by kernel_rfl⟩ ?_)); exact trivial)⟩
noncomputable def conditionWorks_ctx : Ctx := ⟨conditionWorks_tab, [(49, Try.f49), (110, Try.f110), (120, Try.f120), (50, Try.f50), (53, Try.f53), (99, Try.f99), (98, Try.f98), (113, Try.f113), (114, Try.f114), (70, Try.f70), (101, Try.f101), (140, Try.f140), (115, Try.f115), (144, Try.f144), (72, Try.f72), (100, Try.f100), (86, Try.f86), (111, Try.f111), (125, Try.f125), (96, Try.f96), (138, Try.f138), (147, Try.f147), (118, Try.f118), (146, Try.f146), (157, Try.f157), (58, Try.f58), (117, Try.f117), (59, Try.f59), (119, Try.f119), (148, Try.f148)], [(49, 0), (110, 0), (120, 0), (50, 0), (53, 0), (99, 0), (98, 0), (113, 0), (114, 0), (70, 0), (101, 0), (140, 0), (115, 0), (144, 0), (72, 0), (100, 0), (86, 0), (111, 0), (125, 0), (96, 0), (138, 0), (147, 0), (118, 0), (146, 0), (157, 0), (58, 0), (117, 0), (59, 0), (119, 0), (148, 0)]⟩
def conditionWorks_cas : List (Nat × Nat) := [(49, 0), (110, 0), (120, 0), (50, 0), (53, 0), (99, 0), (98, 0), (113, 0), (114, 0), (70, 0), (101, 0), (140, 0), (115, 0), (144, 0), (72, 0), (100, 0), (86, 0), (111, 0), (125, 0), (96, 0), (138, 0), (147, 0), (118, 0), (146, 0), (157, 0), (58, 0), (117, 0), (59, 0), (119, 0), (148, 0)]
theorem conditionWorks_ctx_ok : conditionWorks_ctx.ok Try.prog := ⟨conditionWorks_tab_ok, ⟨Try.func49, ⟨Try.func110, ⟨Try.func120, ⟨Try.func50, ⟨Try.func53, ⟨Try.func99, ⟨Try.func98, ⟨Try.func113, ⟨Try.func114, ⟨Try.func70, ⟨Try.func101, ⟨Try.func140, ⟨Try.func115, ⟨Try.func144, ⟨Try.func72, ⟨Try.func100, ⟨Try.func86, ⟨Try.func111, ⟨Try.func125, ⟨Try.func96, ⟨Try.func138, ⟨Try.func147, ⟨Try.func118, ⟨Try.func146, ⟨Try.func157, ⟨Try.func58, ⟨Try.func117, ⟨Try.func59, ⟨Try.func119, ⟨Try.func148, trivial⟩⟩⟩⟩⟩⟩⟩⟩⟩⟩⟩⟩⟩⟩⟩⟩⟩⟩⟩⟩⟩⟩⟩⟩⟩⟩⟩⟩⟩⟩, (by unfold conditionWorks_cas; (repeat (refine alP1 (by kernel_rfl) ?_)); exact trivial : allP (fun k _ => callable Try.prog k = true) conditionWorks_cas), by kernel_rfl⟩
theorem conditionWorks_f : AF Try.prog 49 [] (.bool true) := Rn.AF.run conditionWorks_ctx_ok 1000 20 (by kernel_rfl)
def law_conditionWorks_r (_ : Nat) (_ : Unit) : Option (Bool × Unit) := some (true, ())
def law_conditionWorks_ctr : Ctr := ⟨.unit, .pair .bool .unit, law_conditionWorks_r, 49⟩
theorem law_conditionWorks_ok : CtrOk Try.prog 49 law_conditionWorks_ctr := fun _ _ y h => by
  have h : some (true, ()) = some y := h; injection h with h
  subst h; exact conditionWorks_f
end Go.Proofs.Ytjhdjjoacedlpaa
/- Residual programs of functions (printed by a program out of the code), checked by the kernel, and the contracts that follow. -/
namespace Go.Proofs.Ytjhdjjoacedlpaa
open Go Go.RowKit
set_option linter.unusedVariables false
def R_Total_l1 (fu : Nat) (a : List Int × Unit) (j0 : (Int × Int) → Option (Int × Unit)) (v0 : Int × Int) : Option (Int × Unit) :=
  bif (decide (v0.2 < (List.length a.1 : Int))) then
    bif ((decide ((0 : Int) ≤ v0.2)) && (decide (v0.2 < (List.length a.1 : Int)))) then
    let v1 : Int := (List.getD a.1 (Int.toNat v0.2) 0)
    let v2 : Int := (IntKind.i64.wrap (v0.1 + v1))
    j0 ((v2, (IntKind.i64.wrap (v0.2 + (1 : Int)))))
    else none
  else
  let v1 : Int := v0.1
  some ((v1, ()))
def R_Total_r (fu : Nat) (a : List Int × Unit) : Option (Int × Unit) :=
  loopF (R_Total_l1 fu a) fu (((0 : Int), (0 : Int)))
def R_Total_an : An := (.n none .z (.n none .z (.n none (.n none .z (.n none (.n (some ⟨[6, 7, 2], [], [], [.reg 3 (.int .i64), .reg 8 (.int .i64)], 0, []⟩) (.n none .z (.n none .z (.n none (.n none (.n none .z .z) .z) .z))) .z) .z)) (.n none .z .z))))
noncomputable def R_Total_dc : List (Nat × Ctr) := []
def R_Total_ctr : Ctr := ⟨(.pair (.list (.int .i64)) .unit), (.pair (.int .i64) .unit), R_Total_r, 145⟩
theorem R_Total_ok : CtrOk Try.prog 145 R_Total_ctr := ctr_ok (l := R_Total_dc) (f := 12) (an := R_Total_an) trivial fun fu x => by kernel_rfl
def R_Limited_l1 (fu : Nat) (a : List Int × Int × Int × Unit) (v1 : Int) (j2 : (Int × List Int) → Option (List Int × Unit)) (v2 : Int × List Int) : Option (List Int × Unit) :=
  bif (decide (v2.1 < (List.length a.1 : Int))) then
    bif ((decide ((0 : Int) ≤ v2.1)) && (decide (v2.1 < (List.length a.1 : Int)))) then
    let v3 : Int := (List.getD a.1 (Int.toNat v2.1) 0)
    let v4 : Int := v2.1
    bif (decide (v1 ≠ (0 : Int))) then
    bif ((decide ((0 : Int) ≤ v4)) && (decide (v4 < (List.length v2.2 : Int)))) then
    j2 (((IntKind.i64.wrap (v2.1 + (1 : Int))), (List.set v2.2 (Int.toNat v4) (IntKind.i64.wrap (Int.tdiv (IntKind.i64.wrap (v3 * a.2.2.1)) v1)))))
    else none
    else none
    else none
  else
  some ((v2.2, ()))
def R_Limited_j3 (fu : Nat) (j3 : (Int × List Int) → Option (List Int × Unit)) (v4 : Int × List Int) : Option (List Int × Unit) :=
  j3 (((IntKind.i64.wrap (v4.1 + (1 : Int))), v4.2))
def R_Limited_l2 (fu : Nat) (a : List Int × Int × Int × Unit) (v1 : Int) (v2 : Int) (j3 : (Int × List Int) → Option (List Int × Unit)) (v3 : Int × List Int) : Option (List Int × Unit) :=
  bif (decide (v3.1 < (List.length a.1 : Int))) then
    joinF (R_Limited_j3 fu j3) fun j4 =>
    bif ((decide ((0 : Int) ≤ v3.1)) && (decide (v3.1 < (List.length a.1 : Int)))) then
    let v5 : Int := (List.getD a.1 (Int.toNat v3.1) 0)
    let v6 : Int := v3.1
    let v7 : Bool := (decide (v6 = a.2.1))
    bif v7 then
      bif ((decide ((0 : Int) ≤ v6)) && (decide (v6 < (List.length v3.2 : Int)))) then
      j4 ((v3.1, (List.set v3.2 (Int.toNat v6) (min v2 a.2.2.1))))
      else none
    else
    let v8 : Bool := (decide (a.2.2.1 ≤ v2))
    bif v8 then
      bif ((decide ((0 : Int) ≤ v6)) && (decide (v6 < (List.length v3.2 : Int)))) then
      j4 ((v3.1, (List.set v3.2 (Int.toNat v6) (0 : Int))))
      else none
    else
    bif (decide ((IntKind.i64.wrap (v1 - v2)) ≠ (0 : Int))) then
    bif ((decide ((0 : Int) ≤ v6)) && (decide (v6 < (List.length v3.2 : Int)))) then
    j4 ((v3.1, (List.set v3.2 (Int.toNat v6) (IntKind.i64.wrap (Int.tdiv (IntKind.i64.wrap (v5 * (IntKind.i64.wrap (a.2.2.1 - v2)))) (IntKind.i64.wrap (v1 - v2)))))))
    else none
    else none
    else none
  else
  some ((v3.2, ()))
def R_Limited_r (fu : Nat) (a : List Int × Int × Int × Unit) : Option (List Int × Unit) :=
  bif (decide ((((List.length ([] : List (Int)) : Int) + (List.length a.1 : Int)) * (8 : Int)) ≤ (140737488355328 : Int))) then
  bindO (R_Total_r fu ((a.1, ()))) fun v0 =>
  let v1 : Int := v0.1
  bif (decide (v1 ≤ a.2.2.1)) then
    some (((([] : List (Int)) ++ a.1), ()))
  else
  bif (decide (a.2.1 < (0 : Int))) then
    loopF (R_Limited_l1 fu a v1) fu (((0 : Int), (([] : List (Int)) ++ a.1)))
  else
  bif ((decide ((0 : Int) ≤ a.2.1)) && (decide (a.2.1 < (List.length a.1 : Int)))) then
  let v2 : Int := (List.getD a.1 (Int.toNat a.2.1) 0)
  loopF (R_Limited_l2 fu a v1 v2) fu (((0 : Int), (([] : List (Int)) ++ a.1)))
  else none
  else none
def R_Limited_an : An := (.n none .z (.n none .z (.n none .z (.n none (.n none .z (.n none (.n none .z .z) .z)) (.n none (.n none .z (.n none (.n none (.n none .z (.n none (.n (some ⟨[7, 25, 2, 8, 26, 6], [], [], [.reg 27 (.int .i64), .row 0 false (.int .i64) 3 1], 0, []⟩) (.n none .z (.n none .z (.n none (.n none (.n none .z .z) .z) .z))) .z) .z)) (.n none .z .z)) .z)) (.n none .z (.n none (.n none .z (.n none (.n (some ⟨[7, 46, 1, 2, 8, 11, 47, 6], [], [], [.reg 48 (.int .i64), .row 0 false (.int .i64) 3 1], 0, []⟩) (.n none .z (.n none .z (.n (some ⟨[], [], [], [.reg 48 (.int .i64), .row 0 false (.int .i64) 3 1], 0, []⟩) (.n none (.n none .z (.n none (.n none .z (.n none .z (.n none .z (.n none .z .z)))) .z)) .z) .z))) .z) .z)) (.n none .z .z))))))))
noncomputable def R_Limited_dc : List (Nat × Ctr) := [(145, R_Total_ctr)]
def R_Limited_ctr : Ctr := ⟨(.pair (.list (.int .i64)) (.pair (.int .i64) (.pair (.int .i64) .unit))), (.pair (.list (.int .i64)) .unit), R_Limited_r, 116⟩
theorem R_Limited_ok : CtrOk Try.prog 116 R_Limited_ctr := ctr_ok (l := R_Limited_dc) (f := 12) (an := R_Limited_an) ⟨R_Total_ok, trivial⟩ fun fu x => by kernel_rfl
def R_Vector_l2 (fu : Nat) (v1 : List Int × Unit) (j2 : (Int × List Int) → Option ((Int × Int × Int × Int × Int × Int × Int × Int) × Unit)) (v2 : Int × List Int) : Option ((Int × Int × Int × Int × Int × Int × Int × Int) × Unit) :=
  bif (decide (v2.1 < (List.length v1.1 : Int))) then
    bif ((decide ((0 : Int) ≤ v2.1)) && (decide (v2.1 < (List.length v1.1 : Int)))) then
    let v3 : Int := (List.getD v1.1 (Int.toNat v2.1) 0)
    let v4 : Int := v2.1
    bif (((decide ((0 : Int) ≤ v4)) && (decide (v4 < (List.length v2.2 : Int)))) && (decide (v4 < (8 : Int)))) then
    j2 (((IntKind.i64.wrap (v2.1 + (1 : Int))), (List.set v2.2 (Int.toNat v4) (IntKind.u8.wrap v3))))
    else none
    else none
  else
  bif (decide ((List.length v2.2 : Int) = (8 : Int))) then
  some ((((List.getD v2.2 (Int.toNat (0 : Int)) 0), ((List.getD v2.2 (Int.toNat (1 : Int)) 0), ((List.getD v2.2 (Int.toNat (2 : Int)) 0), ((List.getD v2.2 (Int.toNat (3 : Int)) 0), ((List.getD v2.2 (Int.toNat (4 : Int)) 0), ((List.getD v2.2 (Int.toNat (5 : Int)) 0), ((List.getD v2.2 (Int.toNat (6 : Int)) 0), (List.getD v2.2 (Int.toNat (7 : Int)) 0)))))))), ()))
  else none
def R_Vector_j1 (fu : Nat) (a : (List (List UInt8) × List Int × List Int × (Int × Int × Int × List Int) × (Int × Int × Int × List Int) × List (List UInt8 × (Int × Int × Int) × (Int × Int × Int) × List (Int × Int) × List Int) × Int) × List Int × Unit) (v0 : Int) : Option ((Int × Int × Int × Int × Int × Int × Int × Int) × Unit) :=
  bindO (R_Limited_r fu ((a.2.1, (v0, (a.1.2.2.2.2.2.2, ()))))) fun v1 =>
  loopF (R_Vector_l2 fu v1) fu (((0 : Int), ([(0 : Int), (0 : Int), (0 : Int), (0 : Int), (0 : Int), (0 : Int), (0 : Int), (0 : Int)] : List Int)))
def R_Vector_r (fu : Nat) (a : (List (List UInt8) × List Int × List Int × (Int × Int × Int × List Int) × (Int × Int × Int × List Int) × List (List UInt8 × (Int × Int × Int) × (Int × Int × Int) × List (Int × Int) × List Int) × Int) × List Int × Unit) : Option ((Int × Int × Int × Int × Int × Int × Int × Int) × Unit) :=
  joinF (R_Vector_j1 fu a) fun j0 =>
  bif (decide ((List.length a.1.2.1 : Int) = (4 : Int))) then
    bif (decide ((3 : Int) < (List.length a.1.2.1 : Int))) then
    let v1 : Int := (List.getD a.1.2.1 (Int.toNat (3 : Int)) 0)
    j0 (v1)
    else none
  else
  j0 ((-1 : Int))
def R_Vector_an : An := (.n none .z (.n none .z (.n (some ⟨[1, 2, 4], [0, 1], [], [.reg 5 (.int .i64)], 0, []⟩) (.n none .z (.n none .z .z)) (.n none .z (.n none (.n none .z (.n none (.n (some ⟨[6, 21, 22], [], [], [.reg 23 (.int .i64), .row 2 true (.int .u8) 90 0], 0, []⟩) (.n none .z (.n none .z (.n none (.n none (.n none .z .z) .z) .z))) .z) .z)) (.n none .z .z))))))
noncomputable def R_Vector_dc : List (Nat × Ctr) := [(116, R_Limited_ctr)]
def R_Vector_ctr : Ctr := ⟨(.pair (.agg (.pair (.list .str) (.pair (.list (.int .i64)) (.pair (.list (.int .i64)) (.pair (.pair (.int .i64) (.pair (.int .i64) (.pair (.int .i64) (.list (.int .i64))))) (.pair (.pair (.int .i64) (.pair (.int .i64) (.pair (.int .i64) (.list (.int .i64))))) (.pair (.list (.pair .str (.pair (.pair (.int .i64) (.pair (.int .i64) (.int .i64))) (.pair (.pair (.int .i64) (.pair (.int .i64) (.int .i64))) (.pair (.list (.pair (.int .i64) (.int .i64))) (.list (.int .i64))))))) (.int .i64)))))))) (.pair (.list (.int .i64)) .unit)), (.pair (.agg (.pair (.int .u8) (.pair (.int .u8) (.pair (.int .u8) (.pair (.int .u8) (.pair (.int .u8) (.pair (.int .u8) (.pair (.int .u8) (.int .u8))))))))) .unit), R_Vector_r, 54⟩
theorem R_Vector_ok : CtrOk Try.prog 54 R_Vector_ctr := ctr_ok (l := R_Vector_dc) (f := 12) (an := R_Vector_an) ⟨R_Limited_ok, trivial⟩ fun fu x => by kernel_rfl
def R_Floor_j1 (fu : Nat) (v1 : Int) : Option (Int × Unit) :=
  some ((v1, ()))
def R_Floor_r (fu : Nat) (a : Int × Int × Unit) : Option (Int × Unit) :=
  bif (decide (a.2.1 ≠ (0 : Int))) then
  let v0 : Int := (IntKind.i64.wrap (Int.tdiv a.1 a.2.1))
  joinF (R_Floor_j1 fu) fun j1 =>
  bif (decide (a.1 < (IntKind.i64.wrap (v0 * a.2.1)))) then
    let v2 : Int := (IntKind.i64.wrap (v0 - (1 : Int)))
    j1 (v2)
  else
  j1 (v0)
  else none
def R_Floor_an : An := (.n none .z (.n none .z (.n (some ⟨[], [], [], [.reg 5 (.int .i64)], 0, []⟩) (.n none .z (.n none .z .z)) (.n none .z .z))))
noncomputable def R_Floor_dc : List (Nat × Ctr) := []
def R_Floor_ctr : Ctr := ⟨(.pair (.int .i64) (.pair (.int .i64) .unit)), (.pair (.int .i64) .unit), R_Floor_r, 103⟩
theorem R_Floor_ok : CtrOk Try.prog 103 R_Floor_ctr := ctr_ok (l := R_Floor_dc) (f := 12) (an := R_Floor_an) trivial fun fu x => by kernel_rfl
def R_Round_j1 (fu : Nat) (v2 : Int) : Option (Int × Unit) :=
  some ((v2, ()))
def R_Round_r (fu : Nat) (a : Int × Int × Unit) : Option (Int × Unit) :=
  bindO (R_Floor_r fu ((a.1, (a.2.1, ())))) fun v0 =>
  let v1 : Int := v0.1
  joinF (R_Round_j1 fu) fun j2 =>
  bif (decide (a.2.1 ≤ (IntKind.i64.wrap ((2 : Int) * (IntKind.i64.wrap (a.1 - (IntKind.i64.wrap (v1 * a.2.1)))))))) then
    let v3 : Int := (IntKind.i64.wrap (v1 + (1 : Int)))
    j2 (v3)
  else
  j2 (v1)
def R_Round_an : An := (.n none .z (.n none .z (.n (some ⟨[], [], [], [.reg 5 (.int .i64)], 0, []⟩) (.n none .z (.n none .z .z)) (.n none .z .z))))
noncomputable def R_Round_dc : List (Nat × Ctr) := [(103, R_Floor_ctr)]
def R_Round_ctr : Ctr := ⟨(.pair (.int .i64) (.pair (.int .i64) .unit)), (.pair (.int .i64) .unit), R_Round_r, 84⟩
theorem R_Round_ok : CtrOk Try.prog 84 R_Round_ctr := ctr_ok (l := R_Round_dc) (f := 12) (an := R_Round_an) ⟨R_Floor_ok, trivial⟩ fun fu x => by kernel_rfl
def law_none_r (fu : Nat) (a : Bool × Int × Int × Unit) : Option (Bool × Unit) :=
  bif a.1 then
    let v0 : Bool := (decide (a.2.1 = a.2.2.1))
    some ((v0, ()))
  else
  some ((false, ()))
def law_none_an : An := (.n none .z (.n none .z .z))
noncomputable def law_none_dc : List (Nat × Ctr) := []
def law_none_ctr : Ctr := ⟨(.pair .bool (.pair (.int .i64) (.pair (.int .i64) .unit))), (.pair .bool .unit), law_none_r, 20⟩
theorem law_none_ok : CtrOk Try.prog 20 law_none_ctr := ctr_ok (l := law_none_dc) (f := 12) (an := law_none_an) trivial fun fu x => by kernel_rfl
def R_SpotAt_l1 (fu : Nat) (a : List (List UInt8 × (Int × Int × Int) × (Int × Int × Int) × List (Int × Int) × List Int) × List UInt8 × Unit) (j1 : (Int) → Option (Int × Unit)) (v1 : Int) : Option (Int × Unit) :=
  bif (decide ((0 : Int) ≤ v1)) then
    bif ((decide ((0 : Int) ≤ v1)) && (decide (v1 < (List.length a.1 : Int)))) then
    let v2 : List UInt8 × (Int × Int × Int) × (Int × Int × Int) × List (Int × Int) × List Int := (List.getD a.1 (Int.toNat v1) ([], ((0, (0, 0)), ((0, (0, 0)), ([], [])))))
    bif (decide (v2.1 = a.2.1)) then
      some ((v1, ()))
    else
    let v3 : Int := (IntKind.i64.wrap (v1 - (1 : Int)))
    j1 (v3)
    else none
  else
  some (((-1 : Int), ()))
def R_SpotAt_r (fu : Nat) (a : List (List UInt8 × (Int × Int × Int) × (Int × Int × Int) × List (Int × Int) × List Int) × List UInt8 × Unit) : Option (Int × Unit) :=
  let v0 : Int := (IntKind.i64.wrap ((List.length a.1 : Int) - (1 : Int)))
  loopF (R_SpotAt_l1 fu a) fu (v0)
def R_SpotAt_an : An := (.n none .z (.n none (.n none .z (.n none (.n (some ⟨[0, 1], [], [], [.reg 5 (.int .i64)], 0, []⟩) (.n none (.n none .z .z) (.n none (.n none (.n none .z (.n none (.n none .z .z) .z)) .z) .z)) .z) .z)) (.n none .z .z)))
noncomputable def R_SpotAt_dc : List (Nat × Ctr) := []
def R_SpotAt_ctr : Ctr := ⟨(.pair (.list (.pair .str (.pair (.pair (.int .i64) (.pair (.int .i64) (.int .i64))) (.pair (.pair (.int .i64) (.pair (.int .i64) (.int .i64))) (.pair (.list (.pair (.int .i64) (.int .i64))) (.list (.int .i64))))))) (.pair .str .unit)), (.pair (.int .i64) .unit), R_SpotAt_r, 61⟩
theorem R_SpotAt_ok : CtrOk Try.prog 61 R_SpotAt_ctr := ctr_ok (l := R_SpotAt_dc) (f := 12) (an := R_SpotAt_an) trivial fun fu x => by kernel_rfl
def R_Within_r (fu : Nat) (a : Int × Int × Int × Unit) : Option (Bool × Unit) :=
  bif (decide (a.2.1 ≤ a.1)) then
    let v0 : Bool := (decide (a.1 ≤ a.2.2.1))
    some ((v0, ()))
  else
  some ((false, ()))
def R_Within_an : An := (.n none .z (.n none .z .z))
noncomputable def R_Within_dc : List (Nat × Ctr) := []
def R_Within_ctr : Ctr := ⟨(.pair (.int .i64) (.pair (.int .i64) (.pair (.int .i64) .unit))), (.pair .bool .unit), R_Within_r, 79⟩
theorem R_Within_ok : CtrOk Try.prog 79 R_Within_ctr := ctr_ok (l := R_Within_dc) (f := 12) (an := R_Within_an) trivial fun fu x => by kernel_rfl
def R_TonesErr_l1 (fu : Nat) (a : List Int × Int × Int × Unit) (j0 : (Int) → Option (Int × Unit)) (v0 : Int) : Option (Int × Unit) :=
  bif (decide (v0 < (List.length a.1 : Int))) then
    bif ((decide ((0 : Int) ≤ v0)) && (decide (v0 < (List.length a.1 : Int)))) then
    let v1 : Int := (List.getD a.1 (Int.toNat v0) 0)
    bindO (R_Within_r fu ((v1, ((0 : Int), (a.2.2.1, ()))))) fun v2 =>
    bif (!v2.1) then
      some (((3 : Int), ()))
    else
    j0 ((IntKind.i64.wrap (v0 + (1 : Int))))
    else none
  else
  some (((0 : Int), ()))
def R_TonesErr_r (fu : Nat) (a : List Int × Int × Int × Unit) : Option (Int × Unit) :=
  bif (decide ((List.length a.1 : Int) ≠ a.2.1)) then
    some (((4 : Int), ()))
  else
  loopF (R_TonesErr_l1 fu a) fu ((0 : Int))
def R_TonesErr_an : An := (.n none .z (.n none (.n none .z (.n none (.n none .z .z) .z)) (.n none (.n none .z (.n none (.n (some ⟨[13, 2, 14], [], [], [.reg 15 (.int .i64)], 0, []⟩) (.n none .z (.n none .z (.n none (.n none (.n none .z (.n none .z (.n none (.n none .z .z) .z))) .z) .z))) .z) .z)) (.n none .z .z))))
noncomputable def R_TonesErr_dc : List (Nat × Ctr) := [(79, R_Within_ctr)]
def R_TonesErr_ctr : Ctr := ⟨(.pair (.list (.int .i64)) (.pair (.int .i64) (.pair (.int .i64) .unit))), (.pair (.int .i64) .unit), R_TonesErr_r, 41⟩
theorem R_TonesErr_ok : CtrOk Try.prog 41 R_TonesErr_ctr := ctr_ok (l := R_TonesErr_dc) (f := 12) (an := R_TonesErr_an) ⟨R_Within_ok, trivial⟩ fun fu x => by kernel_rfl
def R_CurveErr_j3 (fu : Nat) (v0 : Int × Int × Int) (v1 : Int × Int) (j0 : (Int × Int × Int) → Option (Int × Unit)) (v3 : Bool) : Option (Int × Unit) :=
  bif v3 then
    some (((18 : Int), ()))
  else
  let v4 : Int := v1.1
  let v5 : Int := v1.2
  j0 ((v4, (v5, (IntKind.i64.wrap (v0.2.2 + (1 : Int))))))
def R_CurveErr_j2 (fu : Nat) (v0 : Int × Int × Int) (v1 : Int × Int) (j0 : (Int × Int × Int) → Option (Int × Unit)) (v2 : Bool) : Option (Int × Unit) :=
  bif v2 then
    some (((3 : Int), ()))
  else
  joinF (R_CurveErr_j3 fu v0 v1 j0) fun j3 =>
  bif (decide (v1.1 ≤ v0.1)) then
    j3 (true)
  else
  j3 ((decide (v1.2 < v0.2.1)))
def R_CurveErr_j4 (fu : Nat) (v1 : Bool) : Option (Int × Unit) :=
  bif v1 then
    some (((4 : Int), ()))
  else
  some (((0 : Int), ()))
def R_CurveErr_l1 (fu : Nat) (a : List (Int × Int) × Unit) (j0 : (Int × Int × Int) → Option (Int × Unit)) (v0 : Int × Int × Int) : Option (Int × Unit) :=
  bif (decide (v0.2.2 < (List.length a.1 : Int))) then
    bif ((decide ((0 : Int) ≤ v0.2.2)) && (decide (v0.2.2 < (List.length a.1 : Int)))) then
    let v1 : Int × Int := (List.getD a.1 (Int.toNat v0.2.2) (0, 0))
    joinF (R_CurveErr_j2 fu v0 v1 j0) fun j2 =>
    bindO (R_Within_r fu ((v1.1, ((0 : Int), ((65280 : Int), ()))))) fun v3 =>
    bif (!v3.1) then
      j2 (true)
    else
    bindO (R_Within_r fu ((v1.2, ((0 : Int), ((65280 : Int), ()))))) fun v4 =>
    j2 ((!v4.1))
    else none
  else
  joinF (R_CurveErr_j4 fu) fun j1 =>
  bif (decide ((0 : Int) < (List.length a.1 : Int))) then
  let v2 : Int × Int := (List.getD a.1 (Int.toNat (0 : Int)) (0, 0))
  bif (decide (v2.1 ≠ (0 : Int))) then
    j1 (true)
  else
  j1 ((decide (v0.1 ≠ (65280 : Int))))
  else none
def R_CurveErr_r (fu : Nat) (a : List (Int × Int) × Unit) : Option (Int × Unit) :=
  bif (decide ((33 : Int) < (List.length a.1 : Int))) then
    some (((2 : Int), ()))
  else
  bif (decide ((List.length a.1 : Int) < (2 : Int))) then
    some (((1 : Int), ()))
  else
  loopF (R_CurveErr_l1 fu a) fu (((-1 : Int), ((0 : Int), (0 : Int))))
def R_CurveErr_an : An := (.n none .z (.n none (.n none .z (.n none (.n none .z .z) .z)) (.n none (.n none .z (.n none (.n none .z .z) .z)) (.n none .z (.n none (.n none .z (.n none (.n (some ⟨[1, 16, 17], [0], [], [.reg 3 (.int .i64), .reg 4 (.int .i64), .reg 18 (.int .i64)], 0, []⟩) (.n none .z (.n none .z (.n none (.n none (.n none .z (.n none (.n (some ⟨[3, 4, 6, 18], [1], [], [.reg 31 .bool], 0, []⟩) .z (.n none (.n none .z .z) .z)) (.n none (.n (some ⟨[6, 18, 4, 3], [1], [], [.reg 41 .bool], 0, []⟩) .z (.n none (.n none .z .z) .z)) (.dr [] [])))) .z) .z))) .z) .z)) (.n none (.n (some ⟨[], [0], [], [.reg 56 .bool], 0, []⟩) .z (.n none (.n none .z .z) .z)) (.n none .z .z)))))))
noncomputable def R_CurveErr_dc : List (Nat × Ctr) := [(79, R_Within_ctr)]
def R_CurveErr_ctr : Ctr := ⟨(.pair (.agg (.list (.pair (.int .i64) (.int .i64)))) .unit), (.pair (.int .i64) .unit), R_CurveErr_r, 77⟩
theorem R_CurveErr_ok : CtrOk Try.prog 77 R_CurveErr_ctr := ctr_ok (l := R_CurveErr_dc) (f := 12) (an := R_CurveErr_an) ⟨R_Within_ok, trivial⟩ fun fu x => by kernel_rfl
def R_LabErr_j1 (fu : Nat) (v0 : Bool) : Option (Int × Unit) :=
  bif v0 then
    some (((3 : Int), ()))
  else
  some (((0 : Int), ()))
def R_LabErr_r (fu : Nat) (a : (Int × Int × Int) × Unit) : Option (Int × Unit) :=
  joinF (R_LabErr_j1 fu) fun j0 =>
  bindO (R_Within_r fu ((a.1.1, ((0 : Int), ((10000 : Int), ()))))) fun v1 =>
  bif (!v1.1) then
    j0 (true)
  else
  bindO (R_Within_r fu ((a.1.2.1, ((-12800 : Int), ((12800 : Int), ()))))) fun v2 =>
  bif (!v2.1) then
    j0 (true)
  else
  bindO (R_Within_r fu ((a.1.2.2, ((-12800 : Int), ((12800 : Int), ()))))) fun v3 =>
  j0 ((!v3.1))
def R_LabErr_an : An := (.n none .z (.n none (.n (some ⟨[], [0], [], [.reg 18 .bool], 0, []⟩) .z (.n none (.n none .z .z) .z)) (.n none .z .z)))
noncomputable def R_LabErr_dc : List (Nat × Ctr) := [(79, R_Within_ctr)]
def R_LabErr_ctr : Ctr := ⟨(.pair (.agg (.pair (.int .i64) (.pair (.int .i64) (.int .i64)))) .unit), (.pair (.int .i64) .unit), R_LabErr_r, 18⟩
theorem R_LabErr_ok : CtrOk Try.prog 18 R_LabErr_ctr := ctr_ok (l := R_LabErr_dc) (f := 12) (an := R_LabErr_an) ⟨R_Within_ok, trivial⟩ fun fu x => by kernel_rfl
def R_Name_j4 (fu : Nat) (v1 : Int) (j1 : (Int) → Option (Bool × Unit)) (v3 : Bool) : Option (Bool × Unit) :=
  bif v3 then
    some ((false, ()))
  else
  j1 ((IntKind.i64.wrap (v1 + (1 : Int))))
def R_Name_j3 (fu : Nat) (a : List UInt8 × Unit) (v1 : Int) (j1 : (Int) → Option (Bool × Unit)) (v2 : Bool) : Option (Bool × Unit) :=
  joinF (R_Name_j4 fu v1 j1) fun j3 =>
  bif (!v2) then
    bif (decide (v1 = (0 : Int))) then
      j3 (true)
    else
    bif ((decide ((0 : Int) ≤ v1)) && (decide (v1 < (List.length a.1 : Int)))) then
    bif (decide (((List.getD a.1 (Int.toNat v1) 0).toNat : Int) ≠ (45 : Int))) then
      bif ((decide ((0 : Int) ≤ v1)) && (decide (v1 < (List.length a.1 : Int)))) then
      bif (decide (((List.getD a.1 (Int.toNat v1) 0).toNat : Int) < (48 : Int))) then
        j3 (true)
      else
      bif ((decide ((0 : Int) ≤ v1)) && (decide (v1 < (List.length a.1 : Int)))) then
      j3 ((decide ((57 : Int) < ((List.getD a.1 (Int.toNat v1) 0).toNat : Int))))
      else none
      else none
    else
    j3 (false)
    else none
  else
  j3 (false)
def R_Name_l2 (fu : Nat) (a : List UInt8 × Unit) (j1 : (Int) → Option (Bool × Unit)) (v1 : Int) : Option (Bool × Unit) :=
  bif (decide (v1 < (List.length a.1 : Int))) then
    joinF (R_Name_j3 fu a v1 j1) fun j2 =>
    bif ((decide ((0 : Int) ≤ v1)) && (decide (v1 < (List.length a.1 : Int)))) then
    bif (decide ((97 : Int) ≤ ((List.getD a.1 (Int.toNat v1) 0).toNat : Int))) then
      bif ((decide ((0 : Int) ≤ v1)) && (decide (v1 < (List.length a.1 : Int)))) then
      let v3 : Bool := (decide (((List.getD a.1 (Int.toNat v1) 0).toNat : Int) ≤ (122 : Int)))
      j2 (v3)
      else none
    else
    j2 (false)
    else none
  else
  some ((true, ()))
def R_Name_j1 (fu : Nat) (a : List UInt8 × Unit) (v0 : Bool) : Option (Bool × Unit) :=
  bif v0 then
    some ((false, ()))
  else
  loopF (R_Name_l2 fu a) fu ((0 : Int))
def R_Name_r (fu : Nat) (a : List UInt8 × Unit) : Option (Bool × Unit) :=
  joinF (R_Name_j1 fu a) fun j0 =>
  bif (decide ((List.length a.1 : Int) < (1 : Int))) then
    j0 (true)
  else
  j0 ((decide ((16 : Int) < (List.length a.1 : Int))))
def R_Name_an : An := (.n none .z (.n none (.n (some ⟨[0], [], [], [.reg 12 .bool], 0, []⟩) .z (.n none (.n none .z .z) .z)) (.n none (.n none .z (.n none (.n (some ⟨[0, 14], [], [], [.reg 15 (.int .i64)], 0, []⟩) (.n none .z (.n none .z (.n none (.n none (.n none .z (.n (some ⟨[3, 15], [], [], [.reg 4 .bool], 0, []⟩) .z (.n (some ⟨[], [], [], [.reg 51 .bool], 0, []⟩) .z (.n none (.n none .z .z) .z)))) .z) .z))) .z) .z)) (.n none .z .z))))
noncomputable def R_Name_dc : List (Nat × Ctr) := []
def R_Name_ctr : Ctr := ⟨(.pair .str .unit), (.pair .bool .unit), R_Name_r, 75⟩
theorem R_Name_ok : CtrOk Try.prog 75 R_Name_ctr := ctr_ok (l := R_Name_dc) (f := 12) (an := R_Name_an) trivial fun fu x => by kernel_rfl
def R_SpotErr_j1 (fu : Nat) (a : (List UInt8 × (Int × Int × Int) × (Int × Int × Int) × List (Int × Int) × List Int) × Unit) (v1 : Bool) : Option (Int × Unit) :=
  bif v1 then
    some (((3 : Int), ()))
  else
  bindO (R_CurveErr_r fu ((a.1.2.2.2.1, ()))) fun v2 =>
  let v3 : Int := v2.1
  bif (decide (v3 ≠ (0 : Int))) then
    some ((v3, ()))
  else
  bif (decide ((8 : Int) < (List.length a.1.2.2.2.2 : Int))) then
    some (((2 : Int), ()))
  else
  bindO (R_TonesErr_r fu ((a.1.2.2.2.2, ((List.length a.1.2.2.2.2 : Int), ((255 : Int), ()))))) fun v4 =>
  let v5 : Int := v4.1
  some ((v5, ()))
def R_SpotErr_r (fu : Nat) (a : (List UInt8 × (Int × Int × Int) × (Int × Int × Int) × List (Int × Int) × List Int) × Unit) : Option (Int × Unit) :=
  bindO (R_Name_r fu ((a.1.1, ()))) fun v0 =>
  bif (!v0.1) then
    some (((6 : Int), ()))
  else
  joinF (R_SpotErr_j1 fu a) fun j1 =>
  bindO (R_LabErr_r fu ((a.1.2.1, ()))) fun v2 =>
  bif (decide (v2.1 ≠ (0 : Int))) then
    j1 (true)
  else
  bindO (R_LabErr_r fu ((a.1.2.2.1, ()))) fun v3 =>
  j1 ((decide (v3.1 ≠ (0 : Int))))
def R_SpotErr_an : An := (.n none .z (.n none (.n none .z (.n none (.n none .z .z) .z)) (.n none (.n (some ⟨[1], [0], [], [.reg 17 .bool], 0, []⟩) .z (.n none (.n none .z .z) .z)) (.n none (.n none .z (.n none .z (.n none (.n none .z .z) .z))) (.n none (.n none .z (.n none (.n none .z .z) .z)) (.n none .z .z))))))
noncomputable def R_SpotErr_dc : List (Nat × Ctr) := [(18, R_LabErr_ctr), (41, R_TonesErr_ctr), (75, R_Name_ctr), (77, R_CurveErr_ctr)]
def R_SpotErr_ctr : Ctr := ⟨(.pair (.agg (.pair .str (.pair (.pair (.int .i64) (.pair (.int .i64) (.int .i64))) (.pair (.pair (.int .i64) (.pair (.int .i64) (.int .i64))) (.pair (.list (.pair (.int .i64) (.int .i64))) (.list (.int .i64))))))) .unit), (.pair (.int .i64) .unit), R_SpotErr_r, 143⟩
theorem R_SpotErr_ok : CtrOk Try.prog 143 R_SpotErr_ctr := ctr_ok (l := R_SpotErr_dc) (f := 12) (an := R_SpotErr_an) ⟨R_LabErr_ok, ⟨R_TonesErr_ok, ⟨R_Name_ok, ⟨R_CurveErr_ok, trivial⟩⟩⟩⟩ fun fu x => by kernel_rfl
def R_SpotsErr_l1 (fu : Nat) (a : List (List UInt8 × (Int × Int × Int) × (Int × Int × Int) × List (Int × Int) × List Int) × Unit) (j0 : (Int) → Option (Int × Unit)) (v0 : Int) : Option (Int × Unit) :=
  bif (decide (v0 < (List.length a.1 : Int))) then
    bif ((decide ((0 : Int) ≤ v0)) && (decide (v0 < (List.length a.1 : Int)))) then
    let v1 : List UInt8 × (Int × Int × Int) × (Int × Int × Int) × List (Int × Int) × List Int := (List.getD a.1 (Int.toNat v0) ([], ((0, (0, 0)), ((0, (0, 0)), ([], [])))))
    bindO (R_SpotErr_r fu ((v1, ()))) fun v2 =>
    let v3 : Int := v2.1
    bif (decide (v3 ≠ (0 : Int))) then
      some ((v3, ()))
    else
    bif ((decide ((0 : Int) ≤ v0)) && (decide (v0 ≤ (List.length a.1 : Int)))) then
    bindO (R_SpotAt_r fu (((List.drop (Int.toNat (0 : Int)) (List.take (Int.toNat v0) a.1)), (v1.1, ())))) fun v4 =>
    bif (decide ((0 : Int) ≤ v4.1)) then
      some (((7 : Int), ()))
    else
    j0 ((IntKind.i64.wrap (v0 + (1 : Int))))
    else none
    else none
  else
  some (((0 : Int), ()))
def R_SpotsErr_r (fu : Nat) (a : List (List UInt8 × (Int × Int × Int) × (Int × Int × Int) × List (Int × Int) × List Int) × Unit) : Option (Int × Unit) :=
  bif (decide ((40 : Int) < (List.length a.1 : Int))) then
    some (((2 : Int), ()))
  else
  loopF (R_SpotsErr_l1 fu a) fu ((0 : Int))
def R_SpotsErr_an : An := (.n none .z (.n none (.n none .z (.n none (.n none .z .z) .z)) (.n none (.n none .z (.n none (.n (some ⟨[9, 0, 10], [], [], [.reg 11 (.int .i64)], 0, []⟩) (.n none .z (.n none .z (.n none (.n none (.n none .z (.n none (.n none .z (.n none .z (.n none (.n none .z .z) .z))) (.n none (.dr [] []) (.n none (.n none .z .z) .z)))) .z) .z))) .z) .z)) (.n none .z .z))))
noncomputable def R_SpotsErr_dc : List (Nat × Ctr) := [(61, R_SpotAt_ctr), (143, R_SpotErr_ctr)]
def R_SpotsErr_ctr : Ctr := ⟨(.pair (.list (.pair .str (.pair (.pair (.int .i64) (.pair (.int .i64) (.int .i64))) (.pair (.pair (.int .i64) (.pair (.int .i64) (.int .i64))) (.pair (.list (.pair (.int .i64) (.int .i64))) (.list (.int .i64))))))) .unit), (.pair (.int .i64) .unit), R_SpotsErr_r, 112⟩
theorem R_SpotsErr_ok : CtrOk Try.prog 112 R_SpotsErr_ctr := ctr_ok (l := R_SpotsErr_dc) (f := 12) (an := R_SpotsErr_an) ⟨R_SpotAt_ok, ⟨R_SpotErr_ok, trivial⟩⟩ fun fu x => by kernel_rfl
def R_Power_l1 (fu : Nat) (a : Int × Int × Unit) (j0 : (Int × Int) → Option (Int × Unit)) (v0 : Int × Int) : Option (Int × Unit) :=
  bif (decide (v0.2 < a.2.1)) then
    let v1 : Int := (IntKind.i64.wrap (v0.1 * a.1))
    j0 ((v1, (IntKind.i64.wrap (v0.2 + (1 : Int)))))
  else
  let v1 : Int := v0.1
  some ((v1, ()))
def R_Power_r (fu : Nat) (a : Int × Int × Unit) : Option (Int × Unit) :=
  loopF (R_Power_l1 fu a) fu (((1 : Int), (0 : Int)))
def R_Power_an : An := (.n none .z (.n none .z (.n none (.n none .z (.n none (.n (some ⟨[0, 6, 4], [], [], [.reg 5 (.int .i64), .reg 7 (.int .i64)], 0, []⟩) (.n none .z (.n none .z (.n none (.n none .z .z) .z))) .z) .z)) (.n none .z .z))))
noncomputable def R_Power_dc : List (Nat × Ctr) := []
def R_Power_ctr : Ctr := ⟨(.pair (.int .i64) (.pair (.int .i64) .unit)), (.pair (.int .i64) .unit), R_Power_r, 66⟩
theorem R_Power_ok : CtrOk Try.prog 66 R_Power_ctr := ctr_ok (l := R_Power_dc) (f := 12) (an := R_Power_an) trivial fun fu x => by kernel_rfl
def R_ShapeErr_j1 (fu : Nat) (a : Int × Int × Int × Unit) (v0 : Bool) : Option (Int × Unit) :=
  bif v0 then
    some (((3 : Int), ()))
  else
  bindO (R_Power_r fu ((a.2.2.1, (a.1, ())))) fun v1 =>
  bif (decide ((32768 : Int) < (IntKind.i64.wrap (v1.1 * a.2.1)))) then
    some (((2 : Int), ()))
  else
  some (((0 : Int), ()))
def R_ShapeErr_r (fu : Nat) (a : Int × Int × Int × Unit) : Option (Int × Unit) :=
  joinF (R_ShapeErr_j1 fu a) fun j0 =>
  bindO (R_Within_r fu ((a.1, ((1 : Int), ((4 : Int), ()))))) fun v1 =>
  bif (!v1.1) then
    j0 (true)
  else
  bindO (R_Within_r fu ((a.2.1, ((1 : Int), ((8 : Int), ()))))) fun v2 =>
  bif (!v2.1) then
    j0 (true)
  else
  bindO (R_Within_r fu ((a.2.2.1, ((2 : Int), ((9 : Int), ()))))) fun v3 =>
  bif (!v3.1) then
    j0 (true)
  else
  j0 ((decide (a.2.2.1 = (8 : Int))))
def R_ShapeErr_an : An := (.n none .z (.n none (.n (some ⟨[2, 0, 1], [], [], [.reg 23 .bool], 0, []⟩) .z (.n none (.n none .z .z) .z)) (.n none (.n none .z (.n none (.n none .z .z) .z)) (.n none .z .z))))
noncomputable def R_ShapeErr_dc : List (Nat × Ctr) := [(66, R_Power_ctr), (79, R_Within_ctr)]
def R_ShapeErr_ctr : Ctr := ⟨(.pair (.int .i64) (.pair (.int .i64) (.pair (.int .i64) .unit))), (.pair (.int .i64) .unit), R_ShapeErr_r, 131⟩
theorem R_ShapeErr_ok : CtrOk Try.prog 131 R_ShapeErr_ctr := ctr_ok (l := R_ShapeErr_dc) (f := 12) (an := R_ShapeErr_an) ⟨R_Power_ok, ⟨R_Within_ok, trivial⟩⟩ fun fu x => by kernel_rfl
def R_GridErr_l1 (fu : Nat) (a : (Int × Int × Int × List Int) × Unit) (j3 : (Int) → Option (Int × Unit)) (v3 : Int) : Option (Int × Unit) :=
  bif (decide (v3 < (List.length a.1.2.2.2 : Int))) then
    bif ((decide ((0 : Int) ≤ v3)) && (decide (v3 < (List.length a.1.2.2.2 : Int)))) then
    let v4 : Int := (List.getD a.1.2.2.2 (Int.toNat v3) 0)
    bindO (R_Within_r fu ((v4, ((-32768 : Int), ((65535 : Int), ()))))) fun v5 =>
    bif (!v5.1) then
      some (((3 : Int), ()))
    else
    j3 ((IntKind.i64.wrap (v3 + (1 : Int))))
    else none
  else
  some (((0 : Int), ()))
def R_GridErr_r (fu : Nat) (a : (Int × Int × Int × List Int) × Unit) : Option (Int × Unit) :=
  bindO (R_ShapeErr_r fu ((a.1.1, (a.1.2.1, (a.1.2.2.1, ()))))) fun v0 =>
  let v1 : Int := v0.1
  bif (decide (v1 ≠ (0 : Int))) then
    some ((v1, ()))
  else
  bindO (R_Power_r fu ((a.1.2.2.1, (a.1.1, ())))) fun v2 =>
  bif (decide ((List.length a.1.2.2.2 : Int) ≠ (IntKind.i64.wrap (v2.1 * a.1.2.1)))) then
    some (((4 : Int), ()))
  else
  loopF (R_GridErr_l1 fu a) fu ((0 : Int))
def R_GridErr_an : An := (.n none .z (.n none (.n none .z (.n none .z (.n none (.n none .z .z) .z))) (.n none (.n none (.dr [] []) (.n none (.n none .z .z) .z)) (.n none (.n none .z (.n none (.n (some ⟨[29, 30], [0], [], [.reg 31 (.int .i64)], 0, []⟩) (.n none .z (.n none .z (.n none (.n none (.n none .z (.n none .z (.n none (.n none .z .z) .z))) .z) .z))) .z) .z)) (.n none .z .z)))))
noncomputable def R_GridErr_dc : List (Nat × Ctr) := [(66, R_Power_ctr), (79, R_Within_ctr), (131, R_ShapeErr_ctr)]
def R_GridErr_ctr : Ctr := ⟨(.pair (.agg (.pair (.int .i64) (.pair (.int .i64) (.pair (.int .i64) (.list (.int .i64)))))) .unit), (.pair (.int .i64) .unit), R_GridErr_r, 78⟩
theorem R_GridErr_ok : CtrOk Try.prog 78 R_GridErr_ctr := ctr_ok (l := R_GridErr_dc) (f := 12) (an := R_GridErr_an) ⟨R_Power_ok, ⟨R_Within_ok, ⟨R_ShapeErr_ok, trivial⟩⟩⟩ fun fu x => by kernel_rfl
def R_LinkErr_r (fu : Nat) (a : (Int × Int × Int × List Int) × Unit) : Option (Int × Unit) :=
  bindO (R_GridErr_r fu ((a.1, ()))) fun v0 =>
  let v1 : Int := v0.1
  bif (decide (v1 ≠ (0 : Int))) then
    some ((v1, ()))
  else
  bindO (R_TonesErr_r fu ((a.1.2.2.2, ((List.length a.1.2.2.2 : Int), ((65280 : Int), ()))))) fun v2 =>
  let v3 : Int := v2.1
  some ((v3, ()))
def R_LinkErr_an : An := (.n none .z (.n none (.n none .z (.n none .z (.n none (.n none .z .z) .z))) (.n none .z .z)))
noncomputable def R_LinkErr_dc : List (Nat × Ctr) := [(41, R_TonesErr_ctr), (78, R_GridErr_ctr)]
def R_LinkErr_ctr : Ctr := ⟨(.pair (.agg (.pair (.int .i64) (.pair (.int .i64) (.pair (.int .i64) (.list (.int .i64)))))) .unit), (.pair (.int .i64) .unit), R_LinkErr_r, 69⟩
theorem R_LinkErr_ok : CtrOk Try.prog 69 R_LinkErr_ctr := ctr_ok (l := R_LinkErr_dc) (f := 12) (an := R_LinkErr_an) ⟨R_TonesErr_ok, ⟨R_GridErr_ok, trivial⟩⟩ fun fu x => by kernel_rfl
def R_NamesErr_l2 (fu : Nat) (a : List (List UInt8) × Unit) (v0 : Int) (v1 : List UInt8) (j0 : (Int) → Option (Int × Unit)) (j3 : (Int) → Option (Int × Unit)) (v3 : Int) : Option (Int × Unit) :=
  bif (decide (v3 < v0)) then
    bif ((decide ((0 : Int) ≤ v3)) && (decide (v3 < (List.length a.1 : Int)))) then
    let v4 : List UInt8 := (List.getD a.1 (Int.toNat v3) [])
    bif (decide (v4 = v1)) then
      some (((7 : Int), ()))
    else
    j3 ((IntKind.i64.wrap (v3 + (1 : Int))))
    else none
  else
  j0 ((IntKind.i64.wrap (v0 + (1 : Int))))
def R_NamesErr_l1 (fu : Nat) (a : List (List UInt8) × Unit) (j0 : (Int) → Option (Int × Unit)) (v0 : Int) : Option (Int × Unit) :=
  bif (decide (v0 < (List.length a.1 : Int))) then
    bif ((decide ((0 : Int) ≤ v0)) && (decide (v0 < (List.length a.1 : Int)))) then
    let v1 : List UInt8 := (List.getD a.1 (Int.toNat v0) [])
    bindO (R_Name_r fu ((v1, ()))) fun v2 =>
    bif (!v2.1) then
      some (((6 : Int), ()))
    else
    loopF (R_NamesErr_l2 fu a v0 v1 j0) fu ((0 : Int))
    else none
  else
  some (((0 : Int), ()))
def R_NamesErr_r (fu : Nat) (a : List (List UInt8) × Unit) : Option (Int × Unit) :=
  loopF (R_NamesErr_l1 fu a) fu ((0 : Int))
def R_NamesErr_an : An := (.n none .z (.n none (.n none .z (.n none (.n (some ⟨[6, 0, 7], [], [], [.reg 8 (.int .i64)], 0, []⟩) (.n none .z (.n none .z (.n none (.n none (.n none .z (.n none (.n none .z (.n none (.n none .z .z) .z)) (.n none .z (.n none (.n (some ⟨[8, 4, 16], [], [], [.reg 17 (.int .i64)], 0, []⟩) (.n none .z (.n none .z (.n none (.n none (.n none .z (.n none .z (.n none (.n none .z .z) .z))) .z) .z))) .z) .z)))) .z) .z))) .z) .z)) (.n none .z .z)))
noncomputable def R_NamesErr_dc : List (Nat × Ctr) := [(75, R_Name_ctr)]
def R_NamesErr_ctr : Ctr := ⟨(.pair (.list .str) .unit), (.pair (.int .i64) .unit), R_NamesErr_r, 76⟩
theorem R_NamesErr_ok : CtrOk Try.prog 76 R_NamesErr_ctr := ctr_ok (l := R_NamesErr_dc) (f := 12) (an := R_NamesErr_an) ⟨R_Name_ok, trivial⟩ fun fu x => by kernel_rfl
def R_ConditionErr_l4 (fu : Nat) (v5 : List Int) (v6 : Int) (v7 : Int) (j6 : (Int) → Option (Int × Unit)) (j9 : (Int) → Option (Int × Unit)) (v9 : Int) : Option (Int × Unit) :=
  bif (decide (v9 < v6)) then
    bif ((decide ((0 : Int) ≤ v9)) && (decide (v9 < (List.length v5 : Int)))) then
    let v10 : Int := (List.getD v5 (Int.toNat v9) 0)
    bif (decide (v10 = v7)) then
      some (((7 : Int), ()))
    else
    j9 ((IntKind.i64.wrap (v9 + (1 : Int))))
    else none
  else
  j6 ((IntKind.i64.wrap (v6 + (1 : Int))))
def R_ConditionErr_l3 (fu : Nat) (v0 : Int) (v4 : Int) (v5 : List Int) (j4 : (Int) → Option (Int × Unit)) (j6 : (Int) → Option (Int × Unit)) (v6 : Int) : Option (Int × Unit) :=
  bif (decide (v6 < (List.length v5 : Int))) then
    bif ((decide ((0 : Int) ≤ v6)) && (decide (v6 < (List.length v5 : Int)))) then
    let v7 : Int := (List.getD v5 (Int.toNat v6) 0)
    bindO (R_Within_r fu ((v7, ((0 : Int), ((IntKind.i64.wrap (v0 - (1 : Int))), ()))))) fun v8 =>
    bif (!v8.1) then
      some (((3 : Int), ()))
    else
    loopF (R_ConditionErr_l4 fu v5 v6 v7 j6) fu ((0 : Int))
    else none
  else
  j4 ((IntKind.i64.wrap (v4 + (1 : Int))))
def R_ConditionErr_j6 (fu : Nat) (v5 : Int) (j5 : (Int) → Option (Int × Unit)) (v8 : Bool) : Option (Int × Unit) :=
  bif v8 then
    some (((4 : Int), ()))
  else
  j5 ((IntKind.i64.wrap (v5 + (1 : Int))))
def R_ConditionErr_j8 (fu : Nat) (v8 : Int) (j8 : (Int) → Option (Int × Unit)) (v10 : Bool) : Option (Int × Unit) :=
  bif v10 then
    some (((4 : Int), ()))
  else
  j8 ((IntKind.i64.wrap (v8 + (1 : Int))))
def R_ConditionErr_l7 (fu : Nat) (a : (List (List UInt8) × List Int × List Int × (Int × Int × Int × List Int) × (Int × Int × Int × List Int) × List (List UInt8 × (Int × Int × Int) × (Int × Int × Int) × List (Int × Int) × List Int) × Int) × Unit) (j8 : (Int) → Option (Int × Unit)) (v8 : Int) : Option (Int × Unit) :=
  bif (decide (v8 < (List.length a.1.2.2.2.2.2.1 : Int))) then
    bif ((decide ((0 : Int) ≤ v8)) && (decide (v8 < (List.length a.1.2.2.2.2.2.1 : Int)))) then
    let v9 : List UInt8 × (Int × Int × Int) × (Int × Int × Int) × List (Int × Int) × List Int := (List.getD a.1.2.2.2.2.2.1 (Int.toNat v8) ([], ((0, (0, 0)), ((0, (0, 0)), ([], [])))))
    joinF (R_ConditionErr_j8 fu v8 j8) fun j10 =>
    bif (decide ((List.length v9.2.2.2.2 : Int) ≠ (4 : Int))) then
      j10 (true)
    else
    j10 ((decide ((List.length a.1.2.1 : Int) = (0 : Int))))
    else none
  else
  bindO (R_Within_r fu ((a.1.2.2.2.2.2.2, ((0 : Int), ((2040 : Int), ()))))) fun v9 =>
  bif (!v9.1) then
    some (((3 : Int), ()))
  else
  some (((0 : Int), ()))
def R_ConditionErr_l5 (fu : Nat) (a : (List (List UInt8) × List Int × List Int × (Int × Int × Int × List Int) × (Int × Int × Int × List Int) × List (List UInt8 × (Int × Int × Int) × (Int × Int × Int) × List (Int × Int) × List Int) × Int) × Unit) (v0 : Int) (j5 : (Int) → Option (Int × Unit)) (v5 : Int) : Option (Int × Unit) :=
  bif (decide (v5 < (List.length ([a.1.2.2.2.1, a.1.2.2.2.2.1] : List (Int × Int × Int × List Int)) : Int))) then
    bif ((decide ((0 : Int) ≤ v5)) && (decide (v5 < (List.length ([a.1.2.2.2.1, a.1.2.2.2.2.1] : List (Int × Int × Int × List Int)) : Int)))) then
    bindO (R_LinkErr_r fu ((((List.getD ([a.1.2.2.2.1, a.1.2.2.2.2.1] : List (Int × Int × Int × List Int)) (Int.toNat v5) (0, (0, (0, [])))).1, ((List.getD ([a.1.2.2.2.1, a.1.2.2.2.2.1] : List (Int × Int × Int × List Int)) (Int.toNat v5) (0, (0, (0, [])))).2.1, ((List.getD ([a.1.2.2.2.1, a.1.2.2.2.2.1] : List (Int × Int × Int × List Int)) (Int.toNat v5) (0, (0, (0, [])))).2.2.1, (List.getD ([a.1.2.2.2.1, a.1.2.2.2.2.1] : List (Int × Int × Int × List Int)) (Int.toNat v5) (0, (0, (0, [])))).2.2.2))), ()))) fun v6 =>
    let v7 : Int := v6.1
    bif (decide (v7 ≠ (0 : Int))) then
      some ((v7, ()))
    else
    joinF (R_ConditionErr_j6 fu v5 j5) fun j8 =>
    bif (decide ((List.getD ([a.1.2.2.2.1, a.1.2.2.2.2.1] : List (Int × Int × Int × List Int)) (Int.toNat v5) (0, (0, (0, [])))).1 ≠ (IntKind.i64.wrap ((1 : Int) + (IntKind.i64.wrap ((2 : Int) * v5)))))) then
      j8 (true)
    else
    j8 ((decide ((List.getD ([a.1.2.2.2.1, a.1.2.2.2.2.1] : List (Int × Int × Int × List Int)) (Int.toNat v5) (0, (0, (0, [])))).2.1 ≠ v0)))
    else none
  else
  bindO (R_SpotsErr_r fu ((a.1.2.2.2.2.2.1, ()))) fun v6 =>
  let v7 : Int := v6.1
  bif (decide (v7 ≠ (0 : Int))) then
    some ((v7, ()))
  else
  loopF (R_ConditionErr_l7 fu a) fu ((0 : Int))
def R_ConditionErr_l2 (fu : Nat) (a : (List (List UInt8) × List Int × List Int × (Int × Int × Int × List Int) × (Int × Int × Int × List Int) × List (List UInt8 × (Int × Int × Int) × (Int × Int × Int) × List (Int × Int) × List Int) × Int) × Unit) (v0 : Int) (j4 : (Int) → Option (Int × Unit)) (v4 : Int) : Option (Int × Unit) :=
  bif (decide (v4 < (List.length ([a.1.2.1, a.1.2.2.1] : List (List Int)) : Int))) then
    bif ((decide ((0 : Int) ≤ v4)) && (decide (v4 < (List.length ([a.1.2.1, a.1.2.2.1] : List (List Int)) : Int)))) then
    let v5 : List Int := (List.getD ([a.1.2.1, a.1.2.2.1] : List (List Int)) (Int.toNat v4) [])
    loopF (R_ConditionErr_l3 fu v0 v4 v5 j4) fu ((0 : Int))
    else none
  else
  loopF (R_ConditionErr_l5 fu a v0) fu ((0 : Int))
def R_ConditionErr_j1 (fu : Nat) (a : (List (List UInt8) × List Int × List Int × (Int × Int × Int × List Int) × (Int × Int × Int × List Int) × List (List UInt8 × (Int × Int × Int) × (Int × Int × Int) × List (Int × Int) × List Int) × Int) × Unit) (v0 : Int) (v3 : Bool) : Option (Int × Unit) :=
  bif v3 then
    some (((4 : Int), ()))
  else
  loopF (R_ConditionErr_l2 fu a v0) fu ((0 : Int))
def R_ConditionErr_r (fu : Nat) (a : (List (List UInt8) × List Int × List Int × (Int × Int × Int × List Int) × (Int × Int × Int × List Int) × List (List UInt8 × (Int × Int × Int) × (Int × Int × Int) × List (Int × Int) × List Int) × Int) × Unit) : Option (Int × Unit) :=
  let v0 : Int := (List.length a.1.1 : Int)
  bif (decide ((8 : Int) < v0)) then
    some (((2 : Int), ()))
  else
  bif (decide (v0 = (0 : Int))) then
    some (((1 : Int), ()))
  else
  bindO (R_NamesErr_r fu ((a.1.1, ()))) fun v1 =>
  let v2 : Int := v1.1
  bif (decide (v2 ≠ (0 : Int))) then
    some ((v2, ()))
  else
  joinF (R_ConditionErr_j1 fu a v0) fun j3 =>
  bif (decide ((List.length a.1.2.1 : Int) ≠ (0 : Int))) then
    bif (decide ((List.length a.1.2.1 : Int) ≠ (4 : Int))) then
      j3 (true)
    else
    j3 ((decide ((List.length a.1.2.2.1 : Int) ≠ v0)))
  else
  j3 ((decide ((List.length a.1.2.2.1 : Int) ≠ v0)))
def R_ConditionErr_an : An := (.n none .z (.n none .z (.n none (.n none .z (.n none (.n none .z .z) .z)) (.n none (.n none .z (.n none (.n none .z .z) .z)) (.n none (.n none .z (.n none .z (.n none (.n none .z .z) .z))) (.n none (.n (some ⟨[3, 1], [0], [], [.reg 45 .bool], 0, []⟩) .z (.n none (.n none .z .z) .z)) (.n none (.n none .z (.n none (.n (some ⟨[3, 1, 50, 51], [0, 1], [], [.reg 52 (.int .i64)], 0, []⟩) (.n none .z (.n none .z (.n none (.n none (.n none .z (.n none .z (.n none (.n (some ⟨[52, 56, 6, 57], [], [], [.reg 58 (.int .i64)], 0, []⟩) (.n none .z (.n none .z (.n none (.n none (.n none .z (.n none (.n none .z (.n none (.n none .z .z) .z)) (.n none .z (.n none (.n (some ⟨[58, 8, 68], [], [], [.reg 69 (.int .i64)], 0, []⟩) (.n none .z (.n none .z (.n none (.n none (.n none .z (.n none .z (.n none (.n none .z .z) .z))) .z) .z))) .z) .z)))) .z) .z))) .z) .z))) .z) .z))) .z) .z)) (.n none (.n none .z (.n none (.n (some ⟨[1, 85, 3, 86], [1, 0, 2], [], [.reg 87 (.int .i64)], 0, []⟩) (.n none .z (.n none .z (.n none (.n none (.n none .z (.n none (.n none .z (.n none .z (.n none (.n none .z .z) .z))) (.n (some ⟨[87], [3], [], [.reg 108 .bool], 0, []⟩) .z (.n none (.n none .z .z) .z)))) .z) .z))) .z) .z)) (.n none (.n none .z (.n none .z (.n none (.n none .z .z) .z))) (.n none (.n none .z (.n none (.n (some ⟨[1, 117, 118], [2, 0], [], [.reg 119 (.int .i64)], 0, []⟩) (.n none .z (.n none .z (.n none (.n none (.n none .z (.n (some ⟨[119], [3], [], [.reg 132 .bool], 0, []⟩) .z (.n none (.n none .z .z) .z))) .z) .z))) .z) .z)) (.n none (.n none .z (.n none (.n none .z .z) .z)) (.n none .z .z))))))))))))
noncomputable def R_ConditionErr_dc : List (Nat × Ctr) := [(69, R_LinkErr_ctr), (76, R_NamesErr_ctr), (79, R_Within_ctr), (112, R_SpotsErr_ctr)]
def R_ConditionErr_ctr : Ctr := ⟨(.pair (.agg (.pair (.list .str) (.pair (.list (.int .i64)) (.pair (.list (.int .i64)) (.pair (.pair (.int .i64) (.pair (.int .i64) (.pair (.int .i64) (.list (.int .i64))))) (.pair (.pair (.int .i64) (.pair (.int .i64) (.pair (.int .i64) (.list (.int .i64))))) (.pair (.list (.pair .str (.pair (.pair (.int .i64) (.pair (.int .i64) (.int .i64))) (.pair (.pair (.int .i64) (.pair (.int .i64) (.int .i64))) (.pair (.list (.pair (.int .i64) (.int .i64))) (.list (.int .i64))))))) (.int .i64)))))))) .unit), (.pair (.int .i64) .unit), R_ConditionErr_r, 52⟩
theorem R_ConditionErr_ok : CtrOk Try.prog 52 R_ConditionErr_ctr := ctr_ok (l := R_ConditionErr_dc) (f := 12) (an := R_ConditionErr_an) ⟨R_LinkErr_ok, ⟨R_NamesErr_ok, ⟨R_Within_ok, ⟨R_SpotsErr_ok, trivial⟩⟩⟩⟩ fun fu x => by kernel_rfl
def curve_Nearest_j1 (fu : Nat) (v3 : Int) : Option (Int × Unit) :=
  some ((v3, ()))
def curve_Nearest_r (fu : Nat) (a : Int × Int × Unit) : Option (Int × Unit) :=
  let v0 : Int := (IntKind.i64.wrap ((IntKind.i64.wrap ((2 : Int) * a.1)) + a.2.1))
  let v1 : Int := (IntKind.i64.wrap ((2 : Int) * a.2.1))
  bif (decide (v1 ≠ (0 : Int))) then
  let v2 : Int := (IntKind.i64.wrap (Int.tdiv v0 v1))
  joinF (curve_Nearest_j1 fu) fun j3 =>
  bif (decide (v1 ≠ (0 : Int))) then
  bif (decide ((Int.tmod v0 v1) < (0 : Int))) then
    let v4 : Int := (IntKind.i64.wrap (v2 - (1 : Int)))
    j3 (v4)
  else
  j3 (v2)
  else none
  else none
def curve_Nearest_an : An := (.n none .z (.n none .z (.n none .z (.n (some ⟨[], [], [], [.reg 5 (.int .i64)], 0, []⟩) (.n none .z (.n none .z .z)) (.n none .z .z)))))
noncomputable def curve_Nearest_dc : List (Nat × Ctr) := []
def curve_Nearest_ctr : Ctr := ⟨(.pair (.int .i64) (.pair (.int .i64) .unit)), (.pair (.int .i64) .unit), curve_Nearest_r, 147⟩
theorem curve_Nearest_ok : CtrOk Try.prog 147 curve_Nearest_ctr := ctr_ok (l := curve_Nearest_dc) (f := 12) (an := curve_Nearest_an) trivial fun fu x => by kernel_rfl
def inklimit_sum_l1 (fu : Nat) (a : List Int × Unit) (j0 : (Int × Int) → Option (Int × Unit)) (v0 : Int × Int) : Option (Int × Unit) :=
  bif (decide (v0.2 < (List.length a.1 : Int))) then
    bif ((decide ((0 : Int) ≤ v0.2)) && (decide (v0.2 < (List.length a.1 : Int)))) then
    let v1 : Int := (List.getD a.1 (Int.toNat v0.2) 0)
    let v2 : Int := (IntKind.i64.wrap (v0.1 + v1))
    j0 ((v2, (IntKind.i64.wrap (v0.2 + (1 : Int)))))
    else none
  else
  let v1 : Int := v0.1
  some ((v1, ()))
def inklimit_sum_r (fu : Nat) (a : List Int × Unit) : Option (Int × Unit) :=
  loopF (inklimit_sum_l1 fu a) fu (((0 : Int), (0 : Int)))
def inklimit_sum_an : An := (.n none .z (.n none .z (.n none (.n none .z (.n none (.n (some ⟨[6, 7, 2], [], [], [.reg 3 (.int .i64), .reg 8 (.int .i64)], 0, []⟩) (.n none .z (.n none .z (.n none (.n none (.n none .z .z) .z) .z))) .z) .z)) (.n none .z .z))))
noncomputable def inklimit_sum_dc : List (Nat × Ctr) := []
def inklimit_sum_ctr : Ctr := ⟨(.pair (.list (.int .i64)) .unit), (.pair (.int .i64) .unit), inklimit_sum_r, 157⟩
theorem inklimit_sum_ok : CtrOk Try.prog 157 inklimit_sum_ctr := ctr_ok (l := inklimit_sum_dc) (f := 12) (an := inklimit_sum_an) trivial fun fu x => by kernel_rfl
def inklimit_Quick_j3 (fu : Nat) (j3 : (Int × List Int) → Option (List Int × Unit)) (v4 : Int × List Int) : Option (List Int × Unit) :=
  j3 (((IntKind.i64.wrap (v4.1 + (1 : Int))), v4.2))
def inklimit_Quick_l2 (fu : Nat) (a : List Int × Int × Int × Unit) (v2 : Int × Int × List Int) (j3 : (Int × List Int) → Option (List Int × Unit)) (v3 : Int × List Int) : Option (List Int × Unit) :=
  bif (decide (v3.1 < (List.length a.1 : Int))) then
    joinF (inklimit_Quick_j3 fu j3) fun j4 =>
    bif ((decide ((0 : Int) ≤ v3.1)) && (decide (v3.1 < (List.length a.1 : Int)))) then
    let v5 : Int := (List.getD a.1 (Int.toNat v3.1) 0)
    let v6 : Int := v3.1
    let v7 : Bool := (decide (v6 = a.2.1))
    bif v7 then
      bif ((decide ((0 : Int) ≤ v6)) && (decide (v6 < (List.length v3.2 : Int)))) then
      j4 ((v3.1, (List.set v3.2 (Int.toNat v6) v2.2.1)))
      else none
    else
    bif ((decide ((0 : Int) ≤ v6)) && (decide (v6 < (List.length v3.2 : Int)))) then
    bif (decide ((0 : Int) < v2.1)) then
      bif (decide (v2.1 ≠ (0 : Int))) then
      bif ((decide ((0 : Int) ≤ v6)) && (decide (v6 < (List.length (List.set v3.2 (Int.toNat v6) (0 : Int)) : Int)))) then
      j4 ((v3.1, (List.set (List.set v3.2 (Int.toNat v6) (0 : Int)) (Int.toNat v6) (IntKind.i64.wrap (Int.tdiv (IntKind.i64.wrap (v5 * (IntKind.i64.wrap (a.2.2.1 - v2.2.1)))) v2.1)))))
      else none
      else none
    else
    j4 ((v3.1, (List.set v3.2 (Int.toNat v6) (0 : Int))))
    else none
    else none
  else
  some ((v3.2, ()))
def inklimit_Quick_j1 (fu : Nat) (a : List Int × Int × Int × Unit) (v2 : Int × Int × List Int) : Option (List Int × Unit) :=
  loopF (inklimit_Quick_l2 fu a v2) fu (((0 : Int), v2.2.2))
def inklimit_Quick_r (fu : Nat) (a : List Int × Int × Int × Unit) : Option (List Int × Unit) :=
  bif (decide (((List.length a.1 : Int) * (8 : Int)) ≤ (140737488355328 : Int))) then
  bindO (inklimit_sum_r fu ((a.1, ()))) fun v0 =>
  let v1 : Int := v0.1
  bif (decide (v1 ≤ a.2.2.1)) then
    some ((a.1, ()))
  else
  joinF (inklimit_Quick_j1 fu a) fun j2 =>
  bif (decide ((0 : Int) ≤ a.2.1)) then
    bif ((decide ((0 : Int) ≤ a.2.1)) && (decide (a.2.1 < (List.length a.1 : Int)))) then
    let v3 : Int := (List.getD a.1 (Int.toNat a.2.1) 0)
    let v4 : Int := (min v3 a.2.2.1)
    bif ((decide ((0 : Int) ≤ a.2.1)) && (decide (a.2.1 < (List.length a.1 : Int)))) then
    let v5 : Int := (List.getD a.1 (Int.toNat a.2.1) 0)
    let v6 : Int := (IntKind.i64.wrap (v1 - v5))
    j2 ((v6, (v4, a.1)))
    else none
    else none
  else
  j2 ((v1, ((0 : Int), a.1)))
  else none
def inklimit_Quick_an : An := (.n none .z (.n none .z (.n none .z (.n none (.n none .z (.n none (.n none .z .z) .z)) (.n none .z (.n (some ⟨[0, 7, 1, 2], [], [], [.reg 8 (.int .i64), .reg 9 (.int .i64), .row 0 false (.int .i64) 3 0], 0, []⟩) (.n none .z (.n none (.n none .z .z) .z)) (.n none (.n none .z (.n none (.n (some ⟨[34, 8, 9, 35], [], [], [.reg 36 (.int .i64), .row 0 false (.int .i64) 3 0], 0, []⟩) (.n none .z (.n none .z (.n (some ⟨[], [], [], [.reg 36 (.int .i64), .row 0 false (.int .i64) 3 0], 0, []⟩) (.n none (.n none .z (.n none (.n none .z (.n none .z (.n none .z (.n none .z (.n none .z .z))))) .z)) .z) .z))) .z) .z)) (.n none .z .z))))))))
noncomputable def inklimit_Quick_dc : List (Nat × Ctr) := [(157, inklimit_sum_ctr)]
def inklimit_Quick_ctr : Ctr := ⟨(.pair (.list (.int .i64)) (.pair (.int .i64) (.pair (.int .i64) .unit))), (.pair (.list (.int .i64)) .unit), inklimit_Quick_r, 146⟩
theorem inklimit_Quick_ok : CtrOk Try.prog 146 inklimit_Quick_ctr := ctr_ok (l := inklimit_Quick_dc) (f := 12) (an := inklimit_Quick_an) ⟨inklimit_sum_ok, trivial⟩ fun fu x => by kernel_rfl
def condition_limited_l2 (fu : Nat) (v1 : List Int × Unit) (j2 : (Int × List Int) → Option ((Int × Int × Int × Int × Int × Int × Int × Int) × Unit)) (v2 : Int × List Int) : Option ((Int × Int × Int × Int × Int × Int × Int × Int) × Unit) :=
  bif (decide (v2.1 < (List.length v1.1 : Int))) then
    bif ((decide ((0 : Int) ≤ v2.1)) && (decide (v2.1 < (List.length v1.1 : Int)))) then
    let v3 : Int := (List.getD v1.1 (Int.toNat v2.1) 0)
    let v4 : Int := v2.1
    bif (((decide ((0 : Int) ≤ v4)) && (decide (v4 < (List.length v2.2 : Int)))) && (decide (v4 < (8 : Int)))) then
    j2 (((IntKind.i64.wrap (v2.1 + (1 : Int))), (List.set v2.2 (Int.toNat v4) (IntKind.u8.wrap v3))))
    else none
    else none
  else
  bif (decide ((List.length v2.2 : Int) = (8 : Int))) then
  some ((((List.getD v2.2 (Int.toNat (0 : Int)) 0), ((List.getD v2.2 (Int.toNat (1 : Int)) 0), ((List.getD v2.2 (Int.toNat (2 : Int)) 0), ((List.getD v2.2 (Int.toNat (3 : Int)) 0), ((List.getD v2.2 (Int.toNat (4 : Int)) 0), ((List.getD v2.2 (Int.toNat (5 : Int)) 0), ((List.getD v2.2 (Int.toNat (6 : Int)) 0), (List.getD v2.2 (Int.toNat (7 : Int)) 0)))))))), ()))
  else none
def condition_limited_j1 (fu : Nat) (a : (List (List UInt8) × List Int × List Int × (Int × Int × Int × List Int) × (Int × Int × Int × List Int) × List (List UInt8 × (Int × Int × Int) × (Int × Int × Int) × List (Int × Int) × List Int) × Int) × List Int × Unit) (v0 : Int) : Option ((Int × Int × Int × Int × Int × Int × Int × Int) × Unit) :=
  bindO (inklimit_Quick_r fu ((a.2.1, (v0, (a.1.2.2.2.2.2.2, ()))))) fun v1 =>
  loopF (condition_limited_l2 fu v1) fu (((0 : Int), ([(0 : Int), (0 : Int), (0 : Int), (0 : Int), (0 : Int), (0 : Int), (0 : Int), (0 : Int)] : List Int)))
def condition_limited_r (fu : Nat) (a : (List (List UInt8) × List Int × List Int × (Int × Int × Int × List Int) × (Int × Int × Int × List Int) × List (List UInt8 × (Int × Int × Int) × (Int × Int × Int) × List (Int × Int) × List Int) × Int) × List Int × Unit) : Option ((Int × Int × Int × Int × Int × Int × Int × Int) × Unit) :=
  joinF (condition_limited_j1 fu a) fun j0 =>
  bif (decide ((List.length a.1.2.1 : Int) = (4 : Int))) then
    bif (decide ((3 : Int) < (List.length a.1.2.1 : Int))) then
    let v1 : Int := (List.getD a.1.2.1 (Int.toNat (3 : Int)) 0)
    j0 (v1)
    else none
  else
  j0 ((-1 : Int))
def condition_limited_an : An := (.n none .z (.n none .z (.n (some ⟨[1, 0, 4], [0], [], [.reg 5 (.int .i64)], 0, []⟩) (.n none .z (.n none .z .z)) (.n none .z (.n none (.n none .z (.n none (.n (some ⟨[6, 27, 28], [], [], [.reg 29 (.int .i64), .row 1 true (.int .u8) 90 0], 0, []⟩) (.n none .z (.n none .z (.n none (.n none (.n none .z .z) .z) .z))) .z) .z)) (.n none .z .z))))))
noncomputable def condition_limited_dc : List (Nat × Ctr) := [(146, inklimit_Quick_ctr)]
def condition_limited_ctr : Ctr := ⟨(.pair (.ptr (.pair (.list .str) (.pair (.list (.int .i64)) (.pair (.list (.int .i64)) (.pair (.pair (.int .i64) (.pair (.int .i64) (.pair (.int .i64) (.list (.int .i64))))) (.pair (.pair (.int .i64) (.pair (.int .i64) (.pair (.int .i64) (.list (.int .i64))))) (.pair (.list (.pair .str (.pair (.pair (.int .i64) (.pair (.int .i64) (.int .i64))) (.pair (.pair (.int .i64) (.pair (.int .i64) (.int .i64))) (.pair (.list (.pair (.int .i64) (.int .i64))) (.list (.int .i64))))))) (.int .i64)))))))) (.pair (.list (.int .i64)) .unit)), (.pair (.agg (.pair (.int .u8) (.pair (.int .u8) (.pair (.int .u8) (.pair (.int .u8) (.pair (.int .u8) (.pair (.int .u8) (.pair (.int .u8) (.int .u8))))))))) .unit), condition_limited_r, 118⟩
theorem condition_limited_ok : CtrOk Try.prog 118 condition_limited_ctr := ctr_ok (l := condition_limited_dc) (f := 12) (an := condition_limited_an) ⟨inklimit_Quick_ok, trivial⟩ fun fu x => by kernel_rfl
def profile_Tones_j2 (fu : Nat) (v0 : Int) (j0 : (Int) → Option (Int × Unit)) (v2 : Bool) : Option (Int × Unit) :=
  bif v2 then
    some (((3 : Int), ()))
  else
  j0 ((IntKind.i64.wrap (v0 + (1 : Int))))
def profile_Tones_l1 (fu : Nat) (a : List Int × Int × Unit) (j0 : (Int) → Option (Int × Unit)) (v0 : Int) : Option (Int × Unit) :=
  bif (decide (v0 < (List.length a.1 : Int))) then
    bif ((decide ((0 : Int) ≤ v0)) && (decide (v0 < (List.length a.1 : Int)))) then
    let v1 : Int := (List.getD a.1 (Int.toNat v0) 0)
    joinF (profile_Tones_j2 fu v0 j0) fun j2 =>
    bif (decide (v1 < (0 : Int))) then
      j2 (true)
    else
    j2 ((decide ((255 : Int) < v1)))
    else none
  else
  some (((0 : Int), ()))
def profile_Tones_r (fu : Nat) (a : List Int × Int × Unit) : Option (Int × Unit) :=
  bif (decide ((List.length a.1 : Int) ≠ a.2.1)) then
    some (((4 : Int), ()))
  else
  loopF (profile_Tones_l1 fu a) fu ((0 : Int))
def profile_Tones_an : An := (.n none .z (.n none (.n none .z (.n none (.n none .z .z) .z)) (.n none (.n none .z (.n none (.n (some ⟨[11, 12], [], [], [.reg 13 (.int .i64)], 0, []⟩) (.n none .z (.n none .z (.n none (.n none (.n none .z (.n (some ⟨[13], [], [], [.reg 22 .bool], 0, []⟩) .z (.n none (.n none .z .z) .z))) .z) .z))) .z) .z)) (.n none .z .z))))
noncomputable def profile_Tones_dc : List (Nat × Ctr) := []
def profile_Tones_ctr : Ctr := ⟨(.pair (.list (.int .i64)) (.pair (.int .i64) .unit)), (.pair (.int .i64) .unit), profile_Tones_r, 86⟩
theorem profile_Tones_ok : CtrOk Try.prog 86 profile_Tones_ctr := ctr_ok (l := profile_Tones_dc) (f := 12) (an := profile_Tones_an) trivial fun fu x => by kernel_rfl
def curve_Check_j3 (fu : Nat) (v3 : Int) (j3 : (Int) → Option (Int × Unit)) (v6 : Bool) : Option (Int × Unit) :=
  bif v6 then
    some (((18 : Int), ()))
  else
  j3 ((IntKind.i64.wrap (v3 + (1 : Int))))
def curve_Check_j2 (fu : Nat) (a : List (Int × Int) × Unit) (v3 : Int) (v4 : Int × Int) (j3 : (Int) → Option (Int × Unit)) (v5 : Bool) : Option (Int × Unit) :=
  bif v5 then
    some (((3 : Int), ()))
  else
  joinF (curve_Check_j3 fu v3 j3) fun j6 =>
  bif (decide ((0 : Int) < v3)) then
    bif ((decide ((0 : Int) ≤ (IntKind.i64.wrap (v3 - (1 : Int))))) && (decide ((IntKind.i64.wrap (v3 - (1 : Int))) < (List.length a.1 : Int)))) then
    let v7 : Int × Int := (List.getD a.1 (Int.toNat (IntKind.i64.wrap (v3 - (1 : Int)))) (0, 0))
    bif (decide (v4.1 ≤ v7.1)) then
      j6 (true)
    else
    bif ((decide ((0 : Int) ≤ (IntKind.i64.wrap (v3 - (1 : Int))))) && (decide ((IntKind.i64.wrap (v3 - (1 : Int))) < (List.length a.1 : Int)))) then
    let v8 : Int × Int := (List.getD a.1 (Int.toNat (IntKind.i64.wrap (v3 - (1 : Int)))) (0, 0))
    j6 ((decide (v4.2 < v8.2)))
    else none
    else none
  else
  j6 (false)
def curve_Check_j4 (fu : Nat) (v4 : Bool) : Option (Int × Unit) :=
  bif v4 then
    some (((4 : Int), ()))
  else
  some (((0 : Int), ()))
def curve_Check_l1 (fu : Nat) (a : List (Int × Int) × Unit) (j3 : (Int) → Option (Int × Unit)) (v3 : Int) : Option (Int × Unit) :=
  bif (decide (v3 < (List.length a.1 : Int))) then
    bif ((decide ((0 : Int) ≤ v3)) && (decide (v3 < (List.length a.1 : Int)))) then
    let v4 : Int × Int := (List.getD a.1 (Int.toNat v3) (0, 0))
    joinF (curve_Check_j2 fu a v3 v4 j3) fun j5 =>
    bif (decide (v4.1 < (0 : Int))) then
      j5 (true)
    else
    bif (decide ((65280 : Int) < v4.1)) then
      j5 (true)
    else
    bif (decide (v4.2 < (0 : Int))) then
      j5 (true)
    else
    j5 ((decide ((65280 : Int) < v4.2)))
    else none
  else
  joinF (curve_Check_j4 fu) fun j4 =>
  bif (decide ((0 : Int) < (List.length a.1 : Int))) then
  let v5 : Int × Int := (List.getD a.1 (Int.toNat (0 : Int)) (0, 0))
  bif (decide (v5.1 ≠ (0 : Int))) then
    j4 (true)
  else
  bif ((decide ((0 : Int) ≤ (IntKind.i64.wrap ((List.length a.1 : Int) - (1 : Int))))) && (decide ((IntKind.i64.wrap ((List.length a.1 : Int) - (1 : Int))) < (List.length a.1 : Int)))) then
  let v6 : Int × Int := (List.getD a.1 (Int.toNat (IntKind.i64.wrap ((List.length a.1 : Int) - (1 : Int)))) (0, 0))
  j4 ((decide (v6.1 ≠ (65280 : Int))))
  else none
  else none
def curve_Check_r (fu : Nat) (a : List (Int × Int) × Unit) : Option (Int × Unit) :=
  let v0 : Int := (List.length a.1 : Int)
  let v1 : Bool := (decide ((33 : Int) < v0))
  bif v1 then
    some (((2 : Int), ()))
  else
  let v2 : Bool := (decide (v0 < (2 : Int)))
  bif v2 then
    some (((1 : Int), ()))
  else
  loopF (curve_Check_l1 fu a) fu ((0 : Int))
def curve_Check_an : An := (.n none .z (.n none (.n none .z (.n none (.n none .z (.n none (.n none .z .z) (.n none .z (.n none (.n none .z .z) .z)))) .z)) (.n none (.n none .z (.n none (.n (some ⟨[1, 16, 17], [0], [], [.reg 18 (.int .i64)], 0, []⟩) (.n none .z (.n none .z (.n none (.n none (.n none .z (.n none (.n (some ⟨[5, 4, 18], [1], [], [.reg 40 .bool], 0, []⟩) .z (.n none (.n none .z .z) .z)) (.n (some ⟨[18], [1], [], [.reg 66 .bool], 0, []⟩) (.dr [] []) (.n none (.n none .z .z) .z)))) .z) .z))) .z) .z)) (.n none (.n (some ⟨[], [0], [], [.reg 85 .bool], 0, []⟩) .z (.n none (.n none .z .z) .z)) (.n none .z .z)))))
noncomputable def curve_Check_dc : List (Nat × Ctr) := []
def curve_Check_ctr : Ctr := ⟨(.pair (.agg (.list (.pair (.int .i64) (.int .i64)))) .unit), (.pair (.int .i64) .unit), curve_Check_r, 100⟩
theorem curve_Check_ok : CtrOk Try.prog 100 curve_Check_ctr := ctr_ok (l := curve_Check_dc) (f := 12) (an := curve_Check_an) trivial fun fu x => by kernel_rfl
def refspace_Check_j1 (fu : Nat) (v0 : Bool) : Option (Int × Unit) :=
  bif v0 then
    some (((3 : Int), ()))
  else
  some (((0 : Int), ()))
def refspace_Check_r (fu : Nat) (a : (Int × Int × Int) × Unit) : Option (Int × Unit) :=
  joinF (refspace_Check_j1 fu) fun j0 =>
  bif (decide (a.1.1 < (0 : Int))) then
    j0 (true)
  else
  bif (decide ((10000 : Int) < a.1.1)) then
    j0 (true)
  else
  bif (decide (a.1.2.1 < (-12800 : Int))) then
    j0 (true)
  else
  bif (decide ((12800 : Int) < a.1.2.1)) then
    j0 (true)
  else
  bif (decide (a.1.2.2 < (-12800 : Int))) then
    j0 (true)
  else
  j0 ((decide ((12800 : Int) < a.1.2.2)))
def refspace_Check_an : An := (.n none .z (.n none (.n (some ⟨[], [0], [], [.reg 30 .bool], 0, []⟩) .z (.n none (.n none .z .z) .z)) (.n none .z .z)))
noncomputable def refspace_Check_dc : List (Nat × Ctr) := []
def refspace_Check_ctr : Ctr := ⟨(.pair (.agg (.pair (.int .i64) (.pair (.int .i64) (.int .i64)))) .unit), (.pair (.int .i64) .unit), refspace_Check_r, 72⟩
theorem refspace_Check_ok : CtrOk Try.prog 72 refspace_Check_ctr := ctr_ok (l := refspace_Check_dc) (f := 12) (an := refspace_Check_an) trivial fun fu x => by kernel_rfl
def profile_IsName_j3 (fu : Nat) (v1 : Int) (j1 : (Int) → Option (Bool × Unit)) (v3 : Bool) : Option (Bool × Unit) :=
  bif v3 then
    some ((false, ()))
  else
  j1 ((IntKind.i64.wrap (v1 + (1 : Int))))
def profile_IsName_l2 (fu : Nat) (a : List UInt8 × Unit) (j1 : (Int) → Option (Bool × Unit)) (v1 : Int) : Option (Bool × Unit) :=
  bif (decide (v1 < (List.length a.1 : Int))) then
    bif ((decide ((0 : Int) ≤ v1)) && (decide (v1 < (List.length a.1 : Int)))) then
    let v2 : Int := ((List.getD a.1 (Int.toNat v1) 0).toNat : Int)
    joinF (profile_IsName_j3 fu v1 j1) fun j3 =>
    bif (decide (v2 < (97 : Int))) then
      bif (decide (v2 < (48 : Int))) then
        j3 ((decide (v2 ≠ (45 : Int))))
      else
      bif (decide ((57 : Int) < v2)) then
        j3 ((decide (v2 ≠ (45 : Int))))
      else
      j3 (false)
    else
    bif (decide ((122 : Int) < v2)) then
      bif (decide (v2 < (48 : Int))) then
        j3 ((decide (v2 ≠ (45 : Int))))
      else
      bif (decide ((57 : Int) < v2)) then
        j3 ((decide (v2 ≠ (45 : Int))))
      else
      j3 (false)
    else
    j3 (false)
    else none
  else
  some ((true, ()))
def profile_IsName_j1 (fu : Nat) (a : List UInt8 × Unit) (v0 : Bool) : Option (Bool × Unit) :=
  bif v0 then
    some ((false, ()))
  else
  loopF (profile_IsName_l2 fu a) fu ((0 : Int))
def profile_IsName_r (fu : Nat) (a : List UInt8 × Unit) : Option (Bool × Unit) :=
  joinF (profile_IsName_j1 fu a) fun j0 =>
  bif (decide ((List.length a.1 : Int) < (1 : Int))) then
    j0 (true)
  else
  bif (decide ((16 : Int) < (List.length a.1 : Int))) then
    j0 (true)
  else
  bif (decide ((0 : Int) < (List.length a.1 : Int))) then
  bif (decide (((List.getD a.1 (Int.toNat (0 : Int)) 0).toNat : Int) < (97 : Int))) then
    j0 (true)
  else
  bif (decide ((0 : Int) < (List.length a.1 : Int))) then
  j0 ((decide ((122 : Int) < ((List.getD a.1 (Int.toNat (0 : Int)) 0).toNat : Int))))
  else none
  else none
def profile_IsName_an : An := (.n none .z (.n none (.n (some ⟨[0], [], [], [.reg 22 .bool], 0, []⟩) .z (.n none (.n none .z .z) .z)) (.n none (.n none .z (.n none (.n (some ⟨[0, 24], [], [], [.reg 25 (.int .i64)], 0, []⟩) (.n none .z (.n none .z (.n none (.n none (.n none .z (.n none .z (.n (some ⟨[25], [], [], [.reg 48 .bool], 0, []⟩) .z (.n none (.n none .z .z) .z)))) .z) .z))) .z) .z)) (.n none .z .z))))
noncomputable def profile_IsName_dc : List (Nat × Ctr) := []
def profile_IsName_ctr : Ctr := ⟨(.pair .str .unit), (.pair .bool .unit), profile_IsName_r, 98⟩
theorem profile_IsName_ok : CtrOk Try.prog 98 profile_IsName_ctr := ctr_ok (l := profile_IsName_dc) (f := 12) (an := profile_IsName_an) trivial fun fu x => by kernel_rfl
def spot_one_r (fu : Nat) (a : (List UInt8 × (Int × Int × Int) × (Int × Int × Int) × List (Int × Int) × List Int) × Unit) : Option (Int × Unit) :=
  bindO (profile_IsName_r fu ((a.1.1, ()))) fun v0 =>
  bif (!v0.1) then
    some (((6 : Int), ()))
  else
  bindO (refspace_Check_r fu ((a.1.2.1, ()))) fun v1 =>
  let v2 : Int := v1.1
  bif (decide (v2 ≠ (0 : Int))) then
    some ((v2, ()))
  else
  bindO (refspace_Check_r fu ((a.1.2.2.1, ()))) fun v3 =>
  let v4 : Int := v3.1
  bif (decide (v4 ≠ (0 : Int))) then
    some ((v4, ()))
  else
  bindO (curve_Check_r fu ((a.1.2.2.2.1, ()))) fun v5 =>
  let v6 : Int := v5.1
  bif (decide (v6 ≠ (0 : Int))) then
    some ((v6, ()))
  else
  bif (decide ((8 : Int) < (List.length a.1.2.2.2.2 : Int))) then
    some (((2 : Int), ()))
  else
  bindO (profile_Tones_r fu ((a.1.2.2.2.2, ((List.length a.1.2.2.2.2 : Int), ())))) fun v7 =>
  let v8 : Int := v7.1
  some ((v8, ()))
def spot_one_an : An := (.n none .z (.n none (.n none .z (.n none (.n none .z .z) .z)) (.n none (.n none .z (.n none .z (.n none (.n none .z .z) .z))) (.n none (.n none .z (.n none .z (.n none (.n none .z .z) .z))) (.n none (.n none .z (.n none .z (.n none (.n none .z .z) .z))) (.n none (.n none .z (.n none (.n none .z .z) .z)) (.n none (.dr [] []) .z)))))))
noncomputable def spot_one_dc : List (Nat × Ctr) := [(72, refspace_Check_ctr), (86, profile_Tones_ctr), (98, profile_IsName_ctr), (100, curve_Check_ctr)]
def spot_one_ctr : Ctr := ⟨(.pair (.ptr (.pair .str (.pair (.pair (.int .i64) (.pair (.int .i64) (.int .i64))) (.pair (.pair (.int .i64) (.pair (.int .i64) (.int .i64))) (.pair (.list (.pair (.int .i64) (.int .i64))) (.list (.int .i64))))))) .unit), (.pair (.int .i64) .unit), spot_one_r, 144⟩
theorem spot_one_ok : CtrOk Try.prog 144 spot_one_ctr := ctr_ok (l := spot_one_dc) (f := 12) (an := spot_one_an) ⟨refspace_Check_ok, ⟨profile_Tones_ok, ⟨profile_IsName_ok, ⟨curve_Check_ok, trivial⟩⟩⟩⟩ fun fu x => by kernel_rfl
def spot_Check_l2 (fu : Nat) (a : List (List UInt8 × (Int × Int × Int) × (Int × Int × Int) × List (Int × Int) × List Int) × Unit) (v0 : Int) (j0 : (Int) → Option (Int × Unit)) (j4 : (Int) → Option (Int × Unit)) (v4 : Int) : Option (Int × Unit) :=
  bif (decide (v4 < v0)) then
    bif ((decide ((0 : Int) ≤ v4)) && (decide (v4 < (List.length a.1 : Int)))) then
    let v5 : List UInt8 × (Int × Int × Int) × (Int × Int × Int) × List (Int × Int) × List Int := (List.getD a.1 (Int.toNat v4) ([], ((0, (0, 0)), ((0, (0, 0)), ([], [])))))
    bif ((decide ((0 : Int) ≤ v0)) && (decide (v0 < (List.length a.1 : Int)))) then
    let v6 : List UInt8 × (Int × Int × Int) × (Int × Int × Int) × List (Int × Int) × List Int := (List.getD a.1 (Int.toNat v0) ([], ((0, (0, 0)), ((0, (0, 0)), ([], [])))))
    bif (decide (v5.1 = v6.1)) then
      some (((7 : Int), ()))
    else
    j4 ((IntKind.i64.wrap (v4 + (1 : Int))))
    else none
    else none
  else
  j0 ((IntKind.i64.wrap (v0 + (1 : Int))))
def spot_Check_l1 (fu : Nat) (a : List (List UInt8 × (Int × Int × Int) × (Int × Int × Int) × List (Int × Int) × List Int) × Unit) (j0 : (Int) → Option (Int × Unit)) (v0 : Int) : Option (Int × Unit) :=
  bif (decide (v0 < (List.length a.1 : Int))) then
    bif ((decide ((0 : Int) ≤ v0)) && (decide (v0 < (List.length a.1 : Int)))) then
    let v1 : List UInt8 × (Int × Int × Int) × (Int × Int × Int) × List (Int × Int) × List Int := (List.getD a.1 (Int.toNat v0) ([], ((0, (0, 0)), ((0, (0, 0)), ([], [])))))
    bindO (spot_one_r fu ((v1, ()))) fun v2 =>
    let v3 : Int := v2.1
    bif (decide (v3 ≠ (0 : Int))) then
      some ((v3, ()))
    else
    loopF (spot_Check_l2 fu a v0 j0) fu ((0 : Int))
    else none
  else
  some (((0 : Int), ()))
def spot_Check_r (fu : Nat) (a : List (List UInt8 × (Int × Int × Int) × (Int × Int × Int) × List (Int × Int) × List Int) × Unit) : Option (Int × Unit) :=
  bif (decide ((40 : Int) < (List.length a.1 : Int))) then
    some (((2 : Int), ()))
  else
  loopF (spot_Check_l1 fu a) fu ((0 : Int))
def spot_Check_an : An := (.n none .z (.n none (.n none .z (.n none (.n none .z .z) .z)) (.n none (.n none .z (.n none (.n (some ⟨[0, 10], [], [], [.reg 11 (.int .i64)], 0, []⟩) (.n none .z (.n none .z (.n none (.n none (.n none .z (.n none (.n none .z (.n none .z (.n none (.n none .z .z) .z))) (.n none .z (.n none (.n (some ⟨[11, 3, 21], [], [], [.reg 22 (.int .i64)], 0, []⟩) (.n none .z (.n none .z (.n none (.n none (.n none .z (.n none (.dr [] []) (.n none (.n none .z .z) .z))) .z) .z))) .z) .z)))) .z) .z))) .z) .z)) (.n none .z .z))))
noncomputable def spot_Check_dc : List (Nat × Ctr) := [(144, spot_one_ctr)]
def spot_Check_ctr : Ctr := ⟨(.pair (.list (.pair .str (.pair (.pair (.int .i64) (.pair (.int .i64) (.int .i64))) (.pair (.pair (.int .i64) (.pair (.int .i64) (.int .i64))) (.pair (.list (.pair (.int .i64) (.int .i64))) (.list (.int .i64))))))) .unit), (.pair (.int .i64) .unit), spot_Check_r, 115⟩
theorem spot_Check_ok : CtrOk Try.prog 115 spot_Check_ctr := ctr_ok (l := spot_Check_dc) (f := 12) (an := spot_Check_an) ⟨spot_one_ok, trivial⟩ fun fu x => by kernel_rfl
def grid_nodes_l3 (fu : Nat) (a : Int × Int × Int × Unit) (j2 : (Int × Int) → Option (Int × Int × Unit)) (v2 : Int × Int) : Option (Int × Int × Unit) :=
  bif (decide (v2.2 < a.1)) then
    let v3 : Int := (IntKind.i64.wrap (v2.1 * a.2.2.1))
    j2 ((v3, (IntKind.i64.wrap (v2.2 + (1 : Int)))))
  else
  bif (decide ((32768 : Int) < (IntKind.i64.wrap (v2.1 * a.2.1)))) then
    some (((0 : Int), ((2 : Int), ())))
  else
  let v3 : Int := v2.1
  some ((v3, ((0 : Int), ())))
def grid_nodes_j2 (fu : Nat) (a : Int × Int × Int × Unit) (v1 : Bool) : Option (Int × Int × Unit) :=
  bif v1 then
    loopF (grid_nodes_l3 fu a) fu (((1 : Int), (0 : Int)))
  else
  some (((0 : Int), ((3 : Int), ())))
def grid_nodes_j1 (fu : Nat) (a : Int × Int × Int × Unit) (v0 : Bool) : Option (Int × Int × Unit) :=
  bif v0 then
    some (((0 : Int), ((3 : Int), ())))
  else
  joinF (grid_nodes_j2 fu a) fun j1 =>
  let v2 : Bool := (decide (a.2.2.1 = (2 : Int)))
  bif v2 then
    j1 (v2)
  else
  let v3 : Bool := (decide (a.2.2.1 = (3 : Int)))
  bif v3 then
    j1 (v3)
  else
  let v4 : Bool := (decide (a.2.2.1 = (4 : Int)))
  bif v4 then
    j1 (v4)
  else
  let v5 : Bool := (decide (a.2.2.1 = (5 : Int)))
  bif v5 then
    j1 (v5)
  else
  let v6 : Bool := (decide (a.2.2.1 = (6 : Int)))
  bif v6 then
    j1 (v6)
  else
  let v7 : Bool := (decide (a.2.2.1 = (7 : Int)))
  bif v7 then
    j1 (v7)
  else
  let v8 : Bool := (decide (a.2.2.1 = (9 : Int)))
  j1 (v8)
def grid_nodes_r (fu : Nat) (a : Int × Int × Int × Unit) : Option (Int × Int × Unit) :=
  joinF (grid_nodes_j1 fu a) fun j0 =>
  bif (decide (a.1 < (1 : Int))) then
    j0 (true)
  else
  bif (decide ((4 : Int) < a.1)) then
    j0 (true)
  else
  bif (decide (a.2.1 < (1 : Int))) then
    j0 (true)
  else
  j0 ((decide ((8 : Int) < a.2.1)))
def grid_nodes_an : An := (.n none .z (.n none (.n (some ⟨[2, 1, 0], [], [], [.reg 22 .bool], 0, []⟩) .z (.n none (.n none .z .z) .z)) (.n none (.n none .z (.n none (.n (some ⟨[2, 1, 0], [], [], [.reg 24 .bool], 0, []⟩) (.n none .z (.n none .z (.n none .z (.n none .z (.n none .z (.n none .z (.n none .z (.n none .z (.n none .z (.n none .z (.n none .z (.n none .z .z)))))))))))) (.n none .z (.n none .z .z))) .z)) (.n none .z (.n none (.n none .z (.n none (.n (some ⟨[1, 2, 32], [], [], [.reg 8 (.int .i64), .reg 33 (.int .i64)], 0, []⟩) (.n none .z (.n none .z (.n none (.n none .z .z) .z))) .z) .z)) (.n none (.n none .z (.n none (.n none .z .z) .z)) (.n none .z .z)))))))
noncomputable def grid_nodes_dc : List (Nat × Ctr) := []
def grid_nodes_ctr : Ctr := ⟨(.pair (.int .i64) (.pair (.int .i64) (.pair (.int .i64) .unit))), (.pair (.int .i64) (.pair (.int .i64) .unit)), grid_nodes_r, 140⟩
theorem grid_nodes_ok : CtrOk Try.prog 140 grid_nodes_ctr := ctr_ok (l := grid_nodes_dc) (f := 12) (an := grid_nodes_an) trivial fun fu x => by kernel_rfl
def grid_Check_j2 (fu : Nat) (v3 : Int) (j3 : (Int) → Option (Int × Unit)) (v5 : Bool) : Option (Int × Unit) :=
  bif v5 then
    some (((3 : Int), ()))
  else
  j3 ((IntKind.i64.wrap (v3 + (1 : Int))))
def grid_Check_l1 (fu : Nat) (a : (Int × Int × Int × List Int) × Unit) (j3 : (Int) → Option (Int × Unit)) (v3 : Int) : Option (Int × Unit) :=
  bif (decide (v3 < (List.length a.1.2.2.2 : Int))) then
    bif ((decide ((0 : Int) ≤ v3)) && (decide (v3 < (List.length a.1.2.2.2 : Int)))) then
    let v4 : Int := (List.getD a.1.2.2.2 (Int.toNat v3) 0)
    joinF (grid_Check_j2 fu v3 j3) fun j5 =>
    bif (decide (v4 < (-32768 : Int))) then
      j5 (true)
    else
    j5 ((decide ((65535 : Int) < v4)))
    else none
  else
  some (((0 : Int), ()))
def grid_Check_r (fu : Nat) (a : (Int × Int × Int × List Int) × Unit) : Option (Int × Unit) :=
  bindO (grid_nodes_r fu ((a.1.1, (a.1.2.1, (a.1.2.2.1, ()))))) fun v0 =>
  let v1 : Int := v0.1
  let v2 : Int := v0.2.1
  bif (decide (v2 ≠ (0 : Int))) then
    some ((v2, ()))
  else
  bif (decide ((List.length a.1.2.2.2 : Int) ≠ (IntKind.i64.wrap (v1 * a.1.2.1)))) then
    some (((4 : Int), ()))
  else
  loopF (grid_Check_l1 fu a) fu ((0 : Int))
def grid_Check_an : An := (.n none .z (.n none .z (.n none (.n none .z (.n none (.n none .z .z) .z)) (.n none (.n none .z (.n none (.n none .z .z) .z)) (.n none (.n none .z (.n none (.n (some ⟨[29, 30], [0], [], [.reg 31 (.int .i64)], 0, []⟩) (.n none .z (.n none .z (.n none (.n none (.n none .z (.n (some ⟨[31], [], [], [.reg 40 .bool], 0, []⟩) .z (.n none (.n none .z .z) .z))) .z) .z))) .z) .z)) (.n none .z .z))))))
noncomputable def grid_Check_dc : List (Nat × Ctr) := [(140, grid_nodes_ctr)]
def grid_Check_ctr : Ctr := ⟨(.pair (.agg (.pair (.int .i64) (.pair (.int .i64) (.pair (.int .i64) (.list (.int .i64)))))) .unit), (.pair (.int .i64) .unit), grid_Check_r, 101⟩
theorem grid_Check_ok : CtrOk Try.prog 101 grid_Check_ctr := ctr_ok (l := grid_Check_dc) (f := 12) (an := grid_Check_an) ⟨grid_nodes_ok, trivial⟩ fun fu x => by kernel_rfl
def devicelink_Check_j2 (fu : Nat) (v2 : Int) (j2 : (Int) → Option (Int × Unit)) (v4 : Bool) : Option (Int × Unit) :=
  bif v4 then
    some (((3 : Int), ()))
  else
  j2 ((IntKind.i64.wrap (v2 + (1 : Int))))
def devicelink_Check_l1 (fu : Nat) (a : (Int × Int × Int × List Int) × Unit) (j2 : (Int) → Option (Int × Unit)) (v2 : Int) : Option (Int × Unit) :=
  bif (decide (v2 < (List.length a.1.2.2.2 : Int))) then
    bif ((decide ((0 : Int) ≤ v2)) && (decide (v2 < (List.length a.1.2.2.2 : Int)))) then
    let v3 : Int := (List.getD a.1.2.2.2 (Int.toNat v2) 0)
    joinF (devicelink_Check_j2 fu v2 j2) fun j4 =>
    bif (decide (v3 < (0 : Int))) then
      j4 (true)
    else
    j4 ((decide ((65280 : Int) < v3)))
    else none
  else
  some (((0 : Int), ()))
def devicelink_Check_r (fu : Nat) (a : (Int × Int × Int × List Int) × Unit) : Option (Int × Unit) :=
  bindO (grid_Check_r fu ((a.1, ()))) fun v0 =>
  let v1 : Int := v0.1
  bif (decide (v1 ≠ (0 : Int))) then
    some ((v1, ()))
  else
  loopF (devicelink_Check_l1 fu a) fu ((0 : Int))
def devicelink_Check_an : An := (.n none .z (.n none (.n none .z (.n none .z (.n none (.n none .z .z) .z))) (.n none (.n none .z (.n none (.n (some ⟨[12, 13], [0], [], [.reg 14 (.int .i64)], 0, []⟩) (.n none .z (.n none .z (.n none (.n none (.n none .z (.n (some ⟨[14], [], [], [.reg 23 .bool], 0, []⟩) .z (.n none (.n none .z .z) .z))) .z) .z))) .z) .z)) (.n none .z .z))))
noncomputable def devicelink_Check_dc : List (Nat × Ctr) := [(101, grid_Check_ctr)]
def devicelink_Check_ctr : Ctr := ⟨(.pair (.agg (.pair (.int .i64) (.pair (.int .i64) (.pair (.int .i64) (.list (.int .i64)))))) .unit), (.pair (.int .i64) .unit), devicelink_Check_r, 70⟩
theorem devicelink_Check_ok : CtrOk Try.prog 70 devicelink_Check_ctr := ctr_ok (l := devicelink_Check_dc) (f := 12) (an := devicelink_Check_an) ⟨grid_Check_ok, trivial⟩ fun fu x => by kernel_rfl
def condition_table_j1 (fu : Nat) (v2 : Bool) : Option (Int × Unit) :=
  bif v2 then
    some (((4 : Int), ()))
  else
  some (((0 : Int), ()))
def condition_table_r (fu : Nat) (a : (Int × Int × Int × List Int) × Int × Int × Unit) : Option (Int × Unit) :=
  bindO (devicelink_Check_r fu ((a.1, ()))) fun v0 =>
  let v1 : Int := v0.1
  bif (decide (v1 ≠ (0 : Int))) then
    some ((v1, ()))
  else
  joinF (condition_table_j1 fu) fun j2 =>
  bif (decide (a.1.1 ≠ a.2.1)) then
    j2 (true)
  else
  j2 ((decide (a.1.2.1 ≠ a.2.2.1)))
def condition_table_an : An := (.n none .z (.n none (.n none .z (.n none .z (.n none (.n none .z .z) .z))) (.n none (.n (some ⟨[], [0], [], [.reg 22 .bool], 0, []⟩) .z (.n none (.n none .z .z) .z)) (.n none .z .z))))
noncomputable def condition_table_dc : List (Nat × Ctr) := [(70, devicelink_Check_ctr)]
def condition_table_ctr : Ctr := ⟨(.pair (.agg (.pair (.int .i64) (.pair (.int .i64) (.pair (.int .i64) (.list (.int .i64)))))) (.pair (.int .i64) (.pair (.int .i64) .unit))), (.pair (.int .i64) .unit), condition_table_r, 114⟩
theorem condition_table_ok : CtrOk Try.prog 114 condition_table_ctr := ctr_ok (l := condition_table_dc) (f := 12) (an := condition_table_an) ⟨devicelink_Check_ok, trivial⟩ fun fu x => by kernel_rfl
def condition_distinct_l3 (fu : Nat) (a : List Int × Int × Unit) (v0 : Int) (v1 : Int) (j0 : (Int) → Option (Int × Unit)) (j3 : (Int) → Option (Int × Unit)) (v3 : Int) : Option (Int × Unit) :=
  bif (decide (v3 < (List.length (List.drop (Int.toNat (0 : Int)) (List.take (Int.toNat v0) a.1)) : Int))) then
    bif ((decide ((0 : Int) ≤ v3)) && (decide (v3 < (List.length (List.drop (Int.toNat (0 : Int)) (List.take (Int.toNat v0) a.1)) : Int)))) then
    let v4 : Int := (List.getD (List.drop (Int.toNat (0 : Int)) (List.take (Int.toNat v0) a.1)) (Int.toNat v3) 0)
    bif (decide (v4 = v1)) then
      some (((7 : Int), ()))
    else
    j3 ((IntKind.i64.wrap (v3 + (1 : Int))))
    else none
  else
  j0 ((IntKind.i64.wrap (v0 + (1 : Int))))
def condition_distinct_j2 (fu : Nat) (a : List Int × Int × Unit) (v0 : Int) (v1 : Int) (j0 : (Int) → Option (Int × Unit)) (v2 : Bool) : Option (Int × Unit) :=
  bif v2 then
    some (((3 : Int), ()))
  else
  bif ((decide ((0 : Int) ≤ v0)) && (decide (v0 ≤ (List.length a.1 : Int)))) then
  loopF (condition_distinct_l3 fu a v0 v1 j0) fu ((0 : Int))
  else none
def condition_distinct_l1 (fu : Nat) (a : List Int × Int × Unit) (j0 : (Int) → Option (Int × Unit)) (v0 : Int) : Option (Int × Unit) :=
  bif (decide (v0 < (List.length a.1 : Int))) then
    bif ((decide ((0 : Int) ≤ v0)) && (decide (v0 < (List.length a.1 : Int)))) then
    let v1 : Int := (List.getD a.1 (Int.toNat v0) 0)
    joinF (condition_distinct_j2 fu a v0 v1 j0) fun j2 =>
    bif (decide (v1 < (0 : Int))) then
      j2 (true)
    else
    j2 ((decide (a.2.1 ≤ v1)))
    else none
  else
  some (((0 : Int), ()))
def condition_distinct_r (fu : Nat) (a : List Int × Int × Unit) : Option (Int × Unit) :=
  loopF (condition_distinct_l1 fu a) fu ((0 : Int))
def condition_distinct_an : An := (.n none .z (.n none (.n none .z (.n none (.n (some ⟨[9, 1, 0, 10], [], [], [.reg 11 (.int .i64)], 0, []⟩) (.n none .z (.n none .z (.n none (.n none (.n none .z (.n none (.n (some ⟨[5, 11, 6], [], [], [.reg 22 .bool], 0, []⟩) .z (.n none (.n none .z .z) .z)) (.n none .z (.n none (.n (some ⟨[11, 25, 6, 26], [], [], [.reg 27 (.int .i64)], 0, []⟩) (.n none .z (.n none .z (.n none (.n none (.n none .z (.n none .z (.n none (.n none .z .z) .z))) .z) .z))) .z) .z)))) .z) .z))) .z) .z)) (.n none .z .z)))
noncomputable def condition_distinct_dc : List (Nat × Ctr) := []
def condition_distinct_ctr : Ctr := ⟨(.pair (.list (.int .i64)) (.pair (.int .i64) .unit)), (.pair (.int .i64) .unit), condition_distinct_r, 113⟩
theorem condition_distinct_ok : CtrOk Try.prog 113 condition_distinct_ctr := ctr_ok (l := condition_distinct_dc) (f := 12) (an := condition_distinct_an) trivial fun fu x => by kernel_rfl
def profile_Names_l2 (fu : Nat) (a : List (List UInt8) × Unit) (v0 : Int) (v1 : List UInt8) (j0 : (Int) → Option (Int × Unit)) (j3 : (Int) → Option (Int × Unit)) (v3 : Int) : Option (Int × Unit) :=
  bif (decide (v3 < (List.length (List.drop (Int.toNat (0 : Int)) (List.take (Int.toNat v0) a.1)) : Int))) then
    bif ((decide ((0 : Int) ≤ v3)) && (decide (v3 < (List.length (List.drop (Int.toNat (0 : Int)) (List.take (Int.toNat v0) a.1)) : Int)))) then
    let v4 : List UInt8 := (List.getD (List.drop (Int.toNat (0 : Int)) (List.take (Int.toNat v0) a.1)) (Int.toNat v3) [])
    bif (decide (v1 = v4)) then
      some (((7 : Int), ()))
    else
    j3 ((IntKind.i64.wrap (v3 + (1 : Int))))
    else none
  else
  j0 ((IntKind.i64.wrap (v0 + (1 : Int))))
def profile_Names_l1 (fu : Nat) (a : List (List UInt8) × Unit) (j0 : (Int) → Option (Int × Unit)) (v0 : Int) : Option (Int × Unit) :=
  bif (decide (v0 < (List.length a.1 : Int))) then
    bif ((decide ((0 : Int) ≤ v0)) && (decide (v0 < (List.length a.1 : Int)))) then
    let v1 : List UInt8 := (List.getD a.1 (Int.toNat v0) [])
    bindO (profile_IsName_r fu ((v1, ()))) fun v2 =>
    bif (!v2.1) then
      some (((6 : Int), ()))
    else
    bif ((decide ((0 : Int) ≤ v0)) && (decide (v0 ≤ (List.length a.1 : Int)))) then
    loopF (profile_Names_l2 fu a v0 v1 j0) fu ((0 : Int))
    else none
    else none
  else
  some (((0 : Int), ()))
def profile_Names_r (fu : Nat) (a : List (List UInt8) × Unit) : Option (Int × Unit) :=
  loopF (profile_Names_l1 fu a) fu ((0 : Int))
def profile_Names_an : An := (.n none .z (.n none (.n none .z (.n none (.n (some ⟨[7, 0, 8], [], [], [.reg 9 (.int .i64)], 0, []⟩) (.n none .z (.n none .z (.n none (.n none (.n none .z (.n none (.n none .z (.n none (.n none .z .z) .z)) (.n none .z (.n none (.n (some ⟨[9, 19, 4, 20], [], [], [.reg 21 (.int .i64)], 0, []⟩) (.n none .z (.n none .z (.n none (.n none (.n none .z (.n none .z (.n none (.n none .z .z) .z))) .z) .z))) .z) .z)))) .z) .z))) .z) .z)) (.n none .z .z)))
noncomputable def profile_Names_dc : List (Nat × Ctr) := [(98, profile_IsName_ctr)]
def profile_Names_ctr : Ctr := ⟨(.pair (.list .str) .unit), (.pair (.int .i64) .unit), profile_Names_r, 99⟩
theorem profile_Names_ok : CtrOk Try.prog 99 profile_Names_ctr := ctr_ok (l := profile_Names_dc) (f := 12) (an := profile_Names_an) ⟨profile_IsName_ok, trivial⟩ fun fu x => by kernel_rfl
def condition_Check_j3 (fu : Nat) (v16 : Int) (j16 : (Int) → Option (Int × Unit)) (v18 : Bool) : Option (Int × Unit) :=
  bif v18 then
    some (((4 : Int), ()))
  else
  j16 ((IntKind.i64.wrap (v16 + (1 : Int))))
def condition_Check_j4 (fu : Nat) (v17 : Bool) : Option (Int × Unit) :=
  bif v17 then
    some (((3 : Int), ()))
  else
  some (((0 : Int), ()))
def condition_Check_l2 (fu : Nat) (a : (List (List UInt8) × List Int × List Int × (Int × Int × Int × List Int) × (Int × Int × Int × List Int) × List (List UInt8 × (Int × Int × Int) × (Int × Int × Int) × List (Int × Int) × List Int) × Int) × Unit) (j16 : (Int) → Option (Int × Unit)) (v16 : Int) : Option (Int × Unit) :=
  bif (decide (v16 < (List.length a.1.2.2.2.2.2.1 : Int))) then
    bif ((decide ((0 : Int) ≤ v16)) && (decide (v16 < (List.length a.1.2.2.2.2.2.1 : Int)))) then
    let v17 : List UInt8 × (Int × Int × Int) × (Int × Int × Int) × List (Int × Int) × List Int := (List.getD a.1.2.2.2.2.2.1 (Int.toNat v16) ([], ((0, (0, 0)), ((0, (0, 0)), ([], [])))))
    joinF (condition_Check_j3 fu v16 j16) fun j18 =>
    bif (decide ((List.length v17.2.2.2.2 : Int) ≠ (4 : Int))) then
      j18 (true)
    else
    j18 ((decide ((List.length a.1.2.1 : Int) ≠ (4 : Int))))
    else none
  else
  joinF (condition_Check_j4 fu) fun j17 =>
  bif (decide (a.1.2.2.2.2.2.2 < (0 : Int))) then
    j17 (true)
  else
  j17 ((decide ((2040 : Int) < a.1.2.2.2.2.2.2)))
def condition_Check_j1 (fu : Nat) (a : (List (List UInt8) × List Int × List Int × (Int × Int × Int × List Int) × (Int × Int × Int × List Int) × List (List UInt8 × (Int × Int × Int) × (Int × Int × Int) × List (Int × Int) × List Int) × Int) × Unit) (v0 : Int) (v5 : Bool) : Option (Int × Unit) :=
  bif v5 then
    some (((4 : Int), ()))
  else
  bindO (condition_distinct_r fu ((a.1.2.1, (v0, ())))) fun v6 =>
  let v7 : Int := v6.1
  bif (decide (v7 ≠ (0 : Int))) then
    some ((v7, ()))
  else
  bindO (condition_distinct_r fu ((a.1.2.2.1, (v0, ())))) fun v8 =>
  let v9 : Int := v8.1
  bif (decide (v9 ≠ (0 : Int))) then
    some ((v9, ()))
  else
  bindO (condition_table_r fu ((a.1.2.2.2.1, ((1 : Int), (v0, ()))))) fun v10 =>
  let v11 : Int := v10.1
  bif (decide (v11 ≠ (0 : Int))) then
    some ((v11, ()))
  else
  bindO (condition_table_r fu ((a.1.2.2.2.2.1, ((3 : Int), (v0, ()))))) fun v12 =>
  let v13 : Int := v12.1
  bif (decide (v13 ≠ (0 : Int))) then
    some ((v13, ()))
  else
  bindO (spot_Check_r fu ((a.1.2.2.2.2.2.1, ()))) fun v14 =>
  let v15 : Int := v14.1
  bif (decide (v15 ≠ (0 : Int))) then
    some ((v15, ()))
  else
  loopF (condition_Check_l2 fu a) fu ((0 : Int))
def condition_Check_r (fu : Nat) (a : (List (List UInt8) × List Int × List Int × (Int × Int × Int × List Int) × (Int × Int × Int × List Int) × List (List UInt8 × (Int × Int × Int) × (Int × Int × Int) × List (Int × Int) × List Int) × Int) × Unit) : Option (Int × Unit) :=
  let v0 : Int := (List.length a.1.1 : Int)
  let v1 : Bool := (decide ((8 : Int) < v0))
  bif v1 then
    some (((2 : Int), ()))
  else
  let v2 : Bool := (decide (v0 = (0 : Int)))
  bif v2 then
    some (((1 : Int), ()))
  else
  bindO (profile_Names_r fu ((a.1.1, ()))) fun v3 =>
  let v4 : Int := v3.1
  bif (decide (v4 ≠ (0 : Int))) then
    some ((v4, ()))
  else
  joinF (condition_Check_j1 fu a v0) fun j5 =>
  bif (decide ((List.length a.1.2.1 : Int) ≠ (0 : Int))) then
    bif (decide ((List.length a.1.2.1 : Int) ≠ (4 : Int))) then
      j5 (true)
    else
    j5 ((decide ((List.length a.1.2.2.1 : Int) ≠ v0)))
  else
  j5 ((decide ((List.length a.1.2.2.1 : Int) ≠ v0)))
def condition_Check_an : An := (.n none .z (.n none .z (.n none (.n none (.n none .z (.n none (.n none .z .z) (.n none .z (.n none (.n none .z .z) .z)))) .z) (.n none (.n none .z (.n none .z (.n none (.n none .z .z) .z))) (.n none (.n (some ⟨[3, 1], [0], [], [.reg 43 .bool], 0, []⟩) .z (.n none (.n none .z .z) .z)) (.n none (.n none .z (.n none .z (.n none (.n none .z .z) .z))) (.n none (.n none .z (.n none .z (.n none (.n none .z .z) .z))) (.n none (.n none .z (.n none .z (.n none (.n none .z .z) .z))) (.n none (.n none .z (.n none .z (.n none (.n none .z .z) .z))) (.n none (.n none .z (.n none .z (.n none (.n none .z .z) .z))) (.n none (.n none .z (.n none (.n (some ⟨[1, 79, 80], [0], [], [.reg 81 (.int .i64)], 0, []⟩) (.n none .z (.n none .z (.n none (.n none (.n none .z (.n (some ⟨[81], [1], [], [.reg 94 .bool], 0, []⟩) .z (.n none (.n none .z .z) .z))) .z) .z))) .z) .z)) (.n none (.n (some ⟨[], [0], [], [.reg 103 .bool], 0, []⟩) .z (.n none (.n none .z .z) .z)) (.n none .z .z)))))))))))))
noncomputable def condition_Check_dc : List (Nat × Ctr) := [(99, profile_Names_ctr), (113, condition_distinct_ctr), (114, condition_table_ctr), (115, spot_Check_ctr)]
def condition_Check_ctr : Ctr := ⟨(.pair (.agg (.pair (.list .str) (.pair (.list (.int .i64)) (.pair (.list (.int .i64)) (.pair (.pair (.int .i64) (.pair (.int .i64) (.pair (.int .i64) (.list (.int .i64))))) (.pair (.pair (.int .i64) (.pair (.int .i64) (.pair (.int .i64) (.list (.int .i64))))) (.pair (.list (.pair .str (.pair (.pair (.int .i64) (.pair (.int .i64) (.int .i64))) (.pair (.pair (.int .i64) (.pair (.int .i64) (.int .i64))) (.pair (.list (.pair (.int .i64) (.int .i64))) (.list (.int .i64))))))) (.int .i64)))))))) .unit), (.pair (.int .i64) .unit), condition_Check_r, 53⟩
theorem condition_Check_ok : CtrOk Try.prog 53 condition_Check_ctr := ctr_ok (l := condition_Check_dc) (f := 12) (an := condition_Check_an) ⟨profile_Names_ok, ⟨condition_distinct_ok, ⟨condition_table_ok, ⟨spot_Check_ok, trivial⟩⟩⟩⟩ fun fu x => by kernel_rfl
def R_Linked_j3 (fu : Nat) (j2 : (Int × List Int) → Option (List Int × Unit)) (v3 : Int × List Int) : Option (List Int × Unit) :=
  j2 (((IntKind.i64.wrap (v3.1 + (1 : Int))), v3.2))
def R_Linked_j5 (fu : Nat) (a : (Int × Int × Int × List Int) × List Int × Unit) (v5 : Int × Int × Int × Int) (j5 : (Int × Int × Int × Int) → Option (List Int × Unit)) (v10 : Int × Int × Int × Int) : Option (List Int × Unit) :=
  let v11 : Int := (IntKind.i64.wrap ((IntKind.i64.wrap (v10.1 * a.1.2.2.1)) + v10.2.1))
  j5 ((v11, (v10.2.2.1, (v10.2.2.2, (IntKind.i64.wrap (v5.2.2.2 + (1 : Int)))))))
def R_Linked_l6 (fu : Nat) (a : (Int × Int × Int × List Int) × List Int × Unit) (v2 : Int × List Int) (v5 : Int × Int × Int × Int) (v6 : Int) (j3 : (Int × List Int) → Option (List Int × Unit)) (j7 : (Int × List Int) → Option (List Int × Unit)) (v7 : Int × List Int) : Option (List Int × Unit) :=
  bif (decide (v7.1 < (List.length v2.2 : Int))) then
    let v8 : Int := v7.1
    bif ((decide ((0 : Int) ≤ v8)) && (decide (v8 < (List.length v7.2 : Int)))) then
    bif ((decide ((0 : Int) ≤ (IntKind.i64.wrap ((IntKind.i64.wrap (v5.1 * a.1.2.1)) + v8)))) && (decide ((IntKind.i64.wrap ((IntKind.i64.wrap (v5.1 * a.1.2.1)) + v8)) < (List.length a.1.2.2.2 : Int)))) then
    let v9 : Int := (List.getD a.1.2.2.2 (Int.toNat (IntKind.i64.wrap ((IntKind.i64.wrap (v5.1 * a.1.2.1)) + v8))) 0)
    bif ((decide ((0 : Int) ≤ v8)) && (decide (v8 < (List.length v7.2 : Int)))) then
    j7 (((IntKind.i64.wrap (v7.1 + (1 : Int))), (List.set v7.2 (Int.toNat v8) (IntKind.i64.wrap ((List.getD v7.2 (Int.toNat v8) 0) + (IntKind.i64.wrap (v6 * v9)))))))
    else none
    else none
    else none
  else
  j3 ((v2.1, v7.2))
def R_Linked_l4 (fu : Nat) (a : (Int × Int × Int × List Int) × List Int × Unit) (v0 : Int × List Int) (v1 : Int) (v2 : Int × List Int) (v4 : Int) (j3 : (Int × List Int) → Option (List Int × Unit)) (j5 : (Int × Int × Int × Int) → Option (List Int × Unit)) (v5 : Int × Int × Int × Int) : Option (List Int × Unit) :=
  bif (decide (v5.2.2.2 < (List.length v0.2 : Int))) then
    bif ((decide ((0 : Int) ≤ v5.2.2.2)) && (decide (v5.2.2.2 < (List.length v0.2 : Int)))) then
    let v6 : Int := v5.2.2.2
    let v7 : Int := (List.getD v0.2 (Int.toNat v5.2.2.2) 0)
    bif (decide (v1 ≠ (0 : Int))) then
    bif (decide (v1 ≠ (0 : Int))) then
    let v8 : Int := (IntKind.i64.wrap (Int.tdiv v7 v1))
    let v9 : Int := (Int.tmod v7 v1)
    joinF (R_Linked_j5 fu a v5 j5) fun j10 =>
    bif ((decide ((0 : Int) ≤ v6)) && (decide (v6 ≤ (64 : Int)))) then
    bif (decide ((bits BinOp.and IntKind.i64 (v4 / 2 ^ (Int.toNat v6)) (1 : Int)) = (1 : Int))) then
      let v11 : Int := (min v5.2.2.1 v9)
      let v12 : Int := (IntKind.i64.wrap (v8 + (1 : Int)))
      j10 ((v5.1, (v12, (v5.2.1, v11))))
    else
    let v11 : Int := (max v5.2.1 v9)
    j10 ((v5.1, (v8, (v11, v5.2.2.1))))
    else none
    else none
    else none
    else none
  else
  let v6 : Int := (IntKind.i64.wrap (v5.2.2.1 - v5.2.1))
  bif (decide ((0 : Int) < v6)) then
    loopF (R_Linked_l6 fu a v2 v5 v6 j3) fu (((0 : Int), v2.2))
  else
  j3 (v2)
def R_Linked_l7 (fu : Nat) (a : (Int × Int × Int × List Int) × List Int × Unit) (v2 : Int × List Int) (j3 : (Int × List Int) → Option (List Int × Unit)) (v3 : Int × List Int) : Option (List Int × Unit) :=
  bif (decide (v3.1 < (List.length v2.2 : Int))) then
    bif ((decide ((0 : Int) ≤ v3.1)) && (decide (v3.1 < (List.length v3.2 : Int)))) then
    let v4 : Int := v3.1
    let v5 : Int := (List.getD v3.2 (Int.toNat v3.1) 0)
    bif (decide ((IntKind.i64.wrap (a.1.2.2.1 - (1 : Int))) ≠ (0 : Int))) then
    bindO (R_Round_r fu ((v5, ((IntKind.i64.wrap ((256 : Int) * (IntKind.i64.wrap (Int.tdiv (65280 : Int) (IntKind.i64.wrap (a.1.2.2.1 - (1 : Int))))))), ())))) fun v6 =>
    bif ((decide ((0 : Int) ≤ v4)) && (decide (v4 < (List.length v3.2 : Int)))) then
    j3 (((IntKind.i64.wrap (v3.1 + (1 : Int))), (List.set v3.2 (Int.toNat v4) v6.1)))
    else none
    else none
    else none
  else
  some ((v3.2, ()))
def R_Linked_l2 (fu : Nat) (a : (Int × Int × Int × List Int) × List Int × Unit) (v0 : Int × List Int) (v1 : Int) (j2 : (Int × List Int) → Option (List Int × Unit)) (v2 : Int × List Int) : Option (List Int × Unit) :=
  bif (decide (v2.1 < (IntKind.i64.wrap ((1 : Int) * 2 ^ (Int.toNat a.1.1))))) then
    joinF (R_Linked_j3 fu j2) fun j3 =>
    let v4 : Int := v2.1
    loopF (R_Linked_l4 fu a v0 v1 v2 v4 j3) fu (((0 : Int), ((0 : Int), (v1, (0 : Int)))))
  else
  loopF (R_Linked_l7 fu a v2) fu (((0 : Int), v2.2))
def R_Linked_l1 (fu : Nat) (a : (Int × Int × Int × List Int) × List Int × Unit) (j0 : (Int × List Int) → Option (List Int × Unit)) (v0 : Int × List Int) : Option (List Int × Unit) :=
  bif (decide (v0.1 < (List.length a.2.1 : Int))) then
    bif ((decide ((0 : Int) ≤ v0.1)) && (decide (v0.1 < (List.length a.2.1 : Int)))) then
    let v1 : Int := (List.getD a.2.1 (Int.toNat v0.1) 0)
    let v2 : Int := v0.1
    bif ((decide ((0 : Int) ≤ v2)) && (decide (v2 < (List.length v0.2 : Int)))) then
    j0 (((IntKind.i64.wrap (v0.1 + (1 : Int))), (List.set v0.2 (Int.toNat v2) (IntKind.i64.wrap ((256 : Int) * v1)))))
    else none
    else none
  else
  bif (decide ((IntKind.i64.wrap (a.1.2.2.1 - (1 : Int))) ≠ (0 : Int))) then
  let v1 : Int := (IntKind.i64.wrap (Int.tdiv (65280 : Int) (IntKind.i64.wrap (a.1.2.2.1 - (1 : Int)))))
  bif ((decide ((0 : Int) ≤ a.1.2.1)) && (decide (((8 : Int) * a.1.2.1) ≤ (281474976710656 : Int)))) then
  bif ((decide ((0 : Int) ≤ a.1.1)) && (decide (a.1.1 ≤ (64 : Int)))) then
  loopF (R_Linked_l2 fu a v0 v1) fu (((0 : Int), (List.replicate (Int.toNat a.1.2.1) (0 : Int))))
  else none
  else none
  else none
def R_Linked_r (fu : Nat) (a : (Int × Int × Int × List Int) × List Int × Unit) : Option (List Int × Unit) :=
  bif ((decide ((0 : Int) ≤ (List.length a.2.1 : Int))) && (decide (((8 : Int) * (List.length a.2.1 : Int)) ≤ (281474976710656 : Int)))) then
  loopF (R_Linked_l1 fu a) fu (((0 : Int), (List.replicate (Int.toNat (List.length a.2.1 : Int)) (0 : Int))))
  else none
def R_Linked_an : An := (.n none .z (.n none .z (.n none (.n none .z (.n none (.n (some ⟨[2, 5, 14, 15, 4], [0], [], [.reg 16 (.int .i64), .row 1 true (.int .i64) 3 0], 0, []⟩) (.n none .z (.n none .z (.n none (.n none (.n none .z .z) .z) .z))) .z) .z)) (.n none (.ops [(2, (.n none (.n none .z (.n none .z (.n none .z (.n none (.n none .z (.n none (.n (some ⟨[6, 1, 2, 5, 26, 4], [0, 1, 2], [], [.reg 27 (.int .i64), .row 3 true (.int .i64) 3 0], 0, []⟩) (.n none .z (.n none .z (.n (some ⟨[], [], [], [.reg 27 (.int .i64), .row 3 true (.int .i64) 3 0], 0, []⟩) (.n none (.n none .z (.n none .z (.n none (.n none .z (.n none (.n (some ⟨[27, 31, 7, 32], [3], [], [.reg 10 (.int .i64), .reg 9 (.int .i64), .reg 8 (.int .i64), .reg 33 (.int .i64)], 0, []⟩) (.n none .z (.n none .z (.n none (.n none (.n none .z (.n none (.dr [] []) (.n (some ⟨[33], [], [], [.reg 10 (.int .i64), .reg 13 (.int .i64), .reg 9 (.int .i64), .reg 8 (.int .i64)], 0, []⟩) (.n none .z (.n none (.n none .z .z) .z)) .z))) .z) .z))) .z) .z)) (.n none .z (.n none .z (.n none (.n none .z (.n none (.n (some ⟨[27, 15, 10, 70], [], [], [.reg 71 (.int .i64), .row 3 true (.int .i64) 3 0], 0, []⟩) (.n none .z (.n none .z (.n none (.n none (.n none .z (.dr [] [])) .z) .z))) .z) .z)) .z)))))) .z) .z))) .z) .z)) (.n none .z .z))))) .z))]) (.n none (.n none .z (.n none (.n (some ⟨[8, 30, 2, 31, 4], [0, 1], [], [.reg 32 (.int .i64), .row 3 true (.int .i64) 3 0], 0, []⟩) (.n none .z (.n none .z (.n none (.n none (.n none .z .z) .z) .z))) .z) .z)) (.n none .z .z))))))
noncomputable def R_Linked_dc : List (Nat × Ctr) := [(84, R_Round_ctr)]
def R_Linked_ctr : Ctr := ⟨(.pair (.agg (.pair (.int .i64) (.pair (.int .i64) (.pair (.int .i64) (.list (.int .i64)))))) (.pair (.list (.int .i64)) .unit)), (.pair (.list (.int .i64)) .unit), R_Linked_r, 55⟩
theorem R_Linked_ok : CtrOk Try.prog 55 R_Linked_ctr := ctr_ok (l := R_Linked_dc) (f := 12) (an := R_Linked_an) ⟨R_Round_ok, trivial⟩ fun fu x => by kernel_rfl
def grid_at_l1 (fu : Nat) (a : (Int × Int × Int × List Int) × List Int × Unit) (j0 : (Int × Int) → Option (Int × Unit)) (v0 : Int × Int) : Option (Int × Unit) :=
  bif (decide (v0.2 < (List.length a.2.1 : Int))) then
    bif ((decide ((0 : Int) ≤ v0.2)) && (decide (v0.2 < (List.length a.2.1 : Int)))) then
    let v1 : Int := (List.getD a.2.1 (Int.toNat v0.2) 0)
    let v2 : Int := (IntKind.i64.wrap ((IntKind.i64.wrap (v0.1 * a.1.2.2.1)) + v1))
    j0 ((v2, (IntKind.i64.wrap (v0.2 + (1 : Int)))))
    else none
  else
  let v1 : Int := (IntKind.i64.wrap (v0.1 * a.1.2.1))
  some ((v1, ()))
def grid_at_r (fu : Nat) (a : (Int × Int × Int × List Int) × List Int × Unit) : Option (Int × Unit) :=
  loopF (grid_at_l1 fu a) fu (((0 : Int), (0 : Int)))
def grid_at_an : An := (.n none .z (.n none .z (.n none (.n none .z (.n none (.n (some ⟨[0, 8, 9, 4], [], [], [.reg 5 (.int .i64), .reg 10 (.int .i64)], 0, []⟩) (.n none .z (.n none .z (.n none (.n none (.n none .z .z) .z) .z))) .z) .z)) (.n none .z .z))))
noncomputable def grid_at_dc : List (Nat × Ctr) := []
def grid_at_ctr : Ctr := ⟨(.pair (.ptr (.pair (.int .i64) (.pair (.int .i64) (.pair (.int .i64) (.list (.int .i64)))))) (.pair (.list (.int .i64)) .unit)), (.pair (.int .i64) .unit), grid_at_r, 138⟩
theorem grid_at_ok : CtrOk Try.prog 138 grid_at_ctr := ctr_ok (l := grid_at_dc) (f := 12) (an := grid_at_an) trivial fun fu x => by kernel_rfl
def devicelink_Quick_j4 (fu : Nat) (v1 : Int) (v3 : Int × List Int × List Int × List Int) (v4 : Int) (v5 : Int) (v6 : Int × List Int) (j3 : (Int × List Int × List Int × List Int) → Option (List Int × Unit)) (j6 : (Int × List Int) → Option (List Int × Unit)) (v7 : Bool) : Option (List Int × Unit) :=
  bif v7 then
    bif (((decide ((0 : Int) ≤ (IntKind.i64.wrap (v6.1 - (1 : Int))))) && (decide ((IntKind.i64.wrap (v6.1 - (1 : Int))) < (List.length v6.2 : Int)))) && (decide ((IntKind.i64.wrap (v6.1 - (1 : Int))) < (4 : Int)))) then
    bif (((decide ((0 : Int) ≤ v6.1)) && (decide (v6.1 < (List.length v6.2 : Int)))) && (decide (v6.1 < (4 : Int)))) then
    let v8 : Int := (IntKind.i64.wrap (v6.1 - (1 : Int)))
    j6 ((v8, (List.set v6.2 (Int.toNat v6.1) (List.getD v6.2 (Int.toNat (IntKind.i64.wrap (v6.1 - (1 : Int)))) 0))))
    else none
    else none
  else
  bif (((decide ((0 : Int) ≤ v6.1)) && (decide (v6.1 < (List.length v6.2 : Int)))) && (decide (v6.1 < (4 : Int)))) then
  j3 (((IntKind.i64.wrap (v3.1 + (1 : Int))), ((List.set v3.2.1 (Int.toNat v4) (Int.tmod v5 v1)), ((List.set v3.2.2.1 (Int.toNat v4) (IntKind.i64.wrap (Int.tdiv v5 v1))), (List.set v6.2 (Int.toNat v6.1) v4)))))
  else none
def devicelink_Quick_l3 (fu : Nat) (v1 : Int) (v3 : Int × List Int × List Int × List Int) (v4 : Int) (v5 : Int) (j3 : (Int × List Int × List Int × List Int) → Option (List Int × Unit)) (j6 : (Int × List Int) → Option (List Int × Unit)) (v6 : Int × List Int) : Option (List Int × Unit) :=
  joinF (devicelink_Quick_j4 fu v1 v3 v4 v5 v6 j3 j6) fun j7 =>
  bif (decide ((0 : Int) < v6.1)) then
    bif (((decide ((0 : Int) ≤ (IntKind.i64.wrap (v6.1 - (1 : Int))))) && (decide ((IntKind.i64.wrap (v6.1 - (1 : Int))) < (List.length v6.2 : Int)))) && (decide ((IntKind.i64.wrap (v6.1 - (1 : Int))) < (4 : Int)))) then
    bif (((decide ((0 : Int) ≤ (List.getD v6.2 (Int.toNat (IntKind.i64.wrap (v6.1 - (1 : Int)))) 0))) && (decide ((List.getD v6.2 (Int.toNat (IntKind.i64.wrap (v6.1 - (1 : Int)))) 0) < (List.length (List.set v3.2.1 (Int.toNat v4) (Int.tmod v5 v1)) : Int)))) && (decide ((List.getD v6.2 (Int.toNat (IntKind.i64.wrap (v6.1 - (1 : Int)))) 0) < (4 : Int)))) then
    bif (((decide ((0 : Int) ≤ v4)) && (decide (v4 < (List.length (List.set v3.2.1 (Int.toNat v4) (Int.tmod v5 v1)) : Int)))) && (decide (v4 < (4 : Int)))) then
    j7 ((decide ((List.getD (List.set v3.2.1 (Int.toNat v4) (Int.tmod v5 v1)) (Int.toNat (List.getD v6.2 (Int.toNat (IntKind.i64.wrap (v6.1 - (1 : Int)))) 0)) 0) < (List.getD (List.set v3.2.1 (Int.toNat v4) (Int.tmod v5 v1)) (Int.toNat v4) 0))))
    else none
    else none
    else none
  else
  j7 (false)
def devicelink_Quick_l6 (fu : Nat) (a : (Int × Int × Int × List Int) × List Int × Unit) (v4 : List Int) (j5 : (Int × List Int) → Option (List Int × Unit)) (v5 : Int × List Int) : Option (List Int × Unit) :=
  bif (decide (v5.1 < (List.length v4 : Int))) then
    bif ((decide ((0 : Int) ≤ v5.1)) && (decide (v5.1 < (List.length v5.2 : Int)))) then
    let v6 : Int := v5.1
    let v7 : Int := (List.getD v5.2 (Int.toNat v5.1) 0)
    bif (decide ((IntKind.i64.wrap (a.1.2.2.1 - (1 : Int))) ≠ (0 : Int))) then
    bindO (curve_Nearest_r fu ((v7, ((IntKind.i64.wrap ((256 : Int) * (IntKind.i64.wrap (Int.tdiv (65280 : Int) (IntKind.i64.wrap (a.1.2.2.1 - (1 : Int))))))), ())))) fun v8 =>
    bif ((decide ((0 : Int) ≤ v6)) && (decide (v6 < (List.length v5.2 : Int)))) then
    j5 (((IntKind.i64.wrap (v5.1 + (1 : Int))), (List.set v5.2 (Int.toNat v6) v8.1)))
    else none
    else none
    else none
  else
  some ((v5.2, ()))
def devicelink_Quick_j5 (fu : Nat) (a : (Int × Int × Int × List Int) × List Int × Unit) (v4 : List Int) : Option (List Int × Unit) :=
  loopF (devicelink_Quick_l6 fu a v4) fu (((0 : Int), v4))
def devicelink_Quick_j8 (fu : Nat) (j5 : (Int × Int × List Int × List Int) → Option (List Int × Unit)) (v6 : Int × Int × List Int × List Int) : Option (List Int × Unit) :=
  let v7 : Int := (IntKind.i64.wrap (v6.1 + (1 : Int)))
  j5 ((v6.2.1, (v7, v6.2.2)))
def devicelink_Quick_j10 (fu : Nat) (v2 : Int) (v3 : Int × List Int × List Int × List Int) (v5 : Int × Int × List Int × List Int) (v7 : Int × Int × List Int × List Int) (j4 : (List Int) → Option (List Int × Unit)) (j6 : (Int × Int × List Int × List Int) → Option (List Int × Unit)) (v8 : Int × List Int) : Option (List Int × Unit) :=
  bif (decide (v5.2.1 < v2)) then
    let v9 : Int := v7.1
    bif (decide (v7.1 = (0 : Int))) then
      j4 (v8.2)
    else
    bif (((decide ((0 : Int) ≤ v5.2.1)) && (decide (v5.2.1 < (List.length v3.2.2.2 : Int)))) && (decide (v5.2.1 < (4 : Int)))) then
    bif (((decide ((0 : Int) ≤ (List.getD v3.2.2.2 (Int.toNat v5.2.1) 0))) && (decide ((List.getD v3.2.2.2 (Int.toNat v5.2.1) 0) < (List.length v7.2.2.2 : Int)))) && (decide ((List.getD v3.2.2.2 (Int.toNat v5.2.1) 0) < (4 : Int)))) then
    bif (((decide ((0 : Int) ≤ (List.getD v3.2.2.2 (Int.toNat v5.2.1) 0))) && (decide ((List.getD v3.2.2.2 (Int.toNat v5.2.1) 0) < (List.length v7.2.2.2 : Int)))) && (decide ((List.getD v3.2.2.2 (Int.toNat v5.2.1) 0) < (4 : Int)))) then
    j6 ((v5.2.1, (v9, (v8.2, (List.set v7.2.2.2 (Int.toNat (List.getD v3.2.2.2 (Int.toNat v5.2.1) 0)) (IntKind.i64.wrap ((List.getD v7.2.2.2 (Int.toNat (List.getD v3.2.2.2 (Int.toNat v5.2.1) 0)) 0) + (1 : Int))))))))
    else none
    else none
    else none
  else
  j6 ((v5.2.1, (v8.1, (v8.2, v7.2.2.2))))
def devicelink_Quick_l11 (fu : Nat) (a : (Int × Int × Int × List Int) × List Int × Unit) (v7 : Int × Int × List Int × List Int) (v9 : Int) (v11 : Int) (j8 : (Int × List Int) → Option (List Int × Unit)) (j12 : (Int × List Int) → Option (List Int × Unit)) (v12 : Int × List Int) : Option (List Int × Unit) :=
  bif (decide (v12.1 < (List.length v7.2.2.1 : Int))) then
    let v13 : Int := v12.1
    bif ((decide ((0 : Int) ≤ v13)) && (decide (v13 < (List.length v12.2 : Int)))) then
    bif ((decide ((0 : Int) ≤ (IntKind.i64.wrap (v11 + v13)))) && (decide ((IntKind.i64.wrap (v11 + v13)) < (List.length a.1.2.2.2 : Int)))) then
    let v14 : Int := (List.getD a.1.2.2.2 (Int.toNat (IntKind.i64.wrap (v11 + v13))) 0)
    bif ((decide ((0 : Int) ≤ v13)) && (decide (v13 < (List.length v12.2 : Int)))) then
    j12 (((IntKind.i64.wrap (v12.1 + (1 : Int))), (List.set v12.2 (Int.toNat v13) (IntKind.i64.wrap ((List.getD v12.2 (Int.toNat v13) 0) + (IntKind.i64.wrap (v9 * v14)))))))
    else none
    else none
    else none
  else
  j8 ((v7.2.1, v12.2))
def devicelink_Quick_j9 (fu : Nat) (a : (Int × Int × Int × List Int) × List Int × Unit) (v2 : Int) (v3 : Int × List Int × List Int × List Int) (v5 : Int × Int × List Int × List Int) (j4 : (List Int) → Option (List Int × Unit)) (j6 : (Int × Int × List Int × List Int) → Option (List Int × Unit)) (v7 : Int × Int × List Int × List Int) : Option (List Int × Unit) :=
  joinF (devicelink_Quick_j10 fu v2 v3 v5 v7 j4 j6) fun j8 =>
  let v9 : Int := (IntKind.i64.wrap (v7.2.1 - v7.1))
  bif (decide ((0 : Int) < v9)) then
    bif ((decide ((List.length v7.2.2.2 : Int) = (4 : Int))) && ((decide ((0 : Int) ≤ v2)) && (decide (v2 ≤ (List.length v7.2.2.2 : Int))))) then
    bindO (grid_at_r fu ((a.1, ((List.drop (Int.toNat (0 : Int)) (List.take (Int.toNat v2) v7.2.2.2)), ())))) fun v10 =>
    let v11 : Int := v10.1
    loopF (devicelink_Quick_l11 fu a v7 v9 v11 j8) fu (((0 : Int), v7.2.2.1))
    else none
  else
  j8 ((v7.2.1, v7.2.2.1))
def devicelink_Quick_l7 (fu : Nat) (a : (Int × Int × Int × List Int) × List Int × Unit) (v2 : Int) (v3 : Int × List Int × List Int × List Int) (j4 : (List Int) → Option (List Int × Unit)) (j5 : (Int × Int × List Int × List Int) → Option (List Int × Unit)) (v5 : Int × Int × List Int × List Int) : Option (List Int × Unit) :=
  bif (decide (v5.2.1 ≤ v2)) then
    joinF (devicelink_Quick_j8 fu j5) fun j6 =>
    joinF (devicelink_Quick_j9 fu a v2 v3 v5 j4 j6) fun j7 =>
    bif (decide (v5.2.1 < v2)) then
      bif (((decide ((0 : Int) ≤ v5.2.1)) && (decide (v5.2.1 < (List.length v3.2.2.2 : Int)))) && (decide (v5.2.1 < (4 : Int)))) then
      bif (((decide ((0 : Int) ≤ (List.getD v3.2.2.2 (Int.toNat v5.2.1) 0))) && (decide ((List.getD v3.2.2.2 (Int.toNat v5.2.1) 0) < (List.length v3.2.1 : Int)))) && (decide ((List.getD v3.2.2.2 (Int.toNat v5.2.1) 0) < (4 : Int)))) then
      let v8 : Int := (List.getD v3.2.1 (Int.toNat (List.getD v3.2.2.2 (Int.toNat v5.2.1) 0)) 0)
      j7 ((v8, (v5.1, v5.2.2)))
      else none
      else none
    else
    j7 (((0 : Int), (v5.1, v5.2.2)))
  else
  j4 (v5.2.2.1)
def devicelink_Quick_l2 (fu : Nat) (a : (Int × Int × Int × List Int) × List Int × Unit) (v0 : Int × List Int) (v1 : Int) (v2 : Int) (j3 : (Int × List Int × List Int × List Int) → Option (List Int × Unit)) (v3 : Int × List Int × List Int × List Int) : Option (List Int × Unit) :=
  bif (decide (v3.1 < (List.length v0.2 : Int))) then
    bif ((decide ((0 : Int) ≤ v3.1)) && (decide (v3.1 < (List.length v0.2 : Int)))) then
    let v4 : Int := v3.1
    let v5 : Int := (List.getD v0.2 (Int.toNat v3.1) 0)
    bif (decide (v1 ≠ (0 : Int))) then
    bif (decide (v1 ≠ (0 : Int))) then
    bif (((decide ((0 : Int) ≤ v4)) && (decide (v4 < (List.length v3.2.2.1 : Int)))) && (decide (v4 < (4 : Int)))) then
    bif (((decide ((0 : Int) ≤ v4)) && (decide (v4 < (List.length v3.2.1 : Int)))) && (decide (v4 < (4 : Int)))) then
    loopF (devicelink_Quick_l3 fu v1 v3 v4 v5 j3) fu ((v4, v3.2.2.2))
    else none
    else none
    else none
    else none
    else none
  else
  bif ((decide ((0 : Int) ≤ a.1.2.1)) && (decide (((8 : Int) * a.1.2.1) ≤ (281474976710656 : Int)))) then
  joinF (devicelink_Quick_j5 fu a) fun j4 =>
  loopF (devicelink_Quick_l7 fu a v2 v3 j4) fu ((v1, ((0 : Int), ((List.replicate (Int.toNat a.1.2.1) (0 : Int)), v3.2.2.1))))
  else none
def devicelink_Quick_l1 (fu : Nat) (a : (Int × Int × Int × List Int) × List Int × Unit) (j0 : (Int × List Int) → Option (List Int × Unit)) (v0 : Int × List Int) : Option (List Int × Unit) :=
  bif (decide (v0.1 < (List.length a.2.1 : Int))) then
    bif ((decide ((0 : Int) ≤ v0.1)) && (decide (v0.1 < (List.length a.2.1 : Int)))) then
    let v1 : Int := (List.getD a.2.1 (Int.toNat v0.1) 0)
    let v2 : Int := v0.1
    bif ((decide ((0 : Int) ≤ v2)) && (decide (v2 < (List.length v0.2 : Int)))) then
    j0 (((IntKind.i64.wrap (v0.1 + (1 : Int))), (List.set v0.2 (Int.toNat v2) (IntKind.i64.wrap ((256 : Int) * v1)))))
    else none
    else none
  else
  bif (decide ((IntKind.i64.wrap (a.1.2.2.1 - (1 : Int))) ≠ (0 : Int))) then
  let v1 : Int := (IntKind.i64.wrap (Int.tdiv (65280 : Int) (IntKind.i64.wrap (a.1.2.2.1 - (1 : Int)))))
  let v2 : Int := a.1.1
  loopF (devicelink_Quick_l2 fu a v0 v1 v2) fu (((0 : Int), (([(0 : Int), (0 : Int), (0 : Int), (0 : Int)] : List Int), (([(0 : Int), (0 : Int), (0 : Int), (0 : Int)] : List Int), ([(0 : Int), (0 : Int), (0 : Int), (0 : Int)] : List Int)))))
  else none
def devicelink_Quick_r (fu : Nat) (a : (Int × Int × Int × List Int) × List Int × Unit) : Option (List Int × Unit) :=
  bif ((decide ((0 : Int) ≤ (List.length a.2.1 : Int))) && (decide (((8 : Int) * (List.length a.2.1 : Int)) ≤ (281474976710656 : Int)))) then
  loopF (devicelink_Quick_l1 fu a) fu (((0 : Int), (List.replicate (Int.toNat (List.length a.2.1 : Int)) (0 : Int))))
  else none
def devicelink_Quick_an : An := (.n none .z (.n none .z (.n none (.n none .z (.n none (.n (some ⟨[0, 5, 14, 15, 4], [], [], [.reg 16 (.int .i64), .row 0 true (.int .i64) 3 0], 0, []⟩) (.n none .z (.n none .z (.n none (.n none (.n none .z .z) .z) .z))) .z) .z)) (.n none (.ops [(2, (.n none (.n none .z (.n none .z (.n none .z (.n none .z (.n none (.n none .z (.n none (.n (some ⟨[8, 6, 9, 0, 7, 5, 30, 31, 4], [0], [], [.reg 32 (.int .i64), .row 2 true (.int .i64) 187 0, .row 1 true (.int .i64) 187 0, .row 3 true (.int .i64) 187 0], 0, []⟩) (.n none .z (.n none .z (.n none (.n none (.n none .z (.n none (.dr [] []) (.n none .z (.n none (.n none (.n (some ⟨[32, 10], [1, 2], [], [.reg 12 (.int .i64), .row 3 true (.int .i64) 187 0], 0, []⟩) (.n none (.n (some ⟨[12], [3], [], [.reg 61 .bool], 0, []⟩) (.dr [] []) .z) (.n none (.n none .z .z) .z)) .z) .z) .z)))) .z) .z))) .z) .z)) (.n none .z (.n none .z (.n (some ⟨[13], [0, 2, 3], [], [.row 4 true (.int .i64) 3 0], 0, []⟩) (.n none .z (.n none (.n (some ⟨[7, 0, 9, 6, 8, 4], [], [], [.reg 14 (.int .i64), .reg 15 (.int .i64), .row 4 true (.int .i64) 3 0, .row 1 true (.int .i64) 187 0], 0, []⟩) (.n none (.n none .z .z) (.n (some ⟨[], [], [], [.reg 15 (.int .i64), .reg 14 (.int .i64), .row 4 true (.int .i64) 3 0, .row 1 true (.int .i64) 187 0], 0, []⟩) (.n none (.n none .z (.n (some ⟨[15], [], [], [.reg 16 (.int .i64), .reg 14 (.int .i64), .row 4 true (.int .i64) 3 0, .row 1 true (.int .i64) 187 0], 0, []⟩) (.n none .z (.n none .z .z)) (.n (some ⟨[16], [1], [], [.reg 14 (.int .i64), .row 4 true (.int .i64) 3 0], 0, []⟩) (.n none .z (.n none .z (.n none (.n none .z (.n none .z (.n none (.n (some ⟨[14, 17, 18, 103], [], [], [.reg 104 (.int .i64), .row 4 true (.int .i64) 3 0], 0, []⟩) (.n none .z (.n none .z (.n none (.n none (.n none .z (.dr [] [])) .z) .z))) .z) .z))) .z))) (.n none .z (.n none (.n none .z (.n none (.n none .z .z) .z)) .z))))) .z) .z)) .z) .z)) (.n none .z .z))))))))) .z))]) (.n none (.n none .z (.n none (.n (some ⟨[8, 30, 0, 31, 4], [0], [], [.reg 32 (.int .i64), .row 4 true (.int .i64) 3 0], 0, []⟩) (.n none .z (.n none .z (.n none (.n none (.n none .z .z) .z) .z))) .z) .z)) (.n none .z .z))))))
noncomputable def devicelink_Quick_dc : List (Nat × Ctr) := [(138, grid_at_ctr), (147, curve_Nearest_ctr)]
def devicelink_Quick_ctr : Ctr := ⟨(.pair (.ptr (.pair (.int .i64) (.pair (.int .i64) (.pair (.int .i64) (.list (.int .i64)))))) (.pair (.list (.int .i64)) .unit)), (.pair (.list (.int .i64)) .unit), devicelink_Quick_r, 125⟩
theorem devicelink_Quick_ok : CtrOk Try.prog 125 devicelink_Quick_ctr := ctr_ok (l := devicelink_Quick_dc) (f := 12) (an := devicelink_Quick_an) ⟨grid_at_ok, ⟨curve_Nearest_ok, trivial⟩⟩ fun fu x => by kernel_rfl
def condition_from_l1 (fu : Nat) (a : (List (List UInt8) × List Int × List Int × (Int × Int × Int × List Int) × (Int × Int × Int × List Int) × List (List UInt8 × (Int × Int × Int) × (Int × Int × Int) × List (Int × Int) × List Int) × Int) × (Int × Int × Int × List Int) × List Int × Unit) (j0 : (Int × List Int) → Option ((Int × Int × Int × Int × Int × Int × Int × Int) × Unit)) (v0 : Int × List Int) : Option ((Int × Int × Int × Int × Int × Int × Int × Int) × Unit) :=
  bif (decide (v0.1 < (List.length a.2.2.1 : Int))) then
    bif ((decide ((0 : Int) ≤ v0.1)) && (decide (v0.1 < (List.length a.2.2.1 : Int)))) then
    let v1 : Int := (List.getD a.2.2.1 (Int.toNat v0.1) 0)
    let v2 : Int := v0.1
    bif ((decide ((0 : Int) ≤ v2)) && (decide (v2 < (List.length v0.2 : Int)))) then
    j0 (((IntKind.i64.wrap (v0.1 + (1 : Int))), (List.set v0.2 (Int.toNat v2) (IntKind.i64.wrap v1))))
    else none
    else none
  else
  bindO (devicelink_Quick_r fu ((a.2.1, (v0.2, ())))) fun v1 =>
  bindO (condition_limited_r fu ((a.1, (v1.1, ())))) fun v2 =>
  some ((v2.1, ()))
def condition_from_r (fu : Nat) (a : (List (List UInt8) × List Int × List Int × (Int × Int × Int × List Int) × (Int × Int × Int × List Int) × List (List UInt8 × (Int × Int × Int) × (Int × Int × Int) × List (Int × Int) × List Int) × Int) × (Int × Int × Int × List Int) × List Int × Unit) : Option ((Int × Int × Int × Int × Int × Int × Int × Int) × Unit) :=
  bif ((decide ((0 : Int) ≤ (List.length a.2.2.1 : Int))) && (decide (((8 : Int) * (List.length a.2.2.1 : Int)) ≤ (281474976710656 : Int)))) then
  loopF (condition_from_l1 fu a) fu (((0 : Int), (List.replicate (Int.toNat (List.length a.2.2.1 : Int)) (0 : Int))))
  else none
def condition_from_an : An := (.n none .z (.n none .z (.n none (.n none .z (.n none (.n (some ⟨[6, 7, 1, 0, 13, 14], [0], [], [.reg 15 (.int .i64), .row 1 true (.int .i64) 3 0], 0, []⟩) (.n none .z (.n none .z (.n none (.n none (.n none .z .z) .z) .z))) .z) .z)) (.n none .z .z))))
noncomputable def condition_from_dc : List (Nat × Ctr) := [(118, condition_limited_ctr), (125, devicelink_Quick_ctr)]
def condition_from_ctr : Ctr := ⟨(.pair (.ptr (.pair (.list .str) (.pair (.list (.int .i64)) (.pair (.list (.int .i64)) (.pair (.pair (.int .i64) (.pair (.int .i64) (.pair (.int .i64) (.list (.int .i64))))) (.pair (.pair (.int .i64) (.pair (.int .i64) (.pair (.int .i64) (.list (.int .i64))))) (.pair (.list (.pair .str (.pair (.pair (.int .i64) (.pair (.int .i64) (.int .i64))) (.pair (.pair (.int .i64) (.pair (.int .i64) (.int .i64))) (.pair (.list (.pair (.int .i64) (.int .i64))) (.list (.int .i64))))))) (.int .i64)))))))) (.pair (.ptr (.pair (.int .i64) (.pair (.int .i64) (.pair (.int .i64) (.list (.int .i64)))))) (.pair (.list (.int .u8)) .unit))), (.pair (.agg (.pair (.int .u8) (.pair (.int .u8) (.pair (.int .u8) (.pair (.int .u8) (.pair (.int .u8) (.pair (.int .u8) (.pair (.int .u8) (.int .u8))))))))) .unit), condition_from_r, 111⟩
theorem condition_from_ok : CtrOk Try.prog 111 condition_from_ctr := ctr_ok (l := condition_from_dc) (f := 12) (an := condition_from_an) ⟨condition_limited_ok, ⟨devicelink_Quick_ok, trivial⟩⟩ fun fu x => by kernel_rfl
def condition_RGB_r (fu : Nat) (a : (List (List UInt8) × List Int × List Int × (Int × Int × Int × List Int) × (Int × Int × Int × List Int) × List (List UInt8 × (Int × Int × Int) × (Int × Int × Int) × List (Int × Int) × List Int) × Int) × Int × Int × Int × Unit) : Option ((Int × Int × Int × Int × Int × Int × Int × Int) × Int × Unit) :=
  bindO (condition_Check_r fu ((a.1, ()))) fun v0 =>
  let v1 : Int := v0.1
  bif (decide (v1 ≠ (0 : Int))) then
    some ((((0 : Int), ((0 : Int), ((0 : Int), ((0 : Int), ((0 : Int), ((0 : Int), ((0 : Int), (0 : Int)))))))), (v1, ())))
  else
  bindO (condition_from_r fu ((a.1, (a.1.2.2.2.2.1, (([a.2.1, a.2.2.1, a.2.2.2.1] : List Int), ()))))) fun v2 =>
  some ((v2.1, ((0 : Int), ())))
def condition_RGB_an : An := (.n none .z (.n none (.n none .z (.n none .z (.n none (.n none .z .z) .z))) (.n none .z .z)))
noncomputable def condition_RGB_dc : List (Nat × Ctr) := [(53, condition_Check_ctr), (111, condition_from_ctr)]
def condition_RGB_ctr : Ctr := ⟨(.pair (.agg (.pair (.list .str) (.pair (.list (.int .i64)) (.pair (.list (.int .i64)) (.pair (.pair (.int .i64) (.pair (.int .i64) (.pair (.int .i64) (.list (.int .i64))))) (.pair (.pair (.int .i64) (.pair (.int .i64) (.pair (.int .i64) (.list (.int .i64))))) (.pair (.list (.pair .str (.pair (.pair (.int .i64) (.pair (.int .i64) (.int .i64))) (.pair (.pair (.int .i64) (.pair (.int .i64) (.int .i64))) (.pair (.list (.pair (.int .i64) (.int .i64))) (.list (.int .i64))))))) (.int .i64)))))))) (.pair (.int .u8) (.pair (.int .u8) (.pair (.int .u8) .unit)))), (.pair (.agg (.pair (.int .u8) (.pair (.int .u8) (.pair (.int .u8) (.pair (.int .u8) (.pair (.int .u8) (.pair (.int .u8) (.pair (.int .u8) (.int .u8))))))))) (.pair (.int .i64) .unit)), condition_RGB_r, 51⟩
theorem condition_RGB_ok : CtrOk Try.prog 51 condition_RGB_ctr := ctr_ok (l := condition_RGB_dc) (f := 12) (an := condition_RGB_an) ⟨condition_Check_ok, ⟨condition_from_ok, trivial⟩⟩ fun fu x => by kernel_rfl
def condition_Gray_r (fu : Nat) (a : (List (List UInt8) × List Int × List Int × (Int × Int × Int × List Int) × (Int × Int × Int × List Int) × List (List UInt8 × (Int × Int × Int) × (Int × Int × Int) × List (Int × Int) × List Int) × Int) × Int × Unit) : Option ((Int × Int × Int × Int × Int × Int × Int × Int) × Int × Unit) :=
  bindO (condition_Check_r fu ((a.1, ()))) fun v0 =>
  let v1 : Int := v0.1
  bif (decide (v1 ≠ (0 : Int))) then
    some ((((0 : Int), ((0 : Int), ((0 : Int), ((0 : Int), ((0 : Int), ((0 : Int), ((0 : Int), (0 : Int)))))))), (v1, ())))
  else
  bindO (condition_from_r fu ((a.1, (a.1.2.2.2.1, (([a.2.1] : List Int), ()))))) fun v2 =>
  some ((v2.1, ((0 : Int), ())))
def condition_Gray_an : An := (.n none .z (.n none (.n none .z (.n none .z (.n none (.n none .z .z) .z))) (.n none .z .z)))
noncomputable def condition_Gray_dc : List (Nat × Ctr) := [(53, condition_Check_ctr), (111, condition_from_ctr)]
def condition_Gray_ctr : Ctr := ⟨(.pair (.agg (.pair (.list .str) (.pair (.list (.int .i64)) (.pair (.list (.int .i64)) (.pair (.pair (.int .i64) (.pair (.int .i64) (.pair (.int .i64) (.list (.int .i64))))) (.pair (.pair (.int .i64) (.pair (.int .i64) (.pair (.int .i64) (.list (.int .i64))))) (.pair (.list (.pair .str (.pair (.pair (.int .i64) (.pair (.int .i64) (.int .i64))) (.pair (.pair (.int .i64) (.pair (.int .i64) (.int .i64))) (.pair (.list (.pair (.int .i64) (.int .i64))) (.list (.int .i64))))))) (.int .i64)))))))) (.pair (.int .u8) .unit)), (.pair (.agg (.pair (.int .u8) (.pair (.int .u8) (.pair (.int .u8) (.pair (.int .u8) (.pair (.int .u8) (.pair (.int .u8) (.pair (.int .u8) (.int .u8))))))))) (.pair (.int .i64) .unit)), condition_Gray_r, 50⟩
theorem condition_Gray_ok : CtrOk Try.prog 50 condition_Gray_ctr := ctr_ok (l := condition_Gray_dc) (f := 12) (an := condition_Gray_an) ⟨condition_Check_ok, ⟨condition_from_ok, trivial⟩⟩ fun fu x => by kernel_rfl
def law_ConditionColors_r (fu : Nat) (a : (List (List UInt8) × List Int × List Int × (Int × Int × Int × List Int) × (Int × Int × Int × List Int) × List (List UInt8 × (Int × Int × Int) × (Int × Int × Int) × List (Int × Int) × List Int) × Int) × Int × Int × Int × Unit) : Option (Bool × Unit) :=
  bindO (law_conditionWorks_r fu (())) fun v0 =>
  bif (!v0.1) then
    some ((false, ()))
  else
  bindO (condition_Gray_r fu ((a.1, (a.2.1, ())))) fun v1 =>
  let v2 : Int := v1.2.1
  bindO (condition_RGB_r fu ((a.1, (a.2.1, (a.2.2.1, (a.2.2.2.1, ())))))) fun v3 =>
  let v4 : Int := v3.2.1
  bindO (R_ConditionErr_r fu ((a.1, ()))) fun v5 =>
  let v6 : Int := v5.1
  bindO (condition_Check_r fu ((a.1, ()))) fun v7 =>
  bif (decide (v7.1 ≠ v6)) then
    some ((false, ()))
  else
  bif (decide (v6 ≠ (0 : Int))) then
    bindO (law_none_r fu ((((decide (v1.1.1 = (0 : Int))) && ((decide (v1.1.2.1 = (0 : Int))) && ((decide (v1.1.2.2.1 = (0 : Int))) && ((decide (v1.1.2.2.2.1 = (0 : Int))) && ((decide (v1.1.2.2.2.2.1 = (0 : Int))) && ((decide (v1.1.2.2.2.2.2.1 = (0 : Int))) && ((decide (v1.1.2.2.2.2.2.2.1 = (0 : Int))) && (decide (v1.1.2.2.2.2.2.2.2 = (0 : Int)))))))))), (v2, (v6, ()))))) fun v8 =>
    bif v8.1 then
      bindO (law_none_r fu ((((decide (v3.1.1 = (0 : Int))) && ((decide (v3.1.2.1 = (0 : Int))) && ((decide (v3.1.2.2.1 = (0 : Int))) && ((decide (v3.1.2.2.2.1 = (0 : Int))) && ((decide (v3.1.2.2.2.2.1 = (0 : Int))) && ((decide (v3.1.2.2.2.2.2.1 = (0 : Int))) && ((decide (v3.1.2.2.2.2.2.2.1 = (0 : Int))) && (decide (v3.1.2.2.2.2.2.2.2 = (0 : Int)))))))))), (v4, (v6, ()))))) fun v9 =>
      let v10 : Bool := v9.1
      some ((v10, ()))
    else
    some ((false, ()))
  else
  bif (decide (v2 = (0 : Int))) then
    bindO (R_Linked_r fu ((a.1.2.2.2.1, (([(IntKind.i64.wrap a.2.1)] : List Int), ())))) fun v8 =>
    bindO (R_Vector_r fu ((a.1, (v8.1, ())))) fun v9 =>
    bif ((decide (v1.1.1 = v9.1.1)) && ((decide (v1.1.2.1 = v9.1.2.1)) && ((decide (v1.1.2.2.1 = v9.1.2.2.1)) && ((decide (v1.1.2.2.2.1 = v9.1.2.2.2.1)) && ((decide (v1.1.2.2.2.2.1 = v9.1.2.2.2.2.1)) && ((decide (v1.1.2.2.2.2.2.1 = v9.1.2.2.2.2.2.1)) && ((decide (v1.1.2.2.2.2.2.2.1 = v9.1.2.2.2.2.2.2.1)) && (decide (v1.1.2.2.2.2.2.2.2 = v9.1.2.2.2.2.2.2.2))))))))) then
      bif (decide (v4 = (0 : Int))) then
        bindO (R_Linked_r fu ((a.1.2.2.2.2.1, (([(IntKind.i64.wrap a.2.1), (IntKind.i64.wrap a.2.2.1), (IntKind.i64.wrap a.2.2.2.1)] : List Int), ())))) fun v10 =>
        bindO (R_Vector_r fu ((a.1, (v10.1, ())))) fun v11 =>
        let v12 : Bool := ((decide (v3.1.1 = v11.1.1)) && ((decide (v3.1.2.1 = v11.1.2.1)) && ((decide (v3.1.2.2.1 = v11.1.2.2.1)) && ((decide (v3.1.2.2.2.1 = v11.1.2.2.2.1)) && ((decide (v3.1.2.2.2.2.1 = v11.1.2.2.2.2.1)) && ((decide (v3.1.2.2.2.2.2.1 = v11.1.2.2.2.2.2.1)) && ((decide (v3.1.2.2.2.2.2.2.1 = v11.1.2.2.2.2.2.2.1)) && (decide (v3.1.2.2.2.2.2.2.2 = v11.1.2.2.2.2.2.2.2)))))))))
        some ((v12, ()))
      else
      some ((false, ()))
    else
    some ((false, ()))
  else
  some ((false, ()))
def law_ConditionColors_an : An := (.n none .z (.n none (.n none .z (.n none (.n none .z .z) .z)) (.n none .z (.n none .z (.n none .z (.n none (.n none .z (.n none (.n none .z .z) .z)) (.n none (.n none .z (.n none (.n none .z .z) .z)) (.n none (.dr [] []) .z))))))))
noncomputable def law_ConditionColors_dc : List (Nat × Ctr) := [(20, law_none_ctr), (49, law_conditionWorks_ctr), (50, condition_Gray_ctr), (51, condition_RGB_ctr), (52, R_ConditionErr_ctr), (53, condition_Check_ctr), (54, R_Vector_ctr), (55, R_Linked_ctr)]
def law_ConditionColors_ctr : Ctr := ⟨(.pair (.agg (.pair (.list .str) (.pair (.list (.int .i64)) (.pair (.list (.int .i64)) (.pair (.pair (.int .i64) (.pair (.int .i64) (.pair (.int .i64) (.list (.int .i64))))) (.pair (.pair (.int .i64) (.pair (.int .i64) (.pair (.int .i64) (.list (.int .i64))))) (.pair (.list (.pair .str (.pair (.pair (.int .i64) (.pair (.int .i64) (.int .i64))) (.pair (.pair (.int .i64) (.pair (.int .i64) (.int .i64))) (.pair (.list (.pair (.int .i64) (.int .i64))) (.list (.int .i64))))))) (.int .i64)))))))) (.pair (.int .u8) (.pair (.int .u8) (.pair (.int .u8) .unit)))), (.pair .bool .unit), law_ConditionColors_r, 11⟩
theorem law_ConditionColors_ok : CtrOk Try.prog 11 law_ConditionColors_ctr := ctr_ok (l := law_ConditionColors_dc) (f := 12) (an := law_ConditionColors_an) ⟨law_none_ok, ⟨law_conditionWorks_ok, ⟨condition_Gray_ok, ⟨condition_RGB_ok, ⟨R_ConditionErr_ok, ⟨condition_Check_ok, ⟨R_Vector_ok, ⟨R_Linked_ok, trivial⟩⟩⟩⟩⟩⟩⟩⟩ fun fu x => by kernel_rfl
end Go.Proofs.Ytjhdjjoacedlpaa
/- Grids: what the checks, the place of a node, Node and Step compute. -/
namespace Go.Proofs.Ytjhdjjoacedlpaa
open Go Go.RowKit
set_option linter.unusedSimpArgs false
set_option linter.unusedSectionVars false
set_option linter.unusedVariables false
theorem within_s (fu : Nat) (x lo hi : Int) : R_Within_r fu (x, (lo, (hi, ()))) = some (decide (lo ≤ x ∧ x ≤ hi), ()) := by
  unfold R_Within_r; by_cases h : lo ≤ x
  · rw [bif_pos h]; by_cases h' : x ≤ hi
    · rw [decide_eq_true h', decide_eq_true ⟨h, h'⟩]
    · rw [decide_eq_false h', decide_eq_false (by omega)]
  · rw [bif_neg h, decide_eq_false (by omega)]
theorem none_s (fu : Nat) (z : Bool) (g w : Int) : law_none_r fu (z, (g, (w, ()))) = some (z && decide (g = w), ()) := by
  unfold law_none_r
  cases z <;> rfl
theorem stLoop {X β : Type} {f : (X → Option β) → X → Option β} {n fu : Nat} (hn : n < fu) {st : Nat → X} {x0 : X} {fin : Option β} (h0 : st 0 = x0)
    (step : ∀ j (i : Nat), i < n → f j (st i) = j (st (i + 1))) (last : ∀ j, f j (st n) = fin) : loopF f fu x0 = fin := by
  have key := errGen (f := f) (n := n) (st := st) (E := fun _ => 0) (out := fun _ => none) (fin := fin) (fun j i hi _ => by rw [if_pos rfl]; exact step j i hi) (fun _ => last) fu 0 (by omega) (by omega) (by omega); rw [if_pos (firstE_all _ _ fun _ _ _ => rfl), h0] at key; exact key
abbrev GrT := Int × (Int × (Int × List Int))
theorem pw_bd {s : Int} {i : Nat} (h0 : 0 ≤ s) (h1 : s ≤ 9) (hi : i ≤ 4) : 0 ≤ s ^ i ∧ s ^ i ≤ 6561 := by
  obtain ⟨s, rfl⟩ := Int.eq_ofNat_of_zero_le h0; have : ∀ s : Nat, s < 10 → ∀ i : Nat, i < 5 → 0 ≤ ((s : Nat) : Int) ^ i ∧ ((s : Nat) : Int) ^ i ≤ 6561 := by decide
  exact this s (by omega) i (by omega)
section
variable {fu : Nat} (hf : 18446744073709551616 ≤ fu)
include hf
theorem power_r {s n : Int} (h0 : 0 ≤ s) (h1 : s ≤ 9) (h2 : 0 ≤ n) (h3 : n ≤ 4) : R_Power_r fu (s, (n, ())) = some (s ^ n.toNat, ()) := by
  obtain ⟨n, rfl⟩ := Int.eq_ofNat_of_zero_le h2; unfold R_Power_r; refine stLoop (n := n) (st := fun i => (s ^ i, (i : Int))) (by omega) (by simp) (fun j i hi => ?_) (fun j => ?_)
  · have hb := pw_bd (i := i) h0 h1 (by omega); have hb' := pw_bd (i := i + 1) h0 h1 (by omega); rw [Int.pow_succ] at hb'; unfold R_Power_l1; simp (disch := omega) only [joinF_eq, bindO_some, s_wr, s_td, s_tm, s_pos, s_neg, cond_true, cond_false, Bool.not_true, Bool.not_false, Bool.true_and, Bool.and_true, Bool.false_and, Bool.and_false, bne_self_eq_false, decide_true, decide_false, Int.toNat_natCast]; rw [Int.pow_succ]; rfl
  · unfold R_Power_l1; simp (disch := omega) only [joinF_eq, bindO_some, s_wr, s_td, s_tm, s_pos, s_neg, cond_true, cond_false, Bool.not_true, Bool.not_false, Bool.true_and, Bool.and_true, Bool.false_and, Bool.and_false, bne_self_eq_false, decide_true, decide_false, Int.toNat_natCast]
end
def shOk (i o s : Int) : Prop := (1 ≤ i ∧ i ≤ 4) ∧ (1 ≤ o ∧ o ≤ 8) ∧ (2 ≤ s ∧ s ≤ 9) ∧ s ≠ 8
instance (i o s : Int) : Decidable (shOk i o s) := by unfold shOk; infer_instance
def shE (i o s : Int) : Int := if shOk i o s then (if 32768 < s ^ i.toNat * o then 2 else 0) else 3
def vlE (l : List Int) (i : Nat) : Int := if -32768 ≤ l.getD i 0 ∧ l.getD i 0 ≤ 65535 then 0 else 3
def grE (g : GrT) : Int := if shE g.1 g.2.1 g.2.2.1 = 0 then (if (g.2.2.2.length : Int) = g.2.2.1 ^ g.1.toNat * g.2.1 then firstE (vlE g.2.2.2) g.2.2.2.length 0 else 4) else shE g.1 g.2.1 g.2.2.1
def tnE (l : List Int) (m : Int) (i : Nat) : Int := if 0 ≤ l.getD i 0 ∧ l.getD i 0 ≤ m then 0 else 3
def tonesE (l : List Int) (n m : Int) : Int := if (l.length : Int) = n then firstE (tnE l m) l.length 0 else 4
theorem shE3 {i o s : Int} (h : ¬ shOk i o s) : shE i o s = 3 := by unfold shE; rw [if_neg h]
theorem shE2 {i o s : Int} (h : shOk i o s) (h' : 32768 < s ^ i.toNat * o) : shE i o s = 2 := by unfold shE; rw [if_pos h, if_pos h']
theorem shE0 {i o s : Int} (h : shOk i o s) (h' : ¬ 32768 < s ^ i.toNat * o) : shE i o s = 0 := by unfold shE; rw [if_pos h, if_neg h']
theorem sh_bd {i o s : Int} (h : shOk i o s) : 0 ≤ s ^ i.toNat ∧ s ^ i.toNat ≤ 6561 ∧ 0 ≤ s ^ i.toNat * o ∧ s ^ i.toNat * o ≤ 52488 := by
  unfold shOk at h; obtain ⟨h1, h2⟩ := pw_bd (s := s) (i := i.toNat) (by omega) (by omega) (by omega); have h3 := Int.mul_nonneg h1 (show 0 ≤ o by omega); have h4 := Int.mul_le_mul h2 (show o ≤ 8 by omega) (by omega) (by omega); omega
section
variable {fu : Nat} (hf : 18446744073709551616 ≤ fu) {i o s : Int}
include hf
theorem shapeErr_r : R_ShapeErr_r fu (i, (o, (s, ()))) = some (shE i o s, ()) := by
  unfold R_ShapeErr_r; have kt : shE i o s = 3 → R_ShapeErr_j1 fu (i, (o, (s, ()))) true = some (shE i o s, ()) := fun h => by unfold R_ShapeErr_j1; rw [h]; rfl
  by_cases c1 : 1 ≤ i ∧ i ≤ 4
  · by_cases c2 : 1 ≤ o ∧ o ≤ 8
    · by_cases c3 : 2 ≤ s ∧ s ≤ 9
      · by_cases c4 : s = 8
        · have e := shE3 (i := i) (o := o) (s := s) (fun h => h.2.2.2 c4); simp only [joinF_eq, within_s, bindO_some, decide_eq_true c1, decide_eq_true c2, decide_eq_true c3, decide_eq_true c4, Bool.not_true, cond_false]; exact kt e
        · have ok : shOk i o s := ⟨c1, c2, c3, c4⟩; obtain ⟨b1, b2, b3, b4⟩ := sh_bd ok; simp only [joinF_eq, within_s, bindO_some, decide_eq_true c1, decide_eq_true c2, decide_eq_true c3, decide_eq_false c4, Bool.not_true, cond_false]; unfold R_ShapeErr_j1; simp (disch := omega) only [joinF_eq, bindO_some, s_wr, s_td, s_tm, s_pos, s_neg, cond_true, cond_false, Bool.not_true, Bool.not_false, Bool.true_and, Bool.and_true, Bool.false_and, Bool.and_false, bne_self_eq_false, decide_true, decide_false, Int.toNat_natCast, power_r hf]; by_cases c5 : 32768 < s ^ i.toNat * o
          · rw [shE2 ok c5]; simp (disch := omega) only [joinF_eq, bindO_some, s_wr, s_td, s_tm, s_pos, s_neg, cond_true, cond_false, Bool.not_true, Bool.not_false, Bool.true_and, Bool.and_true, Bool.false_and, Bool.and_false, bne_self_eq_false, decide_true, decide_false, Int.toNat_natCast]
          · rw [shE0 ok c5]; simp (disch := omega) only [joinF_eq, bindO_some, s_wr, s_td, s_tm, s_pos, s_neg, cond_true, cond_false, Bool.not_true, Bool.not_false, Bool.true_and, Bool.and_true, Bool.false_and, Bool.and_false, bne_self_eq_false, decide_true, decide_false, Int.toNat_natCast]
      · have e := shE3 (i := i) (o := o) (s := s) (fun h => c3 h.2.2.1); simp only [joinF_eq, within_s, bindO_some, decide_eq_true c1, decide_eq_true c2, decide_eq_false c3, Bool.not_true, Bool.not_false, cond_false, cond_true]; exact kt e
    · have e := shE3 (i := i) (o := o) (s := s) (fun h => c2 h.2.1); simp only [joinF_eq, within_s, bindO_some, decide_eq_true c1, decide_eq_false c2, Bool.not_true, Bool.not_false, cond_false, cond_true]; exact kt e
  · have e := shE3 (i := i) (o := o) (s := s) (fun h => c1 h.1); simp only [joinF_eq, within_s, bindO_some, decide_eq_false c1, Bool.not_false, cond_true]; exact kt e
theorem nodes_r : grid_nodes_r fu (i, (o, (s, ()))) = some ((if shE i o s = 0 then s ^ i.toNat else 0), (shE i o s, ())) := by
  unfold grid_nodes_r; have kt : shE i o s = 3 → grid_nodes_j1 fu (i, (o, (s, ()))) true = some ((if shE i o s = 0 then s ^ i.toNat else 0), (shE i o s, ())) := fun h => by unfold grid_nodes_j1; rw [h]; rfl
  by_cases c1 : i < 1
  · simp (disch := omega) only [joinF_eq, bindO_some, s_wr, s_td, s_tm, s_pos, s_neg, cond_true, cond_false, Bool.not_true, Bool.not_false, Bool.true_and, Bool.and_true, Bool.false_and, Bool.and_false, bne_self_eq_false, decide_true, decide_false, Int.toNat_natCast]; exact kt (shE3 fun h => by unfold shOk at h; omega)
  by_cases c2 : 4 < i
  · simp (disch := omega) only [joinF_eq, bindO_some, s_wr, s_td, s_tm, s_pos, s_neg, cond_true, cond_false, Bool.not_true, Bool.not_false, Bool.true_and, Bool.and_true, Bool.false_and, Bool.and_false, bne_self_eq_false, decide_true, decide_false, Int.toNat_natCast]; exact kt (shE3 fun h => by unfold shOk at h; omega)
  by_cases c3 : o < 1
  · simp (disch := omega) only [joinF_eq, bindO_some, s_wr, s_td, s_tm, s_pos, s_neg, cond_true, cond_false, Bool.not_true, Bool.not_false, Bool.true_and, Bool.and_true, Bool.false_and, Bool.and_false, bne_self_eq_false, decide_true, decide_false, Int.toNat_natCast]; exact kt (shE3 fun h => by unfold shOk at h; omega)
  by_cases c4 : 8 < o
  · simp (disch := omega) only [joinF_eq, bindO_some, s_wr, s_td, s_tm, s_pos, s_neg, cond_true, cond_false, Bool.not_true, Bool.not_false, Bool.true_and, Bool.and_true, Bool.false_and, Bool.and_false, bne_self_eq_false, decide_true, decide_false, Int.toNat_natCast]; exact kt (shE3 fun h => by unfold shOk at h; omega)
  simp (disch := omega) only [joinF_eq, bindO_some, s_wr, s_td, s_tm, s_pos, s_neg, cond_true, cond_false, Bool.not_true, Bool.not_false, Bool.true_and, Bool.and_true, Bool.false_and, Bool.and_false, bne_self_eq_false, decide_true, decide_false, Int.toNat_natCast]; unfold grid_nodes_j1; simp (disch := omega) only [joinF_eq, bindO_some, s_wr, s_td, s_tm, s_pos, s_neg, cond_true, cond_false, Bool.not_true, Bool.not_false, Bool.true_and, Bool.and_true, Bool.false_and, Bool.and_false, bne_self_eq_false, decide_true, decide_false, Int.toNat_natCast]
  have kf : ∀ b : Bool, (b = true ↔ (2 ≤ s ∧ s ≤ 9) ∧ s ≠ 8) → grid_nodes_j2 fu (i, (o, (s, ()))) b = some ((if shE i o s = 0 then s ^ i.toNat else 0), (shE i o s, ())) := by
    intro b hb; unfold grid_nodes_j2; cases b
    · rw [shE3 (fun h => by unfold shOk at h; have := hb.2 h.2.2; cases this)]; rfl
    · have ok : shOk i o s := ⟨by omega, by omega, (hb.1 rfl).1, (hb.1 rfl).2⟩; obtain ⟨b1, b2, b3, b4⟩ := sh_bd ok; have ok' := ok; unfold shOk at ok'; obtain ⟨n, rfl⟩ := Int.eq_ofNat_of_zero_le (show 0 ≤ i by omega); rw [Int.toNat_natCast] at b1 b2 b3 b4; simp (disch := omega) only [joinF_eq, bindO_some, s_wr, s_td, s_tm, s_pos, s_neg, cond_true, cond_false, Bool.not_true, Bool.not_false, Bool.true_and, Bool.and_true, Bool.false_and, Bool.and_false, bne_self_eq_false, decide_true, decide_false, Int.toNat_natCast]; refine stLoop (n := n) (st := fun i => (s ^ i, (i : Int))) (by omega) (by simp) (fun j k hk => ?_) (fun j => ?_)
      · have hb := pw_bd (s := s) (i := k) (by omega) (by omega) (by omega); have hb' := pw_bd (s := s) (i := k + 1) (by omega) (by omega) (by omega); rw [Int.pow_succ] at hb'; unfold grid_nodes_l3; simp (disch := omega) only [joinF_eq, bindO_some, s_wr, s_td, s_tm, s_pos, s_neg, cond_true, cond_false, Bool.not_true, Bool.not_false, Bool.true_and, Bool.and_true, Bool.false_and, Bool.and_false, bne_self_eq_false, decide_true, decide_false, Int.toNat_natCast]; rw [Int.pow_succ]; rfl
      · unfold grid_nodes_l3; simp (disch := omega) only [joinF_eq, bindO_some, s_wr, s_td, s_tm, s_pos, s_neg, cond_true, cond_false, Bool.not_true, Bool.not_false, Bool.true_and, Bool.and_true, Bool.false_and, Bool.and_false, bne_self_eq_false, decide_true, decide_false, Int.toNat_natCast]; by_cases c5 : 32768 < s ^ n * o
        · rw [shE2 ok (by rw [Int.toNat_natCast]; exact c5)]; simp (disch := omega) only [joinF_eq, bindO_some, s_wr, s_td, s_tm, s_pos, s_neg, cond_true, cond_false, Bool.not_true, Bool.not_false, Bool.true_and, Bool.and_true, Bool.false_and, Bool.and_false, bne_self_eq_false, decide_true, decide_false, Int.toNat_natCast]; rfl
        · rw [shE0 ok (by rw [Int.toNat_natCast]; exact c5)]; simp (disch := omega) only [joinF_eq, bindO_some, s_wr, s_td, s_tm, s_pos, s_neg, cond_true, cond_false, Bool.not_true, Bool.not_false, Bool.true_and, Bool.and_true, Bool.false_and, Bool.and_false, bne_self_eq_false, decide_true, decide_false, Int.toNat_natCast]; rfl
  by_cases d2 : s = 2
  · simp (disch := omega) only [joinF_eq, bindO_some, s_wr, s_td, s_tm, s_pos, s_neg, cond_true, cond_false, Bool.not_true, Bool.not_false, Bool.true_and, Bool.and_true, Bool.false_and, Bool.and_false, bne_self_eq_false, decide_true, decide_false, Int.toNat_natCast]; exact kf _ (by simp; omega)
  by_cases d3 : s = 3
  · simp (disch := omega) only [joinF_eq, bindO_some, s_wr, s_td, s_tm, s_pos, s_neg, cond_true, cond_false, Bool.not_true, Bool.not_false, Bool.true_and, Bool.and_true, Bool.false_and, Bool.and_false, bne_self_eq_false, decide_true, decide_false, Int.toNat_natCast]; exact kf _ (by simp; omega)
  by_cases d4 : s = 4
  · simp (disch := omega) only [joinF_eq, bindO_some, s_wr, s_td, s_tm, s_pos, s_neg, cond_true, cond_false, Bool.not_true, Bool.not_false, Bool.true_and, Bool.and_true, Bool.false_and, Bool.and_false, bne_self_eq_false, decide_true, decide_false, Int.toNat_natCast]; exact kf _ (by simp; omega)
  by_cases d5 : s = 5
  · simp (disch := omega) only [joinF_eq, bindO_some, s_wr, s_td, s_tm, s_pos, s_neg, cond_true, cond_false, Bool.not_true, Bool.not_false, Bool.true_and, Bool.and_true, Bool.false_and, Bool.and_false, bne_self_eq_false, decide_true, decide_false, Int.toNat_natCast]; exact kf _ (by simp; omega)
  by_cases d6 : s = 6
  · simp (disch := omega) only [joinF_eq, bindO_some, s_wr, s_td, s_tm, s_pos, s_neg, cond_true, cond_false, Bool.not_true, Bool.not_false, Bool.true_and, Bool.and_true, Bool.false_and, Bool.and_false, bne_self_eq_false, decide_true, decide_false, Int.toNat_natCast]; exact kf _ (by simp; omega)
  by_cases d7 : s = 7
  · simp (disch := omega) only [joinF_eq, bindO_some, s_wr, s_td, s_tm, s_pos, s_neg, cond_true, cond_false, Bool.not_true, Bool.not_false, Bool.true_and, Bool.and_true, Bool.false_and, Bool.and_false, bne_self_eq_false, decide_true, decide_false, Int.toNat_natCast]; exact kf _ (by simp; omega)
  simp (disch := omega) only [joinF_eq, bindO_some, s_wr, s_td, s_tm, s_pos, s_neg, cond_true, cond_false, Bool.not_true, Bool.not_false, Bool.true_and, Bool.and_true, Bool.false_and, Bool.and_false, bne_self_eq_false, decide_true, decide_false, Int.toNat_natCast]; exact kf _ (by rw [decide_eq_true_eq]; omega)
variable {vs : List Int} (hv : (vs.length : Int) ≤ 9223372036854775807)
include hv
theorem gridErr_r : R_GridErr_r fu ((i, (o, (s, vs))), ()) = some (grE (i, (o, (s, vs))), ()) := by
  unfold R_GridErr_r grE; simp only [shapeErr_r hf, bindO_some]; by_cases c : shE i o s = 0
  · have ok : shOk i o s := by
      refine Classical.byContradiction fun h => ?_
      rw [shE3 h] at c; omega
    obtain ⟨b1, b2, b3, b4⟩ := sh_bd ok; have ok' := ok; unfold shOk at ok'; rw [if_pos c]; simp (disch := omega) only [joinF_eq, bindO_some, s_wr, s_td, s_tm, s_pos, s_neg, cond_true, cond_false, Bool.not_true, Bool.not_false, Bool.true_and, Bool.and_true, Bool.false_and, Bool.and_false, bne_self_eq_false, decide_true, decide_false, Int.toNat_natCast, power_r hf]; by_cases c2 : (vs.length : Int) = s ^ i.toNat * o
    · rw [if_pos c2]; simp (disch := omega) only [joinF_eq, bindO_some, s_wr, s_td, s_tm, s_pos, s_neg, cond_true, cond_false, Bool.not_true, Bool.not_false, Bool.true_and, Bool.and_true, Bool.false_and, Bool.and_false, bne_self_eq_false, decide_true, decide_false, Int.toNat_natCast]; rw [errLoop (n := vs.length) (E := vlE vs) (out := fun e => some (e, ())) (fin := some (0, ())) (by omega)]
      · split
        · rename_i e; rw [e]
        · rfl
      · intro j k hk; unfold R_GridErr_l1 vlE; simp (disch := omega) only [joinF_eq, bindO_some, s_wr, s_td, s_tm, s_pos, s_neg, cond_true, cond_false, Bool.not_true, Bool.not_false, Bool.true_and, Bool.and_true, Bool.false_and, Bool.and_false, bne_self_eq_false, decide_true, decide_false, Int.toNat_natCast, within_s]; by_cases g : -32768 ≤ vs.getD k 0 ∧ vs.getD k 0 ≤ 65535
        · rw [if_pos g, decide_eq_true g]; simp (disch := omega) only [joinF_eq, bindO_some, s_wr, s_td, s_tm, s_pos, s_neg, cond_true, cond_false, Bool.not_true, Bool.not_false, Bool.true_and, Bool.and_true, Bool.false_and, Bool.and_false, bne_self_eq_false, decide_true, decide_false, Int.toNat_natCast]; rfl
        · rw [if_neg g, decide_eq_false g]; simp (disch := omega) only [joinF_eq, bindO_some, s_wr, s_td, s_tm, s_pos, s_neg, cond_true, cond_false, Bool.not_true, Bool.not_false, Bool.true_and, Bool.and_true, Bool.false_and, Bool.and_false, bne_self_eq_false, decide_true, decide_false, Int.toNat_natCast]; rfl
      · intro j; unfold R_GridErr_l1; simp (disch := omega) only [joinF_eq, bindO_some, s_wr, s_td, s_tm, s_pos, s_neg, cond_true, cond_false, Bool.not_true, Bool.not_false, Bool.true_and, Bool.and_true, Bool.false_and, Bool.and_false, bne_self_eq_false, decide_true, decide_false, Int.toNat_natCast]
    · rw [if_neg c2]; simp (disch := omega) only [joinF_eq, bindO_some, s_wr, s_td, s_tm, s_pos, s_neg, cond_true, cond_false, Bool.not_true, Bool.not_false, Bool.true_and, Bool.and_true, Bool.false_and, Bool.and_false, bne_self_eq_false, decide_true, decide_false, Int.toNat_natCast]
  · rw [if_neg c]; simp (disch := omega) only [joinF_eq, bindO_some, s_wr, s_td, s_tm, s_pos, s_neg, cond_true, cond_false, Bool.not_true, Bool.not_false, Bool.true_and, Bool.and_true, Bool.false_and, Bool.and_false, bne_self_eq_false, decide_true, decide_false, Int.toNat_natCast]
theorem check_r : grid_Check_r fu ((i, (o, (s, vs))), ()) = some (grE (i, (o, (s, vs))), ()) := by
  unfold grid_Check_r grE; simp only [nodes_r hf, bindO_some]; by_cases c : shE i o s = 0
  · have ok : shOk i o s := by
      refine Classical.byContradiction fun h => ?_
      rw [shE3 h] at c; omega
    obtain ⟨b1, b2, b3, b4⟩ := sh_bd ok; have ok' := ok; unfold shOk at ok'; simp only [if_pos c]; simp (disch := omega) only [joinF_eq, bindO_some, s_wr, s_td, s_tm, s_pos, s_neg, cond_true, cond_false, Bool.not_true, Bool.not_false, Bool.true_and, Bool.and_true, Bool.false_and, Bool.and_false, bne_self_eq_false, decide_true, decide_false, Int.toNat_natCast]; by_cases c2 : (vs.length : Int) = s ^ i.toNat * o
    · rw [if_pos c2]; simp (disch := omega) only [joinF_eq, bindO_some, s_wr, s_td, s_tm, s_pos, s_neg, cond_true, cond_false, Bool.not_true, Bool.not_false, Bool.true_and, Bool.and_true, Bool.false_and, Bool.and_false, bne_self_eq_false, decide_true, decide_false, Int.toNat_natCast]; rw [errLoop (n := vs.length) (E := vlE vs) (out := fun e => some (e, ())) (fin := some (0, ())) (by omega)]
      · split
        · rename_i e; rw [e]
        · rfl
      · intro j k hk; have t3 : ¬ (-32768 ≤ vs.getD k 0 ∧ vs.getD k 0 ≤ 65535) → vlE vs k = 3 := fun h => by unfold vlE; rw [if_neg h]
        have t0 : (-32768 ≤ vs.getD k 0 ∧ vs.getD k 0 ≤ 65535) → vlE vs k = 0 := fun h => by unfold vlE; rw [if_pos h]
        unfold grid_Check_l1; simp (disch := omega) only [joinF_eq, bindO_some, s_wr, s_td, s_tm, s_pos, s_neg, cond_true, cond_false, Bool.not_true, Bool.not_false, Bool.true_and, Bool.and_true, Bool.false_and, Bool.and_false, bne_self_eq_false, decide_true, decide_false, Int.toNat_natCast]; by_cases g : vs.getD k 0 < -32768
        · rw [t3 (by omega)]; simp (disch := omega) only [joinF_eq, bindO_some, s_wr, s_td, s_tm, s_pos, s_neg, cond_true, cond_false, Bool.not_true, Bool.not_false, Bool.true_and, Bool.and_true, Bool.false_and, Bool.and_false, bne_self_eq_false, decide_true, decide_false, Int.toNat_natCast, grid_Check_j2]; rfl
        by_cases g2 : 65535 < vs.getD k 0
        · rw [t3 (by omega)]; simp (disch := omega) only [joinF_eq, bindO_some, s_wr, s_td, s_tm, s_pos, s_neg, cond_true, cond_false, Bool.not_true, Bool.not_false, Bool.true_and, Bool.and_true, Bool.false_and, Bool.and_false, bne_self_eq_false, decide_true, decide_false, Int.toNat_natCast, grid_Check_j2]; rfl
        · rw [t0 (by omega)]; simp (disch := omega) only [joinF_eq, bindO_some, s_wr, s_td, s_tm, s_pos, s_neg, cond_true, cond_false, Bool.not_true, Bool.not_false, Bool.true_and, Bool.and_true, Bool.false_and, Bool.and_false, bne_self_eq_false, decide_true, decide_false, Int.toNat_natCast, grid_Check_j2]; rfl
      · intro j; unfold grid_Check_l1; simp (disch := omega) only [joinF_eq, bindO_some, s_wr, s_td, s_tm, s_pos, s_neg, cond_true, cond_false, Bool.not_true, Bool.not_false, Bool.true_and, Bool.and_true, Bool.false_and, Bool.and_false, bne_self_eq_false, decide_true, decide_false, Int.toNat_natCast]
    · rw [if_neg c2]; simp (disch := omega) only [joinF_eq, bindO_some, s_wr, s_td, s_tm, s_pos, s_neg, cond_true, cond_false, Bool.not_true, Bool.not_false, Bool.true_and, Bool.and_true, Bool.false_and, Bool.and_false, bne_self_eq_false, decide_true, decide_false, Int.toNat_natCast]
  · simp only [if_neg c]; simp (disch := omega) only [joinF_eq, bindO_some, s_wr, s_td, s_tm, s_pos, s_neg, cond_true, cond_false, Bool.not_true, Bool.not_false, Bool.true_and, Bool.and_true, Bool.false_and, Bool.and_false, bne_self_eq_false, decide_true, decide_false, Int.toNat_natCast]
end
end Go.Proofs.Ytjhdjjoacedlpaa
/- Grids: the place of a node, Node and Step, and the law GridNodes. -/
namespace Go.Proofs.Ytjhdjjoacedlpaa
open Go Go.RowKit
set_option linter.unusedSimpArgs false
set_option linter.unusedSectionVars false
set_option linter.unusedVariables false
theorem grE_ok {i o s : Int} {vs : List Int} (h : grE (i, (o, (s, vs))) = 0) : shOk i o s ∧ ¬ 32768 < s ^ i.toNat * o ∧ (vs.length : Int) = s ^ i.toNat * o ∧ ∀ k, k < vs.length → -32768 ≤ vs.getD k 0 ∧ vs.getD k 0 ≤ 65535 := by
  unfold grE at h; by_cases c : shE i o s = 0
  · simp only [if_pos c] at h
    have ok : shOk i o s := by
      refine Classical.byContradiction fun h => ?_
      rw [shE3 h] at c; omega
    refine ⟨ok, fun h' => by rw [shE2 ok h'] at c; omega, ?_⟩; by_cases c2 : (vs.length : Int) = s ^ i.toNat * o
    · rw [if_pos c2] at h; refine ⟨c2, fun k hk => ?_⟩; have := firstE_ok _ _ h k (by omega) (by omega); unfold vlE at this; split at this
      · assumption
      · omega
    · rw [if_neg c2] at h; omega
  · simp only [if_neg c] at h; omega
theorem tones_ok {l : List Int} {n m : Int} (h : tonesE l n m = 0) : (l.length : Int) = n ∧ ∀ k, k < l.length → 0 ≤ l.getD k 0 ∧ l.getD k 0 ≤ m := by
  unfold tonesE at h; split at h
  · rename_i c; refine ⟨c, fun k hk => ?_⟩; have := firstE_ok _ _ h k (by omega) (by omega); unfold tnE at this; split at this
    · assumption
    · omega
  · omega
def horN (s : Int) (l : List Int) : Nat → Int
  | 0 => 0
  | i + 1 => horN s l i * s + l.getD i 0
theorem horN_bd {s : Int} (h1 : 1 ≤ s) {l : List Int} : ∀ (n : Nat), (∀ k, k < n → 0 ≤ l.getD k 0 ∧ l.getD k 0 ≤ s - 1) → 0 ≤ horN s l n ∧ horN s l n ≤ s ^ n - 1
  | 0, _ => by simp [horN]
  | n + 1, h => by
    obtain ⟨a, b⟩ := horN_bd h1 n (fun k hk => h k (by omega)); have c := h n (by omega); have d := Int.mul_nonneg a (show 0 ≤ s by omega); have e := Int.mul_le_mul_of_nonneg_right b (show 0 ≤ s by omega); rw [Int.sub_mul, Int.one_mul] at e; rw [horN, Int.pow_succ]; omega
theorem horN_take (s : Int) (l : List Int) (m : Nat) : ∀ (n : Nat), n ≤ m → horN s (l.take m) n = horN s l n
  | 0, _ => rfl
  | n + 1, h => by
    rw [horN, horN, horN_take s l m n (by omega), List.getD_eq_getElem?_getD, List.getD_eq_getElem?_getD, List.getElem?_take_of_lt (by omega)]
section
variable {fu : Nat} (hf : 18446744073709551616 ≤ fu)
include hf
theorem tonesErr_r {l : List Int} (hl : (l.length : Int) ≤ 9223372036854775807) {n m : Int} : R_TonesErr_r fu (l, (n, (m, ()))) = some (tonesE l n m, ()) := by
  unfold R_TonesErr_r tonesE; by_cases c : (l.length : Int) = n
  · rw [if_pos c]; simp (disch := omega) only [joinF_eq, bindO_some, s_wr, s_td, s_tm, s_pos, s_neg, cond_true, cond_false, Bool.not_true, Bool.not_false, Bool.true_and, Bool.and_true, Bool.false_and, Bool.and_false, bne_self_eq_false, decide_true, decide_false, Int.toNat_natCast]; rw [errLoop (n := l.length) (E := tnE l m) (out := fun e => some (e, ())) (fin := some (0, ())) (by omega)]
    · split
      · rename_i e; rw [e]
      · rfl
    · intro j i hi; unfold R_TonesErr_l1 tnE; simp (disch := omega) only [joinF_eq, bindO_some, s_wr, s_td, s_tm, s_pos, s_neg, cond_true, cond_false, Bool.not_true, Bool.not_false, Bool.true_and, Bool.and_true, Bool.false_and, Bool.and_false, bne_self_eq_false, decide_true, decide_false, Int.toNat_natCast, within_s]; by_cases g : 0 ≤ l.getD i 0 ∧ l.getD i 0 ≤ m
      · rw [if_pos g, decide_eq_true g]; simp (disch := omega) only [joinF_eq, bindO_some, s_wr, s_td, s_tm, s_pos, s_neg, cond_true, cond_false, Bool.not_true, Bool.not_false, Bool.true_and, Bool.and_true, Bool.false_and, Bool.and_false, bne_self_eq_false, decide_true, decide_false, Int.toNat_natCast]; rfl
      · rw [if_neg g, decide_eq_false g]; simp (disch := omega) only [joinF_eq, bindO_some, s_wr, s_td, s_tm, s_pos, s_neg, cond_true, cond_false, Bool.not_true, Bool.not_false, Bool.true_and, Bool.and_true, Bool.false_and, Bool.and_false, bne_self_eq_false, decide_true, decide_false, Int.toNat_natCast]; rfl
    · intro j; unfold R_TonesErr_l1; simp (disch := omega) only [joinF_eq, bindO_some, s_wr, s_td, s_tm, s_pos, s_neg, cond_true, cond_false, Bool.not_true, Bool.not_false, Bool.true_and, Bool.and_true, Bool.false_and, Bool.and_false, bne_self_eq_false, decide_true, decide_false, Int.toNat_natCast]
  · rw [if_neg c]; simp (disch := omega) only [joinF_eq, bindO_some, s_wr, s_td, s_tm, s_pos, s_neg, cond_true, cond_false, Bool.not_true, Bool.not_false, Bool.true_and, Bool.and_true, Bool.false_and, Bool.and_false, bne_self_eq_false, decide_true, decide_false, Int.toNat_natCast]
theorem at_r {i o s : Int} {vs l : List Int} (h1 : 1 ≤ s) (h2 : s ≤ 9) (h3 : 0 ≤ o) (h4 : o ≤ 8) (hl : l.length ≤ 4) (hb : ∀ k, k < l.length → 0 ≤ l.getD k 0 ∧ l.getD k 0 ≤ s - 1) :
    grid_at_r fu ((i, (o, (s, vs))), (l, ())) = some (horN s l l.length * o, ()) := by
  unfold grid_at_r
  have bd : ∀ n, n ≤ l.length → 0 ≤ horN s l n ∧ horN s l n ≤ 6561 := fun n hn => by
    have a := horN_bd h1 n (fun k hk => hb k (by omega)); have b := pw_bd (s := s) (i := n) (by omega) h2 (by omega); omega
  refine stLoop (n := l.length) (st := fun i => (horN s l i, (i : Int))) (by omega) rfl (fun j k hk => ?_) (fun j => ?_)
  · have a := bd k (by omega); have b := hb k hk; have c := Int.mul_nonneg a.1 (show 0 ≤ s by omega); have d := Int.mul_le_mul a.2 h2 (show 0 ≤ s by omega) (by omega); unfold grid_at_l1; simp (disch := omega) only [joinF_eq, bindO_some, s_wr, s_td, s_tm, s_pos, s_neg, cond_true, cond_false, Bool.not_true, Bool.not_false, Bool.true_and, Bool.and_true, Bool.false_and, Bool.and_false, bne_self_eq_false, decide_true, decide_false, Int.toNat_natCast]; rfl
  · have a := bd l.length (by omega); have c := Int.mul_nonneg a.1 h3; have d := Int.mul_le_mul a.2 h4 h3 (by omega); unfold grid_at_l1; simp (disch := omega) only [joinF_eq, bindO_some, s_wr, s_td, s_tm, s_pos, s_neg, cond_true, cond_false, Bool.not_true, Bool.not_false, Bool.true_and, Bool.and_true, Bool.false_and, Bool.and_false, bne_self_eq_false, decide_true, decide_false, Int.toNat_natCast]
end
end Go.Proofs.Ytjhdjjoacedlpaa
/- Tables rewritten from the left. No program in sight. -/
namespace Go.Proofs.Ytjhdjjoacedlpaa
open Go Go.RowKit
set_option linter.unusedVariables false
theorem tabP_set {o q : Nat} {A B : Int → Int} {v : Int} (hq : q < o) (hv : A q = v) : (tabL o fun k => if k < (q : Int) then A k else B k).set q v = tabL o fun k => if k < ((q + 1 : Nat) : Int) then A k else B k := by
  have := tabL_set (n := o) (G := fun k => if k < (q : Int) then A k else B k) (G' := fun k => if k < ((q + 1 : Nat) : Int) then A k else B k) (k := (q : Int)) (v := v) (by omega) (by rw [if_pos (by omega)]; exact hv) (fun i h0 h1 h2 => by
    by_cases c : i < (q : Int)
    · rw [if_pos c, if_pos (by omega)]
    · rw [if_neg c, if_neg (by omega)])
  rw [Int.toNat_natCast] at this; exact this
theorem tabP_get {o q : Nat} {A B : Int → Int} (hq : q < o) : (tabL o fun k => if k < (q : Int) then A k else B k).getD q 0 = B q := by
  rw [tabL_getDN hq, if_neg (by omega)]
theorem getD_set' {l : List Int} {k i : Nat} {v : Int} (hk : k < l.length) : (l.set k v).getD i 0 = if i = k then v else l.getD i 0 := by
  rw [List.getD_eq_getElem?_getD, List.getElem?_set]; by_cases e : k = i
  · subst e; rw [if_pos rfl, if_pos hk, if_pos rfl]; rfl
  · rw [if_neg e, if_neg (fun h => e h.symm), List.getD_eq_getElem?_getD]
end Go.Proofs.Ytjhdjjoacedlpaa
/- Grids: what the document's interpolation computes; the loops for any result. -/
namespace Go.Proofs.Ytjhdjjoacedlpaa
open Go Go.RowKit
set_option linter.unusedSimpArgs false
set_option linter.unusedSectionVars false
set_option linter.unusedVariables false
set_option linter.unusedVariables false
def raw_j3 {β : Type} (fu : Nat) (v4 : Int) (v6 : (Int) × ((List (Int)) × ((List (Int)) × (List (Int))))) (v7 : Int) (v8 : Int) (v9 : (Int) × (List (Int))) (j6 : ((Int) × ((List (Int)) × ((List (Int)) × (List (Int))))) → Option β) (j9 : ((Int) × (List (Int))) → Option β) (v10 : Bool) : Option β :=
  bif v10 then
    bif (((decide ((0 : Int) ≤ (IntKind.i64.wrap (v9.1 - (1 : Int))))) && (decide ((IntKind.i64.wrap (v9.1 - (1 : Int))) < (List.length v9.2 : Int)))) && (decide ((IntKind.i64.wrap (v9.1 - (1 : Int))) < (4 : Int)))) then
    bif (((decide ((0 : Int) ≤ v9.1)) && (decide (v9.1 < (List.length v9.2 : Int)))) && (decide (v9.1 < (4 : Int)))) then
    let v11 : Int := (IntKind.i64.wrap (v9.1 - (1 : Int)))
    j9 ((v11, (List.set v9.2 (Int.toNat v9.1) (List.getD v9.2 (Int.toNat (IntKind.i64.wrap (v9.1 - (1 : Int)))) 0))))
    else none
    else none
  else
  bif (((decide ((0 : Int) ≤ v9.1)) && (decide (v9.1 < (List.length v9.2 : Int)))) && (decide (v9.1 < (4 : Int)))) then
  j6 (((IntKind.i64.wrap (v6.1 + (1 : Int))), ((List.set v6.2.1 (Int.toNat v8) (Int.tmod v7 v4)), ((List.set v6.2.2.1 (Int.toNat v8) (IntKind.i64.wrap (Int.tdiv v7 v4))), (List.set v9.2 (Int.toNat v9.1) v8)))))
  else none
def raw_l2 {β : Type} (fu : Nat) (v4 : Int) (v6 : (Int) × ((List (Int)) × ((List (Int)) × (List (Int))))) (v7 : Int) (v8 : Int) (j6 : ((Int) × ((List (Int)) × ((List (Int)) × (List (Int))))) → Option β) (j9 : ((Int) × (List (Int))) → Option β) (v9 : (Int) × (List (Int))) : Option β :=
  joinF (raw_j3 fu v4 v6 v7 v8 v9 j6 j9) fun j10 =>
  bif (decide ((0 : Int) < v9.1)) then
    bif (((decide ((0 : Int) ≤ (IntKind.i64.wrap (v9.1 - (1 : Int))))) && (decide ((IntKind.i64.wrap (v9.1 - (1 : Int))) < (List.length v9.2 : Int)))) && (decide ((IntKind.i64.wrap (v9.1 - (1 : Int))) < (4 : Int)))) then
    bif (((decide ((0 : Int) ≤ (List.getD v9.2 (Int.toNat (IntKind.i64.wrap (v9.1 - (1 : Int)))) 0))) && (decide ((List.getD v9.2 (Int.toNat (IntKind.i64.wrap (v9.1 - (1 : Int)))) 0) < (List.length (List.set v6.2.1 (Int.toNat v8) (Int.tmod v7 v4)) : Int)))) && (decide ((List.getD v9.2 (Int.toNat (IntKind.i64.wrap (v9.1 - (1 : Int)))) 0) < (4 : Int)))) then
    bif (((decide ((0 : Int) ≤ v8)) && (decide (v8 < (List.length (List.set v6.2.1 (Int.toNat v8) (Int.tmod v7 v4)) : Int)))) && (decide (v8 < (4 : Int)))) then
    j10 ((decide ((List.getD (List.set v6.2.1 (Int.toNat v8) (Int.tmod v7 v4)) (Int.toNat (List.getD v9.2 (Int.toNat (IntKind.i64.wrap (v9.1 - (1 : Int)))) 0)) 0) < (List.getD (List.set v6.2.1 (Int.toNat v8) (Int.tmod v7 v4)) (Int.toNat v8) 0))))
    else none
    else none
    else none
  else
  j10 (false)
def raw_j6 {β : Type} (fu : Nat) (j8 : ((Int) × ((Int) × ((List (Int)) × (List (Int))))) → Option β) (v9 : (Int) × ((Int) × ((List (Int)) × (List (Int))))) : Option β :=
  let v10 : Int := (IntKind.i64.wrap (v9.1 + (1 : Int)))
  j8 ((v9.2.1, (v10, (v9.2.2.1, v9.2.2.2))))
def raw_j8 {β : Type} (fu : Nat) (v5 : Int) (v6 : (Int) × ((List (Int)) × ((List (Int)) × (List (Int))))) (v8 : (Int) × ((Int) × ((List (Int)) × (List (Int))))) (v10 : (Int) × ((Int) × ((List (Int)) × (List (Int))))) (j7 : (List (Int)) → Option β) (j9 : ((Int) × ((Int) × ((List (Int)) × (List (Int))))) → Option β) (v11 : (Int) × (List (Int))) : Option β :=
  bif (decide (v8.2.1 < v5)) then
    let v12 : Int := v10.1
    bif (decide (v10.1 = (0 : Int))) then
      j7 (v11.2)
    else
    bif (((decide ((0 : Int) ≤ v8.2.1)) && (decide (v8.2.1 < (List.length v6.2.2.2 : Int)))) && (decide (v8.2.1 < (4 : Int)))) then
    bif (((decide ((0 : Int) ≤ (List.getD v6.2.2.2 (Int.toNat v8.2.1) 0))) && (decide ((List.getD v6.2.2.2 (Int.toNat v8.2.1) 0) < (List.length v10.2.2.2 : Int)))) && (decide ((List.getD v6.2.2.2 (Int.toNat v8.2.1) 0) < (4 : Int)))) then
    bif (((decide ((0 : Int) ≤ (List.getD v6.2.2.2 (Int.toNat v8.2.1) 0))) && (decide ((List.getD v6.2.2.2 (Int.toNat v8.2.1) 0) < (List.length v10.2.2.2 : Int)))) && (decide ((List.getD v6.2.2.2 (Int.toNat v8.2.1) 0) < (4 : Int)))) then
    j9 ((v8.2.1, (v12, (v11.2, (List.set v10.2.2.2 (Int.toNat (List.getD v6.2.2.2 (Int.toNat v8.2.1) 0)) (IntKind.i64.wrap ((List.getD v10.2.2.2 (Int.toNat (List.getD v6.2.2.2 (Int.toNat v8.2.1) 0)) 0) + (1 : Int))))))))
    else none
    else none
    else none
  else
  j9 ((v8.2.1, (v11.1, (v11.2, v10.2.2.2))))
def raw_l9 {β : Type} (fu : Nat) (a : ((Int) × ((Int) × ((Int) × (List (Int))))) × ((List (Int)) × (Unit))) (v10 : (Int) × ((Int) × ((List (Int)) × (List (Int))))) (v12 : Int) (v14 : Int) (j11 : ((Int) × (List (Int))) → Option β) (j15 : ((Int) × (List (Int))) → Option β) (v15 : (Int) × (List (Int))) : Option β :=
  bif (decide (v15.1 < (List.length v10.2.2.1 : Int))) then
    let v16 : Int := v15.1
    bif ((decide ((0 : Int) ≤ v16)) && (decide (v16 < (List.length v15.2 : Int)))) then
    bif ((decide ((0 : Int) ≤ (IntKind.i64.wrap (v14 + v16)))) && (decide ((IntKind.i64.wrap (v14 + v16)) < (List.length a.1.2.2.2 : Int)))) then
    let v17 : Int := (List.getD a.1.2.2.2 (Int.toNat (IntKind.i64.wrap (v14 + v16))) 0)
    bif ((decide ((0 : Int) ≤ v16)) && (decide (v16 < (List.length v15.2 : Int)))) then
    j15 (((IntKind.i64.wrap (v15.1 + (1 : Int))), (List.set v15.2 (Int.toNat v16) (IntKind.i64.wrap ((List.getD v15.2 (Int.toNat v16) 0) + (IntKind.i64.wrap (v12 * v17)))))))
    else none
    else none
    else none
  else
  j11 ((v10.2.1, v15.2))
def raw_j7 {β : Type} (fu : Nat) (a : ((Int) × ((Int) × ((Int) × (List (Int))))) × ((List (Int)) × (Unit))) (v5 : Int) (v6 : (Int) × ((List (Int)) × ((List (Int)) × (List (Int))))) (v8 : (Int) × ((Int) × ((List (Int)) × (List (Int))))) (j7 : (List (Int)) → Option β) (j9 : ((Int) × ((Int) × ((List (Int)) × (List (Int))))) → Option β) (v10 : (Int) × ((Int) × ((List (Int)) × (List (Int))))) : Option β :=
  joinF (raw_j8 fu v5 v6 v8 v10 j7 j9) fun j11 =>
  let v12 : Int := (IntKind.i64.wrap (v10.2.1 - v10.1))
  bif (decide ((0 : Int) < v12)) then
    bif ((decide ((List.length v10.2.2.2 : Int) = (4 : Int))) && ((decide ((0 : Int) ≤ v5)) && (decide (v5 ≤ (List.length v10.2.2.2 : Int))))) then
    bindO (grid_at_r fu (((a.1.1, (a.1.2.1, (a.1.2.2.1, a.1.2.2.2))), ((List.drop (Int.toNat (0 : Int)) (List.take (Int.toNat v5) v10.2.2.2)), ())))) fun v13 =>
    let v14 : Int := v13.1
    loopF (raw_l9 fu a v10 v12 v14 j11) fu (((0 : Int), v10.2.2.1))
    else none
  else
  j11 ((v10.2.1, v10.2.2.1))
def raw_l5 {β : Type} (fu : Nat) (a : ((Int) × ((Int) × ((Int) × (List (Int))))) × ((List (Int)) × (Unit))) (v5 : Int) (v6 : (Int) × ((List (Int)) × ((List (Int)) × (List (Int))))) (j7 : (List (Int)) → Option β) (j8 : ((Int) × ((Int) × ((List (Int)) × (List (Int))))) → Option β) (v8 : (Int) × ((Int) × ((List (Int)) × (List (Int))))) : Option β :=
  bif (decide (v8.2.1 ≤ v5)) then
    joinF (raw_j6 fu j8) fun j9 =>
    joinF (raw_j7 fu a v5 v6 v8 j7 j9) fun j10 =>
    bif (decide (v8.2.1 < v5)) then
      bif (((decide ((0 : Int) ≤ v8.2.1)) && (decide (v8.2.1 < (List.length v6.2.2.2 : Int)))) && (decide (v8.2.1 < (4 : Int)))) then
      bif (((decide ((0 : Int) ≤ (List.getD v6.2.2.2 (Int.toNat v8.2.1) 0))) && (decide ((List.getD v6.2.2.2 (Int.toNat v8.2.1) 0) < (List.length v6.2.1 : Int)))) && (decide ((List.getD v6.2.2.2 (Int.toNat v8.2.1) 0) < (4 : Int)))) then
      let v11 : Int := (List.getD v6.2.1 (Int.toNat (List.getD v6.2.2.2 (Int.toNat v8.2.1) 0)) 0)
      j10 ((v11, (v8.1, (v8.2.2.1, v8.2.2.2))))
      else none
      else none
    else
    j10 (((0 : Int), (v8.1, (v8.2.2.1, v8.2.2.2))))
  else
  j7 (v8.2.2.1)
def raw_l1 {β : Type} (K : List Int → Option β) (fu : Nat) (a : ((Int) × ((Int) × ((Int) × (List (Int))))) × ((List (Int)) × (Unit))) (v4 : Int) (v5 : Int) (j6 : ((Int) × ((List (Int)) × ((List (Int)) × (List (Int))))) → Option β) (v6 : (Int) × ((List (Int)) × ((List (Int)) × (List (Int))))) : Option β :=
  bif (decide (v6.1 < (List.length a.2.1 : Int))) then
    bif ((decide ((0 : Int) ≤ v6.1)) && (decide (v6.1 < (List.length a.2.1 : Int)))) then
    let v7 : Int := (List.getD a.2.1 (Int.toNat v6.1) 0)
    let v8 : Int := v6.1
    bif (decide (v4 ≠ (0 : Int))) then
    bif (decide (v4 ≠ (0 : Int))) then
    bif (((decide ((0 : Int) ≤ v8)) && (decide (v8 < (List.length v6.2.2.1 : Int)))) && (decide (v8 < (4 : Int)))) then
    bif (((decide ((0 : Int) ≤ v8)) && (decide (v8 < (List.length v6.2.1 : Int)))) && (decide (v8 < (4 : Int)))) then
    loopF (raw_l2 fu v4 v6 v7 v8 j6) fu ((v8, v6.2.2.2))
    else none
    else none
    else none
    else none
    else none
  else
  bif ((decide ((0 : Int) ≤ a.1.2.1)) && (decide (((8 : Int) * a.1.2.1) ≤ (281474976710656 : Int)))) then
  joinF K fun j7 =>
  loopF (raw_l5 fu a v5 v6 j7) fu ((v4, ((0 : Int), ((List.replicate (Int.toNat a.1.2.1) (0 : Int)), v6.2.2.1))))
  else none
def sc_j3 {β : Type} (fu : Nat) (j12 : ((Int) × (List (Int))) → Option β) (v13 : (Int) × (List (Int))) : Option β :=
  j12 (((IntKind.i64.wrap (v13.1 + (1 : Int))), v13.2))
def sc_j5 {β : Type} (fu : Nat) (a : ((Int) × ((Int) × ((Int) × (List (Int))))) × ((List (Int)) × (Unit))) (v15 : (Int) × ((Int) × ((Int) × (Int)))) (j15 : ((Int) × ((Int) × ((Int) × (Int)))) → Option β) (v20 : (Int) × ((Int) × ((Int) × (Int)))) : Option β :=
  let v21 : Int := (IntKind.i64.wrap ((IntKind.i64.wrap (v20.1 * a.1.2.2.1)) + v20.2.1))
  j15 ((v21, (v20.2.2.1, (v20.2.2.2, (IntKind.i64.wrap (v15.2.2.2 + (1 : Int)))))))
def sc_l6 {β : Type} (fu : Nat) (a : ((Int) × ((Int) × ((Int) × (List (Int))))) × ((List (Int)) × (Unit))) (v12 : (Int) × (List (Int))) (v15 : (Int) × ((Int) × ((Int) × (Int)))) (v16 : Int) (j13 : ((Int) × (List (Int))) → Option β) (j17 : ((Int) × (List (Int))) → Option β) (v17 : (Int) × (List (Int))) : Option β :=
  bif (decide (v17.1 < (List.length v12.2 : Int))) then
    let v18 : Int := v17.1
    bif ((decide ((0 : Int) ≤ v18)) && (decide (v18 < (List.length v17.2 : Int)))) then
    bif ((decide ((0 : Int) ≤ (IntKind.i64.wrap ((IntKind.i64.wrap (v15.1 * a.1.2.1)) + v18)))) && (decide ((IntKind.i64.wrap ((IntKind.i64.wrap (v15.1 * a.1.2.1)) + v18)) < (List.length a.1.2.2.2 : Int)))) then
    let v19 : Int := (List.getD a.1.2.2.2 (Int.toNat (IntKind.i64.wrap ((IntKind.i64.wrap (v15.1 * a.1.2.1)) + v18))) 0)
    bif ((decide ((0 : Int) ≤ v18)) && (decide (v18 < (List.length v17.2 : Int)))) then
    j17 (((IntKind.i64.wrap (v17.1 + (1 : Int))), (List.set v17.2 (Int.toNat v18) (IntKind.i64.wrap ((List.getD v17.2 (Int.toNat v18) 0) + (IntKind.i64.wrap (v16 * v19)))))))
    else none
    else none
    else none
  else
  j13 ((v12.1, v17.2))
def sc_l4 {β : Type} (fu : Nat) (a : ((Int) × ((Int) × ((Int) × (List (Int))))) × ((List (Int)) × (Unit))) (v11 : Int) (v12 : (Int) × (List (Int))) (v14 : Int) (j13 : ((Int) × (List (Int))) → Option β) (j15 : ((Int) × ((Int) × ((Int) × (Int)))) → Option β) (v15 : (Int) × ((Int) × ((Int) × (Int)))) : Option β :=
  bif (decide (v15.2.2.2 < (List.length a.2.1 : Int))) then
    bif ((decide ((0 : Int) ≤ v15.2.2.2)) && (decide (v15.2.2.2 < (List.length a.2.1 : Int)))) then
    let v16 : Int := (List.getD a.2.1 (Int.toNat v15.2.2.2) 0)
    let v17 : Int := v15.2.2.2
    bif (decide (v11 ≠ (0 : Int))) then
    bif (decide (v11 ≠ (0 : Int))) then
    let v18 : Int := (IntKind.i64.wrap (Int.tdiv v16 v11))
    let v19 : Int := (Int.tmod v16 v11)
    joinF (sc_j5 fu a v15 j15) fun j20 =>
    bif ((decide ((0 : Int) ≤ v17)) && (decide (v17 ≤ (64 : Int)))) then
    bif (decide ((bits BinOp.and IntKind.i64 (v14 / 2 ^ (Int.toNat v17)) (1 : Int)) = (1 : Int))) then
      let v21 : Int := (min v15.2.2.1 v19)
      let v22 : Int := (IntKind.i64.wrap (v18 + (1 : Int)))
      j20 ((v15.1, (v22, (v15.2.1, v21))))
    else
    let v21 : Int := (max v15.2.1 v19)
    j20 ((v15.1, (v18, (v21, v15.2.2.1))))
    else none
    else none
    else none
    else none
  else
  let v16 : Int := (IntKind.i64.wrap (v15.2.2.1 - v15.2.1))
  bif (decide ((0 : Int) < v16)) then
    loopF (sc_l6 fu a v12 v15 v16 j13) fu (((0 : Int), v12.2))
  else
  j13 ((v12.1, v12.2))
def sc_l2 {β : Type} (K : (Int × List Int) → Option β) (fu : Nat) (a : ((Int) × ((Int) × ((Int) × (List (Int))))) × ((List (Int)) × (Unit))) (v11 : Int) (j12 : ((Int) × (List (Int))) → Option β) (v12 : (Int) × (List (Int))) : Option β :=
  bif (decide (v12.1 < (IntKind.i64.wrap ((1 : Int) * 2 ^ (Int.toNat a.1.1))))) then
    joinF (sc_j3 fu j12) fun j13 =>
    let v14 : Int := v12.1
    loopF (sc_l4 fu a v11 v12 v14 j13) fu (((0 : Int), ((0 : Int), (v11, (0 : Int)))))
  else
  K v12
structure InOk (n o s : Nat) (vs l : List Int) (t : Int) : Prop where
  n1 : 1 ≤ n
  n4 : n ≤ 4
  o1 : 1 ≤ o
  o8 : o ≤ 8
  s2 : 2 ≤ s
  s9 : s ≤ 9
  sz : s ^ n * o ≤ 32768
  hv : vs.length = s ^ n * o
  vb : ∀ k, k < vs.length → -32768 ≤ vs.getD k 0 ∧ vs.getD k 0 ≤ 65535
  hl : l.length = n
  bl : ∀ k, k < n → 0 ≤ l.getD k 0 ∧ l.getD k 0 ≤ 65280
  t1 : 8160 ≤ t
  t2 : t ≤ 65280
  tt : t * (s - 1) = 65280
def inP (l : List Int) (t : Int) (k : Nat) : Int := l.getD k 0 % t
def inC (l : List Int) (t : Int) (k : Nat) : Int := l.getD k 0 / t
def inV (o : Nat) (vs : List Int) (x q : Int) : Int := vs.getD (x * (o : Int) + q).toNat 0
section
variable {n o s : Nat} {vs l : List Int} {t : Int} (h : InOk n o s vs l t)
include h
theorem in_pc {k : Nat} (hk : k < n) : (0 ≤ inP l t k ∧ inP l t k < t) ∧ (0 ≤ inC l t k ∧ inC l t k ≤ (s : Int) - 1) ∧ (0 < inP l t k → inC l t k ≤ (s : Int) - 2) := by
  have a := h.bl k hk; have t1 := h.t1; have tt := h.tt; have s2 := h.s2; have e1 := Int.emod_nonneg (l.getD k 0) (show t ≠ 0 by omega); have e2 := Int.emod_lt_of_pos (l.getD k 0) (show 0 < t by omega); have e3 := Int.emod_add_mul_ediv (l.getD k 0) t; have e4 := Int.ediv_nonneg a.1 (show 0 ≤ t by omega); unfold inP inC
  have e5 : l.getD k 0 / t ≤ (s : Int) - 1 := by
    have := Int.ediv_le_ediv (show 0 < t by omega) a.2; rw [show (65280 : Int) / t = (s : Int) - 1 from Int.ediv_eq_of_eq_mul_right (by omega) tt.symm] at this; exact this
  refine ⟨⟨e1, e2⟩, ⟨e4, e5⟩, fun g => ?_⟩; by_cases c : l.getD k 0 / t < (s : Int) - 1
  · omega
  · have : l.getD k 0 / t = (s : Int) - 1 := by omega
    rw [this, tt] at e3; omega
theorem nd_bd {x : Nat} : ∀ m, m ≤ n → 0 ≤ ndF (inC l t) s x m ∧ ndF (inC l t) s x m ≤ (10 : Int) ^ m - 1
  | 0, _ => by simp [ndF]
  | m + 1, hm => by
    obtain ⟨a, b⟩ := nd_bd (x := x) m (by omega); have c := (in_pc h (k := m) (by omega)).2.1; have d := dg2 x m; have s9 := h.s9; have s2 := h.s2; have e := Int.mul_le_mul b (show (s : Int) ≤ 10 by omega) (by omega) (by omega); have f := Int.mul_nonneg a (show 0 ≤ (s : Int) by omega); rw [Int.sub_mul] at e; rw [ndF, Int.pow_succ]; omega
theorem nd_lt {x : Nat} (hw : 0 < wF n t (inP l t) x) : ∀ m, m ≤ n → 0 ≤ ndF (inC l t) s x m ∧ ndF (inC l t) s x m ≤ (s : Int) ^ m - 1
  | 0, _ => by simp [ndF]
  | m + 1, hm => by
    obtain ⟨a, b⟩ := nd_lt hw m (by omega); obtain ⟨⟨c1, c2⟩, ⟨c3, c4⟩, c5⟩ := in_pc h (k := m) (by omega)
    have hd : inC l t m + (dg 2 x m : Int) ≤ (s : Int) - 1 := by
      rcases dg2 x m with g | g
      · omega
      · have e1 := lsF_le (t := t) (p := inP l t) (x := x) n m (by omega) g; have e2 := msF_0 (p := inP l t) (x := x) n; unfold wF at hw; have := c5 (by omega); omega
    have s2 := h.s2; have e := Int.mul_le_mul_of_nonneg_right b (show 0 ≤ (s : Int) by omega); have f := Int.mul_nonneg a (show 0 ≤ (s : Int) by omega); rw [Int.sub_mul, Int.one_mul] at e; rw [ndF, Int.pow_succ]; omega
theorem nd_at {x : Nat} (hw : 0 < wF n t (inP l t) x) {q : Nat} (hq : q < o) : 0 ≤ ndF (inC l t) s x n * (o : Int) + q ∧ ndF (inC l t) s x n * (o : Int) + q < (vs.length : Int) ∧ ndF (inC l t) s x n * (o : Int) ≤ 32768 ∧ -32768 ≤ inV o vs (ndF (inC l t) s x n) q ∧ inV o vs (ndF (inC l t) s x n) q ≤ 65535 := by
  obtain ⟨a, b⟩ := nd_lt h hw n (Nat.le_refl _); have c := Int.mul_le_mul_of_nonneg_right b (show 0 ≤ (o : Int) by omega); have d := Int.mul_nonneg a (show 0 ≤ (o : Int) by omega); have hv : (vs.length : Int) = (s : Int) ^ n * (o : Int) := by rw [h.hv, Int.natCast_mul, Int.natCast_pow]
  have sz := h.sz; have hv' := h.hv; rw [Int.sub_mul, Int.one_mul, ← hv] at c; have lt : ndF (inC l t) s x n * (o : Int) + q < (vs.length : Int) := by omega
  have := h.vb (ndF (inC l t) s x n * (o : Int) + q).toNat (by omega); exact ⟨by omega, lt, by omega, this⟩
theorem w_bd {x : Nat} : wF n t (inP l t) x ≤ 65280 ∧ -65280 ≤ wF n t (inP l t) x := by
  have t1 := h.t1; have t2 := h.t2; have a := lsF_t (t := t) (p := inP l t) (x := x) n; have b := msF_0 (p := inP l t) (x := x) n; have c := lsF_ge (p := inP l t) (x := x) (L := 0) (t := t) (by omega) n fun k hk _ => (in_pc h hk).1.1
  have d := msF_le (p := inP l t) (x := x) (M := t) (by omega) n fun k hk _ => by have := (in_pc h hk).1.2; omega
  unfold wF; omega
theorem prod_bd' {a b : Int} (h0 : 0 ≤ a) (h1 : a ≤ 65280) (h2 : -32768 ≤ b) (h3 : b ≤ 65535) : -4278190080 ≤ a * b ∧ a * b ≤ 4278190080 := by
  have e1 := Int.mul_le_mul_of_nonneg_left h3 h0; have e2 := Int.mul_le_mul_of_nonneg_left h2 h0; omega
theorem c_bd {x q : Nat} (hq : q < o) : -4278190080 ≤ cF n t (inP l t) (inC l t) s (inV o vs) x q ∧ cF n t (inP l t) (inC l t) s (inV o vs) x q ≤ 4278190080 := by
  unfold cF; split
  · rename_i hw; obtain ⟨_, _, _, a, b⟩ := nd_at h hw hq; have c := (w_bd h (x := x)).1; exact prod_bd' h (by omega) c a b
  · omega
theorem sm_bd {q : Nat} (hq : q < o) : ∀ x : Nat, -4278190080 * (x : Int) ≤ smF n t (inP l t) (inC l t) s (inV o vs) x q ∧ smF n t (inP l t) (inC l t) s (inV o vs) x q ≤ 4278190080 * (x : Int)
  | 0 => by simp [smF]
  | x + 1 => by
    have a := sm_bd hq x; have b := c_bd h (x := x) hq; rw [smF]; omega
end
theorem bit_and : ∀ a : Nat, a < 16 → bits .and .i64 (a : Int) 1 = ((a % 2 : Nat) : Int) := by decide
theorem bit_at {x k : Nat} (hx : x < 16) : bits .and .i64 ((x : Int) / 2 ^ k) 1 = (dg 2 x k : Int) := by
  have e : (x : Int) / 2 ^ k = ((x / 2 ^ k : Nat) : Int) := by
    rw [Int.natCast_ediv, Int.natCast_pow]; rfl
  rw [e, bit_and _ (Nat.lt_of_le_of_lt (Nat.div_le_self _ _) hx)]; rfl
section
variable {n o s : Nat} {vs l : List Int} {t : Int} (h : InOk n o s vs l t) {fu : Nat} (hf : 18446744073709551616 ≤ fu)
include h hf
theorem sc_set {β : Type} {j : (Int × List Int) → Option β} {x : Nat} (hx : x < 2 ^ n) :
    loopF (sc_l4 fu (((n : Int), ((o : Int), ((s : Int), vs))), (l, ())) t ((x : Int), tabL o (smF n t (inP l t) (inC l t) s (inV o vs) x)) (x : Int) (sc_j3 fu j)) fu ((0 : Int), ((0 : Int), (t, (0 : Int)))) =
      j (((x + 1 : Nat) : Int), tabL o (smF n t (inP l t) (inC l t) s (inV o vs) (x + 1))) := by
  have h' := h; obtain ⟨n1, n4, o1, o8, s2, s9, sz, hv, vb, hl, bl, t1, t2, tt⟩ := h'; have hx16 : x < 16 := Nat.lt_of_lt_of_le hx (Nat.pow_le_pow_right (by decide) n4); refine stLoop (n := n) (st := fun k => (ndF (inC l t) s x k, (msF (inP l t) x k, (lsF t (inP l t) x k, (k : Int))))) (by omega) rfl (fun j' k hk => ?_) (fun j' => ?_)
  · obtain ⟨⟨p1, p2⟩, ⟨c1, c2⟩, _⟩ := in_pc h hk; have e1 : l.getD k 0 % t = inP l t k := rfl; have e2 : l.getD k 0 / t = inC l t k := rfl; have b := bl k hk; obtain ⟨nb1, nb2⟩ := nd_bd h (x := x) k (by omega); obtain ⟨nb3, nb4⟩ := nd_bd h (x := x) (k + 1) (by omega); have q1 := pw_bd (s := 9) (i := k) (by decide) (by decide) (by omega)
    have nb5 : (10 : Int) ^ k ≤ 1000 := by
      have : k = 0 ∨ k = 1 ∨ k = 2 ∨ k = 3 := by omega
      rcases this with e | e | e | e <;> (rw [e]; decide)
    have ml := Int.mul_nonneg nb1 (show 0 ≤ (s : Int) by omega); have ml2 := Int.mul_le_mul (show ndF (inC l t) s x k ≤ 999 by omega) (show (s : Int) ≤ 9 by omega) (by omega) (by omega); unfold sc_l4; simp (disch := omega) only [joinF_eq, bindO_some, s_wr, s_td, s_tm, s_pos, s_neg, cond_true, cond_false, Bool.not_true, Bool.not_false, Bool.true_and, Bool.and_true, Bool.false_and, Bool.and_false, bne_self_eq_false, decide_true, decide_false, Int.toNat_natCast]; rw [e1, e2]; rcases dg2 x k with g | g
    · have be : bits .and .i64 ((x : Int) / 2 ^ k) 1 = 0 := by rw [bit_at hx16, g]; rfl
      simp (disch := omega) only [joinF_eq, bindO_some, s_wr, s_td, s_tm, s_pos, s_neg, cond_true, cond_false, Bool.not_true, Bool.not_false, Bool.true_and, Bool.and_true, Bool.false_and, Bool.and_false, bne_self_eq_false, decide_true, decide_false, Int.toNat_natCast]; unfold sc_j5; simp (disch := omega) only [joinF_eq, bindO_some, s_wr, s_td, s_tm, s_pos, s_neg, cond_true, cond_false, Bool.not_true, Bool.not_false, Bool.true_and, Bool.and_true, Bool.false_and, Bool.and_false, bne_self_eq_false, decide_true, decide_false, Int.toNat_natCast]; rw [ndF, msF, lsF, g, if_neg (by decide), if_neg (by decide)]; simp only [Int.natCast_zero, Int.add_zero]; rfl
    · have be : bits .and .i64 ((x : Int) / 2 ^ k) 1 = 1 := by rw [bit_at hx16, g]; rfl
      simp (disch := omega) only [joinF_eq, bindO_some, s_wr, s_td, s_tm, s_pos, s_neg, cond_true, cond_false, Bool.not_true, Bool.not_false, Bool.true_and, Bool.and_true, Bool.false_and, Bool.and_false, bne_self_eq_false, decide_true, decide_false, Int.toNat_natCast]; unfold sc_j5; simp (disch := omega) only [joinF_eq, bindO_some, s_wr, s_td, s_tm, s_pos, s_neg, cond_true, cond_false, Bool.not_true, Bool.not_false, Bool.true_and, Bool.and_true, Bool.false_and, Bool.and_false, bne_self_eq_false, decide_true, decide_false, Int.toNat_natCast]; rw [ndF, msF, lsF, g, if_pos rfl, if_pos rfl]; rfl
  · have wb := w_bd h (x := x); unfold sc_l4; simp (disch := omega) only [joinF_eq, bindO_some, s_wr, s_td, s_tm, s_pos, s_neg, cond_true, cond_false, Bool.not_true, Bool.not_false, Bool.true_and, Bool.and_true, Bool.false_and, Bool.and_false, bne_self_eq_false, decide_true, decide_false, Int.toNat_natCast]; have a1 := lsF_t (t := t) (p := inP l t) (x := x) n; have a2 := msF_0 (p := inP l t) (x := x) n; unfold wF at wb; by_cases hw : 0 < lsF t (inP l t) x n - msF (inP l t) x n
    · simp (disch := omega) only [joinF_eq, bindO_some, s_wr, s_td, s_tm, s_pos, s_neg, cond_true, cond_false, Bool.not_true, Bool.not_false, Bool.true_and, Bool.and_true, Bool.false_and, Bool.and_false, bne_self_eq_false, decide_true, decide_false, Int.toNat_natCast]; have hw' : 0 < wF n t (inP l t) x := hw; refine stLoop (n := o) (st := fun q => ((q : Int), tabL o (fun k => if k < (q : Int) then smF n t (inP l t) (inC l t) s (inV o vs) (x + 1) k else smF n t (inP l t) (inC l t) s (inV o vs) x k))) (by omega) ?_ (fun j' q hq => ?_) (fun j' => ?_)
      · exact Prod.ext rfl (tabL_congr fun i h0 h1 => rfl)
      · obtain ⟨d1, d2, d3, d4, d5⟩ := nd_at h hw' hq; have d6 := (nd_lt h hw' n (Nat.le_refl _)).1; have d7 := Int.mul_nonneg d6 (show 0 ≤ (o : Int) by omega); have pb := prod_bd' h (show 0 ≤ lsF t (inP l t) x n - msF (inP l t) x n by omega) (show lsF t (inP l t) x n - msF (inP l t) x n ≤ 65280 by omega) d4 d5; have sb := sm_bd h hq x
        have e1 : smF n t (inP l t) (inC l t) s (inV o vs) (x + 1) q = smF n t (inP l t) (inC l t) s (inV o vs) x q + (lsF t (inP l t) x n - msF (inP l t) x n) * inV o vs (ndF (inC l t) s x n) q := by
          rw [smF, cF, if_pos hw']; rfl
        have e2 : vs.getD (ndF (inC l t) s x n * (o : Int) + (q : Int)).toNat 0 = inV o vs (ndF (inC l t) s x n) q := rfl; unfold sc_l6; simp (disch := omega) only [joinF_eq, bindO_some, s_wr, s_td, s_tm, s_pos, s_neg, cond_true, cond_false, Bool.not_true, Bool.not_false, Bool.true_and, Bool.and_true, Bool.false_and, Bool.and_false, bne_self_eq_false, decide_true, decide_false, Int.toNat_natCast, tabL_length]; rw [e2]; simp only [tabP_get hq]; simp (disch := omega) only [joinF_eq, bindO_some, s_wr, s_td, s_tm, s_pos, s_neg, cond_true, cond_false, Bool.not_true, Bool.not_false, Bool.true_and, Bool.and_true, Bool.false_and, Bool.and_false, bne_self_eq_false, decide_true, decide_false, Int.toNat_natCast]; rw [tabP_set hq e1]; rfl
      · have e1 : (tabL o fun k => if k < ((o : Nat) : Int) then smF n t (inP l t) (inC l t) s (inV o vs) (x + 1) k else smF n t (inP l t) (inC l t) s (inV o vs) x k) = tabL o (smF n t (inP l t) (inC l t) s (inV o vs) (x + 1)) := tabL_congr fun i h0 h1 => by rw [if_pos h1]
        unfold sc_l6; simp (disch := omega) only [joinF_eq, bindO_some, s_wr, s_td, s_tm, s_pos, s_neg, cond_true, cond_false, Bool.not_true, Bool.not_false, Bool.true_and, Bool.and_true, Bool.false_and, Bool.and_false, bne_self_eq_false, decide_true, decide_false, Int.toNat_natCast, tabL_length]; rw [e1]; unfold sc_j3; simp (disch := omega) only [joinF_eq, bindO_some, s_wr, s_td, s_tm, s_pos, s_neg, cond_true, cond_false, Bool.not_true, Bool.not_false, Bool.true_and, Bool.and_true, Bool.false_and, Bool.and_false, bne_self_eq_false, decide_true, decide_false, Int.toNat_natCast]; rfl
    · simp (disch := omega) only [joinF_eq, bindO_some, s_wr, s_td, s_tm, s_pos, s_neg, cond_true, cond_false, Bool.not_true, Bool.not_false, Bool.true_and, Bool.and_true, Bool.false_and, Bool.and_false, bne_self_eq_false, decide_true, decide_false, Int.toNat_natCast]
      have e1 : tabL o (smF n t (inP l t) (inC l t) s (inV o vs) (x + 1)) = tabL o (smF n t (inP l t) (inC l t) s (inV o vs) x) := tabL_congr fun i h0 h1 => by
        rw [smF, c_zero hw, Int.add_zero]
      rw [e1]; unfold sc_j3; simp (disch := omega) only [joinF_eq, bindO_some, s_wr, s_td, s_tm, s_pos, s_neg, cond_true, cond_false, Bool.not_true, Bool.not_false, Bool.true_and, Bool.and_true, Bool.false_and, Bool.and_false, bne_self_eq_false, decide_true, decide_false, Int.toNat_natCast]; rfl
theorem sc_all {β : Type} {K : (Int × List Int) → Option β} : loopF (sc_l2 K fu (((n : Int), ((o : Int), ((s : Int), vs))), (l, ())) t) fu ((0 : Int), List.replicate o (0 : Int)) = K (((2 ^ n : Nat) : Int), tabL o (smF n t (inP l t) (inC l t) s (inV o vs) (2 ^ n))) := by
  have h' := h; obtain ⟨n1, n4, o1, o8, s2, s9, sz, hv, vb, hl, bl, t1, t2, tt⟩ := h'; have h16 : 2 ^ n ≤ 16 := Nat.pow_le_pow_right (by decide) n4; have e2 : (2 : Int) ^ n = ((2 ^ n : Nat) : Int) := by rw [Int.natCast_pow]; rfl
  refine stLoop (n := 2 ^ n) (st := fun x => ((x : Int), tabL o (smF n t (inP l t) (inC l t) s (inV o vs) x))) (by omega) ?_ (fun j x hx => ?_) (fun j => ?_)
  · exact Prod.ext rfl (tabL_rep (G := smF n t (inP l t) (inC l t) s (inV o vs) 0) fun i _ _ => rfl)
  · unfold sc_l2; simp (disch := omega) only [joinF_eq, bindO_some, s_wr, s_td, s_tm, s_pos, s_neg, cond_true, cond_false, Bool.not_true, Bool.not_false, Bool.true_and, Bool.and_true, Bool.false_and, Bool.and_false, bne_self_eq_false, decide_true, decide_false, Int.toNat_natCast]; exact sc_set h hf hx
  · have e3 : IntKind.i64.wrap ((1 : Int) * 2 ^ n) = ((2 ^ n : Nat) : Int) := by
      rw [Int.one_mul, e2]; generalize 2 ^ n = N at *
      exact wr64 (by omega) (by omega)
    unfold sc_l2; simp only [Int.toNat_natCast, e3]; exact bif_neg (by omega)
end
end Go.Proofs.Ytjhdjjoacedlpaa
/- Grids: what Raw computes: the axes sorted by their parts, and the sum over their heads. -/
namespace Go.Proofs.Ytjhdjjoacedlpaa
open Go Go.RowKit
set_option linter.unusedSimpArgs false
set_option linter.unusedSectionVars false
set_option linter.unusedVariables false
theorem Srt.congr {n : Nat} {p : Nat → Int} {σ σ' : Nat → Nat} (h : Srt n p σ) (e : ∀ i, i < n → σ' i = σ i) : Srt n p σ' :=
  ⟨fun i hi => by rw [e i hi]; exact h.lt i hi, fun i j hi hj g => h.inj i j hi hj (by rw [← e i hi, ← e j hj]; exact g), fun k hk => by
    obtain ⟨i, hi, g⟩ := h.sur k hk
    exact ⟨i, hi, by rw [e i hi]; exact g⟩, fun i j hij hj => by rw [e i (by omega), e j hj]; exact h.srt i j hij hj⟩
def insF (σ : Nat → Nat) (k j i : Nat) : Nat := if i < j then σ i else if i = j then k else σ (i - 1)
theorem srt_ins {k j : Nat} {p : Nat → Int} {σ : Nat → Nat} (h : Srt k p σ) (hj : j ≤ k) (h1 : ∀ i, i < j → p k ≤ p (σ i)) (h2 : ∀ i, j ≤ i → i < k → p (σ i) ≤ p k) : Srt (k + 1) p (insF σ k j) := by
  have a : ∀ i, i < j → insF σ k j i = σ i := fun i hi => by unfold insF; rw [if_pos hi]
  have b : insF σ k j j = k := by unfold insF; rw [if_neg (by omega), if_pos rfl]
  have c : ∀ i, j < i → insF σ k j i = σ (i - 1) := fun i hi => by unfold insF; rw [if_neg (by omega), if_neg (by omega)]
  have tri : ∀ i, i < j ∨ i = j ∨ j < i := fun i => by omega
  refine ⟨fun i hi => ?_, fun i i' hi hi' e => ?_, fun q hq => ?_, fun i i' hii hi' => ?_⟩
  · rcases tri i with g | g | g
    · rw [a i g]; have := h.lt i (by omega); omega
    · rw [g, b]; omega
    · rw [c i g]; have := h.lt (i - 1) (by omega); omega
  · rcases tri i with g | g | g <;> rcases tri i' with g' | g' | g'
    · rw [a i g, a i' g'] at e; exact h.inj i i' (by omega) (by omega) e
    · rw [a i g, g', b] at e; have := h.lt i (by omega); omega
    · rw [a i g, c i' g'] at e; have := h.inj i (i' - 1) (by omega) (by omega) e; omega
    · rw [a i' g', g, b] at e; have := h.lt i' (by omega); omega
    · omega
    · rw [c i' g', g, b] at e; have := h.lt (i' - 1) (by omega); omega
    · rw [a i' g', c i g] at e; have := h.inj (i - 1) i' (by omega) (by omega) e; omega
    · rw [c i g, g', b] at e; have := h.lt (i - 1) (by omega); omega
    · rw [c i g, c i' g'] at e; have := h.inj (i - 1) (i' - 1) (by omega) (by omega) e; omega
  · by_cases e : q = k
    · exact ⟨j, by omega, by rw [b, e]⟩
    · obtain ⟨i, hi, g⟩ := h.sur q (by omega); by_cases f : i < j
      · exact ⟨i, by omega, by rw [a i f, g]⟩
      · exact ⟨i + 1, by omega, by rw [c (i + 1) (by omega), Nat.add_sub_cancel, g]⟩
  · rcases tri i with g | g | g <;> rcases tri i' with g' | g' | g'
    · rw [a i g, a i' g']; exact h.srt i i' hii (by omega)
    · rw [a i g, g', b]; exact h1 i g
    · rw [a i g, c i' g']; exact h.srt i (i' - 1) (by omega) (by omega)
    · omega
    · rw [g, g']; exact Int.le_refl _
    · rw [g, b, c i' g']; exact h2 (i' - 1) (by omega) (by omega)
    · omega
    · omega
    · rw [c i g, c i' g']; exact h.srt (i - 1) (i' - 1) (by omega) (by omega)
def partT (l : List Int) (t : Int) (k : Nat) : List Int := tabL 4 fun i => if i < (k : Int) then inP l t i.toNat else 0
def cellT (l : List Int) (t : Int) (k : Nat) : List Int := tabL 4 fun i => if i < (k : Int) then inC l t i.toNat else 0
def axS (ax : List Int) (i : Nat) : Nat := (ax.getD i 0).toNat
section
variable {l : List Int} {t : Int}
theorem partT_len {k : Nat} : (partT l t k).length = 4 := tabL_length _ _
theorem cellT_len {k : Nat} : (cellT l t k).length = 4 := tabL_length _ _
theorem partT_set {k : Nat} (hk : k < 4) : (partT l t k).set k (l.getD k 0 % t) = partT l t (k + 1) := tabP_set (A := fun i => inP l t i.toNat) (B := fun _ => 0) hk (by simp only [Int.toNat_natCast]; rfl)
theorem cellT_set {k : Nat} (hk : k < 4) : (cellT l t k).set k (l.getD k 0 / t) = cellT l t (k + 1) := tabP_set (A := fun i => inC l t i.toNat) (B := fun _ => 0) hk (by simp only [Int.toNat_natCast]; rfl)
theorem partT_at {k i : Nat} (hi : i < k) (h4 : i < 4) : (partT l t k).getD i 0 = inP l t i := by
  unfold partT; rw [tabL_getDN h4, if_pos (by omega), Int.toNat_natCast]
theorem cellT_at {k i : Nat} (hi : i < k) (h4 : i < 4) : (cellT l t k).getD i 0 = inC l t i := by
  unfold cellT; rw [tabL_getDN h4, if_pos (by omega), Int.toNat_natCast]
end
structure AxOk (k : Nat) (p : Nat → Int) (ax : List Int) : Prop where
  len : ax.length = 4
  nn : ∀ i, i < k → ax.getD i 0 = (axS ax i : Int)
  srt : Srt k p (axS ax)
section
variable {n o s : Nat} {vs l : List Int} {t : Int} (h : InOk n o s vs l t) {fu : Nat} (hf : 18446744073709551616 ≤ fu)
include h hf
theorem raw_ins {β : Type} {j : (Int × (List Int × (List Int × List Int))) → Option β} {k : Nat} (hk : k < n) {ax : List Int} (hax : AxOk k (inP l t) ax) :
    ∃ ax', AxOk (k + 1) (inP l t) ax' ∧ loopF (raw_l2 fu t ((k : Int), (partT l t k, (cellT l t k, ax))) (l.getD k 0) (k : Int) j) fu ((k : Int), ax) = j (((k + 1 : Nat) : Int), (partT l t (k + 1), (cellT l t (k + 1), ax'))) := by
  have h' := h; obtain ⟨n1, n4, o1, o8, s2, s9, sz, hv, vb, hl, bl, t1, t2, tt⟩ := h'; have bl := bl k hk; obtain ⟨⟨p1, p2⟩, ⟨c1, c2⟩, _⟩ := in_pc h hk; have c1' : 0 ≤ l.getD k 0 / t := c1; have c2' : l.getD k 0 / t ≤ (s : Int) - 1 := c2; obtain ⟨a1, a2, a3⟩ := hax; have pl := partT_len (l := l) (t := t) (k := k); have pl1 := partT_len (l := l) (t := t) (k := k + 1); have cl := cellT_len (l := l) (t := t) (k := k); have pk := partT_at (l := l) (t := t) (k := k + 1) (i := k) (by omega) (by omega)
  refine postLoop (f := raw_l2 fu t ((k : Int), (partT l t k, (cellT l t k, ax))) (l.getD k 0) (k : Int) j) (fun x => x.1.toNat)
    (fun x => ∃ m : Nat, x.1 = m ∧ m ≤ k ∧ x.2.length = 4 ∧ (∀ i, i < m → x.2.getD i 0 = ax.getD i 0) ∧ ∀ i, m ≤ i → i < k → x.2.getD (i + 1) 0 = ax.getD i 0 ∧ inP l t (axS ax i) ≤ inP l t k)
    (fun r => ∃ ax', AxOk (k + 1) (inP l t) ax' ∧ r = j (((k + 1 : Nat) : Int), (partT l t (k + 1), (cellT l t (k + 1), ax')))) ?_ fu ((k : Int), ax) ⟨k, rfl, Nat.le_refl _, a1, fun _ _ => rfl, fun i h1 h2 => by omega⟩ (by simp only; omega)
  rintro j2 ⟨_, a⟩ ⟨m, rfl, m1, m2, m3, m4⟩
  simp only at m2 m3 m4
  have stop : (∀ i, i < m → inP l t k ≤ inP l t (axS ax i)) → raw_j3 fu t ((k : Int), (partT l t k, (cellT l t k, ax))) (l.getD k 0) (k : Int) ((m : Int), a) j j2 false = j (((k + 1 : Nat) : Int), (partT l t (k + 1), (cellT l t (k + 1), a.set m (k : Int)))) ∧ AxOk (k + 1) (inP l t) (a.set m (k : Int)) := by
    intro hlt; refine ⟨?_, ?_⟩
    · unfold raw_j3; simp (disch := omega) only [joinF_eq, bindO_some, s_wr, s_td, s_tm, s_pos, s_neg, cond_true, cond_false, Bool.not_true, Bool.not_false, Bool.true_and, Bool.and_true, Bool.false_and, Bool.and_false, bne_self_eq_false, decide_true, decide_false, Int.toNat_natCast, partT_set, cellT_set]; rfl
    · have e : ∀ i, i < k + 1 → (a.set m (k : Int)).getD i 0 = (insF (axS ax) k m i : Int) := by
        intro i hi; rw [getD_set' (by omega)]; unfold insF; by_cases g : i < m
        · rw [if_neg (by omega), if_pos g, m3 i g]; exact a2 i (by omega)
        · rw [if_neg g]; by_cases g2 : i = m
          · rw [if_pos g2, if_pos g2]
          · rw [if_neg g2, if_neg g2]; have := (m4 (i - 1) (by omega) (by omega)).1; rw [show i - 1 + 1 = i by omega] at this; rw [this]; exact a2 (i - 1) (by omega)
      have e' : ∀ i, i < k + 1 → axS (a.set m (k : Int)) i = insF (axS ax) k m i := fun i hi => by
        unfold axS at *
        rw [e i hi]; exact Int.toNat_natCast _
      exact ⟨by rw [List.length_set]; exact m2, fun i hi => by rw [e' i hi]; exact e i hi, (srt_ins a3 m1 hlt fun i h1 h2 => (m4 i h1 h2).2).congr e'⟩
  by_cases hm : m = 0
  · subst hm; obtain ⟨s1, s2⟩ := stop fun i hi => absurd hi (Nat.not_lt_zero _)
    refine .inr ⟨_, s2, ?_⟩; rw [← s1]; unfold raw_l2; simp (disch := omega) only [joinF_eq, bindO_some, s_wr, s_td, s_tm, s_pos, s_neg, cond_true, cond_false, Bool.not_true, Bool.not_false, Bool.true_and, Bool.and_true, Bool.false_and, Bool.and_false, bne_self_eq_false, decide_true, decide_false, Int.toNat_natCast]
  · obtain ⟨m, rfl⟩ : ∃ m', m = m' + 1 := ⟨m - 1, by omega⟩; have g1 := m3 m (by omega); have g2 := a2 m (by omega); have g3 := a3.lt m (by omega); have g4 := partT_at (l := l) (t := t) (k := k + 1) (i := axS ax m) (by omega) (by omega); have e0 : ((m + 1 : Nat) : Int) - 1 = (m : Int) := by omega
    have go : ∀ b : Bool, (b = true ↔ inP l t (axS ax m) < inP l t k) → (∃ x' : Int × List Int, (∃ m : Nat, x'.1 = m ∧ m ≤ k ∧ x'.2.length = 4 ∧ (∀ i, i < m → x'.2.getD i 0 = ax.getD i 0) ∧ ∀ i, m ≤ i → i < k → x'.2.getD (i + 1) 0 = ax.getD i 0 ∧ inP l t (axS ax i) ≤ inP l t k) ∧ x'.1.toNat < ((m + 1 : Nat) : Int).toNat ∧ raw_j3 fu t ((k : Int), (partT l t k, (cellT l t k, ax))) (l.getD k 0) (k : Int) (((m + 1 : Nat) : Int), a) j j2 b = j2 x') ∨
        ∃ ax', AxOk (k + 1) (inP l t) ax' ∧ raw_j3 fu t ((k : Int), (partT l t k, (cellT l t k, ax))) (l.getD k 0) (k : Int) (((m + 1 : Nat) : Int), a) j j2 b = j (((k + 1 : Nat) : Int), (partT l t (k + 1), (cellT l t (k + 1), ax'))) := by
      intro b hb
      cases b with
      | false =>
        have hge : ¬ inP l t (axS ax m) < inP l t k := fun g => by have := hb.2 g; cases this
        obtain ⟨s1, s2⟩ := stop fun i hi => by
          have := a3.srt i m (by omega) (by omega); omega
        exact .inr ⟨_, s2, s1⟩
      | true =>
        have hlt := hb.1 rfl; refine .inl ⟨((m : Int), a.set (m + 1) (ax.getD m 0)), ⟨m, rfl, by omega, by simp only; rw [List.length_set]; exact m2, fun i hi => ?_, fun i h1 h2 => ?_⟩, by simp only; omega, ?_⟩
        · simp only; rw [getD_set' (by omega), if_neg (by omega)]; exact m3 i (by omega)
        · simp only; rw [getD_set' (by omega)]; by_cases e : i = m
          · subst e; rw [if_pos rfl]; exact ⟨rfl, by omega⟩
          · rw [if_neg (by omega)]; exact m4 i (by omega) h2
        · unfold raw_j3; simp (disch := omega) only [joinF_eq, bindO_some, s_wr, s_td, s_tm, s_pos, s_neg, cond_true, cond_false, Bool.not_true, Bool.not_false, Bool.true_and, Bool.and_true, Bool.false_and, Bool.and_false, bne_self_eq_false, decide_true, decide_false, Int.toNat_natCast]; simp only [e0, Int.toNat_natCast, g1]
    unfold raw_l2; simp (disch := omega) only [joinF_eq, bindO_some, s_wr, s_td, s_tm, s_pos, s_neg, cond_true, cond_false, Bool.not_true, Bool.not_false, Bool.true_and, Bool.and_true, Bool.false_and, Bool.and_false, bne_self_eq_false, decide_true, decide_false, Int.toNat_natCast, partT_set]; simp only [e0, Int.toNat_natCast, g1, g2, pk, g4]; simp (disch := omega) only [joinF_eq, bindO_some, s_wr, s_td, s_tm, s_pos, s_neg, cond_true, cond_false, Bool.not_true, Bool.not_false, Bool.true_and, Bool.and_true, Bool.false_and, Bool.and_false, bne_self_eq_false, decide_true, decide_false, Int.toNat_natCast]; exact go _ (by rw [decide_eq_true_eq])
end
end Go.Proofs.Ytjhdjjoacedlpaa
/- Grids: Raw adds up what the heads of the sorted axes give: the document's interpolation. -/
namespace Go.Proofs.Ytjhdjjoacedlpaa
open Go Go.RowKit
set_option linter.unusedSimpArgs false
set_option linter.unusedSectionVars false
set_option linter.unusedVariables false
theorem tabP_zero {o : Nat} {A B : Int → Int} : (tabL o fun k => if k < ((0 : Nat) : Int) then A k else B k) = tabL o B := tabL_congr fun i h0 h1 => if_neg (by omega)
section
variable {n o s : Nat} {vs l : List Int} {t : Int} (h : InOk n o s vs l t)
include h
theorem nd_dig {x : Nat} (hw : 0 < wF n t (inP l t) x) {k : Nat} (hk : k < n) : 0 ≤ inC l t k + (dg 2 x k : Int) ∧ inC l t k + (dg 2 x k : Int) ≤ (s : Int) - 1 := by
  obtain ⟨⟨c1, c2⟩, ⟨c3, c4⟩, c5⟩ := in_pc h hk; rcases dg2 x k with g | g
  · omega
  · have e1 := lsF_le (t := t) (p := inP l t) (x := x) n k hk g; have e2 := msF_0 (p := inP l t) (x := x) n; unfold wF at hw; have := c5 (by omega); omega
theorem hor_nd {x : Nat} {cell : List Int} (hc : ∀ k, k < n → cell.getD k 0 = inC l t k + (dg 2 x k : Int)) : ∀ m, m ≤ n → horN (s : Int) cell m = ndF (inC l t) s x m
  | 0, _ => rfl
  | m + 1, hm => by rw [horN, ndF, hor_nd hc m (by omega), hc m (by omega)]
theorem at_nd {fu : Nat} (hf : 18446744073709551616 ≤ fu) {x : Nat} (hw : 0 < wF n t (inP l t) x) {cell : List Int} (hl : cell.length = 4) (hc : ∀ k, k < n → cell.getD k 0 = inC l t k + (dg 2 x k : Int)) :
    grid_at_r fu (((n : Int), ((o : Int), ((s : Int), vs))), (List.drop (Int.toNat (0 : Int)) (List.take n cell), ())) = some (ndF (inC l t) s x n * (o : Int), ()) := by
  have h' := h; obtain ⟨n1, n4, o1, o8, s2, s9, sz, hv, _⟩ := h'; have e : (List.take n cell).length = n := by rw [List.length_take]; omega
  have := at_r hf (i := (n : Int)) (o := (o : Int)) (s := (s : Int)) (vs := vs) (l := List.take n cell) (by omega) (by omega) (by omega) (by omega) (by omega) (fun k hk => by
    have d := nd_dig h hw (k := k) (by omega); rw [List.getD_eq_getElem?_getD, List.getElem?_take_of_lt (by omega), ← List.getD_eq_getElem?_getD, hc k (by omega)]
    exact d)
  rw [e, horN_take _ _ _ _ (Nat.le_refl _), hor_nd h hc n (Nat.le_refl _)] at this; exact this
theorem ch_bd {σ : Nat → Nat} {q : Nat} (hq : q < o) : ∀ j : Nat, -4278190080 * (j : Int) ≤ chS n t (inP l t) (inC l t) s (inV o vs) σ q j ∧ chS n t (inP l t) (inC l t) s (inV o vs) σ q j ≤ 4278190080 * (j : Int)
  | 0 => by simp [chS]
  | j + 1 => by
    have a := ch_bd (σ := σ) hq j; have b := c_bd h (x := mkF n σ j) hq; rw [chS]; omega
variable {fu : Nat} (hf : 18446744073709551616 ≤ fu)
include hf
theorem raw_head {β : Type} {K : List Int → Option β} {j8 : (Int × (Int × (List Int × List Int))) → Option β} {ax cell : List Int} (hax : AxOk n (inP l t) ax) {j : Nat} (hj : j ≤ n) (hl4 : cell.length = 4) (hc : ∀ k, k < n → cell.getD k 0 = inC l t k + (chB (axS ax) j k : Int)) {wt out : _} :
    raw_j7 fu (((n : Int), ((o : Int), ((s : Int), vs))), (l, ())) (n : Int) ((n : Int), (partT l t n, (cellT l t n, ax))) (wt, ((j : Int), (out, cell))) K (raw_j6 fu j8) (wtF n t (inP l t) (axS ax) (j + 1), (wtF n t (inP l t) (axS ax) j, (tabL o (fun q => chS n t (inP l t) (inC l t) s (inV o vs) (axS ax) q j), cell))) =
      raw_j8 fu (n : Int) ((n : Int), (partT l t n, (cellT l t n, ax))) (wt, ((j : Int), (out, cell))) (wtF n t (inP l t) (axS ax) (j + 1), (wtF n t (inP l t) (axS ax) j, (tabL o (fun q => chS n t (inP l t) (inC l t) s (inV o vs) (axS ax) q j), cell))) K (raw_j6 fu j8) (wtF n t (inP l t) (axS ax) j, tabL o (fun q => chS n t (inP l t) (inC l t) s (inV o vs) (axS ax) q (j + 1))) := by
  have h' := h; obtain ⟨n1, n4, o1, o8, s2, s9, sz, hv, vb, hl, bl, t1, t2, tt⟩ := h'; have hp : ∀ k, k < n → 0 ≤ inP l t k ∧ inP l t k ≤ t := fun k hk => by have := (in_pc h hk).1; omega
  have hw := mk_w hax.srt (t := t) hp hj; have wb := w_bd h (x := mkF n (axS ax) j); unfold raw_j7; generalize hJ : raw_j8 fu (n : Int) ((n : Int), (partT l t n, (cellT l t n, ax))) (wt, ((j : Int), (out, cell))) (wtF n t (inP l t) (axS ax) (j + 1), (wtF n t (inP l t) (axS ax) j, (tabL o (fun q => chS n t (inP l t) (inC l t) s (inV o vs) (axS ax) q j), cell))) K (raw_j6 fu j8) = J; by_cases g : 0 < wF n t (inP l t) (mkF n (axS ax) j)
  · have hc' : ∀ k, k < n → cell.getD k 0 = inC l t k + (dg 2 (mkF n (axS ax) j) k : Int) := fun k hk => by rw [hc k hk, mk_dg hk]
    have e0 : IntKind.i64.wrap (wtF n t (inP l t) (axS ax) j - wtF n t (inP l t) (axS ax) (j + 1)) = wF n t (inP l t) (mkF n (axS ax) j) := by
      rw [← hw]; exact wr64 (by omega) (by omega)
    simp only [e0, joinF_eq]; simp (disch := omega) only [joinF_eq, bindO_some, s_wr, s_td, s_tm, s_pos, s_neg, cond_true, cond_false, Bool.not_true, Bool.not_false, Bool.true_and, Bool.and_true, Bool.false_and, Bool.and_false, bne_self_eq_false, decide_true, decide_false, Int.toNat_natCast, at_nd h hf g hl4 hc']; refine stLoop (n := o) (st := fun q => ((q : Int), tabL o (fun k => if k < (q : Int) then chS n t (inP l t) (inC l t) s (inV o vs) (axS ax) k (j + 1) else chS n t (inP l t) (inC l t) s (inV o vs) (axS ax) k j))) (by omega) ?_ (fun j' q hq => ?_) (fun j' => ?_)
    · exact Prod.ext rfl (tabP_zero (A := fun k => chS n t (inP l t) (inC l t) s (inV o vs) (axS ax) k (j + 1)) (B := fun k => chS n t (inP l t) (inC l t) s (inV o vs) (axS ax) k j))
    · obtain ⟨d1, d2, d3, d4, d5⟩ := nd_at h g hq; have d6 := (nd_lt h g n (Nat.le_refl _)).1; have d7 := Int.mul_nonneg d6 (show 0 ≤ (o : Int) by omega); have pb := prod_bd' h (show 0 ≤ wF n t (inP l t) (mkF n (axS ax) j) by omega) wb.1 d4 d5; have sb := ch_bd h (σ := axS ax) hq j
      have e1 : chS n t (inP l t) (inC l t) s (inV o vs) (axS ax) q (j + 1) = chS n t (inP l t) (inC l t) s (inV o vs) (axS ax) q j + wF n t (inP l t) (mkF n (axS ax) j) * inV o vs (ndF (inC l t) s (mkF n (axS ax) j) n) q := by
        rw [chS, cF, if_pos g]
      have e2 : vs.getD (ndF (inC l t) s (mkF n (axS ax) j) n * (o : Int) + (q : Int)).toNat 0 = inV o vs (ndF (inC l t) s (mkF n (axS ax) j) n) q := rfl; unfold raw_l9; simp (disch := omega) only [joinF_eq, bindO_some, s_wr, s_td, s_tm, s_pos, s_neg, cond_true, cond_false, Bool.not_true, Bool.not_false, Bool.true_and, Bool.and_true, Bool.false_and, Bool.and_false, bne_self_eq_false, decide_true, decide_false, Int.toNat_natCast, tabL_length]; rw [e2]; simp only [tabP_get hq]; simp (disch := omega) only [joinF_eq, bindO_some, s_wr, s_td, s_tm, s_pos, s_neg, cond_true, cond_false, Bool.not_true, Bool.not_false, Bool.true_and, Bool.and_true, Bool.false_and, Bool.and_false, bne_self_eq_false, decide_true, decide_false, Int.toNat_natCast]; rw [tabP_set hq e1]; rfl
    · have e1 : (tabL o fun k => if k < ((o : Nat) : Int) then chS n t (inP l t) (inC l t) s (inV o vs) (axS ax) k (j + 1) else chS n t (inP l t) (inC l t) s (inV o vs) (axS ax) k j) = tabL o (fun k => chS n t (inP l t) (inC l t) s (inV o vs) (axS ax) k (j + 1)) := tabL_congr fun i h0 h1 => by rw [if_pos h1]
      unfold raw_l9; simp (disch := omega) only [joinF_eq, bindO_some, s_wr, s_td, s_tm, s_pos, s_neg, cond_true, cond_false, Bool.not_true, Bool.not_false, Bool.true_and, Bool.and_true, Bool.false_and, Bool.and_false, bne_self_eq_false, decide_true, decide_false, Int.toNat_natCast, tabL_length]; rw [e1]
  · have e0 : IntKind.i64.wrap (wtF n t (inP l t) (axS ax) j - wtF n t (inP l t) (axS ax) (j + 1)) = wF n t (inP l t) (mkF n (axS ax) j) := by
      rw [← hw]; exact wr64 (by omega) (by omega)
    simp only [e0, joinF_eq]; simp (disch := omega) only [joinF_eq, bindO_some, s_wr, s_td, s_tm, s_pos, s_neg, cond_true, cond_false, Bool.not_true, Bool.not_false, Bool.true_and, Bool.and_true, Bool.false_and, Bool.and_false, bne_self_eq_false, decide_true, decide_false, Int.toNat_natCast]
    have e1 : tabL o (fun k => chS n t (inP l t) (inC l t) s (inV o vs) (axS ax) k (j + 1)) = tabL o (fun k => chS n t (inP l t) (inC l t) s (inV o vs) (axS ax) k j) := tabL_congr fun i h0 h1 => by
      rw [chS, c_zero g, Int.add_zero]
    rw [e1]
theorem raw_sum {β : Type} {K : List Int → Option β} {ax : List Int} (hax : AxOk n (inP l t) ax) :
    loopF (raw_l5 fu (((n : Int), ((o : Int), ((s : Int), vs))), (l, ())) (n : Int) ((n : Int), (partT l t n, (cellT l t n, ax))) K) fu (t, ((0 : Int), (List.replicate o (0 : Int), cellT l t n))) = K (tabL o (smF n t (inP l t) (inC l t) s (inV o vs) (2 ^ n))) := by
  have h' := h; obtain ⟨n1, n4, o1, o8, s2, s9, sz, hv, vb, hl, bl, t1, t2, tt⟩ := h'; have hp : ∀ k, k < n → 0 ≤ inP l t k ∧ inP l t k ≤ t := fun k hk => by have := (in_pc h hk).1; omega
  have es : tabL o (smF n t (inP l t) (inC l t) s (inV o vs) (2 ^ n)) = tabL o (fun q => chS n t (inP l t) (inC l t) s (inV o vs) (axS ax) q (n + 1)) := tabL_congr fun i _ _ => simplex hax.srt
  rw [es]; have axl := hax.len; have pl := partT_len (l := l) (t := t) (k := n)
  refine postLoop (f := raw_l5 fu (((n : Int), ((o : Int), ((s : Int), vs))), (l, ())) (n : Int) ((n : Int), (partT l t n, (cellT l t n, ax))) K) (fun x => ((n : Int) + 1 - x.2.1).toNat)
    (fun x => ∃ j : Nat, j ≤ n + 1 ∧ x.2.1 = j ∧ x.2.2.1 = tabL o (fun q => chS n t (inP l t) (inC l t) s (inV o vs) (axS ax) q j) ∧ (j ≤ n → x.1 = wtF n t (inP l t) (axS ax) j ∧ x.2.2.2.length = 4 ∧ ∀ k, k < n → x.2.2.2.getD k 0 = inC l t k + (chB (axS ax) j k : Int)))
    (fun r => r = K (tabL o (fun q => chS n t (inP l t) (inC l t) s (inV o vs) (axS ax) q (n + 1)))) ?_ fu _ ⟨0, Nat.zero_le _, rfl, ?_, fun _ => ⟨rfl, cellT_len, fun k hk => ?_⟩⟩ (by simp only; omega)
  · rintro j2 ⟨wt, _, out, cell⟩ ⟨j, hj, rfl, rfl, hr⟩
    simp only at hr; by_cases c : j = n + 1
    · subst c; refine .inr ?_; unfold raw_l5; simp (disch := omega) only [joinF_eq, bindO_some, s_wr, s_td, s_tm, s_pos, s_neg, cond_true, cond_false, Bool.not_true, Bool.not_false, Bool.true_and, Bool.and_true, Bool.false_and, Bool.and_false, bne_self_eq_false, decide_true, decide_false, Int.toNat_natCast]
    · have hj' : j ≤ n := by omega
      obtain ⟨rfl, hl4, hc⟩ := hr hj'
      have key : ∀ out : List Int, (∃ x' : Int × (Int × (List Int × List Int)), (∃ j : Nat, j ≤ n + 1 ∧ x'.2.1 = j ∧ x'.2.2.1 = tabL o (fun q => chS n t (inP l t) (inC l t) s (inV o vs) (axS ax) q j) ∧ (j ≤ n → x'.1 = wtF n t (inP l t) (axS ax) j ∧ x'.2.2.2.length = 4 ∧ ∀ k, k < n → x'.2.2.2.getD k 0 = inC l t k + (chB (axS ax) j k : Int))) ∧ ((n : Int) + 1 - x'.2.1).toNat < ((n : Int) + 1 - (j : Int)).toNat ∧
            raw_j8 fu (n : Int) ((n : Int), (partT l t n, (cellT l t n, ax))) (wtF n t (inP l t) (axS ax) j, ((j : Int), (out, cell))) (wtF n t (inP l t) (axS ax) (j + 1), (wtF n t (inP l t) (axS ax) j, (tabL o (fun q => chS n t (inP l t) (inC l t) s (inV o vs) (axS ax) q j), cell))) K (raw_j6 fu j2) (wtF n t (inP l t) (axS ax) j, tabL o (fun q => chS n t (inP l t) (inC l t) s (inV o vs) (axS ax) q (j + 1))) = j2 x') ∨
          raw_j8 fu (n : Int) ((n : Int), (partT l t n, (cellT l t n, ax))) (wtF n t (inP l t) (axS ax) j, ((j : Int), (out, cell))) (wtF n t (inP l t) (axS ax) (j + 1), (wtF n t (inP l t) (axS ax) j, (tabL o (fun q => chS n t (inP l t) (inC l t) s (inV o vs) (axS ax) q j), cell))) K (raw_j6 fu j2) (wtF n t (inP l t) (axS ax) j, tabL o (fun q => chS n t (inP l t) (inC l t) s (inV o vs) (axS ax) q (j + 1))) = K (tabL o (fun q => chS n t (inP l t) (inC l t) s (inV o vs) (axS ax) q (n + 1))) := by
        intro out; by_cases g : j < n
        · have sj := hax.srt.lt j g; have nj := hax.nn j g; by_cases z : wtF n t (inP l t) (axS ax) (j + 1) = 0
          · refine .inr ?_; unfold raw_j8; simp (disch := omega) only [joinF_eq, bindO_some, s_wr, s_td, s_tm, s_pos, s_neg, cond_true, cond_false, Bool.not_true, Bool.not_false, Bool.true_and, Bool.and_true, Bool.false_and, Bool.and_false, bne_self_eq_false, decide_true, decide_false, Int.toNat_natCast]; exact congrArg K (tabL_congr fun i _ _ => (chain_end hax.srt hp (by omega) z (n + 1) (by omega) (Nat.le_refl _)).symm)
          · have cj := hc (axS ax j) sj; rw [chB_at hax.srt (by omega) g, if_neg (Nat.lt_irrefl _), show inC l t (axS ax j) + ((0 : Nat) : Int) = inC l t (axS ax j) by omega] at cj; have cb := (in_pc h sj).2.1; refine .inl ⟨(wtF n t (inP l t) (axS ax) (j + 1), (((j + 1 : Nat) : Int), (tabL o (fun q => chS n t (inP l t) (inC l t) s (inV o vs) (axS ax) q (j + 1)), cell.set (axS ax j) (inC l t (axS ax j) + 1)))), ⟨j + 1, by omega, rfl, rfl, fun _ => ⟨rfl, by simp only; rw [List.length_set]; exact hl4, fun k hk => ?_⟩⟩, by simp only; omega, ?_⟩
            · simp only; rw [getD_set' (by omega)]; obtain ⟨i, hi, rfl⟩ := hax.srt.sur k hk; rw [hc _ hk, chB_at hax.srt (by omega) hi, chB_at hax.srt (by omega) hi]; by_cases e : i = j
              · subst e; rw [if_pos rfl, if_pos (by omega)]; rfl
              · rw [if_neg (fun e' => e (hax.srt.inj _ _ hi g e'))]; by_cases e2 : i < j
                · rw [if_pos e2, if_pos (by omega)]
                · rw [if_neg e2, if_neg (by omega)]
            · unfold raw_j8; simp (disch := omega) only [joinF_eq, bindO_some, s_wr, s_td, s_tm, s_pos, s_neg, cond_true, cond_false, Bool.not_true, Bool.not_false, Bool.true_and, Bool.and_true, Bool.false_and, Bool.and_false, bne_self_eq_false, decide_true, decide_false, Int.toNat_natCast]; have e9 : (ax.getD j 0).toNat = axS ax j := rfl; rw [e9, cj]; unfold raw_j6; simp (disch := omega) only [joinF_eq, bindO_some, s_wr, s_td, s_tm, s_pos, s_neg, cond_true, cond_false, Bool.not_true, Bool.not_false, Bool.true_and, Bool.and_true, Bool.false_and, Bool.and_false, bne_self_eq_false, decide_true, decide_false, Int.toNat_natCast]; rfl
        · have e : j = n := by omega
          subst e; refine .inl ⟨(wtF j t (inP l t) (axS ax) j, (((j + 1 : Nat) : Int), (tabL o (fun q => chS j t (inP l t) (inC l t) s (inV o vs) (axS ax) q (j + 1)), cell))), ⟨j + 1, by omega, rfl, rfl, fun h => absurd h (by omega)⟩, by simp only; omega, ?_⟩; unfold raw_j8; simp (disch := omega) only [joinF_eq, bindO_some, s_wr, s_td, s_tm, s_pos, s_neg, cond_true, cond_false, Bool.not_true, Bool.not_false, Bool.true_and, Bool.and_true, Bool.false_and, Bool.and_false, bne_self_eq_false, decide_true, decide_false, Int.toNat_natCast]; unfold raw_j6; simp (disch := omega) only [joinF_eq, bindO_some, s_wr, s_td, s_tm, s_pos, s_neg, cond_true, cond_false, Bool.not_true, Bool.not_false, Bool.true_and, Bool.and_true, Bool.false_and, Bool.and_false, bne_self_eq_false, decide_true, decide_false, Int.toNat_natCast]; rfl
      unfold raw_l5; by_cases g : j < n
      · have nj := hax.nn j g; have sj := hax.srt.lt j g; have pj := partT_at (l := l) (t := t) (k := n) (i := axS ax j) sj (by omega); have ew : wtF n t (inP l t) (axS ax) (j + 1) = inP l t (axS ax j) := by rw [wtF, if_pos g]
        have rh := fun out => raw_head h hf (K := K) (j8 := j2) hax hj' hl4 hc (wt := wtF n t (inP l t) (axS ax) j) (out := out)
        have kk := key (tabL o (fun q => chS n t (inP l t) (inC l t) s (inV o vs) (axS ax) q j)); rw [ew] at rh kk; simp (disch := omega) only [joinF_eq, bindO_some, s_wr, s_td, s_tm, s_pos, s_neg, cond_true, cond_false, Bool.not_true, Bool.not_false, Bool.true_and, Bool.and_true, Bool.false_and, Bool.and_false, bne_self_eq_false, decide_true, decide_false, Int.toNat_natCast]; have e9 : (ax.getD j 0).toNat = axS ax j := rfl; rw [e9, pj, rh]; exact kk
      · have ew : wtF n t (inP l t) (axS ax) (j + 1) = 0 := by rw [wtF, if_neg g]
        have rh := fun out => raw_head h hf (K := K) (j8 := j2) hax hj' hl4 hc (wt := wtF n t (inP l t) (axS ax) j) (out := out)
        have kk := key (tabL o (fun q => chS n t (inP l t) (inC l t) s (inV o vs) (axS ax) q j)); rw [ew] at rh kk; simp (disch := omega) only [joinF_eq, bindO_some, s_wr, s_td, s_tm, s_pos, s_neg, cond_true, cond_false, Bool.not_true, Bool.not_false, Bool.true_and, Bool.and_true, Bool.false_and, Bool.and_false, bne_self_eq_false, decide_true, decide_false, Int.toNat_natCast]; rw [rh]; exact kk
  · exact (tabL_rep fun i _ _ => rfl).symm
  · simp only; rw [cellT_at hk (by omega)]
    have : chB (axS ax) 0 k = 0 := by
      unfold chB; rw [if_neg]
      rintro ⟨i, hi, _⟩
      exact absurd hi (Nat.not_lt_zero _)
    rw [this]; simp
theorem raw_all {β : Type} {K : List Int → Option β} : loopF (raw_l1 K fu (((n : Int), ((o : Int), ((s : Int), vs))), (l, ())) t (n : Int)) fu ((0 : Int), ([0, 0, 0, 0], ([0, 0, 0, 0], [0, 0, 0, 0]))) = K (tabL o (smF n t (inP l t) (inC l t) s (inV o vs) (2 ^ n))) := by
  have h' := h; obtain ⟨n1, n4, o1, o8, s2, s9, sz, hv, vb, hl, bl, t1, t2, tt⟩ := h'
  refine postLoop (f := raw_l1 K fu (((n : Int), ((o : Int), ((s : Int), vs))), (l, ())) t (n : Int)) (fun x => ((n : Int) - x.1).toNat)
    (fun x => ∃ (k : Nat) (ax : List Int), k ≤ n ∧ AxOk k (inP l t) ax ∧ x = ((k : Int), (partT l t k, (cellT l t k, ax)))) (fun r => r = K (tabL o (smF n t (inP l t) (inC l t) s (inV o vs) (2 ^ n)))) ?_ fu _ ⟨0, [0, 0, 0, 0], Nat.zero_le _, ⟨rfl, fun i hi => absurd hi (Nat.not_lt_zero _), fun i hi => absurd hi (Nat.not_lt_zero _), fun i j hi => absurd hi (Nat.not_lt_zero _), fun k hk => absurd hk (Nat.not_lt_zero _), fun i j _ hj => absurd hj (Nat.not_lt_zero _)⟩, rfl⟩ (by simp only; omega)
  rintro j _ ⟨k, ax, hk, hax, rfl⟩
  have pl := partT_len (l := l) (t := t) (k := k); have cl := cellT_len (l := l) (t := t) (k := k); by_cases c : k < n
  · obtain ⟨ax', g1, g2⟩ := raw_ins h hf (j := j) c hax; refine .inl ⟨_, ⟨k + 1, ax', by omega, g1, rfl⟩, by simp only; omega, ?_⟩; rw [← g2]; unfold raw_l1; simp (disch := omega) only [joinF_eq, bindO_some, s_wr, s_td, s_tm, s_pos, s_neg, cond_true, cond_false, Bool.not_true, Bool.not_false, Bool.true_and, Bool.and_true, Bool.false_and, Bool.and_false, bne_self_eq_false, decide_true, decide_false, Int.toNat_natCast]
  · have e : k = n := by omega
    subst e; refine .inr ?_; unfold raw_l1; simp (disch := omega) only [joinF_eq, bindO_some, s_wr, s_td, s_tm, s_pos, s_neg, cond_true, cond_false, Bool.not_true, Bool.not_false, Bool.true_and, Bool.and_true, Bool.false_and, Bool.and_false, bne_self_eq_false, decide_true, decide_false, Int.toNat_natCast]; exact raw_sum h hf hax
end
end Go.Proofs.Ytjhdjjoacedlpaa
/- Numbers: what the small functions compute. -/
namespace Go.Proofs.Ytjhdjjoacedlpaa
open Go Go.RowKit
set_option linter.unusedSimpArgs false
set_option linter.unusedSectionVars false
set_option linter.unusedVariables false

theorem floor_s (fu : Nat) {n d : Int} (hd : 0 < d) (h1 : d ≤ 9223372036854775807) (h2 : -9223372036854775808 ≤ n) (h3 : n ≤ 9223372036854775807) : R_Floor_r fu (n, (d, ())) = some (n / d, ()) := by
  unfold R_Floor_r; simp only [joinF_eq]; rw [bif_pos (by omega)]; have hm := Int.tmod_add_mul_tdiv n d; have hm1 := Int.natAbs_tmod n d; have h4 : n.tdiv d * d = n - n.tmod d := by rw [Int.mul_comm]; omega
  have h5 : (n.tmod d).natAbs ≤ n.natAbs := by rw [hm1]; exact Nat.mod_le _ _
  have hb : -9223372036854775808 ≤ n.tdiv d * d ∧ n.tdiv d * d ≤ 9223372036854775807 := by
    rcases Int.le_total 0 n with hn | hn
    · have := Int.tmod_nonneg d hn; omega
    · have := Int.tmod_nonneg (a := -n) d (by omega); rw [Int.neg_tmod] at this; omega
  obtain ⟨b1, b2⟩ := hb; have hq := Int.natAbs_tdiv n d; have hq' : (n.tdiv d).natAbs ≤ n.natAbs := by rw [hq]; exact Nat.div_le_self _ _
  have hq3 : n.tdiv d ≤ 9223372036854775807 := by
    rcases Int.le_total 0 n with hn | hn
    · omega
    · have := Int.tdiv_nonneg (a := -n) (b := d) (by omega) (by omega); rw [Int.neg_tdiv] at this; omega
  rw [wr64 (x := n.tdiv d) (by omega) hq3, wr64 (x := n.tdiv d * d) b1 b2]; by_cases hc : n < n.tdiv d * d
  · have hlow : -9223372036854775807 ≤ n.tdiv d := by
      rcases Int.lt_or_le d 2 with g | g
      · obtain rfl : d = 1 := by omega
        rw [Int.tdiv_one] at hc; omega
      · have h6 : (n.tdiv d).natAbs ≤ n.natAbs / 2 := by
          rw [hq]; exact Nat.div_le_div_left (by omega) (by omega)
        omega
    rw [bif_pos hc, wr64 (x := n.tdiv d - 1) (by omega) (by omega), tdiv_over hd hc]; rfl
  · rw [bif_neg hc, tdiv_under hd (by omega)]; rfl
theorem floor_mul' {n d : Int} (hd : 0 < d) : n / d * d ≤ n ∧ n < n / d * d + d := by
  have h1 := Int.mul_ediv_add_emod n d; have h2 := Int.emod_nonneg n (by omega : d ≠ 0); have h3 := Int.emod_lt_of_pos n hd; rw [Int.mul_comm] at h1; omega
theorem round_s (fu : Nat) {n d : Int} (hd : 0 < d) (h1 : d ≤ 1000000000000000) (h2 : -1000000000000000000 ≤ n) (h3 : n ≤ 1000000000000000000) : R_Round_r fu (n, (d, ())) = some (rnd n d, ()) := by
  unfold R_Round_r; simp only; rw [floor_s fu hd (by omega) (by omega) (by omega)]; simp only [bindO_some, joinF_eq]; obtain ⟨b1, b2⟩ := floor_mul' (n := n) hd
  have hq : -1000000000000000001 ≤ n / d ∧ n / d ≤ 1000000000000000000 := by
    constructor
    · rcases Int.lt_or_le (n / d) 0 with g | g
      · have : n / d * d ≤ n / d * 1 := Int.mul_le_mul_of_nonpos_left (by omega) (by omega); have h4 : n / d * d - n / d * 1 ≤ 0 := by omega
        have h5 : (n / d + 1) * d ≤ (n / d + 1) * 1 := Int.mul_le_mul_of_nonpos_left (by omega) (by omega); rw [Int.add_mul] at h5; omega
      · omega
    · rcases Int.lt_or_le (n / d) 1 with g | g
      · omega
      · have : n / d * 1 ≤ n / d * d := Int.mul_le_mul_of_nonneg_left (by omega) (by omega); omega
  rw [wr64 (x := n / d * d) (by omega) (by omega), wr64 (x := n - n / d * d) (by omega) (by omega), wr64 (x := 2 * (n - n / d * d)) (by omega) (by omega)]; by_cases hc : d ≤ 2 * (n - n / d * d)
  · rw [bif_pos hc, wr64 (x := n / d + 1) (by omega) (by omega), rnd_up hd hc]; rfl
  · rw [bif_neg hc, rnd_down hd (by omega)]; rfl
theorem nearest_s (fu : Nat) {n d : Int} (hd : 0 < d) (h1 : d ≤ 1000000000000000) (h2 : -1000000000000000000 ≤ n) (h3 : n ≤ 1000000000000000000) : curve_Nearest_r fu (n, (d, ())) = some (rnd n d, ()) := by
  obtain ⟨g1, g2⟩ := tdiv_abs (n := 2 * n + d) (m := 2002000000000000000) (2 * d) (by omega) (by omega); unfold curve_Nearest_r rnd; simp only [joinF_eq]; rw [wr64 (x := 2 * n) (by omega) (by omega), wr64 (x := 2 * n + d) (by omega) (by omega), wr64 (x := 2 * d) (by omega) (by omega), bif_pos (by omega), bif_pos (by omega), wr64 (x := (2 * n + d).tdiv (2 * d)) (by omega) (by omega)]; by_cases hc : (2 * n + d).tmod (2 * d) < 0
  · rw [bif_pos hc, wr64 (x := (2 * n + d).tdiv (2 * d) - 1) (by omega) (by omega), tdiv_neg (by omega) hc]; rfl
  · rw [bif_neg hc, tdiv_pos (by omega) (by omega)]; rfl
end Go.Proofs.Ytjhdjjoacedlpaa
/- Spot inks, curves, names (made out of the texts NumR, CurP, SpotP1, SpotP2 in a namespace of their own). -/
namespace Go.Proofs.Ytjhdjjoacedlpaa
open Go Go.RowKit
set_option linter.unusedSimpArgs false
set_option linter.unusedSectionVars false
set_option linter.unusedVariables false
namespace Sp
theorem rbset : (∀ {α : Type} (a b : α), (bif true then a else b) = a) ∧ (∀ {α : Type} (a b : α), (bif false then a else b) = b) ∧ ((!true) = false) ∧ ((!false) = true) ∧ (∀ b : Bool, (true && b) = b) ∧ (∀ b : Bool, (b && true) = b) ∧ (∀ b : Bool, (false && b) = false) ∧ (∀ b : Bool, (b && false) = false) ∧ (decide True = true) ∧ (decide False = false) := ⟨fun _ _ => rfl, fun _ _ => rfl, rfl, rfl, Bool.true_and, Bool.and_true, Bool.false_and, Bool.and_false, rfl, rfl⟩

def labR (c : Int × Int × Int) : Int := if 0 ≤ c.1 ∧ c.1 ≤ 10000 ∧ -12800 ≤ c.2.1 ∧ c.2.1 ≤ 12800 ∧ -12800 ≤ c.2.2 ∧ c.2.2 ≤ 12800 then 0 else 3
theorem labR_or (c : Int × Int × Int) : (labR c = 0 ∧ 0 ≤ c.1 ∧ c.1 ≤ 10000 ∧ -12800 ≤ c.2.1 ∧ c.2.1 ≤ 12800 ∧ -12800 ≤ c.2.2 ∧ c.2.2 ≤ 12800) ∨ labR c = 3 := by
  unfold labR; split
  · rename_i h; exact .inl ⟨rfl, h⟩
  · exact .inr rfl
theorem labErr_s (fu : Nat) (c : Int × Int × Int) : R_LabErr_r fu (c, ()) = some (labR c, ()) := by
  obtain ⟨l, a, b⟩ := c; unfold R_LabErr_r labR; simp only [joinF_eq, within_s, bindO_some]; by_cases h1 : 0 ≤ l ∧ l ≤ 10000
  · rw [decide_eq_true h1]; by_cases h2 : -12800 ≤ a ∧ a ≤ 12800
    · rw [decide_eq_true h2]; by_cases h3 : -12800 ≤ b ∧ b ≤ 12800
      · rw [decide_eq_true h3, if_pos (by omega)]; rfl
      · rw [decide_eq_false h3, if_neg (by omega)]; rfl
    · rw [decide_eq_false h2, if_neg (by omega)]; rfl
  · rw [decide_eq_false h1, if_neg (by omega)]; rfl
theorem refChk_s (fu : Nat) (c : Int × Int × Int) : refspace_Check_r fu (c, ()) = some (labR c, ()) := by
  obtain ⟨l, a, b⟩ := c; unfold refspace_Check_r labR; simp only [joinF_eq]; by_cases h1 : l < 0
  · rw [bif_pos h1, if_neg (by omega)]; rfl
  rw [bif_neg h1]; by_cases h2 : 10000 < l
  · rw [bif_pos h2, if_neg (by omega)]; rfl
  rw [bif_neg h2]; by_cases h3 : a < -12800
  · rw [bif_pos h3, if_neg (by omega)]; rfl
  rw [bif_neg h3]; by_cases h4 : 12800 < a
  · rw [bif_pos h4, if_neg (by omega)]; rfl
  rw [bif_neg h4]; by_cases h5 : b < -12800
  · rw [bif_pos h5, if_neg (by omega)]; rfl
  rw [bif_neg h5]; by_cases h6 : 12800 < b
  · rw [decide_eq_true h6, if_neg (by omega)]; rfl
  rw [decide_eq_false h6, if_pos (by omega)]; rfl
structure CurveOk (ps : List (Int × Int)) : Prop where
  two : 2 ≤ ps.length
  most : ps.length ≤ 33
  bd : ∀ (i : Nat) (x y : Int), ps[i]? = some (x, y) → 0 ≤ x ∧ x ≤ 65280 ∧ 0 ≤ y ∧ y ≤ 65280
  step : ∀ (i : Nat) (x y u v : Int), ps[i]? = some (x, y) → ps[i + 1]? = some (u, v) → x < u ∧ y ≤ v
  first : ∀ x y, ps[0]? = some (x, y) → x = 0
  last : ∀ x y, ps[ps.length - 1]? = some (x, y) → x = 65280

def cP (ps : List (Int × Int)) (i : Nat) : Int × Int := ps.getD i (0, 0)
def ptE (ps : List (Int × Int)) (i : Nat) : Int :=
  if (0 ≤ (cP ps i).1 ∧ (cP ps i).1 ≤ 65280) ∧ 0 ≤ (cP ps i).2 ∧ (cP ps i).2 ≤ 65280 then
    (if 0 < i ∧ ((cP ps i).1 ≤ (cP ps (i - 1)).1 ∨ (cP ps i).2 < (cP ps (i - 1)).2) then 18 else 0) else 3
def curE (ps : List (Int × Int)) : Int :=
  if 33 < ps.length then 2 else if ps.length < 2 then 1 else if firstE (ptE ps) ps.length 0 = 0 then (if (cP ps 0).1 = 0 ∧ (cP ps (ps.length - 1)).1 = 65280 then 0 else 4) else firstE (ptE ps) ps.length 0
section
variable {fu : Nat} (hf : 18446744073709551616 ≤ fu) {ps : List (Int × Int)}
include hf
theorem curCheck_r : curve_Check_r fu (ps, ()) = some (curE ps, ()) := by
  unfold curve_Check_r curE; by_cases c1 : 33 < ps.length
  · rw [if_pos c1]; simp (disch := omega) only [joinF_eq, bindO_some, s_wr, s_td, s_tm, s_pos, s_neg, Int.toNat_natCast, rbset]
  rw [if_neg c1]; by_cases c2 : ps.length < 2
  · rw [if_pos c2]; simp (disch := omega) only [joinF_eq, bindO_some, s_wr, s_td, s_tm, s_pos, s_neg, Int.toNat_natCast, rbset]
  rw [if_neg c2]; simp (disch := omega) only [joinF_eq, bindO_some, s_wr, s_td, s_tm, s_pos, s_neg, Int.toNat_natCast, rbset]; rw [errLoop (n := ps.length) (E := ptE ps) (out := fun e => some (e, ())) (fin := some (if (cP ps 0).1 = 0 ∧ (cP ps (ps.length - 1)).1 = 65280 then 0 else 4, ())) (by omega)]
  · split <;> rfl
  · intro j i hi; unfold curve_Check_l1; simp (disch := omega) only [joinF_eq, bindO_some, s_wr, s_td, s_tm, s_pos, s_neg, Int.toNat_natCast, rbset]; show (bif decide ((cP ps i).1 < 0) then _ else bif decide (65280 < (cP ps i).1) then _ else bif decide ((cP ps i).2 < 0) then _ else curve_Check_j2 fu _ _ (cP ps i) j (decide (65280 < (cP ps i).2))) = _
    have t3 : ¬ ((0 ≤ (cP ps i).1 ∧ (cP ps i).1 ≤ 65280) ∧ 0 ≤ (cP ps i).2 ∧ (cP ps i).2 ≤ 65280) → ∀ v, curve_Check_j2 fu (ps, ()) i v j true = if ptE ps i = 0 then j ((i : Int) + 1) else some (ptE ps i, ()) := by
      intro h v; have : ptE ps i = 3 := by unfold ptE; rw [if_neg h]
      rw [this]; rfl
    by_cases g1 : (cP ps i).1 < 0
    · simp (disch := omega) only [joinF_eq, bindO_some, s_wr, s_td, s_tm, s_pos, s_neg, Int.toNat_natCast, rbset]; exact t3 (by omega) _
    by_cases g2 : 65280 < (cP ps i).1
    · simp (disch := omega) only [joinF_eq, bindO_some, s_wr, s_td, s_tm, s_pos, s_neg, Int.toNat_natCast, rbset]; exact t3 (by omega) _
    by_cases g3 : (cP ps i).2 < 0
    · simp (disch := omega) only [joinF_eq, bindO_some, s_wr, s_td, s_tm, s_pos, s_neg, Int.toNat_natCast, rbset]; exact t3 (by omega) _
    by_cases g4 : 65280 < (cP ps i).2
    · simp (disch := omega) only [joinF_eq, bindO_some, s_wr, s_td, s_tm, s_pos, s_neg, Int.toNat_natCast, rbset]; exact t3 (by omega) _
    have hb : (0 ≤ (cP ps i).1 ∧ (cP ps i).1 ≤ 65280) ∧ 0 ≤ (cP ps i).2 ∧ (cP ps i).2 ≤ 65280 := by omega
    have t18 : 0 < i ∧ ((cP ps i).1 ≤ (cP ps (i - 1)).1 ∨ (cP ps i).2 < (cP ps (i - 1)).2) → ptE ps i = 18 := fun h => by unfold ptE; rw [if_pos hb, if_pos h]
    have t0 : ¬ (0 < i ∧ ((cP ps i).1 ≤ (cP ps (i - 1)).1 ∨ (cP ps i).2 < (cP ps (i - 1)).2)) → ptE ps i = 0 := fun h => by unfold ptE; rw [if_pos hb, if_neg h]
    unfold curve_Check_j2; by_cases z : 0 < i
    · simp (disch := omega) only [joinF_eq, bindO_some, s_wr, s_td, s_tm, s_pos, s_neg, Int.toNat_natCast, rbset]; rw [show ((i : Int) - 1).toNat = i - 1 by omega]; show (bif decide ((cP ps i).1 ≤ (cP ps (i - 1)).1) then _ else curve_Check_j3 fu _ j (decide ((cP ps i).2 < (cP ps (i - 1)).2))) = _; by_cases g5 : (cP ps i).1 ≤ (cP ps (i - 1)).1
      · rw [t18 (by omega)]; simp (disch := omega) only [joinF_eq, bindO_some, s_wr, s_td, s_tm, s_pos, s_neg, cond_true, cond_false, Bool.not_true, Bool.not_false, Bool.true_and, Bool.and_true, Bool.false_and, Bool.and_false, bne_self_eq_false, decide_true, decide_false, Int.toNat_natCast, curve_Check_j3]; rfl
      by_cases g6 : (cP ps i).2 < (cP ps (i - 1)).2
      · rw [t18 (by omega)]; simp (disch := omega) only [joinF_eq, bindO_some, s_wr, s_td, s_tm, s_pos, s_neg, cond_true, cond_false, Bool.not_true, Bool.not_false, Bool.true_and, Bool.and_true, Bool.false_and, Bool.and_false, bne_self_eq_false, decide_true, decide_false, Int.toNat_natCast, curve_Check_j3]; rfl
      · rw [t0 (by omega)]; simp (disch := omega) only [joinF_eq, bindO_some, s_wr, s_td, s_tm, s_pos, s_neg, cond_true, cond_false, Bool.not_true, Bool.not_false, Bool.true_and, Bool.and_true, Bool.false_and, Bool.and_false, bne_self_eq_false, decide_true, decide_false, Int.toNat_natCast, curve_Check_j3]; rfl
    · rw [t0 (by omega)]; simp (disch := omega) only [joinF_eq, bindO_some, s_wr, s_td, s_tm, s_pos, s_neg, cond_true, cond_false, Bool.not_true, Bool.not_false, Bool.true_and, Bool.and_true, Bool.false_and, Bool.and_false, bne_self_eq_false, decide_true, decide_false, Int.toNat_natCast, curve_Check_j3]; rfl
  · intro j; unfold curve_Check_l1; simp (disch := omega) only [joinF_eq, bindO_some, s_wr, s_td, s_tm, s_pos, s_neg, Int.toNat_natCast, rbset]; rw [show ((ps.length : Int) - 1).toNat = ps.length - 1 by omega]; show (bif decide ((cP ps 0).1 ≠ 0) then _ else curve_Check_j4 fu (decide ((cP ps (ps.length - 1)).1 ≠ 65280))) = _; by_cases g1 : (cP ps 0).1 = 0
    · by_cases g2 : (cP ps (ps.length - 1)).1 = 65280
      · rw [if_pos ⟨g1, g2⟩]; simp (disch := omega) only [joinF_eq, bindO_some, s_wr, s_td, s_tm, s_pos, s_neg, cond_true, cond_false, Bool.not_true, Bool.not_false, Bool.true_and, Bool.and_true, Bool.false_and, Bool.and_false, bne_self_eq_false, decide_true, decide_false, Int.toNat_natCast, curve_Check_j4]
      · rw [if_neg (by omega)]; simp (disch := omega) only [joinF_eq, bindO_some, s_wr, s_td, s_tm, s_pos, s_neg, cond_true, cond_false, Bool.not_true, Bool.not_false, Bool.true_and, Bool.and_true, Bool.false_and, Bool.and_false, bne_self_eq_false, decide_true, decide_false, Int.toNat_natCast, curve_Check_j4]
    · rw [if_neg (by omega)]; simp (disch := omega) only [joinF_eq, bindO_some, s_wr, s_td, s_tm, s_pos, s_neg, cond_true, cond_false, Bool.not_true, Bool.not_false, Bool.true_and, Bool.and_true, Bool.false_and, Bool.and_false, bne_self_eq_false, decide_true, decide_false, Int.toNat_natCast, curve_Check_j4]
theorem curErr_r : R_CurveErr_r fu (ps, ()) = some (curE ps, ()) := by
  unfold R_CurveErr_r curE; by_cases c1 : 33 < ps.length
  · rw [if_pos c1]; simp (disch := omega) only [joinF_eq, bindO_some, s_wr, s_td, s_tm, s_pos, s_neg, Int.toNat_natCast, rbset]
  rw [if_neg c1]; by_cases c2 : ps.length < 2
  · rw [if_pos c2]; simp (disch := omega) only [joinF_eq, bindO_some, s_wr, s_td, s_tm, s_pos, s_neg, Int.toNat_natCast, rbset]
  rw [if_neg c2]; simp (disch := omega) only [joinF_eq, bindO_some, s_wr, s_td, s_tm, s_pos, s_neg, Int.toNat_natCast, rbset]
  refine loopF_spec (f := R_CurveErr_l1 fu (ps, ())) (fun s : Int × Int × Int => ((ps.length : Int) - s.2.2).toNat) (fun s => (0 ≤ s.2.2 ∧ s.2.2 ≤ ps.length) ∧ (s.2.2 = 0 → s.1 = -1 ∧ s.2.1 = 0) ∧ (0 < s.2.2 → s.1 = (cP ps (s.2.2.toNat - 1)).1 ∧ s.2.1 = (cP ps (s.2.2.toNat - 1)).2))
    (fun s => some (if firstE (ptE ps) (ps.length - s.2.2.toNat) s.2.2.toNat = 0 then (if (cP ps 0).1 = 0 ∧ (cP ps (ps.length - 1)).1 = 65280 then 0 else 4) else firstE (ptE ps) (ps.length - s.2.2.toNat) s.2.2.toNat, ())) ?_ fu (-1, (0, 0)) ⟨⟨by simp, by simp⟩, by simp, by simp⟩ (by simp; omega)
  rintro j ⟨x, y, i⟩ ⟨⟨k0, k1⟩, k2, k3⟩ ih
  simp only at k0 k1 k2 k3; obtain ⟨i, rfl⟩ := Int.eq_ofNat_of_zero_le k0; rw [Int.toNat_natCast] at k3; unfold R_CurveErr_l1; by_cases hi : i < ps.length
  · have ih' := ih ((cP ps i).1, ((cP ps i).2, (i : Int) + 1)) ⟨⟨by simp only; omega, by simp only; omega⟩, by simp only; omega, fun _ => by simp only; rw [show ((i : Int) + 1).toNat - 1 = i by omega]; exact ⟨rfl, rfl⟩⟩ (by simp only; omega); simp only at ih'; rw [show ((i : Int) + 1).toNat = i + 1 by omega] at ih'; simp (disch := omega) only [joinF_eq, bindO_some, s_wr, s_td, s_tm, s_pos, s_neg, Int.toNat_natCast, rbset]; rw [firstE_step hi]; show bindO (R_Within_r fu ((cP ps i).1, (0, (65280, ())))) _ = _; rw [within_s]; simp (disch := omega) only [joinF_eq, bindO_some, s_wr, s_td, s_tm, s_pos, s_neg, Int.toNat_natCast, rbset]
    have t3 : ¬ ((0 ≤ (cP ps i).1 ∧ (cP ps i).1 ≤ 65280) ∧ 0 ≤ (cP ps i).2 ∧ (cP ps i).2 ≤ 65280) → ptE ps i = 3 := by
      intro h; unfold ptE; rw [if_neg h]
    by_cases g1 : 0 ≤ (cP ps i).1 ∧ (cP ps i).1 ≤ 65280
    · rw [decide_eq_true g1]; simp (disch := omega) only [joinF_eq, bindO_some, s_wr, s_td, s_tm, s_pos, s_neg, Int.toNat_natCast, rbset]; show bindO (R_Within_r fu ((cP ps i).2, (0, (65280, ())))) _ = _; rw [within_s]; simp (disch := omega) only [joinF_eq, bindO_some, s_wr, s_td, s_tm, s_pos, s_neg, Int.toNat_natCast, rbset]; by_cases g2 : 0 ≤ (cP ps i).2 ∧ (cP ps i).2 ≤ 65280
      · rw [decide_eq_true g2]; simp (disch := omega) only [joinF_eq, bindO_some, s_wr, s_td, s_tm, s_pos, s_neg, cond_true, cond_false, Bool.not_true, Bool.not_false, Bool.true_and, Bool.and_true, Bool.false_and, Bool.and_false, bne_self_eq_false, decide_true, decide_false, Int.toNat_natCast, R_CurveErr_j2]; show (bif decide ((cP ps i).1 ≤ x) then _ else R_CurveErr_j3 fu _ (cP ps i) j (decide ((cP ps i).2 < y))) = _
        have o : ptE ps i = if (cP ps i).1 ≤ x ∨ (cP ps i).2 < y then 18 else 0 := by
          unfold ptE; rw [if_pos ⟨g1, g2⟩]
          by_cases z : 0 < i
          · obtain ⟨q1, q2⟩ := k3 (by omega); rw [q1, q2]; by_cases w : (cP ps i).1 ≤ (cP ps (i - 1)).1 ∨ (cP ps i).2 < (cP ps (i - 1)).2
            · rw [if_pos ⟨z, w⟩, if_pos w]
            · rw [if_neg (fun q => w q.2), if_neg w]
          · obtain ⟨q1, q2⟩ := k2 (by omega); rw [if_neg (fun q => z q.1), if_neg (by omega)]
        by_cases g5 : (cP ps i).1 ≤ x
        · rw [if_pos (.inl g5)] at o; rw [o]; simp (disch := omega) only [joinF_eq, bindO_some, s_wr, s_td, s_tm, s_pos, s_neg, cond_true, cond_false, Bool.not_true, Bool.not_false, Bool.true_and, Bool.and_true, Bool.false_and, Bool.and_false, bne_self_eq_false, decide_true, decide_false, Int.toNat_natCast, R_CurveErr_j3]; rfl
        by_cases g6 : (cP ps i).2 < y
        · rw [if_pos (.inr g6)] at o; rw [o]; simp (disch := omega) only [joinF_eq, bindO_some, s_wr, s_td, s_tm, s_pos, s_neg, cond_true, cond_false, Bool.not_true, Bool.not_false, Bool.true_and, Bool.and_true, Bool.false_and, Bool.and_false, bne_self_eq_false, decide_true, decide_false, Int.toNat_natCast, R_CurveErr_j3]; rfl
        · rw [if_neg (by omega)] at o; rw [o]; simp (disch := omega) only [joinF_eq, bindO_some, s_wr, s_td, s_tm, s_pos, s_neg, cond_true, cond_false, Bool.not_true, Bool.not_false, Bool.true_and, Bool.and_true, Bool.false_and, Bool.and_false, bne_self_eq_false, decide_true, decide_false, Int.toNat_natCast, R_CurveErr_j3]; exact ih'
      · rw [t3 (fun q => g2 q.2), decide_eq_false g2]; rfl
    · rw [t3 (fun q => g1 q.1), decide_eq_false g1]; rfl
  · have e : i = ps.length := by omega
    subst e; obtain ⟨q1, q2⟩ := k3 (by omega); simp (disch := omega) only [joinF_eq, bindO_some, s_wr, s_td, s_tm, s_pos, s_neg, Int.toNat_natCast, rbset]; rw [Nat.sub_self]; show (bif decide ((cP ps 0).1 ≠ 0) then _ else R_CurveErr_j4 fu (decide (x ≠ 65280))) = some (if (cP ps 0).1 = 0 ∧ (cP ps (ps.length - 1)).1 = 65280 then 0 else 4, ()); rw [q1]; by_cases g1 : (cP ps 0).1 = 0
    · by_cases g2 : (cP ps (ps.length - 1)).1 = 65280
      · rw [if_pos ⟨g1, g2⟩]; simp (disch := omega) only [joinF_eq, bindO_some, s_wr, s_td, s_tm, s_pos, s_neg, cond_true, cond_false, Bool.not_true, Bool.not_false, Bool.true_and, Bool.and_true, Bool.false_and, Bool.and_false, bne_self_eq_false, decide_true, decide_false, Int.toNat_natCast, R_CurveErr_j4]
      · rw [if_neg (by omega)]; simp (disch := omega) only [joinF_eq, bindO_some, s_wr, s_td, s_tm, s_pos, s_neg, cond_true, cond_false, Bool.not_true, Bool.not_false, Bool.true_and, Bool.and_true, Bool.false_and, Bool.and_false, bne_self_eq_false, decide_true, decide_false, Int.toNat_natCast, R_CurveErr_j4]
    · rw [if_neg (by omega)]; simp (disch := omega) only [joinF_eq, bindO_some, s_wr, s_td, s_tm, s_pos, s_neg, cond_true, cond_false, Bool.not_true, Bool.not_false, Bool.true_and, Bool.and_true, Bool.false_and, Bool.and_false, bne_self_eq_false, decide_true, decide_false, Int.toNat_natCast, R_CurveErr_j4]
section
variable (ok : CurveOk ps) {x : Int} (h0 : 0 ≤ x) (h1 : x ≤ 65280)
include ok h0 h1
end
end
def lowC (c : Int) : Prop := 97 ≤ c ∧ c ≤ 122
def restC (c : Int) : Prop := lowC c ∨ (48 ≤ c ∧ c ≤ 57) ∨ c = 45
instance (c : Int) : Decidable (lowC c) := by unfold lowC; infer_instance
instance (c : Int) : Decidable (restC c) := by unfold restC; infer_instance
def chr (s : List UInt8) (i : Nat) : Int := (s.getD i 0).toNat
def nameE (s : List UInt8) (i : Nat) : Int := if lowC (chr s i) ∨ (0 < i ∧ restC (chr s i)) then 0 else 1
def nameB (s : List UInt8) : Bool := decide ((1 ≤ s.length ∧ s.length ≤ 16) ∧ firstE (nameE s) s.length 0 = 0)
section
variable {fu : Nat} (hf : 18446744073709551616 ≤ fu)
include hf
theorem name_r {s : List UInt8} : R_Name_r fu (s, ()) = some (nameB s, ()) := by
  unfold R_Name_r R_Name_j1 nameB; by_cases c1 : s.length < 1
  · rw [decide_eq_false (p := _ ∧ _) (by omega)]; simp (disch := omega) only [joinF_eq, bindO_some, s_wr, s_td, s_tm, s_pos, s_neg, Int.toNat_natCast, rbset]
  by_cases c2 : 16 < s.length
  · rw [decide_eq_false (p := _ ∧ _) (by omega)]; simp (disch := omega) only [joinF_eq, bindO_some, s_wr, s_td, s_tm, s_pos, s_neg, Int.toNat_natCast, rbset]
  simp (disch := omega) only [joinF_eq, bindO_some, s_wr, s_td, s_tm, s_pos, s_neg, Int.toNat_natCast, rbset]; rw [errLoop (n := s.length) (E := nameE s) (out := fun _ => some (false, ())) (fin := some (true, ())) (by omega)]
  · by_cases e : firstE (nameE s) s.length 0 = 0
    · rw [if_pos e, decide_eq_true ⟨by omega, e⟩]
    · rw [if_neg e, decide_eq_false (fun h => e h.2)]
  · intro j i hi; unfold R_Name_l2; simp (disch := omega) only [joinF_eq, bindO_some, s_wr, s_td, s_tm, s_pos, s_neg, Int.toNat_natCast, rbset]; show (bif decide (97 ≤ chr s i) then R_Name_j3 fu _ _ j (decide (chr s i ≤ 122)) else _) = _; have t0 : lowC (chr s i) ∨ (0 < i ∧ restC (chr s i)) → nameE s i = 0 := fun h => by unfold nameE; rw [if_pos h]
    have t1 : ¬ (lowC (chr s i) ∨ (0 < i ∧ restC (chr s i))) → nameE s i = 1 := fun h => by unfold nameE; rw [if_neg h]
    unfold restC lowC at t0 t1
    have k : ∀ b, (b = true ↔ 97 ≤ chr s i ∧ chr s i ≤ 122) → R_Name_j3 fu (s, ()) i j b = if nameE s i = 0 then j ((i : Int) + 1) else some (false, ()) := by
      intro b hb; unfold R_Name_j3; cases b
      · have hb : ¬ (97 ≤ chr s i ∧ chr s i ≤ 122) := fun h => by simpa using hb.2 h
        simp (disch := omega) only [joinF_eq, bindO_some, s_wr, s_td, s_tm, s_pos, s_neg, Int.toNat_natCast, rbset]; by_cases z : i = 0
        · rw [t1 (by omega)]; simp (disch := omega) only [joinF_eq, bindO_some, s_wr, s_td, s_tm, s_pos, s_neg, cond_true, cond_false, Bool.not_true, Bool.not_false, Bool.true_and, Bool.and_true, Bool.false_and, Bool.and_false, bne_self_eq_false, decide_true, decide_false, Int.toNat_natCast, R_Name_j4]; rfl
        simp (disch := omega) only [joinF_eq, bindO_some, s_wr, s_td, s_tm, s_pos, s_neg, Int.toNat_natCast, rbset]; show (bif decide (chr s i ≠ 45) then (bif decide (chr s i < 48) then _ else R_Name_j4 fu _ j (decide (57 < chr s i))) else _) = _; by_cases g1 : chr s i = 45
        · rw [t0 (by omega)]; simp (disch := omega) only [joinF_eq, bindO_some, s_wr, s_td, s_tm, s_pos, s_neg, cond_true, cond_false, Bool.not_true, Bool.not_false, Bool.true_and, Bool.and_true, Bool.false_and, Bool.and_false, bne_self_eq_false, decide_true, decide_false, Int.toNat_natCast, R_Name_j4]; rfl
        by_cases g2 : chr s i < 48
        · rw [t1 (by omega)]; simp (disch := omega) only [joinF_eq, bindO_some, s_wr, s_td, s_tm, s_pos, s_neg, cond_true, cond_false, Bool.not_true, Bool.not_false, Bool.true_and, Bool.and_true, Bool.false_and, Bool.and_false, bne_self_eq_false, decide_true, decide_false, Int.toNat_natCast, R_Name_j4]; rfl
        by_cases g3 : 57 < chr s i
        · rw [t1 (by omega)]; simp (disch := omega) only [joinF_eq, bindO_some, s_wr, s_td, s_tm, s_pos, s_neg, cond_true, cond_false, Bool.not_true, Bool.not_false, Bool.true_and, Bool.and_true, Bool.false_and, Bool.and_false, bne_self_eq_false, decide_true, decide_false, Int.toNat_natCast, R_Name_j4]; rfl
        · rw [t0 (by omega)]; simp (disch := omega) only [joinF_eq, bindO_some, s_wr, s_td, s_tm, s_pos, s_neg, cond_true, cond_false, Bool.not_true, Bool.not_false, Bool.true_and, Bool.and_true, Bool.false_and, Bool.and_false, bne_self_eq_false, decide_true, decide_false, Int.toNat_natCast, R_Name_j4]; rfl
      · have hb := hb.1 rfl; rw [t0 (by omega)]; simp (disch := omega) only [joinF_eq, bindO_some, s_wr, s_td, s_tm, s_pos, s_neg, cond_true, cond_false, Bool.not_true, Bool.not_false, Bool.true_and, Bool.and_true, Bool.false_and, Bool.and_false, bne_self_eq_false, decide_true, decide_false, Int.toNat_natCast, R_Name_j4]; rfl
    by_cases g1 : 97 ≤ chr s i
    · simp (disch := omega) only [joinF_eq, bindO_some, s_wr, s_td, s_tm, s_pos, s_neg, Int.toNat_natCast, rbset]; refine k _ ?_; rw [decide_eq_true_eq]; omega
    · simp (disch := omega) only [joinF_eq, bindO_some, s_wr, s_td, s_tm, s_pos, s_neg, Int.toNat_natCast, rbset]; refine k _ ?_; simp; omega
  · intro j; unfold R_Name_l2; simp (disch := omega) only [joinF_eq, bindO_some, s_wr, s_td, s_tm, s_pos, s_neg, Int.toNat_natCast, rbset]
theorem isName_r {s : List UInt8} : profile_IsName_r fu (s, ()) = some (nameB s, ()) := by
  unfold profile_IsName_r profile_IsName_j1 nameB; by_cases c1 : s.length < 1
  · rw [decide_eq_false (p := _ ∧ _) (by omega)]; simp (disch := omega) only [joinF_eq, bindO_some, s_wr, s_td, s_tm, s_pos, s_neg, Int.toNat_natCast, rbset]
  by_cases c2 : 16 < s.length
  · rw [decide_eq_false (p := _ ∧ _) (by omega)]; simp (disch := omega) only [joinF_eq, bindO_some, s_wr, s_td, s_tm, s_pos, s_neg, Int.toNat_natCast, rbset]
  simp (disch := omega) only [joinF_eq, bindO_some, s_wr, s_td, s_tm, s_pos, s_neg, Int.toNat_natCast, rbset]; show (bif decide (chr s 0 < 97) then _ else (bif decide (122 < chr s 0) then _ else _)) = _
  have hz : ¬ (97 ≤ chr s 0 ∧ chr s 0 ≤ 122) → firstE (nameE s) s.length 0 ≠ 0 := by
    intro h e; have := firstE_ok _ 0 e 0 (by omega) (by omega); unfold nameE lowC at this; rw [if_neg (by omega)] at this; omega
  by_cases c3 : chr s 0 < 97
  · rw [decide_eq_false (p := _ ∧ _) (fun h => hz (by omega) h.2)]; simp (disch := omega) only [joinF_eq, bindO_some, s_wr, s_td, s_tm, s_pos, s_neg, Int.toNat_natCast, rbset]
  by_cases c4 : 122 < chr s 0
  · rw [decide_eq_false (p := _ ∧ _) (fun h => hz (by omega) h.2)]; simp (disch := omega) only [joinF_eq, bindO_some, s_wr, s_td, s_tm, s_pos, s_neg, Int.toNat_natCast, rbset]
  simp (disch := omega) only [joinF_eq, bindO_some, s_wr, s_td, s_tm, s_pos, s_neg, Int.toNat_natCast, rbset]; rw [errLoop (n := s.length) (E := nameE s) (out := fun _ => some (false, ())) (fin := some (true, ())) (by omega)]
  · by_cases e : firstE (nameE s) s.length 0 = 0
    · rw [if_pos e, decide_eq_true ⟨by omega, e⟩]
    · rw [if_neg e, decide_eq_false (fun h => e h.2)]
  · intro j i hi; unfold profile_IsName_l2; simp (disch := omega) only [joinF_eq, bindO_some, s_wr, s_td, s_tm, s_pos, s_neg, Int.toNat_natCast, rbset]; have t0 : lowC (chr s i) ∨ (0 < i ∧ restC (chr s i)) → nameE s i = 0 := fun h => by unfold nameE; rw [if_pos h]
    have t1 : ¬ (lowC (chr s i) ∨ (0 < i ∧ restC (chr s i))) → nameE s i = 1 := fun h => by unfold nameE; rw [if_neg h]
    unfold restC lowC at t0 t1; have z : i = 0 → 97 ≤ chr s i ∧ chr s i ≤ 122 := by rintro rfl; omega
    show (bif decide (chr s i < 97) then (bif decide (chr s i < 48) then profile_IsName_j3 fu _ j (decide (chr s i ≠ 45)) else (bif decide (57 < chr s i) then profile_IsName_j3 fu _ j (decide (chr s i ≠ 45)) else profile_IsName_j3 fu _ j false))
      else (bif decide (122 < chr s i) then (bif decide (chr s i < 48) then profile_IsName_j3 fu _ j (decide (chr s i ≠ 45)) else (bif decide (57 < chr s i) then profile_IsName_j3 fu _ j (decide (chr s i ≠ 45)) else profile_IsName_j3 fu _ j false)) else profile_IsName_j3 fu _ j false)) = _
    by_cases g1 : chr s i < 97
    · by_cases g2 : chr s i < 48
      · by_cases g3 : chr s i = 45
        · rw [t0 (by omega)]; simp (disch := omega) only [joinF_eq, bindO_some, s_wr, s_td, s_tm, s_pos, s_neg, cond_true, cond_false, Bool.not_true, Bool.not_false, Bool.true_and, Bool.and_true, Bool.false_and, Bool.and_false, bne_self_eq_false, decide_true, decide_false, Int.toNat_natCast, profile_IsName_j3]; rfl
        · rw [t1 (by omega)]; simp (disch := omega) only [joinF_eq, bindO_some, s_wr, s_td, s_tm, s_pos, s_neg, cond_true, cond_false, Bool.not_true, Bool.not_false, Bool.true_and, Bool.and_true, Bool.false_and, Bool.and_false, bne_self_eq_false, decide_true, decide_false, Int.toNat_natCast, profile_IsName_j3]; rfl
      · by_cases g3 : 57 < chr s i
        · rw [t1 (by omega)]; simp (disch := omega) only [joinF_eq, bindO_some, s_wr, s_td, s_tm, s_pos, s_neg, cond_true, cond_false, Bool.not_true, Bool.not_false, Bool.true_and, Bool.and_true, Bool.false_and, Bool.and_false, bne_self_eq_false, decide_true, decide_false, Int.toNat_natCast, profile_IsName_j3]; rfl
        · rw [t0 (by omega)]; simp (disch := omega) only [joinF_eq, bindO_some, s_wr, s_td, s_tm, s_pos, s_neg, cond_true, cond_false, Bool.not_true, Bool.not_false, Bool.true_and, Bool.and_true, Bool.false_and, Bool.and_false, bne_self_eq_false, decide_true, decide_false, Int.toNat_natCast, profile_IsName_j3]; rfl
    · by_cases g2 : 122 < chr s i
      · rw [t1 (by omega)]; simp (disch := omega) only [joinF_eq, bindO_some, s_wr, s_td, s_tm, s_pos, s_neg, cond_true, cond_false, Bool.not_true, Bool.not_false, Bool.true_and, Bool.and_true, Bool.false_and, Bool.and_false, bne_self_eq_false, decide_true, decide_false, Int.toNat_natCast, profile_IsName_j3]; rfl
      · rw [t0 (by omega)]; simp (disch := omega) only [joinF_eq, bindO_some, s_wr, s_td, s_tm, s_pos, s_neg, cond_true, cond_false, Bool.not_true, Bool.not_false, Bool.true_and, Bool.and_true, Bool.false_and, Bool.and_false, bne_self_eq_false, decide_true, decide_false, Int.toNat_natCast, profile_IsName_j3]; rfl
  · intro j; unfold profile_IsName_l2; simp (disch := omega) only [joinF_eq, bindO_some, s_wr, s_td, s_tm, s_pos, s_neg, Int.toNat_natCast, rbset]
end
def tnE (l : List Int) (m : Int) (i : Nat) : Int := if 0 ≤ l.getD i 0 ∧ l.getD i 0 ≤ m then 0 else 3
def tonesE (l : List Int) (n m : Int) : Int := if (l.length : Int) = n then firstE (tnE l m) l.length 0 else 4
section
variable {fu : Nat} (hf : 18446744073709551616 ≤ fu) {l : List Int} (hl : (l.length : Int) ≤ 9223372036854775807) {n : Int}
include hf hl
theorem tonesErr_r {m : Int} : R_TonesErr_r fu (l, (n, (m, ()))) = some (tonesE l n m, ()) := by
  unfold R_TonesErr_r tonesE; by_cases c : (l.length : Int) = n
  · rw [if_pos c]; simp (disch := omega) only [joinF_eq, bindO_some, s_wr, s_td, s_tm, s_pos, s_neg, Int.toNat_natCast, rbset]; rw [errLoop (n := l.length) (E := tnE l m) (out := fun e => some (e, ())) (fin := some (0, ())) (by omega)]
    · split
      · rename_i e; rw [e]
      · rfl
    · intro j i hi; unfold R_TonesErr_l1 tnE; simp (disch := omega) only [joinF_eq, bindO_some, s_wr, s_td, s_tm, s_pos, s_neg, cond_true, cond_false, Bool.not_true, Bool.not_false, Bool.true_and, Bool.and_true, Bool.false_and, Bool.and_false, bne_self_eq_false, decide_true, decide_false, Int.toNat_natCast, within_s]; by_cases g : 0 ≤ l.getD i 0 ∧ l.getD i 0 ≤ m
      · rw [if_pos g, decide_eq_true g]; simp (disch := omega) only [joinF_eq, bindO_some, s_wr, s_td, s_tm, s_pos, s_neg, Int.toNat_natCast, rbset]; rfl
      · rw [if_neg g, decide_eq_false g]; simp (disch := omega) only [joinF_eq, bindO_some, s_wr, s_td, s_tm, s_pos, s_neg, Int.toNat_natCast, rbset]; rfl
    · intro j; unfold R_TonesErr_l1; simp (disch := omega) only [joinF_eq, bindO_some, s_wr, s_td, s_tm, s_pos, s_neg, Int.toNat_natCast, rbset]
  · rw [if_neg c]; simp (disch := omega) only [joinF_eq, bindO_some, s_wr, s_td, s_tm, s_pos, s_neg, Int.toNat_natCast, rbset]
theorem tones_r : profile_Tones_r fu (l, (n, ())) = some (tonesE l n 255, ()) := by
  unfold profile_Tones_r tonesE; by_cases c : (l.length : Int) = n
  · rw [if_pos c]; simp (disch := omega) only [joinF_eq, bindO_some, s_wr, s_td, s_tm, s_pos, s_neg, Int.toNat_natCast, rbset]; rw [errLoop (n := l.length) (E := tnE l 255) (out := fun e => some (e, ())) (fin := some (0, ())) (by omega)]
    · split
      · rename_i e; rw [e]
      · rfl
    · intro j i hi; have t3 : ¬ (0 ≤ l.getD i 0 ∧ l.getD i 0 ≤ 255) → tnE l 255 i = 3 := fun h => by unfold tnE; rw [if_neg h]
      have t0 : (0 ≤ l.getD i 0 ∧ l.getD i 0 ≤ 255) → tnE l 255 i = 0 := fun h => by unfold tnE; rw [if_pos h]
      unfold profile_Tones_l1; simp (disch := omega) only [joinF_eq, bindO_some, s_wr, s_td, s_tm, s_pos, s_neg, Int.toNat_natCast, rbset]; by_cases g : l.getD i 0 < 0
      · rw [t3 (by omega)]; simp (disch := omega) only [joinF_eq, bindO_some, s_wr, s_td, s_tm, s_pos, s_neg, cond_true, cond_false, Bool.not_true, Bool.not_false, Bool.true_and, Bool.and_true, Bool.false_and, Bool.and_false, bne_self_eq_false, decide_true, decide_false, Int.toNat_natCast, profile_Tones_j2]; rfl
      by_cases g2 : 255 < l.getD i 0
      · rw [t3 (by omega)]; simp (disch := omega) only [joinF_eq, bindO_some, s_wr, s_td, s_tm, s_pos, s_neg, cond_true, cond_false, Bool.not_true, Bool.not_false, Bool.true_and, Bool.and_true, Bool.false_and, Bool.and_false, bne_self_eq_false, decide_true, decide_false, Int.toNat_natCast, profile_Tones_j2]; rfl
      · rw [t0 (by omega)]; simp (disch := omega) only [joinF_eq, bindO_some, s_wr, s_td, s_tm, s_pos, s_neg, cond_true, cond_false, Bool.not_true, Bool.not_false, Bool.true_and, Bool.and_true, Bool.false_and, Bool.and_false, bne_self_eq_false, decide_true, decide_false, Int.toNat_natCast, profile_Tones_j2]; rfl
    · intro j; unfold profile_Tones_l1; simp (disch := omega) only [joinF_eq, bindO_some, s_wr, s_td, s_tm, s_pos, s_neg, Int.toNat_natCast, rbset]
  · rw [if_neg c]; simp (disch := omega) only [joinF_eq, bindO_some, s_wr, s_td, s_tm, s_pos, s_neg, Int.toNat_natCast, rbset]
end
abbrev LabT := Int × Int × Int
abbrev SpotT := List UInt8 × LabT × LabT × List (Int × Int) × List Int
def spotE (s : SpotT) : Int :=
  if nameB s.1 = true then (if labR s.2.1 = 0 ∧ labR s.2.2.1 = 0 then (if curE s.2.2.2.1 = 0 then (if 8 < s.2.2.2.2.length then 2 else tonesE s.2.2.2.2 s.2.2.2.2.length 255) else curE s.2.2.2.1) else 3) else 6
def wfS (s : SpotT) : Prop := (s.2.2.2.2.length : Int) ≤ 9223372036854775807
section
variable {fu : Nat} (hf : 18446744073709551616 ≤ fu) {s : SpotT} (hs : wfS s)
include hf hs
theorem spotOne_r : spot_one_r fu (s, ()) = some (spotE s, ()) := by
  obtain ⟨nm, p, q, cu, pr⟩ := s; unfold spot_one_r spotE; simp (disch := omega) only [joinF_eq, bindO_some, s_wr, s_td, s_tm, s_pos, s_neg, cond_true, cond_false, Bool.not_true, Bool.not_false, Bool.true_and, Bool.and_true, Bool.false_and, Bool.and_false, bne_self_eq_false, decide_true, decide_false, Int.toNat_natCast, isName_r hf, refChk_s, curCheck_r hf, tones_r hf hs]; cases hn : nameB nm
  · rfl
  simp (disch := omega) only [joinF_eq, bindO_some, s_wr, s_td, s_tm, s_pos, s_neg, Int.toNat_natCast, rbset]; rcases labR_or p with ⟨e1, _⟩ | e1
  · rcases labR_or q with ⟨e2, _⟩ | e2
    · simp (disch := omega) only [joinF_eq, bindO_some, s_wr, s_td, s_tm, s_pos, s_neg, cond_true, cond_false, Bool.not_true, Bool.not_false, Bool.true_and, Bool.and_true, Bool.false_and, Bool.and_false, bne_self_eq_false, decide_true, decide_false, Int.toNat_natCast, e1, e2]; by_cases c : curE cu = 0
      · rw [if_pos c]; simp (disch := omega) only [joinF_eq, bindO_some, s_wr, s_td, s_tm, s_pos, s_neg, Int.toNat_natCast, rbset]; by_cases g : 8 < pr.length
        · rw [if_pos g]; simp (disch := omega) only [joinF_eq, bindO_some, s_wr, s_td, s_tm, s_pos, s_neg, Int.toNat_natCast, rbset]; rfl
        · rw [if_neg g]; simp (disch := omega) only [joinF_eq, bindO_some, s_wr, s_td, s_tm, s_pos, s_neg, Int.toNat_natCast, rbset]; rfl
      · rw [if_neg c]; simp (disch := omega) only [joinF_eq, bindO_some, s_wr, s_td, s_tm, s_pos, s_neg, Int.toNat_natCast, rbset]; rfl
    · simp (disch := omega) only [joinF_eq, bindO_some, s_wr, s_td, s_tm, s_pos, s_neg, cond_true, cond_false, Bool.not_true, Bool.not_false, Bool.true_and, Bool.and_true, Bool.false_and, Bool.and_false, bne_self_eq_false, decide_true, decide_false, Int.toNat_natCast, e1, e2]; rfl
  · simp (disch := omega) only [joinF_eq, bindO_some, s_wr, s_td, s_tm, s_pos, s_neg, cond_true, cond_false, Bool.not_true, Bool.not_false, Bool.true_and, Bool.and_true, Bool.false_and, Bool.and_false, bne_self_eq_false, decide_true, decide_false, Int.toNat_natCast, e1]; rfl
theorem spotErr_r : R_SpotErr_r fu (s, ()) = some (spotE s, ()) := by
  obtain ⟨nm, p, q, cu, pr⟩ := s; unfold R_SpotErr_r R_SpotErr_j1 spotE; simp (disch := omega) only [joinF_eq, bindO_some, s_wr, s_td, s_tm, s_pos, s_neg, cond_true, cond_false, Bool.not_true, Bool.not_false, Bool.true_and, Bool.and_true, Bool.false_and, Bool.and_false, bne_self_eq_false, decide_true, decide_false, Int.toNat_natCast, name_r hf, labErr_s, curErr_r hf, tonesErr_r hf hs]; cases hn : nameB nm
  · rfl
  simp (disch := omega) only [joinF_eq, bindO_some, s_wr, s_td, s_tm, s_pos, s_neg, Int.toNat_natCast, rbset]; rcases labR_or p with ⟨e1, _⟩ | e1
  · rcases labR_or q with ⟨e2, _⟩ | e2
    · simp (disch := omega) only [joinF_eq, bindO_some, s_wr, s_td, s_tm, s_pos, s_neg, cond_true, cond_false, Bool.not_true, Bool.not_false, Bool.true_and, Bool.and_true, Bool.false_and, Bool.and_false, bne_self_eq_false, decide_true, decide_false, Int.toNat_natCast, e1, e2]; by_cases c : curE cu = 0
      · rw [if_pos c]; simp (disch := omega) only [joinF_eq, bindO_some, s_wr, s_td, s_tm, s_pos, s_neg, Int.toNat_natCast, rbset]; by_cases g : 8 < pr.length
        · rw [if_pos g]; simp (disch := omega) only [joinF_eq, bindO_some, s_wr, s_td, s_tm, s_pos, s_neg, Int.toNat_natCast, rbset]; rfl
        · rw [if_neg g]; simp (disch := omega) only [joinF_eq, bindO_some, s_wr, s_td, s_tm, s_pos, s_neg, Int.toNat_natCast, rbset]; rfl
      · rw [if_neg c]; simp (disch := omega) only [joinF_eq, bindO_some, s_wr, s_td, s_tm, s_pos, s_neg, Int.toNat_natCast, rbset]; rfl
    · simp (disch := omega) only [joinF_eq, bindO_some, s_wr, s_td, s_tm, s_pos, s_neg, cond_true, cond_false, Bool.not_true, Bool.not_false, Bool.true_and, Bool.and_true, Bool.false_and, Bool.and_false, bne_self_eq_false, decide_true, decide_false, Int.toNat_natCast, e1, e2]; rfl
  · simp (disch := omega) only [joinF_eq, bindO_some, s_wr, s_td, s_tm, s_pos, s_neg, cond_true, cond_false, Bool.not_true, Bool.not_false, Bool.true_and, Bool.and_true, Bool.false_and, Bool.and_false, bne_self_eq_false, decide_true, decide_false, Int.toNat_natCast, e1]; rfl
end
structure SpotOk (s : SpotT) : Prop where
  p : labR s.2.1 = 0
  q : labR s.2.2.1 = 0
  c : CurveOk s.2.2.2.1
  n : s.2.2.2.2.length ≤ 8
  t : ∀ i, i < s.2.2.2.2.length → 0 ≤ s.2.2.2.2.getD i 0 ∧ s.2.2.2.2.getD i 0 ≤ 255
section
variable {fu : Nat} (hf : 18446744073709551616 ≤ fu) {s : SpotT} (ok : SpotOk s) {t : Int} (h0 : 0 ≤ t) (h1 : t ≤ 255)
include hf ok h0 h1
end
def spAt (l : List SpotT) (i : Nat) : SpotT := l.getD i ([], ((0, (0, 0)), ((0, (0, 0)), ([], []))))
theorem spAt_mem {l : List SpotT} {i : Nat} (h : i < l.length) : spAt l i ∈ l := by
  unfold spAt; rw [List.getD_eq_getElem?_getD, List.getElem?_eq_getElem h]; exact List.getElem_mem h
def AllS (l : List SpotT) : Prop := (l.length : Int) ≤ 9223372036854775807 ∧ ∀ s ∈ l, wfS s
theorem AllS.at {l : List SpotT} (h : AllS l) {i : Nat} (hi : i < l.length) : wfS (spAt l i) := h.2 _ (spAt_mem hi)
def twin (l : List SpotT) (i : Nat) : Prop := ∃ k, k < i ∧ (spAt l k).1 = (spAt l i).1
open Classical in
noncomputable def liE (l : List SpotT) (i : Nat) : Int := if spotE (spAt l i) = 0 then (if twin l i then 7 else 0) else spotE (spAt l i)
noncomputable def libE (l : List SpotT) : Int := if 40 < l.length then 2 else firstE (liE l) l.length 0
section
variable {fu : Nat} (hf : 18446744073709551616 ≤ fu)
include hf
theorem spotAt_r {l : List SpotT} (hl : (l.length : Int) ≤ 9223372036854775807) (nm : List UInt8) :
    (∃ k, k < l.length ∧ (spAt l k).1 = nm ∧ (∀ i, k < i → i < l.length → (spAt l i).1 ≠ nm) ∧ R_SpotAt_r fu (l, (nm, ())) = some ((k : Int), ())) ∨ ((∀ i, i < l.length → (spAt l i).1 ≠ nm) ∧ R_SpotAt_r fu (l, (nm, ())) = some (-1, ())) := by
  unfold R_SpotAt_r; simp (disch := omega) only [joinF_eq, bindO_some, s_wr, s_td, s_tm, s_pos, s_neg, Int.toNat_natCast, rbset]; refine downLoop (f := R_SpotAt_l1 fu (l, (nm, ()))) (n := l.length) (fu := fu) (by omega) (p := fun i => (spAt l i).1 = nm) (hit := fun k => some ((k : Int), ())) (miss := some (-1, ())) ?_ ?_ ?_
  · intro j i hi hp; unfold R_SpotAt_l1; simp (disch := omega) only [joinF_eq, bindO_some, s_wr, s_td, s_tm, s_pos, s_neg, Int.toNat_natCast, rbset]; show (bif decide ((spAt l i).1 = nm) then _ else _) = _; simp (disch := omega) only [joinF_eq, bindO_some, s_wr, s_td, s_tm, s_pos, s_neg, Int.toNat_natCast, rbset]
  · intro j i hi hp; unfold R_SpotAt_l1; simp (disch := omega) only [joinF_eq, bindO_some, s_wr, s_td, s_tm, s_pos, s_neg, Int.toNat_natCast, rbset]; show (bif decide ((spAt l i).1 = nm) then _ else _) = _; simp (disch := omega) only [joinF_eq, bindO_some, s_wr, s_td, s_tm, s_pos, s_neg, Int.toNat_natCast, rbset]
  · intro j; unfold R_SpotAt_l1; simp (disch := omega) only [joinF_eq, bindO_some, s_wr, s_td, s_tm, s_pos, s_neg, Int.toNat_natCast, rbset]
variable {l : List SpotT} (hl : AllS l)
include hl
theorem libCheck_r : spot_Check_r fu (l, ()) = some (libE l, ()) := by
  have hl1 := hl.1; unfold spot_Check_r libE; by_cases c : 40 < l.length
  · rw [if_pos c]; simp (disch := omega) only [joinF_eq, bindO_some, s_wr, s_td, s_tm, s_pos, s_neg, Int.toNat_natCast, rbset]
  rw [if_neg c]; simp (disch := omega) only [joinF_eq, bindO_some, s_wr, s_td, s_tm, s_pos, s_neg, Int.toNat_natCast, rbset]; rw [errLoop (n := l.length) (E := liE l) (out := fun e => some (e, ())) (fin := some (0, ())) (by omega)]
  · split
    · rename_i e; rw [e]
    · rfl
  · intro j i hi; have hw := hl.at hi; have t7 : spotE (spAt l i) = 0 → twin l i → liE l i = 7 := fun h h' => by unfold liE; rw [if_pos h, if_pos h']
    have t0 : spotE (spAt l i) = 0 → ¬ twin l i → liE l i = 0 := fun h h' => by unfold liE; rw [if_pos h, if_neg h']
    have tE : spotE (spAt l i) ≠ 0 → liE l i = spotE (spAt l i) := fun h => by unfold liE; rw [if_neg h]
    unfold spot_Check_l1; simp (disch := omega) only [joinF_eq, bindO_some, s_wr, s_td, s_tm, s_pos, s_neg, Int.toNat_natCast, rbset]; show bindO (spot_one_r fu (spAt l i, ())) _ = _; rw [spotOne_r hf hw]; simp (disch := omega) only [joinF_eq, bindO_some, s_wr, s_td, s_tm, s_pos, s_neg, Int.toNat_natCast, rbset]; by_cases e0 : spotE (spAt l i) = 0
    · simp (disch := omega) only [joinF_eq, bindO_some, s_wr, s_td, s_tm, s_pos, s_neg, Int.toNat_natCast, rbset]
      rcases findLoop (f := spot_Check_l2 fu (l, ()) i j) (n := i) (fu := fu) (by omega) (p := fun k => (spAt l k).1 = (spAt l i).1) (hit := fun _ => some (7, ())) (miss := j ((i : Int) + 1))
        (fun j' k hk hp => by
          unfold spot_Check_l2; simp (disch := omega) only [joinF_eq, bindO_some, s_wr, s_td, s_tm, s_pos, s_neg, Int.toNat_natCast, rbset]; show (bif decide ((spAt l k).1 = (spAt l i).1) then _ else _) = _
          simp (disch := omega) only [joinF_eq, bindO_some, s_wr, s_td, s_tm, s_pos, s_neg, Int.toNat_natCast, rbset])
        (fun j' k hk hp => by
          unfold spot_Check_l2; simp (disch := omega) only [joinF_eq, bindO_some, s_wr, s_td, s_tm, s_pos, s_neg, Int.toNat_natCast, rbset]; show (bif decide ((spAt l k).1 = (spAt l i).1) then _ else _) = _
          simp (disch := omega) only [joinF_eq, bindO_some, s_wr, s_td, s_tm, s_pos, s_neg, Int.toNat_natCast, rbset])
        (fun j' => by
          unfold spot_Check_l2
          simp (disch := omega) only [joinF_eq, bindO_some, s_wr, s_td, s_tm, s_pos, s_neg, Int.toNat_natCast, rbset]) with ⟨k, hk, hp, _, h⟩ | ⟨hp, h⟩
      · rw [h, t7 e0 ⟨k, hk, hp⟩]; rfl
      · rw [h, t0 e0 (fun ⟨k, hk, q⟩ => hp k hk q)]; rfl
    · rw [tE e0, if_neg e0]; simp (disch := omega) only [joinF_eq, bindO_some, s_wr, s_td, s_tm, s_pos, s_neg, Int.toNat_natCast, rbset]
  · intro j; unfold spot_Check_l1; simp (disch := omega) only [joinF_eq, bindO_some, s_wr, s_td, s_tm, s_pos, s_neg, Int.toNat_natCast, rbset]
theorem libErr_r : R_SpotsErr_r fu (l, ()) = some (libE l, ()) := by
  have hl1 := hl.1; unfold R_SpotsErr_r libE; by_cases c : 40 < l.length
  · rw [if_pos c]; simp (disch := omega) only [joinF_eq, bindO_some, s_wr, s_td, s_tm, s_pos, s_neg, Int.toNat_natCast, rbset]
  rw [if_neg c]; simp (disch := omega) only [joinF_eq, bindO_some, s_wr, s_td, s_tm, s_pos, s_neg, Int.toNat_natCast, rbset]; rw [errLoop (n := l.length) (E := liE l) (out := fun e => some (e, ())) (fin := some (0, ())) (by omega)]
  · split
    · rename_i e; rw [e]
    · rfl
  · intro j i hi; have hw := hl.at hi; have t7 : spotE (spAt l i) = 0 → twin l i → liE l i = 7 := fun h h' => by unfold liE; rw [if_pos h, if_pos h']
    have t0 : spotE (spAt l i) = 0 → ¬ twin l i → liE l i = 0 := fun h h' => by unfold liE; rw [if_pos h, if_neg h']
    have tE : spotE (spAt l i) ≠ 0 → liE l i = spotE (spAt l i) := fun h => by unfold liE; rw [if_neg h]
    unfold R_SpotsErr_l1; simp (disch := omega) only [joinF_eq, bindO_some, s_wr, s_td, s_tm, s_pos, s_neg, Int.toNat_natCast, rbset]; show bindO (R_SpotErr_r fu (spAt l i, ())) _ = _; rw [spotErr_r hf hw]; simp (disch := omega) only [joinF_eq, bindO_some, s_wr, s_td, s_tm, s_pos, s_neg, Int.toNat_natCast, rbset]; by_cases e0 : spotE (spAt l i) = 0
    · simp (disch := omega) only [joinF_eq, bindO_some, s_wr, s_td, s_tm, s_pos, s_neg, Int.toNat_natCast, rbset]; show bindO (R_SpotAt_r fu (List.take i l, ((spAt l i).1, ()))) _ = _; have ht : (List.take i l).length = i := by rw [List.length_take]; omega
      have hta : ∀ k, k < i → spAt (List.take i l) k = spAt l k := fun k hk => by
        unfold spAt; rw [List.getD_eq_getElem?_getD, List.getD_eq_getElem?_getD, List.getElem?_take_of_lt hk]
      rcases spotAt_r hf (l := List.take i l) (by rw [ht]; omega) (spAt l i).1 with ⟨k, hk, hp, _, h⟩ | ⟨hp, h⟩
      · rw [ht] at hk; rw [hta k hk] at hp; rw [h, t7 e0 ⟨k, hk, hp⟩]; simp (disch := omega) only [joinF_eq, bindO_some, s_wr, s_td, s_tm, s_pos, s_neg, Int.toNat_natCast, rbset]; rfl
      · rw [h, t0 e0 (fun ⟨k, hk, q⟩ => hp k (by rw [ht]; exact hk) (by rw [hta k hk]; exact q))]; simp (disch := omega) only [joinF_eq, bindO_some, s_wr, s_td, s_tm, s_pos, s_neg, Int.toNat_natCast, rbset]; rfl
    · rw [tE e0, if_neg e0]; simp (disch := omega) only [joinF_eq, bindO_some, s_wr, s_td, s_tm, s_pos, s_neg, Int.toNat_natCast, rbset]
  · intro j; unfold R_SpotsErr_l1; simp (disch := omega) only [joinF_eq, bindO_some, s_wr, s_td, s_tm, s_pos, s_neg, Int.toNat_natCast, rbset]
end
section
variable {fu : Nat} (hf : 18446744073709551616 ≤ fu)
include hf
end
end Sp
end Go.Proofs.Ytjhdjjoacedlpaa
