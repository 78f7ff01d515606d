/- As RnO, without the second way for regions that draw. No program in sight. -/
import Derived.Test.YtjhdjjoacedlpaaZCI4
/- As RnO, without the second way for regions that draw. No program in sight. -/
namespace Go.Proofs.Ytjhdjjoacedlpaa.Rn
open Go Go.RowKit Go.Proofs.Ytjhdjjoacedlpaa Go.Proofs.Ytjhdjjoacedlpaa.Dr

section
variable {P : Program} {n : Nat} {st st' : ASt} {o : Oper} {x : AV} {Q : Exit → ASt → Prop} {ops : Array Oper} {l : List Oper}
def runD (C : Ctx) (self : SelfT) (n : Nat) (l : List Oper) (T : List (List Nat)) (st : ASt) : Option ASt := bif planR l T && tailR l T (tailM T l.length) then runE C self n l T st else none
theorem runD_ok {C : Ctx} {self : SelfT} {id : Nat} (hC : C.ok P) (hS : SelfOk P self) (h : runD C self n l (ancs l []) st = some st') : AW P n (.region id ⟨l⟩ true) (fun e s => e = .normal ∧ s = st') st := by
  unfold runD at h
  cases hp : (planR l (ancs l []) && tailR l (ancs l []) (tailM (ancs l []) l.length)) with
  | false => rw [hp] at h; cases h
  | true =>
    rw [hp] at h; rw [Bool.and_eq_true] at hp; exact runE_ok hC hS hp.1 hp.2 h
def runC (C : Ctx) (self : SelfT) (fl n : Nat) : Code → ASt → Option (Exit × ASt)
  | .skip, st => some (.normal, st)
  | .label _, st => some (.normal, st)
  | .exit id, st => some (.exit id, st)
  | .ret, st => some (.ret, st)
  | .seq a b, st => match runC C self fl n a st with
    | some (.normal, st') => runC C self fl n b st'
    | r => r
  | .cond c a b, st => match st.ev c with
    | .bool true => runC C self fl n a st
    | .bool false => runC C self fl n b st
    | _ => none
  | .block id c, st => match runC C self fl n c st with
    | some (.exit id', st') => bif Nat.beq id' id then some (.normal, st') else some (.exit id', st')
    | r => r
  | .loop c, st => loopN (runC C self fl n c) fl st
  | .region _ ⟨l⟩ false, st => match runF C self n ⟨l⟩ l st with
    | some st' => some (.normal, st')
    | none => none
  | .region _ ⟨l⟩ true, st => match runD C self n l (ancs l []) st with
    | some st' => some (.normal, st')
    | none => none
  | .rangeFunc .., _ => none
  | .scope c, st => match runC C self fl n c st with
    | some (.goto _, _) => none
    | r => r
  | .goto _, _ => none
  | .refuse _, _ => none
theorem runC_ok {C : Ctx} {self : SelfT} {fl : Nat} (hC : C.ok P) (hS : SelfOk P self) : ∀ (c : Code) (st : ASt) (e : Exit) (st' : ASt), runC C self fl n c st = some (e, st') → AW P n c (fun e1 s => e1 = e ∧ s = st') st := by
  intro c
  induction c with
  | skip => intro st e st' h; rw [runC] at h; injection h with h; injection h with h1 h2; exact AW.skip ⟨h1, h2⟩
  | label l => intro st e st' h; rw [runC] at h; injection h with h; injection h with h1 h2; exact AW.label ⟨h1, h2⟩
  | exit id => intro st e st' h; rw [runC] at h; injection h with h; injection h with h1 h2; exact AW.exit ⟨h1, h2⟩
  | ret => intro st e st' h; rw [runC] at h; injection h with h; injection h with h1 h2; exact AW.ret ⟨h1, h2⟩
  | seq a b iha ihb =>
    intro st e st' h; rw [runC] at h
    cases h1 : runC C self fl n a st with
    | none => rw [h1] at h; cases h
    | some p =>
      obtain ⟨e0, s0⟩ := p; rw [h1] at h; refine AW.seq ((iha st e0 s0 h1).mono ?_)
      rintro e1 s ⟨rfl, rfl⟩
      cases e1 with
      | normal => exact ihb _ _ _ h
      | _ =>
        injection h with h
        injection h with h2 h3
        exact ⟨h2, h3⟩
  | cond c a b iha ihb =>
    intro st e st' h; rw [runC] at h; split at h
    · rename_i h1; exact AW.condT h1 (iha _ _ _ h)
    · rename_i h1; exact AW.condF h1 (ihb _ _ _ h)
    · cases h
  | block id c ih =>
    intro st e st' h; rw [runC] at h
    cases h1 : runC C self fl n c st with
    | none => rw [h1] at h; cases h
    | some p =>
      obtain ⟨e0, s0⟩ := p; rw [h1] at h; refine AW.block ((ih st e0 s0 h1).mono ?_)
      rintro e1 s ⟨rfl, rfl⟩
      cases e1 with
      | exit id' =>
        simp only at h
        cases hb : Nat.beq id' id with
        | true =>
          rw [hb] at h; have := Nat.eq_of_beq_eq_true hb; subst this; simp only [cond_true] at h; injection h with h
          injection h with h2 h3
          exact inA_eq ⟨h2, h3⟩
        | false =>
          rw [hb] at h; simp only [cond_false] at h; injection h with h
          injection h with h2 h3
          exact inA_ne hb ⟨h2, h3⟩
      | _ =>
        injection h with h
        injection h with h2 h3
        exact ⟨h2, h3⟩
  | loop c ih =>
    intro st e st' h; rw [runC] at h; exact loopN_ok ih h
  | region id ops d =>
    intro st e st' h; obtain ⟨l⟩ := ops
    cases d with
    | false =>
      rw [runC] at h
      cases h1 : runF C self n ⟨l⟩ l st with
      | none => rw [h1] at h; cases h
      | some s =>
        rw [h1] at h; injection h with h
        injection h with h2 h3
        exact AW.region (runF_ok hC hS l st s h1 ⟨h2, h3⟩)
    | true =>
      rw [runC] at h
      cases h1 : runD C self n l (ancs l []) st with
      | none => rw [h1] at h; cases h
      | some s =>
        rw [h1] at h; injection h with h
        injection h with h2 h3
        subst h3; subst h2; exact runD_ok hC hS h1
  | rangeFunc f ps a b => intro st e st' h; rw [runC] at h; cases h
  | scope c ih =>
    intro st e st' h; rw [runC] at h
    cases h1 : runC C self fl n c st with
    | none => rw [h1] at h; cases h
    | some p =>
      obtain ⟨e0, s0⟩ := p; rw [h1] at h; refine AW.scope ((ih st e0 s0 h1).mono ?_)
      rintro e1 s ⟨rfl, rfl⟩
      cases e1 with
      | goto l => cases h
      | _ =>
        injection h with h
        injection h with h2 h3
        exact ⟨rfl, h2, h3⟩
  | goto l => intro st e st' h; rw [runC] at h; cases h
  | refuse w => intro st e st' h; rw [runC] at h; cases h

theorem out_ok {C : Ctx} {self : SelfT} (hC : C.ok P) (hS : SelfOk P self) {fl F : Nat} {fn : Func} {c : Code} {xs : List AV} {hp hp' : List (Nat × AB)} {nx nx' : Nat} {x : AV} (h1 : lk C.fns F = some fn) (h2 : fn.body = some c) (hb : Nat.ble xs.length fn.ntmps = true)
    (h : outC C fn.results.toList (runC C self fl fn.ntmps c ⟨argR 0 xs, hp, nx⟩) = some (x, hp', nx')) : AC P F xs hp nx (fun y h' n' => y = x ∧ h' = hp' ∧ n' = nx') := by
  cases hr : runC C self fl fn.ntmps c ⟨argR 0 xs, hp, nx⟩ with
  | none => rw [hr] at h; cases h
  | some p =>
    obtain ⟨e, st⟩ := p; rw [hr] at h; have hw := runC_ok hC hS c _ _ _ hr
    have key : ∀ ys, resC C st fn.results.toList = some ys → oneOf ys = x → st.heap = hp' → st.nx = nx' → e = .ret ∨ e = .normal → AC P F xs hp nx (fun x1 hp1 nx1 => x1 = x ∧ hp1 = hp' ∧ nx1 = nx') := by
      intro ys h3 h4 h5 h6 he; refine AC.body (allP_at hC.fns h1) h2 rfl rfl hb (hw.mono ?_)
      rintro e1 s ⟨rfl, rfl⟩
      exact ⟨he, ys, resC_ok hC h3, h4, h5, h6⟩
    cases e with
    | ret =>
      simp only [outC] at h; split at h
      · rename_i ys h3; injection h with h
        simp only [Prod.mk.injEq] at h; exact key ys h3 h.1 h.2.1 h.2.2 (.inl rfl)
      · cases h
    | normal =>
      simp only [outC] at h; split at h
      · rename_i ys h3; injection h with h
        simp only [Prod.mk.injEq] at h; exact key ys h3 h.1 h.2.1 h.2.2 (.inr rfl)
      · cases h
    | _ => cases h
def run (C : Ctx) (fl : Nat) : Nat → Nat → List AV → List (Nat × AB) → Nat → Option (AV × List (Nat × AB) × Nat)
  | 0, _, _, _, _ => none
  | f + 1, F, xs, hp, nx => match lk C.fns F with
    | some fn => match fn.body with
      | some c => bif Nat.ble xs.length fn.ntmps then (match fL1 xs fun xs => outC C fn.results.toList (runC C (run C fl f) fl fn.ntmps c ⟨argR 0 xs, hp, nx⟩) with
        | some (x, hp2, nx2) => gcK hp2 nx x fun hp3 => some (x, hp3, nx2)
        | none => none) else none
      | none => none
    | none => none
theorem run_ok {C : Ctx} (hC : C.ok P) (fl : Nat) : ∀ f, SelfOk P (run C fl f)
  | 0 => fun F xs hp nx x hp' nx' h => by cases h
  | f + 1 => fun F xs hp nx x hp' nx' h => by
    rw [run] at h; split at h
    · rename_i fn h1; split at h
      · rename_i c h2
        cases hb : Nat.ble xs.length fn.ntmps with
        | false => rw [hb] at h; cases h
        | true =>
          rw [hb] at h; simp only [cond_true] at h; split at h
          · rename_i x2 hp2 nx2 h0; obtain ⟨hp3, g1, g2⟩ := gcK_eq hp2 nx x2; rw [g2] at h; simp only [Option.some.injEq, Prod.mk.injEq] at h; obtain ⟨rfl, rfl, rfl⟩ := h; refine AC.lesH (hp1 := hp2) ?_ g1; rw [fL1_eq] at h0; exact out_ok hC (run_ok hC fl f) h1 h2 hb h0
          · cases h
      · cases h
    · cases h
def okRun (C : Ctx) (fl f : Nat) (F : Nat) (xs : List AV) : Option AV := match run C fl f F xs [] 0 with
  | some (y, hp, _) => frzRC hp 8 y
  | none => none
theorem AF.run {C : Ctx} (hC : C.ok P) (fl f : Nat) {F : Nat} {xs : List AV} {y : AV} (h : okRun C fl f F xs = some y) : AF P F xs y := by
  unfold okRun at h; split at h
  · rename_i x hp nx h1; exact AF.of_AC ((run_ok hC fl f _ _ _ _ _ _ _ h1).mono (by rintro x1 hp1 nx1 ⟨rfl, rfl, rfl⟩; exact frzRC_ok 8 _ _ h))
  · cases h
end
end Go.Proofs.Ytjhdjjoacedlpaa.Rn
/- conditionWorks, by a run with short tables. -/
set_option maxRecDepth 1000000
namespace Go.Proofs.Ytjhdjjoacedlpaa
open Go Go.RowKit
def conditionWorks_tab : Tab := {
  und := [(3, .int .i64),
    (9, .string),
    (24, .slice 3),
    (187, .array 4 3),
    (106, .struct #[fd "Name" 9 0 false "" 0, fd "Paper" 30 1 false "" 16, fd "Solid" 30 4 false "" 40, fd "Curve" 73 7 false "" 64, fd "Process" 24 8 false "" 88]),
    (5, .int .u8),
    (86, .slice 106),
    (143, .struct #[fd "X" 3 0 false "" 0, fd "Y" 3 1 false "" 8]),
    (22, .slice 9),
    (26, .struct #[fd "In" 3 0 false "" 0, fd "Out" 3 1 false "" 8, fd "Size" 3 2 false "" 16, fd "Values" 24 3 false "" 24]),
    (88, .struct #[fd "Inks" 22 0 false "" 0, fd "Process" 24 1 false "" 24, fd "Light" 24 2 false "" 48, fd "Gray" 26 3 false "" 72, fd "RGB" 26 7 false "" 120, fd "Spots" 86 11 false "" 168, fd "Total" 3 12 false "" 192]),
    (90, .array 8 5),
    (71, .slice 143),
    (73, .struct #[fd "Points" 71 0 false "" 0]),
    (32, .int .i64),
    (169, .pointer 88),
    (176, .pointer 106),
    (97, .array 4 5),
    (57, .slice 5),
    (122, .pointer 26),
    (4, .bool),
    (30, .struct #[fd "L" 3 0 false "" 0, fd "A" 3 1 false "" 8, fd "B" 3 2 false "" 16])],
  inf := [(3, (some (.int .i64 0), 1, 8)),
    (9, (some (.string ByteArray.empty), 1, 16)),
    (24, (some (.slice none 0 0), 1, 24)),
    (187, (some (.agg #[.int .i64 0, .int .i64 0, .int .i64 0, .int .i64 0]), 4, 32)),
    (106, (some (.agg #[.string ByteArray.empty, .int .i64 0, .int .i64 0, .int .i64 0, .int .i64 0, .int .i64 0, .int .i64 0, .slice none 0 0, .slice none 0 0]), 9, 112)),
    (5, (some (.int .u8 0), 1, 1)),
    (86, (some (.slice none 0 0), 1, 24)),
    (143, (some (.agg #[.int .i64 0, .int .i64 0]), 2, 16)),
    (22, (some (.slice none 0 0), 1, 24)),
    (26, (some (.agg #[.int .i64 0, .int .i64 0, .int .i64 0, .slice none 0 0]), 4, 48)),
    (88, (some (.agg #[.slice none 0 0, .slice none 0 0, .slice none 0 0, .int .i64 0, .int .i64 0, .int .i64 0, .slice none 0 0, .int .i64 0, .int .i64 0, .int .i64 0, .slice none 0 0, .slice none 0 0, .int .i64 0]), 13, 200)),
    (90, (some (.agg #[.int .u8 0, .int .u8 0, .int .u8 0, .int .u8 0, .int .u8 0, .int .u8 0, .int .u8 0, .int .u8 0]), 8, 8)),
    (71, (some (.slice none 0 0), 1, 24)),
    (73, (some (.agg #[.slice none 0 0]), 1, 24)),
    (32, (some (.int .i64 0), 1, 8)),
    (169, (some (.pointer none), 1, 8)),
    (176, (some (.pointer none), 1, 8)),
    (97, (some (.agg #[.int .u8 0, .int .u8 0, .int .u8 0, .int .u8 0]), 4, 4)),
    (57, (some (.slice none 0 0), 1, 24)),
    (122, (some (.pointer none), 1, 8)),
    (4, (some (.bool false), 1, 1)),
    (30, (some (.agg #[.int .i64 0, .int .i64 0, .int .i64 0]), 3, 24))],
  fld := [(106, [(0, (1, false)), (1, (3, true)), (4, (3, true)), (7, (1, true)), (8, (1, false))]),
    (143, [(0, (1, false)), (1, (1, false))]),
    (26, [(0, (1, false)), (1, (1, false)), (2, (1, false)), (3, (1, false))]),
    (88, [(0, (1, false)), (1, (1, false)), (2, (1, false)), (3, (4, true)), (7, (4, true)), (11, (1, false)), (12, (1, false))]),
    (73, [(0, (1, false))]),
    (30, [(0, (1, false)), (1, (1, false)), (2, (1, false))])],
  eqs := [(187, 4), (143, 2), (90, 8), (97, 4), (30, 3)] }
theorem conditionWorks_tab_ok : conditionWorks_tab.ok Try.prog := ⟨(by unfold conditionWorks_tab; (repeat (refine alP1 (by kernel_rfl) ?_)); exact trivial),
  (by unfold conditionWorks_tab; (repeat (refine alP1 (by kernel_rfl) ?_)); exact trivial),
  (by unfold conditionWorks_tab; (repeat (refine alP1 (by kernel_rfl) ?_)); exact trivial),
  (by unfold conditionWorks_tab; (repeat (refine alP1 ⟨by kernel_rfl, by kernel_rfl⟩ ?_)); exact trivial)⟩
noncomputable def conditionWorks_ctx : Ctx := ⟨conditionWorks_tab, [(49, Try.f49), (110, Try.f110), (120, Try.f120), (50, Try.f50), (53, Try.f53), (99, Try.f99), (98, Try.f98), (113, Try.f113), (114, Try.f114), (70, Try.f70), (101, Try.f101), (140, Try.f140), (115, Try.f115), (144, Try.f144), (72, Try.f72), (100, Try.f100), (86, Try.f86), (111, Try.f111), (125, Try.f125), (96, Try.f96), (138, Try.f138), (147, Try.f147), (118, Try.f118), (146, Try.f146), (157, Try.f157), (58, Try.f58), (117, Try.f117), (59, Try.f59), (119, Try.f119), (148, Try.f148)], [(49, 0), (110, 0), (120, 0), (50, 0), (53, 0), (99, 0), (98, 0), (113, 0), (114, 0), (70, 0), (101, 0), (140, 0), (115, 0), (144, 0), (72, 0), (100, 0), (86, 0), (111, 0), (125, 0), (96, 0), (138, 0), (147, 0), (118, 0), (146, 0), (157, 0), (58, 0), (117, 0), (59, 0), (119, 0), (148, 0)]⟩
def conditionWorks_cas : List (Nat × Nat) := [(49, 0), (110, 0), (120, 0), (50, 0), (53, 0), (99, 0), (98, 0), (113, 0), (114, 0), (70, 0), (101, 0), (140, 0), (115, 0), (144, 0), (72, 0), (100, 0), (86, 0), (111, 0), (125, 0), (96, 0), (138, 0), (147, 0), (118, 0), (146, 0), (157, 0), (58, 0), (117, 0), (59, 0), (119, 0), (148, 0)]
theorem conditionWorks_ctx_ok : conditionWorks_ctx.ok Try.prog := ⟨conditionWorks_tab_ok, ⟨Try.func49, ⟨Try.func110, ⟨Try.func120, ⟨Try.func50, ⟨Try.func53, ⟨Try.func99, ⟨Try.func98, ⟨Try.func113, ⟨Try.func114, ⟨Try.func70, ⟨Try.func101, ⟨Try.func140, ⟨Try.func115, ⟨Try.func144, ⟨Try.func72, ⟨Try.func100, ⟨Try.func86, ⟨Try.func111, ⟨Try.func125, ⟨Try.func96, ⟨Try.func138, ⟨Try.func147, ⟨Try.func118, ⟨Try.func146, ⟨Try.func157, ⟨Try.func58, ⟨Try.func117, ⟨Try.func59, ⟨Try.func119, ⟨Try.func148, trivial⟩⟩⟩⟩⟩⟩⟩⟩⟩⟩⟩⟩⟩⟩⟩⟩⟩⟩⟩⟩⟩⟩⟩⟩⟩⟩⟩⟩⟩⟩, (by unfold conditionWorks_cas; (repeat (refine alP1 (by kernel_rfl) ?_)); exact trivial : allP (fun k _ => callable Try.prog k = true) conditionWorks_cas), by kernel_rfl⟩
theorem conditionWorks_f : AF Try.prog 49 [] (.bool true) := Rn.AF.run conditionWorks_ctx_ok 1000 20 (by kernel_rfl)
def law_conditionWorks_r (_ : Nat) (_ : Unit) : Option (Bool × Unit) := some (true, ())
def law_conditionWorks_ctr : Ctr := ⟨.unit, .pair .bool .unit, law_conditionWorks_r, 49⟩
theorem law_conditionWorks_ok : CtrOk Try.prog 49 law_conditionWorks_ctr := fun _ _ y h => by
  have h : some (true, ()) = some y := h; injection h with h
  subst h; exact conditionWorks_f
end Go.Proofs.Ytjhdjjoacedlpaa
/- Residual programs of functions (printed by a program out of the code), checked by the kernel, and the contracts that follow. -/
namespace Go.Proofs.Ytjhdjjoacedlpaa
open Go Go.RowKit
set_option linter.unusedVariables false
def R_Total_l1 (fu : Nat) (a : List Int × Unit) (j0 : (Int × Int) → Option (Int × Unit)) (v0 : Int × Int) : Option (Int × Unit) :=
  bif (decide (v0.2 < (List.length a.1 : Int))) then
    bif ((decide ((0 : Int) ≤ v0.2)) && (decide (v0.2 < (List.length a.1 : Int)))) then
    let v1 : Int := (List.getD a.1 (Int.toNat v0.2) 0)
    let v2 : Int := (IntKind.i64.wrap (v0.1 + v1))
    j0 ((v2, (IntKind.i64.wrap (v0.2 + (1 : Int)))))
    else none
  else
  let v1 : Int := v0.1
  some ((v1, ()))
def R_Total_r (fu : Nat) (a : List Int × Unit) : Option (Int × Unit) :=
  loopF (R_Total_l1 fu a) fu (((0 : Int), (0 : Int)))
def R_Total_an : An := (.n none .z (.n none .z (.n none (.n none .z (.n none (.n (some ⟨[6, 7, 2], [], [], [.reg 3 (.int .i64), .reg 8 (.int .i64)], 0, []⟩) (.n none .z (.n none .z (.n none (.n none (.n none .z .z) .z) .z))) .z) .z)) (.n none .z .z))))
noncomputable def R_Total_dc : List (Nat × Ctr) := []
def R_Total_ctr : Ctr := ⟨(.pair (.list (.int .i64)) .unit), (.pair (.int .i64) .unit), R_Total_r, 145⟩
theorem R_Total_ok : CtrOk Try.prog 145 R_Total_ctr := ctr_ok (l := R_Total_dc) (f := 12) (an := R_Total_an) trivial fun fu x => by kernel_rfl
def R_Limited_l1 (fu : Nat) (a : List Int × Int × Int × Unit) (v1 : Int) (j2 : (Int × List Int) → Option (List Int × Unit)) (v2 : Int × List Int) : Option (List Int × Unit) :=
  bif (decide (v2.1 < (List.length a.1 : Int))) then
    bif ((decide ((0 : Int) ≤ v2.1)) && (decide (v2.1 < (List.length a.1 : Int)))) then
    let v3 : Int := (List.getD a.1 (Int.toNat v2.1) 0)
    let v4 : Int := v2.1
    bif (decide (v1 ≠ (0 : Int))) then
    bif ((decide ((0 : Int) ≤ v4)) && (decide (v4 < (List.length v2.2 : Int)))) then
    j2 (((IntKind.i64.wrap (v2.1 + (1 : Int))), (List.set v2.2 (Int.toNat v4) (IntKind.i64.wrap (Int.tdiv (IntKind.i64.wrap (v3 * a.2.2.1)) v1)))))
    else none
    else none
    else none
  else
  some ((v2.2, ()))
def R_Limited_j3 (fu : Nat) (j3 : (Int × List Int) → Option (List Int × Unit)) (v4 : Int × List Int) : Option (List Int × Unit) :=
  j3 (((IntKind.i64.wrap (v4.1 + (1 : Int))), v4.2))
def R_Limited_l2 (fu : Nat) (a : List Int × Int × Int × Unit) (v1 : Int) (v2 : Int) (j3 : (Int × List Int) → Option (List Int × Unit)) (v3 : Int × List Int) : Option (List Int × Unit) :=
  bif (decide (v3.1 < (List.length a.1 : Int))) then
    joinF (R_Limited_j3 fu j3) fun j4 =>
    bif ((decide ((0 : Int) ≤ v3.1)) && (decide (v3.1 < (List.length a.1 : Int)))) then
    let v5 : Int := (List.getD a.1 (Int.toNat v3.1) 0)
    let v6 : Int := v3.1
    let v7 : Bool := (decide (v6 = a.2.1))
    bif v7 then
      bif ((decide ((0 : Int) ≤ v6)) && (decide (v6 < (List.length v3.2 : Int)))) then
      j4 ((v3.1, (List.set v3.2 (Int.toNat v6) (min v2 a.2.2.1))))
      else none
    else
    let v8 : Bool := (decide (a.2.2.1 ≤ v2))
    bif v8 then
      bif ((decide ((0 : Int) ≤ v6)) && (decide (v6 < (List.length v3.2 : Int)))) then
      j4 ((v3.1, (List.set v3.2 (Int.toNat v6) (0 : Int))))
      else none
    else
    bif (decide ((IntKind.i64.wrap (v1 - v2)) ≠ (0 : Int))) then
    bif ((decide ((0 : Int) ≤ v6)) && (decide (v6 < (List.length v3.2 : Int)))) then
    j4 ((v3.1, (List.set v3.2 (Int.toNat v6) (IntKind.i64.wrap (Int.tdiv (IntKind.i64.wrap (v5 * (IntKind.i64.wrap (a.2.2.1 - v2)))) (IntKind.i64.wrap (v1 - v2)))))))
    else none
    else none
    else none
  else
  some ((v3.2, ()))
def R_Limited_r (fu : Nat) (a : List Int × Int × Int × Unit) : Option (List Int × Unit) :=
  bif (decide ((((List.length ([] : List (Int)) : Int) + (List.length a.1 : Int)) * (8 : Int)) ≤ (140737488355328 : Int))) then
  bindO (R_Total_r fu ((a.1, ()))) fun v0 =>
  let v1 : Int := v0.1
  bif (decide (v1 ≤ a.2.2.1)) then
    some (((([] : List (Int)) ++ a.1), ()))
  else
  bif (decide (a.2.1 < (0 : Int))) then
    loopF (R_Limited_l1 fu a v1) fu (((0 : Int), (([] : List (Int)) ++ a.1)))
  else
  bif ((decide ((0 : Int) ≤ a.2.1)) && (decide (a.2.1 < (List.length a.1 : Int)))) then
  let v2 : Int := (List.getD a.1 (Int.toNat a.2.1) 0)
  loopF (R_Limited_l2 fu a v1 v2) fu (((0 : Int), (([] : List (Int)) ++ a.1)))
  else none
  else none
def R_Limited_an : An := (.n none .z (.n none .z (.n none .z (.n none (.n none .z (.n none (.n none .z .z) .z)) (.n none (.n none .z (.n none (.n none (.n none .z (.n none (.n (some ⟨[7, 25, 2, 8, 26, 6], [], [], [.reg 27 (.int .i64), .row 0 false (.int .i64) 3 1], 0, []⟩) (.n none .z (.n none .z (.n none (.n none (.n none .z .z) .z) .z))) .z) .z)) (.n none .z .z)) .z)) (.n none .z (.n none (.n none .z (.n none (.n (some ⟨[7, 46, 1, 2, 8, 11, 47, 6], [], [], [.reg 48 (.int .i64), .row 0 false (.int .i64) 3 1], 0, []⟩) (.n none .z (.n none .z (.n (some ⟨[], [], [], [.reg 48 (.int .i64), .row 0 false (.int .i64) 3 1], 0, []⟩) (.n none (.n none .z (.n none (.n none .z (.n none .z (.n none .z (.n none .z .z)))) .z)) .z) .z))) .z) .z)) (.n none .z .z))))))))
noncomputable def R_Limited_dc : List (Nat × Ctr) := [(145, R_Total_ctr)]
def R_Limited_ctr : Ctr := ⟨(.pair (.list (.int .i64)) (.pair (.int .i64) (.pair (.int .i64) .unit))), (.pair (.list (.int .i64)) .unit), R_Limited_r, 116⟩
theorem R_Limited_ok : CtrOk Try.prog 116 R_Limited_ctr := ctr_ok (l := R_Limited_dc) (f := 12) (an := R_Limited_an) ⟨R_Total_ok, trivial⟩ fun fu x => by kernel_rfl
def R_Vector_l2 (fu : Nat) (v1 : List Int × Unit) (j2 : (Int × List Int) → Option ((Int × Int × Int × Int × Int × Int × Int × Int) × Unit)) (v2 : Int × List Int) : Option ((Int × Int × Int × Int × Int × Int × Int × Int) × Unit) :=
  bif (decide (v2.1 < (List.length v1.1 : Int))) then
    bif ((decide ((0 : Int) ≤ v2.1)) && (decide (v2.1 < (List.length v1.1 : Int)))) then
    let v3 : Int := (List.getD v1.1 (Int.toNat v2.1) 0)
    let v4 : Int := v2.1
    bif (((decide ((0 : Int) ≤ v4)) && (decide (v4 < (List.length v2.2 : Int)))) && (decide (v4 < (8 : Int)))) then
    j2 (((IntKind.i64.wrap (v2.1 + (1 : Int))), (List.set v2.2 (Int.toNat v4) (IntKind.u8.wrap v3))))
    else none
    else none
  else
  bif (decide ((List.length v2.2 : Int) = (8 : Int))) then
  some ((((List.getD v2.2 (Int.toNat (0 : Int)) 0), ((List.getD v2.2 (Int.toNat (1 : Int)) 0), ((List.getD v2.2 (Int.toNat (2 : Int)) 0), ((List.getD v2.2 (Int.toNat (3 : Int)) 0), ((List.getD v2.2 (Int.toNat (4 : Int)) 0), ((List.getD v2.2 (Int.toNat (5 : Int)) 0), ((List.getD v2.2 (Int.toNat (6 : Int)) 0), (List.getD v2.2 (Int.toNat (7 : Int)) 0)))))))), ()))
  else none
def R_Vector_j1 (fu : Nat) (a : (List (List UInt8) × List Int × List Int × (Int × Int × Int × List Int) × (Int × Int × Int × List Int) × List (List UInt8 × (Int × Int × Int) × (Int × Int × Int) × List (Int × Int) × List Int) × Int) × List Int × Unit) (v0 : Int) : Option ((Int × Int × Int × Int × Int × Int × Int × Int) × Unit) :=
  bindO (R_Limited_r fu ((a.2.1, (v0, (a.1.2.2.2.2.2.2, ()))))) fun v1 =>
  loopF (R_Vector_l2 fu v1) fu (((0 : Int), ([(0 : Int), (0 : Int), (0 : Int), (0 : Int), (0 : Int), (0 : Int), (0 : Int), (0 : Int)] : List Int)))
def R_Vector_r (fu : Nat) (a : (List (List UInt8) × List Int × List Int × (Int × Int × Int × List Int) × (Int × Int × Int × List Int) × List (List UInt8 × (Int × Int × Int) × (Int × Int × Int) × List (Int × Int) × List Int) × Int) × List Int × Unit) : Option ((Int × Int × Int × Int × Int × Int × Int × Int) × Unit) :=
  joinF (R_Vector_j1 fu a) fun j0 =>
  bif (decide ((List.length a.1.2.1 : Int) = (4 : Int))) then
    bif (decide ((3 : Int) < (List.length a.1.2.1 : Int))) then
    let v1 : Int := (List.getD a.1.2.1 (Int.toNat (3 : Int)) 0)
    j0 (v1)
    else none
  else
  j0 ((-1 : Int))
def R_Vector_an : An := (.n none .z (.n none .z (.n (some ⟨[1, 2, 4], [0, 1], [], [.reg 5 (.int .i64)], 0, []⟩) (.n none .z (.n none .z .z)) (.n none .z (.n none (.n none .z (.n none (.n (some ⟨[6, 21, 22], [], [], [.reg 23 (.int .i64), .row 2 true (.int .u8) 90 0], 0, []⟩) (.n none .z (.n none .z (.n none (.n none (.n none .z .z) .z) .z))) .z) .z)) (.n none .z .z))))))
noncomputable def R_Vector_dc : List (Nat × Ctr) := [(116, R_Limited_ctr)]
def R_Vector_ctr : Ctr := ⟨(.pair (.agg (.pair (.list .str) (.pair (.list (.int .i64)) (.pair (.list (.int .i64)) (.pair (.pair (.int .i64) (.pair (.int .i64) (.pair (.int .i64) (.list (.int .i64))))) (.pair (.pair (.int .i64) (.pair (.int .i64) (.pair (.int .i64) (.list (.int .i64))))) (.pair (.list (.pair .str (.pair (.pair (.int .i64) (.pair (.int .i64) (.int .i64))) (.pair (.pair (.int .i64) (.pair (.int .i64) (.int .i64))) (.pair (.list (.pair (.int .i64) (.int .i64))) (.list (.int .i64))))))) (.int .i64)))))))) (.pair (.list (.int .i64)) .unit)), (.pair (.agg (.pair (.int .u8) (.pair (.int .u8) (.pair (.int .u8) (.pair (.int .u8) (.pair (.int .u8) (.pair (.int .u8) (.pair (.int .u8) (.int .u8))))))))) .unit), R_Vector_r, 54⟩
theorem R_Vector_ok : CtrOk Try.prog 54 R_Vector_ctr := ctr_ok (l := R_Vector_dc) (f := 12) (an := R_Vector_an) ⟨R_Limited_ok, trivial⟩ fun fu x => by kernel_rfl
def R_Floor_j1 (fu : Nat) (v1 : Int) : Option (Int × Unit) :=
  some ((v1, ()))
def R_Floor_r (fu : Nat) (a : Int × Int × Unit) : Option (Int × Unit) :=
  bif (decide (a.2.1 ≠ (0 : Int))) then
  let v0 : Int := (IntKind.i64.wrap (Int.tdiv a.1 a.2.1))
  joinF (R_Floor_j1 fu) fun j1 =>
  bif (decide (a.1 < (IntKind.i64.wrap (v0 * a.2.1)))) then
    let v2 : Int := (IntKind.i64.wrap (v0 - (1 : Int)))
    j1 (v2)
  else
  j1 (v0)
  else none
def R_Floor_an : An := (.n none .z (.n none .z (.n (some ⟨[], [], [], [.reg 5 (.int .i64)], 0, []⟩) (.n none .z (.n none .z .z)) (.n none .z .z))))
noncomputable def R_Floor_dc : List (Nat × Ctr) := []
def R_Floor_ctr : Ctr := ⟨(.pair (.int .i64) (.pair (.int .i64) .unit)), (.pair (.int .i64) .unit), R_Floor_r, 103⟩
theorem R_Floor_ok : CtrOk Try.prog 103 R_Floor_ctr := ctr_ok (l := R_Floor_dc) (f := 12) (an := R_Floor_an) trivial fun fu x => by kernel_rfl
def R_Round_j1 (fu : Nat) (v2 : Int) : Option (Int × Unit) :=
  some ((v2, ()))
def R_Round_r (fu : Nat) (a : Int × Int × Unit) : Option (Int × Unit) :=
  bindO (R_Floor_r fu ((a.1, (a.2.1, ())))) fun v0 =>
  let v1 : Int := v0.1
  joinF (R_Round_j1 fu) fun j2 =>
  bif (decide (a.2.1 ≤ (IntKind.i64.wrap ((2 : Int) * (IntKind.i64.wrap (a.1 - (IntKind.i64.wrap (v1 * a.2.1)))))))) then
    let v3 : Int := (IntKind.i64.wrap (v1 + (1 : Int)))
    j2 (v3)
  else
  j2 (v1)
def R_Round_an : An := (.n none .z (.n none .z (.n (some ⟨[], [], [], [.reg 5 (.int .i64)], 0, []⟩) (.n none .z (.n none .z .z)) (.n none .z .z))))
noncomputable def R_Round_dc : List (Nat × Ctr) := [(103, R_Floor_ctr)]
def R_Round_ctr : Ctr := ⟨(.pair (.int .i64) (.pair (.int .i64) .unit)), (.pair (.int .i64) .unit), R_Round_r, 84⟩
theorem R_Round_ok : CtrOk Try.prog 84 R_Round_ctr := ctr_ok (l := R_Round_dc) (f := 12) (an := R_Round_an) ⟨R_Floor_ok, trivial⟩ fun fu x => by kernel_rfl
def R_CurveAt_l1 (fu : Nat) (a : List (Int × Int) × Int × Unit) (j0 : (Int) → Option (Int × Unit)) (v0 : Int) : Option (Int × Unit) :=
  bif (decide (v0 < (List.length a.1 : Int))) then
    bif ((decide ((0 : Int) ≤ (IntKind.i64.wrap (v0 - (1 : Int))))) && (decide ((IntKind.i64.wrap (v0 - (1 : Int))) < (List.length a.1 : Int)))) then
    let v1 : Int × Int := (List.getD a.1 (Int.toNat (IntKind.i64.wrap (v0 - (1 : Int)))) (0, 0))
    bif ((decide ((0 : Int) ≤ v0)) && (decide (v0 < (List.length a.1 : Int)))) then
    let v2 : Int × Int := (List.getD a.1 (Int.toNat v0) (0, 0))
    bif (decide (a.2.1 ≤ v2.1)) then
      bindO (R_Round_r fu (((IntKind.i64.wrap ((IntKind.i64.wrap (v1.2 * (IntKind.i64.wrap (v2.1 - a.2.1)))) + (IntKind.i64.wrap (v2.2 * (IntKind.i64.wrap (a.2.1 - v1.1)))))), ((IntKind.i64.wrap (v2.1 - v1.1)), ())))) fun v3 =>
      let v4 : Int := v3.1
      some ((v4, ()))
    else
    let v3 : Int := (IntKind.i64.wrap (v0 + (1 : Int)))
    j0 (v3)
    else none
    else none
  else
  some (((-1 : Int), ()))
def R_CurveAt_r (fu : Nat) (a : List (Int × Int) × Int × Unit) : Option (Int × Unit) :=
  loopF (R_CurveAt_l1 fu a) fu ((1 : Int))
def R_CurveAt_an : An := (.n none .z (.n none (.n none .z (.n none (.n (some ⟨[2, 1], [0], [], [.reg 5 (.int .i64)], 0, []⟩) (.n none (.n none .z .z) (.n none (.n none (.n none (.dr [] []) (.n none .z (.n none (.n none .z .z) .z))) .z) .z)) .z) .z)) (.n none .z .z)))
noncomputable def R_CurveAt_dc : List (Nat × Ctr) := [(84, R_Round_ctr)]
def R_CurveAt_ctr : Ctr := ⟨(.pair (.agg (.list (.pair (.int .i64) (.int .i64)))) (.pair (.int .i64) .unit)), (.pair (.int .i64) .unit), R_CurveAt_r, 42⟩
theorem R_CurveAt_ok : CtrOk Try.prog 42 R_CurveAt_ctr := ctr_ok (l := R_CurveAt_dc) (f := 12) (an := R_CurveAt_an) ⟨R_Round_ok, trivial⟩ fun fu x => by kernel_rfl
def R_SpotProcess_l1 (fu : Nat) (a : (List UInt8 × (Int × Int × Int) × (Int × Int × Int) × List (Int × Int) × List Int) × Int × Unit) (j0 : (Int × List Int) → Option (List Int × Unit)) (v0 : Int × List Int) : Option (List Int × Unit) :=
  bif (decide (v0.1 < (List.length a.1.2.2.2.2 : Int))) then
    bif ((decide ((0 : Int) ≤ v0.1)) && (decide (v0.1 < (List.length a.1.2.2.2.2 : Int)))) then
    let v1 : Int := (List.getD a.1.2.2.2.2 (Int.toNat v0.1) 0)
    bindO (R_CurveAt_r fu ((a.1.2.2.2.1, ((IntKind.i64.wrap ((256 : Int) * a.2.1)), ())))) fun v2 =>
    bindO (R_Round_r fu (((IntKind.i64.wrap (v1 * v2.1)), ((65280 : Int), ())))) fun v3 =>
    bif (decide ((((List.length v0.2 : Int) + (List.length ([v3.1] : List Int) : Int)) * (8 : Int)) ≤ (140737488355328 : Int))) then
    j0 (((IntKind.i64.wrap (v0.1 + (1 : Int))), (v0.2 ++ ([v3.1] : List Int))))
    else none
    else none
  else
  some ((v0.2, ()))
def R_SpotProcess_r (fu : Nat) (a : (List UInt8 × (Int × Int × Int) × (Int × Int × Int) × List (Int × Int) × List Int) × Int × Unit) : Option (List Int × Unit) :=
  loopF (R_SpotProcess_l1 fu a) fu (((0 : Int), ([] : List (Int))))
def R_SpotProcess_an : An := (.n none .z (.n none .z (.n none (.n none .z (.n none (.n (some ⟨[9, 2, 1, 10, 4], [0], [(5, (.osl 1 0))], [.reg 11 (.int .i64), .row 1 true (.int .i64) 3 0], 1, [(5, (.int .i64), 3)]⟩) (.n none .z (.n none .z (.n none (.n none (.n none .z .z) .z) .z))) .z) .z)) (.n none .z .z))))
noncomputable def R_SpotProcess_dc : List (Nat × Ctr) := [(42, R_CurveAt_ctr), (84, R_Round_ctr)]
def R_SpotProcess_ctr : Ctr := ⟨(.pair (.agg (.pair .str (.pair (.pair (.int .i64) (.pair (.int .i64) (.int .i64))) (.pair (.pair (.int .i64) (.pair (.int .i64) (.int .i64))) (.pair (.list (.pair (.int .i64) (.int .i64))) (.list (.int .i64))))))) (.pair (.int .i64) .unit)), (.pair (.list (.int .i64)) .unit), R_SpotProcess_r, 62⟩
theorem R_SpotProcess_ok : CtrOk Try.prog 62 R_SpotProcess_ctr := ctr_ok (l := R_SpotProcess_dc) (f := 12) (an := R_SpotProcess_an) ⟨R_CurveAt_ok, ⟨R_Round_ok, trivial⟩⟩ fun fu x => by kernel_rfl
def law_none_r (fu : Nat) (a : Bool × Int × Int × Unit) : Option (Bool × Unit) :=
  bif a.1 then
    let v0 : Bool := (decide (a.2.1 = a.2.2.1))
    some ((v0, ()))
  else
  some ((false, ()))
def law_none_an : An := (.n none .z (.n none .z .z))
noncomputable def law_none_dc : List (Nat × Ctr) := []
def law_none_ctr : Ctr := ⟨(.pair .bool (.pair (.int .i64) (.pair (.int .i64) .unit))), (.pair .bool .unit), law_none_r, 20⟩
theorem law_none_ok : CtrOk Try.prog 20 law_none_ctr := ctr_ok (l := law_none_dc) (f := 12) (an := law_none_an) trivial fun fu x => by kernel_rfl
def R_SpotAt_l1 (fu : Nat) (a : List (List UInt8 × (Int × Int × Int) × (Int × Int × Int) × List (Int × Int) × List Int) × List UInt8 × Unit) (j1 : (Int) → Option (Int × Unit)) (v1 : Int) : Option (Int × Unit) :=
  bif (decide ((0 : Int) ≤ v1)) then
    bif ((decide ((0 : Int) ≤ v1)) && (decide (v1 < (List.length a.1 : Int)))) then
    let v2 : List UInt8 × (Int × Int × Int) × (Int × Int × Int) × List (Int × Int) × List Int := (List.getD a.1 (Int.toNat v1) ([], ((0, (0, 0)), ((0, (0, 0)), ([], [])))))
    bif (decide (v2.1 = a.2.1)) then
      some ((v1, ()))
    else
    let v3 : Int := (IntKind.i64.wrap (v1 - (1 : Int)))
    j1 (v3)
    else none
  else
  some (((-1 : Int), ()))
def R_SpotAt_r (fu : Nat) (a : List (List UInt8 × (Int × Int × Int) × (Int × Int × Int) × List (Int × Int) × List Int) × List UInt8 × Unit) : Option (Int × Unit) :=
  let v0 : Int := (IntKind.i64.wrap ((List.length a.1 : Int) - (1 : Int)))
  loopF (R_SpotAt_l1 fu a) fu (v0)
def R_SpotAt_an : An := (.n none .z (.n none (.n none .z (.n none (.n (some ⟨[0, 1], [], [], [.reg 5 (.int .i64)], 0, []⟩) (.n none (.n none .z .z) (.n none (.n none (.n none .z (.n none (.n none .z .z) .z)) .z) .z)) .z) .z)) (.n none .z .z)))
noncomputable def R_SpotAt_dc : List (Nat × Ctr) := []
def R_SpotAt_ctr : Ctr := ⟨(.pair (.list (.pair .str (.pair (.pair (.int .i64) (.pair (.int .i64) (.int .i64))) (.pair (.pair (.int .i64) (.pair (.int .i64) (.int .i64))) (.pair (.list (.pair (.int .i64) (.int .i64))) (.list (.int .i64))))))) (.pair .str .unit)), (.pair (.int .i64) .unit), R_SpotAt_r, 61⟩
theorem R_SpotAt_ok : CtrOk Try.prog 61 R_SpotAt_ctr := ctr_ok (l := R_SpotAt_dc) (f := 12) (an := R_SpotAt_an) trivial fun fu x => by kernel_rfl
def R_SameTexts_l1 (fu : Nat) (a : List (List UInt8) × List (List UInt8) × Unit) (j0 : (Int) → Option (Bool × Unit)) (v0 : Int) : Option (Bool × Unit) :=
  bif (decide (v0 < (List.length a.1 : Int))) then
    bif ((decide ((0 : Int) ≤ v0)) && (decide (v0 < (List.length a.1 : Int)))) then
    let v1 : List UInt8 := (List.getD a.1 (Int.toNat v0) [])
    bif ((decide ((0 : Int) ≤ v0)) && (decide (v0 < (List.length a.2.1 : Int)))) then
    let v2 : List UInt8 := (List.getD a.2.1 (Int.toNat v0) [])
    bif (!(decide (v1 = v2))) then
      some ((false, ()))
    else
    j0 ((IntKind.i64.wrap (v0 + (1 : Int))))
    else none
    else none
  else
  some ((true, ()))
def R_SameTexts_r (fu : Nat) (a : List (List UInt8) × List (List UInt8) × Unit) : Option (Bool × Unit) :=
  bif (decide ((List.length a.1 : Int) ≠ (List.length a.2.1 : Int))) then
    some ((false, ()))
  else
  loopF (R_SameTexts_l1 fu a) fu ((0 : Int))
def R_SameTexts_an : An := (.n none .z (.n none (.n none .z (.n none (.n none .z .z) .z)) (.n none (.n none .z (.n none (.n (some ⟨[0, 1, 12], [], [], [.reg 13 (.int .i64)], 0, []⟩) (.n none .z (.n none .z (.n none (.n none (.n none .z (.n none (.dr [] []) (.n none (.n none .z .z) .z))) .z) .z))) .z) .z)) (.n none .z .z))))
noncomputable def R_SameTexts_dc : List (Nat × Ctr) := []
def R_SameTexts_ctr : Ctr := ⟨(.pair (.list .str) (.pair (.list .str) .unit)), (.pair .bool .unit), R_SameTexts_r, 60⟩
theorem R_SameTexts_ok : CtrOk Try.prog 60 R_SameTexts_ctr := ctr_ok (l := R_SameTexts_dc) (f := 12) (an := R_SameTexts_an) trivial fun fu x => by kernel_rfl
def R_SameInts_l1 (fu : Nat) (a : List Int × List Int × Unit) (j0 : (Int) → Option (Bool × Unit)) (v0 : Int) : Option (Bool × Unit) :=
  bif (decide (v0 < (List.length a.1 : Int))) then
    bif ((decide ((0 : Int) ≤ v0)) && (decide (v0 < (List.length a.1 : Int)))) then
    let v1 : Int := (List.getD a.1 (Int.toNat v0) 0)
    bif ((decide ((0 : Int) ≤ v0)) && (decide (v0 < (List.length a.2.1 : Int)))) then
    let v2 : Int := (List.getD a.2.1 (Int.toNat v0) 0)
    bif (decide (v1 ≠ v2)) then
      some ((false, ()))
    else
    j0 ((IntKind.i64.wrap (v0 + (1 : Int))))
    else none
    else none
  else
  some ((true, ()))
def R_SameInts_r (fu : Nat) (a : List Int × List Int × Unit) : Option (Bool × Unit) :=
  bif (decide ((List.length a.1 : Int) ≠ (List.length a.2.1 : Int))) then
    some ((false, ()))
  else
  loopF (R_SameInts_l1 fu a) fu ((0 : Int))
def R_SameInts_an : An := (.n none .z (.n none (.n none .z (.n none (.n none .z .z) .z)) (.n none (.n none .z (.n none (.n (some ⟨[0, 1, 12], [], [], [.reg 13 (.int .i64)], 0, []⟩) (.n none .z (.n none .z (.n none (.n none (.n none .z (.n none (.dr [] []) (.n none (.n none .z .z) .z))) .z) .z))) .z) .z)) (.n none .z .z))))
noncomputable def R_SameInts_dc : List (Nat × Ctr) := []
def R_SameInts_ctr : Ctr := ⟨(.pair (.list (.int .i64)) (.pair (.list (.int .i64)) .unit)), (.pair .bool .unit), R_SameInts_r, 31⟩
theorem R_SameInts_ok : CtrOk Try.prog 31 R_SameInts_ctr := ctr_ok (l := R_SameInts_dc) (f := 12) (an := R_SameInts_an) trivial fun fu x => by kernel_rfl
def R_Within_r (fu : Nat) (a : Int × Int × Int × Unit) : Option (Bool × Unit) :=
  bif (decide (a.2.1 ≤ a.1)) then
    let v0 : Bool := (decide (a.1 ≤ a.2.2.1))
    some ((v0, ()))
  else
  some ((false, ()))
def R_Within_an : An := (.n none .z (.n none .z .z))
noncomputable def R_Within_dc : List (Nat × Ctr) := []
def R_Within_ctr : Ctr := ⟨(.pair (.int .i64) (.pair (.int .i64) (.pair (.int .i64) .unit))), (.pair .bool .unit), R_Within_r, 79⟩
theorem R_Within_ok : CtrOk Try.prog 79 R_Within_ctr := ctr_ok (l := R_Within_dc) (f := 12) (an := R_Within_an) trivial fun fu x => by kernel_rfl
def R_TonesErr_l1 (fu : Nat) (a : List Int × Int × Int × Unit) (j0 : (Int) → Option (Int × Unit)) (v0 : Int) : Option (Int × Unit) :=
  bif (decide (v0 < (List.length a.1 : Int))) then
    bif ((decide ((0 : Int) ≤ v0)) && (decide (v0 < (List.length a.1 : Int)))) then
    let v1 : Int := (List.getD a.1 (Int.toNat v0) 0)
    bindO (R_Within_r fu ((v1, ((0 : Int), (a.2.2.1, ()))))) fun v2 =>
    bif (!v2.1) then
      some (((3 : Int), ()))
    else
    j0 ((IntKind.i64.wrap (v0 + (1 : Int))))
    else none
  else
  some (((0 : Int), ()))
def R_TonesErr_r (fu : Nat) (a : List Int × Int × Int × Unit) : Option (Int × Unit) :=
  bif (decide ((List.length a.1 : Int) ≠ a.2.1)) then
    some (((4 : Int), ()))
  else
  loopF (R_TonesErr_l1 fu a) fu ((0 : Int))
def R_TonesErr_an : An := (.n none .z (.n none (.n none .z (.n none (.n none .z .z) .z)) (.n none (.n none .z (.n none (.n (some ⟨[13, 2, 14], [], [], [.reg 15 (.int .i64)], 0, []⟩) (.n none .z (.n none .z (.n none (.n none (.n none .z (.n none .z (.n none (.n none .z .z) .z))) .z) .z))) .z) .z)) (.n none .z .z))))
noncomputable def R_TonesErr_dc : List (Nat × Ctr) := [(79, R_Within_ctr)]
def R_TonesErr_ctr : Ctr := ⟨(.pair (.list (.int .i64)) (.pair (.int .i64) (.pair (.int .i64) .unit))), (.pair (.int .i64) .unit), R_TonesErr_r, 41⟩
theorem R_TonesErr_ok : CtrOk Try.prog 41 R_TonesErr_ctr := ctr_ok (l := R_TonesErr_dc) (f := 12) (an := R_TonesErr_an) ⟨R_Within_ok, trivial⟩ fun fu x => by kernel_rfl
def R_CurveErr_j3 (fu : Nat) (v0 : Int × Int × Int) (v1 : Int × Int) (j0 : (Int × Int × Int) → Option (Int × Unit)) (v3 : Bool) : Option (Int × Unit) :=
  bif v3 then
    some (((18 : Int), ()))
  else
  let v4 : Int := v1.1
  let v5 : Int := v1.2
  j0 ((v4, (v5, (IntKind.i64.wrap (v0.2.2 + (1 : Int))))))
def R_CurveErr_j2 (fu : Nat) (v0 : Int × Int × Int) (v1 : Int × Int) (j0 : (Int × Int × Int) → Option (Int × Unit)) (v2 : Bool) : Option (Int × Unit) :=
  bif v2 then
    some (((3 : Int), ()))
  else
  joinF (R_CurveErr_j3 fu v0 v1 j0) fun j3 =>
  bif (decide (v1.1 ≤ v0.1)) then
    j3 (true)
  else
  j3 ((decide (v1.2 < v0.2.1)))
def R_CurveErr_j4 (fu : Nat) (v1 : Bool) : Option (Int × Unit) :=
  bif v1 then
    some (((4 : Int), ()))
  else
  some (((0 : Int), ()))
def R_CurveErr_l1 (fu : Nat) (a : List (Int × Int) × Unit) (j0 : (Int × Int × Int) → Option (Int × Unit)) (v0 : Int × Int × Int) : Option (Int × Unit) :=
  bif (decide (v0.2.2 < (List.length a.1 : Int))) then
    bif ((decide ((0 : Int) ≤ v0.2.2)) && (decide (v0.2.2 < (List.length a.1 : Int)))) then
    let v1 : Int × Int := (List.getD a.1 (Int.toNat v0.2.2) (0, 0))
    joinF (R_CurveErr_j2 fu v0 v1 j0) fun j2 =>
    bindO (R_Within_r fu ((v1.1, ((0 : Int), ((65280 : Int), ()))))) fun v3 =>
    bif (!v3.1) then
      j2 (true)
    else
    bindO (R_Within_r fu ((v1.2, ((0 : Int), ((65280 : Int), ()))))) fun v4 =>
    j2 ((!v4.1))
    else none
  else
  joinF (R_CurveErr_j4 fu) fun j1 =>
  bif (decide ((0 : Int) < (List.length a.1 : Int))) then
  let v2 : Int × Int := (List.getD a.1 (Int.toNat (0 : Int)) (0, 0))
  bif (decide (v2.1 ≠ (0 : Int))) then
    j1 (true)
  else
  j1 ((decide (v0.1 ≠ (65280 : Int))))
  else none
def R_CurveErr_r (fu : Nat) (a : List (Int × Int) × Unit) : Option (Int × Unit) :=
  bif (decide ((33 : Int) < (List.length a.1 : Int))) then
    some (((2 : Int), ()))
  else
  bif (decide ((List.length a.1 : Int) < (2 : Int))) then
    some (((1 : Int), ()))
  else
  loopF (R_CurveErr_l1 fu a) fu (((-1 : Int), ((0 : Int), (0 : Int))))
def R_CurveErr_an : An := (.n none .z (.n none (.n none .z (.n none (.n none .z .z) .z)) (.n none (.n none .z (.n none (.n none .z .z) .z)) (.n none .z (.n none (.n none .z (.n none (.n (some ⟨[1, 16, 17], [0], [], [.reg 3 (.int .i64), .reg 4 (.int .i64), .reg 18 (.int .i64)], 0, []⟩) (.n none .z (.n none .z (.n none (.n none (.n none .z (.n none (.n (some ⟨[3, 4, 6, 18], [1], [], [.reg 31 .bool], 0, []⟩) .z (.n none (.n none .z .z) .z)) (.n none (.n (some ⟨[6, 18, 4, 3], [1], [], [.reg 41 .bool], 0, []⟩) .z (.n none (.n none .z .z) .z)) (.dr [] [])))) .z) .z))) .z) .z)) (.n none (.n (some ⟨[], [0], [], [.reg 56 .bool], 0, []⟩) .z (.n none (.n none .z .z) .z)) (.n none .z .z)))))))
noncomputable def R_CurveErr_dc : List (Nat × Ctr) := [(79, R_Within_ctr)]
def R_CurveErr_ctr : Ctr := ⟨(.pair (.agg (.list (.pair (.int .i64) (.int .i64)))) .unit), (.pair (.int .i64) .unit), R_CurveErr_r, 77⟩
theorem R_CurveErr_ok : CtrOk Try.prog 77 R_CurveErr_ctr := ctr_ok (l := R_CurveErr_dc) (f := 12) (an := R_CurveErr_an) ⟨R_Within_ok, trivial⟩ fun fu x => by kernel_rfl
def R_LabErr_j1 (fu : Nat) (v0 : Bool) : Option (Int × Unit) :=
  bif v0 then
    some (((3 : Int), ()))
  else
  some (((0 : Int), ()))
def R_LabErr_r (fu : Nat) (a : (Int × Int × Int) × Unit) : Option (Int × Unit) :=
  joinF (R_LabErr_j1 fu) fun j0 =>
  bindO (R_Within_r fu ((a.1.1, ((0 : Int), ((10000 : Int), ()))))) fun v1 =>
  bif (!v1.1) then
    j0 (true)
  else
  bindO (R_Within_r fu ((a.1.2.1, ((-12800 : Int), ((12800 : Int), ()))))) fun v2 =>
  bif (!v2.1) then
    j0 (true)
  else
  bindO (R_Within_r fu ((a.1.2.2, ((-12800 : Int), ((12800 : Int), ()))))) fun v3 =>
  j0 ((!v3.1))
def R_LabErr_an : An := (.n none .z (.n none (.n (some ⟨[], [0], [], [.reg 18 .bool], 0, []⟩) .z (.n none (.n none .z .z) .z)) (.n none .z .z)))
noncomputable def R_LabErr_dc : List (Nat × Ctr) := [(79, R_Within_ctr)]
def R_LabErr_ctr : Ctr := ⟨(.pair (.agg (.pair (.int .i64) (.pair (.int .i64) (.int .i64)))) .unit), (.pair (.int .i64) .unit), R_LabErr_r, 18⟩
theorem R_LabErr_ok : CtrOk Try.prog 18 R_LabErr_ctr := ctr_ok (l := R_LabErr_dc) (f := 12) (an := R_LabErr_an) ⟨R_Within_ok, trivial⟩ fun fu x => by kernel_rfl
def R_Name_j4 (fu : Nat) (v1 : Int) (j1 : (Int) → Option (Bool × Unit)) (v3 : Bool) : Option (Bool × Unit) :=
  bif v3 then
    some ((false, ()))
  else
  j1 ((IntKind.i64.wrap (v1 + (1 : Int))))
def R_Name_j3 (fu : Nat) (a : List UInt8 × Unit) (v1 : Int) (j1 : (Int) → Option (Bool × Unit)) (v2 : Bool) : Option (Bool × Unit) :=
  joinF (R_Name_j4 fu v1 j1) fun j3 =>
  bif (!v2) then
    bif (decide (v1 = (0 : Int))) then
      j3 (true)
    else
    bif ((decide ((0 : Int) ≤ v1)) && (decide (v1 < (List.length a.1 : Int)))) then
    bif (decide (((List.getD a.1 (Int.toNat v1) 0).toNat : Int) ≠ (45 : Int))) then
      bif ((decide ((0 : Int) ≤ v1)) && (decide (v1 < (List.length a.1 : Int)))) then
      bif (decide (((List.getD a.1 (Int.toNat v1) 0).toNat : Int) < (48 : Int))) then
        j3 (true)
      else
      bif ((decide ((0 : Int) ≤ v1)) && (decide (v1 < (List.length a.1 : Int)))) then
      j3 ((decide ((57 : Int) < ((List.getD a.1 (Int.toNat v1) 0).toNat : Int))))
      else none
      else none
    else
    j3 (false)
    else none
  else
  j3 (false)
def R_Name_l2 (fu : Nat) (a : List UInt8 × Unit) (j1 : (Int) → Option (Bool × Unit)) (v1 : Int) : Option (Bool × Unit) :=
  bif (decide (v1 < (List.length a.1 : Int))) then
    joinF (R_Name_j3 fu a v1 j1) fun j2 =>
    bif ((decide ((0 : Int) ≤ v1)) && (decide (v1 < (List.length a.1 : Int)))) then
    bif (decide ((97 : Int) ≤ ((List.getD a.1 (Int.toNat v1) 0).toNat : Int))) then
      bif ((decide ((0 : Int) ≤ v1)) && (decide (v1 < (List.length a.1 : Int)))) then
      let v3 : Bool := (decide (((List.getD a.1 (Int.toNat v1) 0).toNat : Int) ≤ (122 : Int)))
      j2 (v3)
      else none
    else
    j2 (false)
    else none
  else
  some ((true, ()))
def R_Name_j1 (fu : Nat) (a : List UInt8 × Unit) (v0 : Bool) : Option (Bool × Unit) :=
  bif v0 then
    some ((false, ()))
  else
  loopF (R_Name_l2 fu a) fu ((0 : Int))
def R_Name_r (fu : Nat) (a : List UInt8 × Unit) : Option (Bool × Unit) :=
  joinF (R_Name_j1 fu a) fun j0 =>
  bif (decide ((List.length a.1 : Int) < (1 : Int))) then
    j0 (true)
  else
  j0 ((decide ((16 : Int) < (List.length a.1 : Int))))
def R_Name_an : An := (.n none .z (.n none (.n (some ⟨[0], [], [], [.reg 12 .bool], 0, []⟩) .z (.n none (.n none .z .z) .z)) (.n none (.n none .z (.n none (.n (some ⟨[0, 14], [], [], [.reg 15 (.int .i64)], 0, []⟩) (.n none .z (.n none .z (.n none (.n none (.n none .z (.n (some ⟨[3, 15], [], [], [.reg 4 .bool], 0, []⟩) .z (.n (some ⟨[], [], [], [.reg 51 .bool], 0, []⟩) .z (.n none (.n none .z .z) .z)))) .z) .z))) .z) .z)) (.n none .z .z))))
noncomputable def R_Name_dc : List (Nat × Ctr) := []
def R_Name_ctr : Ctr := ⟨(.pair .str .unit), (.pair .bool .unit), R_Name_r, 75⟩
theorem R_Name_ok : CtrOk Try.prog 75 R_Name_ctr := ctr_ok (l := R_Name_dc) (f := 12) (an := R_Name_an) trivial fun fu x => by kernel_rfl
def R_SpotErr_j1 (fu : Nat) (a : (List UInt8 × (Int × Int × Int) × (Int × Int × Int) × List (Int × Int) × List Int) × Unit) (v1 : Bool) : Option (Int × Unit) :=
  bif v1 then
    some (((3 : Int), ()))
  else
  bindO (R_CurveErr_r fu ((a.1.2.2.2.1, ()))) fun v2 =>
  let v3 : Int := v2.1
  bif (decide (v3 ≠ (0 : Int))) then
    some ((v3, ()))
  else
  bif (decide ((8 : Int) < (List.length a.1.2.2.2.2 : Int))) then
    some (((2 : Int), ()))
  else
  bindO (R_TonesErr_r fu ((a.1.2.2.2.2, ((List.length a.1.2.2.2.2 : Int), ((255 : Int), ()))))) fun v4 =>
  let v5 : Int := v4.1
  some ((v5, ()))
def R_SpotErr_r (fu : Nat) (a : (List UInt8 × (Int × Int × Int) × (Int × Int × Int) × List (Int × Int) × List Int) × Unit) : Option (Int × Unit) :=
  bindO (R_Name_r fu ((a.1.1, ()))) fun v0 =>
  bif (!v0.1) then
    some (((6 : Int), ()))
  else
  joinF (R_SpotErr_j1 fu a) fun j1 =>
  bindO (R_LabErr_r fu ((a.1.2.1, ()))) fun v2 =>
  bif (decide (v2.1 ≠ (0 : Int))) then
    j1 (true)
  else
  bindO (R_LabErr_r fu ((a.1.2.2.1, ()))) fun v3 =>
  j1 ((decide (v3.1 ≠ (0 : Int))))
def R_SpotErr_an : An := (.n none .z (.n none (.n none .z (.n none (.n none .z .z) .z)) (.n none (.n (some ⟨[1], [0], [], [.reg 17 .bool], 0, []⟩) .z (.n none (.n none .z .z) .z)) (.n none (.n none .z (.n none .z (.n none (.n none .z .z) .z))) (.n none (.n none .z (.n none (.n none .z .z) .z)) (.n none .z .z))))))
noncomputable def R_SpotErr_dc : List (Nat × Ctr) := [(18, R_LabErr_ctr), (41, R_TonesErr_ctr), (75, R_Name_ctr), (77, R_CurveErr_ctr)]
def R_SpotErr_ctr : Ctr := ⟨(.pair (.agg (.pair .str (.pair (.pair (.int .i64) (.pair (.int .i64) (.int .i64))) (.pair (.pair (.int .i64) (.pair (.int .i64) (.int .i64))) (.pair (.list (.pair (.int .i64) (.int .i64))) (.list (.int .i64))))))) .unit), (.pair (.int .i64) .unit), R_SpotErr_r, 143⟩
theorem R_SpotErr_ok : CtrOk Try.prog 143 R_SpotErr_ctr := ctr_ok (l := R_SpotErr_dc) (f := 12) (an := R_SpotErr_an) ⟨R_LabErr_ok, ⟨R_TonesErr_ok, ⟨R_Name_ok, ⟨R_CurveErr_ok, trivial⟩⟩⟩⟩ fun fu x => by kernel_rfl
def R_SpotsErr_l1 (fu : Nat) (a : List (List UInt8 × (Int × Int × Int) × (Int × Int × Int) × List (Int × Int) × List Int) × Unit) (j0 : (Int) → Option (Int × Unit)) (v0 : Int) : Option (Int × Unit) :=
  bif (decide (v0 < (List.length a.1 : Int))) then
    bif ((decide ((0 : Int) ≤ v0)) && (decide (v0 < (List.length a.1 : Int)))) then
    let v1 : List UInt8 × (Int × Int × Int) × (Int × Int × Int) × List (Int × Int) × List Int := (List.getD a.1 (Int.toNat v0) ([], ((0, (0, 0)), ((0, (0, 0)), ([], [])))))
    bindO (R_SpotErr_r fu ((v1, ()))) fun v2 =>
    let v3 : Int := v2.1
    bif (decide (v3 ≠ (0 : Int))) then
      some ((v3, ()))
    else
    bif ((decide ((0 : Int) ≤ v0)) && (decide (v0 ≤ (List.length a.1 : Int)))) then
    bindO (R_SpotAt_r fu (((List.drop (Int.toNat (0 : Int)) (List.take (Int.toNat v0) a.1)), (v1.1, ())))) fun v4 =>
    bif (decide ((0 : Int) ≤ v4.1)) then
      some (((7 : Int), ()))
    else
    j0 ((IntKind.i64.wrap (v0 + (1 : Int))))
    else none
    else none
  else
  some (((0 : Int), ()))
def R_SpotsErr_r (fu : Nat) (a : List (List UInt8 × (Int × Int × Int) × (Int × Int × Int) × List (Int × Int) × List Int) × Unit) : Option (Int × Unit) :=
  bif (decide ((40 : Int) < (List.length a.1 : Int))) then
    some (((2 : Int), ()))
  else
  loopF (R_SpotsErr_l1 fu a) fu ((0 : Int))
def R_SpotsErr_an : An := (.n none .z (.n none (.n none .z (.n none (.n none .z .z) .z)) (.n none (.n none .z (.n none (.n (some ⟨[9, 0, 10], [], [], [.reg 11 (.int .i64)], 0, []⟩) (.n none .z (.n none .z (.n none (.n none (.n none .z (.n none (.n none .z (.n none .z (.n none (.n none .z .z) .z))) (.n none (.dr [] []) (.n none (.n none .z .z) .z)))) .z) .z))) .z) .z)) (.n none .z .z))))
noncomputable def R_SpotsErr_dc : List (Nat × Ctr) := [(61, R_SpotAt_ctr), (143, R_SpotErr_ctr)]
def R_SpotsErr_ctr : Ctr := ⟨(.pair (.list (.pair .str (.pair (.pair (.int .i64) (.pair (.int .i64) (.int .i64))) (.pair (.pair (.int .i64) (.pair (.int .i64) (.int .i64))) (.pair (.list (.pair (.int .i64) (.int .i64))) (.list (.int .i64))))))) .unit), (.pair (.int .i64) .unit), R_SpotsErr_r, 112⟩
theorem R_SpotsErr_ok : CtrOk Try.prog 112 R_SpotsErr_ctr := ctr_ok (l := R_SpotsErr_dc) (f := 12) (an := R_SpotsErr_an) ⟨R_SpotAt_ok, ⟨R_SpotErr_ok, trivial⟩⟩ fun fu x => by kernel_rfl
def R_Power_l1 (fu : Nat) (a : Int × Int × Unit) (j0 : (Int × Int) → Option (Int × Unit)) (v0 : Int × Int) : Option (Int × Unit) :=
  bif (decide (v0.2 < a.2.1)) then
    let v1 : Int := (IntKind.i64.wrap (v0.1 * a.1))
    j0 ((v1, (IntKind.i64.wrap (v0.2 + (1 : Int)))))
  else
  let v1 : Int := v0.1
  some ((v1, ()))
def R_Power_r (fu : Nat) (a : Int × Int × Unit) : Option (Int × Unit) :=
  loopF (R_Power_l1 fu a) fu (((1 : Int), (0 : Int)))
def R_Power_an : An := (.n none .z (.n none .z (.n none (.n none .z (.n none (.n (some ⟨[0, 6, 4], [], [], [.reg 5 (.int .i64), .reg 7 (.int .i64)], 0, []⟩) (.n none .z (.n none .z (.n none (.n none .z .z) .z))) .z) .z)) (.n none .z .z))))
noncomputable def R_Power_dc : List (Nat × Ctr) := []
def R_Power_ctr : Ctr := ⟨(.pair (.int .i64) (.pair (.int .i64) .unit)), (.pair (.int .i64) .unit), R_Power_r, 66⟩
theorem R_Power_ok : CtrOk Try.prog 66 R_Power_ctr := ctr_ok (l := R_Power_dc) (f := 12) (an := R_Power_an) trivial fun fu x => by kernel_rfl
def R_ShapeErr_j1 (fu : Nat) (a : Int × Int × Int × Unit) (v0 : Bool) : Option (Int × Unit) :=
  bif v0 then
    some (((3 : Int), ()))
  else
  bindO (R_Power_r fu ((a.2.2.1, (a.1, ())))) fun v1 =>
  bif (decide ((32768 : Int) < (IntKind.i64.wrap (v1.1 * a.2.1)))) then
    some (((2 : Int), ()))
  else
  some (((0 : Int), ()))
def R_ShapeErr_r (fu : Nat) (a : Int × Int × Int × Unit) : Option (Int × Unit) :=
  joinF (R_ShapeErr_j1 fu a) fun j0 =>
  bindO (R_Within_r fu ((a.1, ((1 : Int), ((4 : Int), ()))))) fun v1 =>
  bif (!v1.1) then
    j0 (true)
  else
  bindO (R_Within_r fu ((a.2.1, ((1 : Int), ((8 : Int), ()))))) fun v2 =>
  bif (!v2.1) then
    j0 (true)
  else
  bindO (R_Within_r fu ((a.2.2.1, ((2 : Int), ((9 : Int), ()))))) fun v3 =>
  bif (!v3.1) then
    j0 (true)
  else
  j0 ((decide (a.2.2.1 = (8 : Int))))
def R_ShapeErr_an : An := (.n none .z (.n none (.n (some ⟨[2, 0, 1], [], [], [.reg 23 .bool], 0, []⟩) .z (.n none (.n none .z .z) .z)) (.n none (.n none .z (.n none (.n none .z .z) .z)) (.n none .z .z))))
noncomputable def R_ShapeErr_dc : List (Nat × Ctr) := [(66, R_Power_ctr), (79, R_Within_ctr)]
def R_ShapeErr_ctr : Ctr := ⟨(.pair (.int .i64) (.pair (.int .i64) (.pair (.int .i64) .unit))), (.pair (.int .i64) .unit), R_ShapeErr_r, 131⟩
theorem R_ShapeErr_ok : CtrOk Try.prog 131 R_ShapeErr_ctr := ctr_ok (l := R_ShapeErr_dc) (f := 12) (an := R_ShapeErr_an) ⟨R_Power_ok, ⟨R_Within_ok, trivial⟩⟩ fun fu x => by kernel_rfl
def R_GridErr_l1 (fu : Nat) (a : (Int × Int × Int × List Int) × Unit) (j3 : (Int) → Option (Int × Unit)) (v3 : Int) : Option (Int × Unit) :=
  bif (decide (v3 < (List.length a.1.2.2.2 : Int))) then
    bif ((decide ((0 : Int) ≤ v3)) && (decide (v3 < (List.length a.1.2.2.2 : Int)))) then
    let v4 : Int := (List.getD a.1.2.2.2 (Int.toNat v3) 0)
    bindO (R_Within_r fu ((v4, ((-32768 : Int), ((65535 : Int), ()))))) fun v5 =>
    bif (!v5.1) then
      some (((3 : Int), ()))
    else
    j3 ((IntKind.i64.wrap (v3 + (1 : Int))))
    else none
  else
  some (((0 : Int), ()))
def R_GridErr_r (fu : Nat) (a : (Int × Int × Int × List Int) × Unit) : Option (Int × Unit) :=
  bindO (R_ShapeErr_r fu ((a.1.1, (a.1.2.1, (a.1.2.2.1, ()))))) fun v0 =>
  let v1 : Int := v0.1
  bif (decide (v1 ≠ (0 : Int))) then
    some ((v1, ()))
  else
  bindO (R_Power_r fu ((a.1.2.2.1, (a.1.1, ())))) fun v2 =>
  bif (decide ((List.length a.1.2.2.2 : Int) ≠ (IntKind.i64.wrap (v2.1 * a.1.2.1)))) then
    some (((4 : Int), ()))
  else
  loopF (R_GridErr_l1 fu a) fu ((0 : Int))
def R_GridErr_an : An := (.n none .z (.n none (.n none .z (.n none .z (.n none (.n none .z .z) .z))) (.n none (.n none (.dr [] []) (.n none (.n none .z .z) .z)) (.n none (.n none .z (.n none (.n (some ⟨[29, 30], [0], [], [.reg 31 (.int .i64)], 0, []⟩) (.n none .z (.n none .z (.n none (.n none (.n none .z (.n none .z (.n none (.n none .z .z) .z))) .z) .z))) .z) .z)) (.n none .z .z)))))
noncomputable def R_GridErr_dc : List (Nat × Ctr) := [(66, R_Power_ctr), (79, R_Within_ctr), (131, R_ShapeErr_ctr)]
def R_GridErr_ctr : Ctr := ⟨(.pair (.agg (.pair (.int .i64) (.pair (.int .i64) (.pair (.int .i64) (.list (.int .i64)))))) .unit), (.pair (.int .i64) .unit), R_GridErr_r, 78⟩
theorem R_GridErr_ok : CtrOk Try.prog 78 R_GridErr_ctr := ctr_ok (l := R_GridErr_dc) (f := 12) (an := R_GridErr_an) ⟨R_Power_ok, ⟨R_Within_ok, ⟨R_ShapeErr_ok, trivial⟩⟩⟩ fun fu x => by kernel_rfl
def R_LinkErr_r (fu : Nat) (a : (Int × Int × Int × List Int) × Unit) : Option (Int × Unit) :=
  bindO (R_GridErr_r fu ((a.1, ()))) fun v0 =>
  let v1 : Int := v0.1
  bif (decide (v1 ≠ (0 : Int))) then
    some ((v1, ()))
  else
  bindO (R_TonesErr_r fu ((a.1.2.2.2, ((List.length a.1.2.2.2 : Int), ((65280 : Int), ()))))) fun v2 =>
  let v3 : Int := v2.1
  some ((v3, ()))
def R_LinkErr_an : An := (.n none .z (.n none (.n none .z (.n none .z (.n none (.n none .z .z) .z))) (.n none .z .z)))
noncomputable def R_LinkErr_dc : List (Nat × Ctr) := [(41, R_TonesErr_ctr), (78, R_GridErr_ctr)]
def R_LinkErr_ctr : Ctr := ⟨(.pair (.agg (.pair (.int .i64) (.pair (.int .i64) (.pair (.int .i64) (.list (.int .i64)))))) .unit), (.pair (.int .i64) .unit), R_LinkErr_r, 69⟩
theorem R_LinkErr_ok : CtrOk Try.prog 69 R_LinkErr_ctr := ctr_ok (l := R_LinkErr_dc) (f := 12) (an := R_LinkErr_an) ⟨R_TonesErr_ok, ⟨R_GridErr_ok, trivial⟩⟩ fun fu x => by kernel_rfl
def R_NamesErr_l2 (fu : Nat) (a : List (List UInt8) × Unit) (v0 : Int) (v1 : List UInt8) (j0 : (Int) → Option (Int × Unit)) (j3 : (Int) → Option (Int × Unit)) (v3 : Int) : Option (Int × Unit) :=
  bif (decide (v3 < v0)) then
    bif ((decide ((0 : Int) ≤ v3)) && (decide (v3 < (List.length a.1 : Int)))) then
    let v4 : List UInt8 := (List.getD a.1 (Int.toNat v3) [])
    bif (decide (v4 = v1)) then
      some (((7 : Int), ()))
    else
    j3 ((IntKind.i64.wrap (v3 + (1 : Int))))
    else none
  else
  j0 ((IntKind.i64.wrap (v0 + (1 : Int))))
def R_NamesErr_l1 (fu : Nat) (a : List (List UInt8) × Unit) (j0 : (Int) → Option (Int × Unit)) (v0 : Int) : Option (Int × Unit) :=
  bif (decide (v0 < (List.length a.1 : Int))) then
    bif ((decide ((0 : Int) ≤ v0)) && (decide (v0 < (List.length a.1 : Int)))) then
    let v1 : List UInt8 := (List.getD a.1 (Int.toNat v0) [])
    bindO (R_Name_r fu ((v1, ()))) fun v2 =>
    bif (!v2.1) then
      some (((6 : Int), ()))
    else
    loopF (R_NamesErr_l2 fu a v0 v1 j0) fu ((0 : Int))
    else none
  else
  some (((0 : Int), ()))
def R_NamesErr_r (fu : Nat) (a : List (List UInt8) × Unit) : Option (Int × Unit) :=
  loopF (R_NamesErr_l1 fu a) fu ((0 : Int))
def R_NamesErr_an : An := (.n none .z (.n none (.n none .z (.n none (.n (some ⟨[6, 0, 7], [], [], [.reg 8 (.int .i64)], 0, []⟩) (.n none .z (.n none .z (.n none (.n none (.n none .z (.n none (.n none .z (.n none (.n none .z .z) .z)) (.n none .z (.n none (.n (some ⟨[8, 4, 16], [], [], [.reg 17 (.int .i64)], 0, []⟩) (.n none .z (.n none .z (.n none (.n none (.n none .z (.n none .z (.n none (.n none .z .z) .z))) .z) .z))) .z) .z)))) .z) .z))) .z) .z)) (.n none .z .z)))
noncomputable def R_NamesErr_dc : List (Nat × Ctr) := [(75, R_Name_ctr)]
def R_NamesErr_ctr : Ctr := ⟨(.pair (.list .str) .unit), (.pair (.int .i64) .unit), R_NamesErr_r, 76⟩
theorem R_NamesErr_ok : CtrOk Try.prog 76 R_NamesErr_ctr := ctr_ok (l := R_NamesErr_dc) (f := 12) (an := R_NamesErr_an) ⟨R_Name_ok, trivial⟩ fun fu x => by kernel_rfl
def R_ConditionErr_l4 (fu : Nat) (v5 : List Int) (v6 : Int) (v7 : Int) (j6 : (Int) → Option (Int × Unit)) (j9 : (Int) → Option (Int × Unit)) (v9 : Int) : Option (Int × Unit) :=
  bif (decide (v9 < v6)) then
    bif ((decide ((0 : Int) ≤ v9)) && (decide (v9 < (List.length v5 : Int)))) then
    let v10 : Int := (List.getD v5 (Int.toNat v9) 0)
    bif (decide (v10 = v7)) then
      some (((7 : Int), ()))
    else
    j9 ((IntKind.i64.wrap (v9 + (1 : Int))))
    else none
  else
  j6 ((IntKind.i64.wrap (v6 + (1 : Int))))
def R_ConditionErr_l3 (fu : Nat) (v0 : Int) (v4 : Int) (v5 : List Int) (j4 : (Int) → Option (Int × Unit)) (j6 : (Int) → Option (Int × Unit)) (v6 : Int) : Option (Int × Unit) :=
  bif (decide (v6 < (List.length v5 : Int))) then
    bif ((decide ((0 : Int) ≤ v6)) && (decide (v6 < (List.length v5 : Int)))) then
    let v7 : Int := (List.getD v5 (Int.toNat v6) 0)
    bindO (R_Within_r fu ((v7, ((0 : Int), ((IntKind.i64.wrap (v0 - (1 : Int))), ()))))) fun v8 =>
    bif (!v8.1) then
      some (((3 : Int), ()))
    else
    loopF (R_ConditionErr_l4 fu v5 v6 v7 j6) fu ((0 : Int))
    else none
  else
  j4 ((IntKind.i64.wrap (v4 + (1 : Int))))
def R_ConditionErr_j6 (fu : Nat) (v5 : Int) (j5 : (Int) → Option (Int × Unit)) (v8 : Bool) : Option (Int × Unit) :=
  bif v8 then
    some (((4 : Int), ()))
  else
  j5 ((IntKind.i64.wrap (v5 + (1 : Int))))
def R_ConditionErr_j8 (fu : Nat) (v8 : Int) (j8 : (Int) → Option (Int × Unit)) (v10 : Bool) : Option (Int × Unit) :=
  bif v10 then
    some (((4 : Int), ()))
  else
  j8 ((IntKind.i64.wrap (v8 + (1 : Int))))
def R_ConditionErr_l7 (fu : Nat) (a : (List (List UInt8) × List Int × List Int × (Int × Int × Int × List Int) × (Int × Int × Int × List Int) × List (List UInt8 × (Int × Int × Int) × (Int × Int × Int) × List (Int × Int) × List Int) × Int) × Unit) (j8 : (Int) → Option (Int × Unit)) (v8 : Int) : Option (Int × Unit) :=
  bif (decide (v8 < (List.length a.1.2.2.2.2.2.1 : Int))) then
    bif ((decide ((0 : Int) ≤ v8)) && (decide (v8 < (List.length a.1.2.2.2.2.2.1 : Int)))) then
    let v9 : List UInt8 × (Int × Int × Int) × (Int × Int × Int) × List (Int × Int) × List Int := (List.getD a.1.2.2.2.2.2.1 (Int.toNat v8) ([], ((0, (0, 0)), ((0, (0, 0)), ([], [])))))
    joinF (R_ConditionErr_j8 fu v8 j8) fun j10 =>
    bif (decide ((List.length v9.2.2.2.2 : Int) ≠ (4 : Int))) then
      j10 (true)
    else
    j10 ((decide ((List.length a.1.2.1 : Int) = (0 : Int))))
    else none
  else
  bindO (R_Within_r fu ((a.1.2.2.2.2.2.2, ((0 : Int), ((2040 : Int), ()))))) fun v9 =>
  bif (!v9.1) then
    some (((3 : Int), ()))
  else
  some (((0 : Int), ()))
def R_ConditionErr_l5 (fu : Nat) (a : (List (List UInt8) × List Int × List Int × (Int × Int × Int × List Int) × (Int × Int × Int × List Int) × List (List UInt8 × (Int × Int × Int) × (Int × Int × Int) × List (Int × Int) × List Int) × Int) × Unit) (v0 : Int) (j5 : (Int) → Option (Int × Unit)) (v5 : Int) : Option (Int × Unit) :=
  bif (decide (v5 < (List.length ([a.1.2.2.2.1, a.1.2.2.2.2.1] : List (Int × Int × Int × List Int)) : Int))) then
    bif ((decide ((0 : Int) ≤ v5)) && (decide (v5 < (List.length ([a.1.2.2.2.1, a.1.2.2.2.2.1] : List (Int × Int × Int × List Int)) : Int)))) then
    bindO (R_LinkErr_r fu ((((List.getD ([a.1.2.2.2.1, a.1.2.2.2.2.1] : List (Int × Int × Int × List Int)) (Int.toNat v5) (0, (0, (0, [])))).1, ((List.getD ([a.1.2.2.2.1, a.1.2.2.2.2.1] : List (Int × Int × Int × List Int)) (Int.toNat v5) (0, (0, (0, [])))).2.1, ((List.getD ([a.1.2.2.2.1, a.1.2.2.2.2.1] : List (Int × Int × Int × List Int)) (Int.toNat v5) (0, (0, (0, [])))).2.2.1, (List.getD ([a.1.2.2.2.1, a.1.2.2.2.2.1] : List (Int × Int × Int × List Int)) (Int.toNat v5) (0, (0, (0, [])))).2.2.2))), ()))) fun v6 =>
    let v7 : Int := v6.1
    bif (decide (v7 ≠ (0 : Int))) then
      some ((v7, ()))
    else
    joinF (R_ConditionErr_j6 fu v5 j5) fun j8 =>
    bif (decide ((List.getD ([a.1.2.2.2.1, a.1.2.2.2.2.1] : List (Int × Int × Int × List Int)) (Int.toNat v5) (0, (0, (0, [])))).1 ≠ (IntKind.i64.wrap ((1 : Int) + (IntKind.i64.wrap ((2 : Int) * v5)))))) then
      j8 (true)
    else
    j8 ((decide ((List.getD ([a.1.2.2.2.1, a.1.2.2.2.2.1] : List (Int × Int × Int × List Int)) (Int.toNat v5) (0, (0, (0, [])))).2.1 ≠ v0)))
    else none
  else
  bindO (R_SpotsErr_r fu ((a.1.2.2.2.2.2.1, ()))) fun v6 =>
  let v7 : Int := v6.1
  bif (decide (v7 ≠ (0 : Int))) then
    some ((v7, ()))
  else
  loopF (R_ConditionErr_l7 fu a) fu ((0 : Int))
def R_ConditionErr_l2 (fu : Nat) (a : (List (List UInt8) × List Int × List Int × (Int × Int × Int × List Int) × (Int × Int × Int × List Int) × List (List UInt8 × (Int × Int × Int) × (Int × Int × Int) × List (Int × Int) × List Int) × Int) × Unit) (v0 : Int) (j4 : (Int) → Option (Int × Unit)) (v4 : Int) : Option (Int × Unit) :=
  bif (decide (v4 < (List.length ([a.1.2.1, a.1.2.2.1] : List (List Int)) : Int))) then
    bif ((decide ((0 : Int) ≤ v4)) && (decide (v4 < (List.length ([a.1.2.1, a.1.2.2.1] : List (List Int)) : Int)))) then
    let v5 : List Int := (List.getD ([a.1.2.1, a.1.2.2.1] : List (List Int)) (Int.toNat v4) [])
    loopF (R_ConditionErr_l3 fu v0 v4 v5 j4) fu ((0 : Int))
    else none
  else
  loopF (R_ConditionErr_l5 fu a v0) fu ((0 : Int))
def R_ConditionErr_j1 (fu : Nat) (a : (List (List UInt8) × List Int × List Int × (Int × Int × Int × List Int) × (Int × Int × Int × List Int) × List (List UInt8 × (Int × Int × Int) × (Int × Int × Int) × List (Int × Int) × List Int) × Int) × Unit) (v0 : Int) (v3 : Bool) : Option (Int × Unit) :=
  bif v3 then
    some (((4 : Int), ()))
  else
  loopF (R_ConditionErr_l2 fu a v0) fu ((0 : Int))
def R_ConditionErr_r (fu : Nat) (a : (List (List UInt8) × List Int × List Int × (Int × Int × Int × List Int) × (Int × Int × Int × List Int) × List (List UInt8 × (Int × Int × Int) × (Int × Int × Int) × List (Int × Int) × List Int) × Int) × Unit) : Option (Int × Unit) :=
  let v0 : Int := (List.length a.1.1 : Int)
  bif (decide ((8 : Int) < v0)) then
    some (((2 : Int), ()))
  else
  bif (decide (v0 = (0 : Int))) then
    some (((1 : Int), ()))
  else
  bindO (R_NamesErr_r fu ((a.1.1, ()))) fun v1 =>
  let v2 : Int := v1.1
  bif (decide (v2 ≠ (0 : Int))) then
    some ((v2, ()))
  else
  joinF (R_ConditionErr_j1 fu a v0) fun j3 =>
  bif (decide ((List.length a.1.2.1 : Int) ≠ (0 : Int))) then
    bif (decide ((List.length a.1.2.1 : Int) ≠ (4 : Int))) then
      j3 (true)
    else
    j3 ((decide ((List.length a.1.2.2.1 : Int) ≠ v0)))
  else
  j3 ((decide ((List.length a.1.2.2.1 : Int) ≠ v0)))
def R_ConditionErr_an : An := (.n none .z (.n none .z (.n none (.n none .z (.n none (.n none .z .z) .z)) (.n none (.n none .z (.n none (.n none .z .z) .z)) (.n none (.n none .z (.n none .z (.n none (.n none .z .z) .z))) (.n none (.n (some ⟨[3, 1], [0], [], [.reg 45 .bool], 0, []⟩) .z (.n none (.n none .z .z) .z)) (.n none (.n none .z (.n none (.n (some ⟨[3, 1, 50, 51], [0, 1], [], [.reg 52 (.int .i64)], 0, []⟩) (.n none .z (.n none .z (.n none (.n none (.n none .z (.n none .z (.n none (.n (some ⟨[52, 56, 6, 57], [], [], [.reg 58 (.int .i64)], 0, []⟩) (.n none .z (.n none .z (.n none (.n none (.n none .z (.n none (.n none .z (.n none (.n none .z .z) .z)) (.n none .z (.n none (.n (some ⟨[58, 8, 68], [], [], [.reg 69 (.int .i64)], 0, []⟩) (.n none .z (.n none .z (.n none (.n none (.n none .z (.n none .z (.n none (.n none .z .z) .z))) .z) .z))) .z) .z)))) .z) .z))) .z) .z))) .z) .z))) .z) .z)) (.n none (.n none .z (.n none (.n (some ⟨[1, 85, 3, 86], [1, 0, 2], [], [.reg 87 (.int .i64)], 0, []⟩) (.n none .z (.n none .z (.n none (.n none (.n none .z (.n none (.n none .z (.n none .z (.n none (.n none .z .z) .z))) (.n (some ⟨[87], [3], [], [.reg 108 .bool], 0, []⟩) .z (.n none (.n none .z .z) .z)))) .z) .z))) .z) .z)) (.n none (.n none .z (.n none .z (.n none (.n none .z .z) .z))) (.n none (.n none .z (.n none (.n (some ⟨[1, 117, 118], [2, 0], [], [.reg 119 (.int .i64)], 0, []⟩) (.n none .z (.n none .z (.n none (.n none (.n none .z (.n (some ⟨[119], [3], [], [.reg 132 .bool], 0, []⟩) .z (.n none (.n none .z .z) .z))) .z) .z))) .z) .z)) (.n none (.n none .z (.n none (.n none .z .z) .z)) (.n none .z .z))))))))))))
noncomputable def R_ConditionErr_dc : List (Nat × Ctr) := [(69, R_LinkErr_ctr), (76, R_NamesErr_ctr), (79, R_Within_ctr), (112, R_SpotsErr_ctr)]
def R_ConditionErr_ctr : Ctr := ⟨(.pair (.agg (.pair (.list .str) (.pair (.list (.int .i64)) (.pair (.list (.int .i64)) (.pair (.pair (.int .i64) (.pair (.int .i64) (.pair (.int .i64) (.list (.int .i64))))) (.pair (.pair (.int .i64) (.pair (.int .i64) (.pair (.int .i64) (.list (.int .i64))))) (.pair (.list (.pair .str (.pair (.pair (.int .i64) (.pair (.int .i64) (.int .i64))) (.pair (.pair (.int .i64) (.pair (.int .i64) (.int .i64))) (.pair (.list (.pair (.int .i64) (.int .i64))) (.list (.int .i64))))))) (.int .i64)))))))) .unit), (.pair (.int .i64) .unit), R_ConditionErr_r, 52⟩
theorem R_ConditionErr_ok : CtrOk Try.prog 52 R_ConditionErr_ctr := ctr_ok (l := R_ConditionErr_dc) (f := 12) (an := R_ConditionErr_an) ⟨R_LinkErr_ok, ⟨R_NamesErr_ok, ⟨R_Within_ok, ⟨R_SpotsErr_ok, trivial⟩⟩⟩⟩ fun fu x => by kernel_rfl
def curve_Nearest_j1 (fu : Nat) (v3 : Int) : Option (Int × Unit) :=
  some ((v3, ()))
def curve_Nearest_r (fu : Nat) (a : Int × Int × Unit) : Option (Int × Unit) :=
  let v0 : Int := (IntKind.i64.wrap ((IntKind.i64.wrap ((2 : Int) * a.1)) + a.2.1))
  let v1 : Int := (IntKind.i64.wrap ((2 : Int) * a.2.1))
  bif (decide (v1 ≠ (0 : Int))) then
  let v2 : Int := (IntKind.i64.wrap (Int.tdiv v0 v1))
  joinF (curve_Nearest_j1 fu) fun j3 =>
  bif (decide (v1 ≠ (0 : Int))) then
  bif (decide ((Int.tmod v0 v1) < (0 : Int))) then
    let v4 : Int := (IntKind.i64.wrap (v2 - (1 : Int)))
    j3 (v4)
  else
  j3 (v2)
  else none
  else none
def curve_Nearest_an : An := (.n none .z (.n none .z (.n none .z (.n (some ⟨[], [], [], [.reg 5 (.int .i64)], 0, []⟩) (.n none .z (.n none .z .z)) (.n none .z .z)))))
noncomputable def curve_Nearest_dc : List (Nat × Ctr) := []
def curve_Nearest_ctr : Ctr := ⟨(.pair (.int .i64) (.pair (.int .i64) .unit)), (.pair (.int .i64) .unit), curve_Nearest_r, 147⟩
theorem curve_Nearest_ok : CtrOk Try.prog 147 curve_Nearest_ctr := ctr_ok (l := curve_Nearest_dc) (f := 12) (an := curve_Nearest_an) trivial fun fu x => by kernel_rfl
def curve_Raw_l1 (fu : Nat) (a : List (Int × Int) × Int × Unit) (j1 : (Int × Int) → Option (Int × Unit)) (v1 : Int × Int) : Option (Int × Unit) :=
  bif (decide ((1 : Int) < (IntKind.i64.wrap (v1.1 - v1.2)))) then
    let v2 : Int := (IntKind.i64.wrap (Int.tdiv (IntKind.i64.wrap (v1.2 + v1.1)) (2 : Int)))
    bif ((decide ((0 : Int) ≤ v2)) && (decide (v2 < (List.length a.1 : Int)))) then
    let v3 : Int × Int := (List.getD a.1 (Int.toNat v2) (0, 0))
    bif (decide (v3.1 ≤ a.2.1)) then
      j1 ((v1.1, v2))
    else
    j1 ((v2, v1.2))
    else none
  else
  bif ((decide ((0 : Int) ≤ v1.2)) && (decide (v1.2 < (List.length a.1 : Int)))) then
  let v2 : Int × Int := (List.getD a.1 (Int.toNat v1.2) (0, 0))
  bif ((decide ((0 : Int) ≤ v1.1)) && (decide (v1.1 < (List.length a.1 : Int)))) then
  let v3 : Int × Int := (List.getD a.1 (Int.toNat v1.1) (0, 0))
  bindO (curve_Nearest_r fu (((IntKind.i64.wrap ((IntKind.i64.wrap (v3.2 - v2.2)) * (IntKind.i64.wrap (a.2.1 - v2.1)))), ((IntKind.i64.wrap (v3.1 - v2.1)), ())))) fun v4 =>
  let v5 : Int := (IntKind.i64.wrap (v2.2 + v4.1))
  some ((v5, ()))
  else none
  else none
def curve_Raw_r (fu : Nat) (a : List (Int × Int) × Int × Unit) : Option (Int × Unit) :=
  let v0 : Int := (IntKind.i64.wrap ((List.length a.1 : Int) - (1 : Int)))
  loopF (curve_Raw_l1 fu a) fu ((v0, (0 : Int)))
def curve_Raw_an : An := (.n none .z (.n none (.dr [] []) (.n none (.n none (.n (some ⟨[1, 2, 4], [0], [], [.reg 6 (.int .i64), .reg 5 (.int .i64)], 0, []⟩) (.n none (.n none .z .z) (.n none (.n none .z (.n none .z (.n none .z .z))) .z)) .z) .z) (.n none (.dr [] []) (.n none (.dr [] []) .z)))))
noncomputable def curve_Raw_dc : List (Nat × Ctr) := [(147, curve_Nearest_ctr)]
def curve_Raw_ctr : Ctr := ⟨(.pair (.agg (.list (.pair (.int .i64) (.int .i64)))) (.pair (.int .i64) .unit)), (.pair (.int .i64) .unit), curve_Raw_r, 148⟩
theorem curve_Raw_ok : CtrOk Try.prog 148 curve_Raw_ctr := ctr_ok (l := curve_Raw_dc) (f := 12) (an := curve_Raw_an) ⟨curve_Nearest_ok, trivial⟩ fun fu x => by kernel_rfl
def spot_Quick_l1 (fu : Nat) (a : (List UInt8 × (Int × Int × Int) × (Int × Int × Int) × List (Int × Int) × List Int) × Int × Unit) (j0 : (Int × List Int) → Option (List Int × Unit)) (v0 : Int × List Int) : Option (List Int × Unit) :=
  bif (decide (v0.1 < (List.length a.1.2.2.2.2 : Int))) then
    bif ((decide ((0 : Int) ≤ v0.1)) && (decide (v0.1 < (List.length a.1.2.2.2.2 : Int)))) then
    let v1 : Int := (List.getD a.1.2.2.2.2 (Int.toNat v0.1) 0)
    let v2 : Int := v0.1
    bindO (curve_Raw_r fu ((a.1.2.2.2.1, ((IntKind.i64.wrap ((256 : Int) * a.2.1)), ())))) fun v3 =>
    bindO (curve_Nearest_r fu (((IntKind.i64.wrap (v1 * v3.1)), ((65280 : Int), ())))) fun v4 =>
    bif ((decide ((0 : Int) ≤ v2)) && (decide (v2 < (List.length v0.2 : Int)))) then
    j0 (((IntKind.i64.wrap (v0.1 + (1 : Int))), (List.set v0.2 (Int.toNat v2) v4.1)))
    else none
    else none
  else
  some ((v0.2, ()))
def spot_Quick_r (fu : Nat) (a : (List UInt8 × (Int × Int × Int) × (Int × Int × Int) × List (Int × Int) × List Int) × Int × Unit) : Option (List Int × Unit) :=
  bif ((decide ((0 : Int) ≤ (List.length a.1.2.2.2.2 : Int))) && (decide (((8 : Int) * (List.length a.1.2.2.2.2 : Int)) ≤ (281474976710656 : Int)))) then
  loopF (spot_Quick_l1 fu a) fu (((0 : Int), (List.replicate (Int.toNat (List.length a.1.2.2.2.2 : Int)) (0 : Int))))
  else none
def spot_Quick_an : An := (.n none .z (.n none .z (.n none (.n none .z (.n none (.n (some ⟨[5, 17, 0, 1, 18, 4], [], [], [.reg 19 (.int .i64), .row 0 true (.int .i64) 3 0], 0, []⟩) (.n none .z (.n none .z (.n none (.n none (.n none .z .z) .z) .z))) .z) .z)) (.n none .z .z))))
noncomputable def spot_Quick_dc : List (Nat × Ctr) := [(147, curve_Nearest_ctr), (148, curve_Raw_ctr)]
def spot_Quick_ctr : Ctr := ⟨(.pair (.ptr (.pair .str (.pair (.pair (.int .i64) (.pair (.int .i64) (.int .i64))) (.pair (.pair (.int .i64) (.pair (.int .i64) (.int .i64))) (.pair (.list (.pair (.int .i64) (.int .i64))) (.list (.int .i64))))))) (.pair (.int .i64) .unit)), (.pair (.list (.int .i64)) .unit), spot_Quick_r, 119⟩
theorem spot_Quick_ok : CtrOk Try.prog 119 spot_Quick_ctr := ctr_ok (l := spot_Quick_dc) (f := 12) (an := spot_Quick_an) ⟨curve_Nearest_ok, ⟨curve_Raw_ok, trivial⟩⟩ fun fu x => by kernel_rfl
def inklimit_sum_l1 (fu : Nat) (a : List Int × Unit) (j0 : (Int × Int) → Option (Int × Unit)) (v0 : Int × Int) : Option (Int × Unit) :=
  bif (decide (v0.2 < (List.length a.1 : Int))) then
    bif ((decide ((0 : Int) ≤ v0.2)) && (decide (v0.2 < (List.length a.1 : Int)))) then
    let v1 : Int := (List.getD a.1 (Int.toNat v0.2) 0)
    let v2 : Int := (IntKind.i64.wrap (v0.1 + v1))
    j0 ((v2, (IntKind.i64.wrap (v0.2 + (1 : Int)))))
    else none
  else
  let v1 : Int := v0.1
  some ((v1, ()))
def inklimit_sum_r (fu : Nat) (a : List Int × Unit) : Option (Int × Unit) :=
  loopF (inklimit_sum_l1 fu a) fu (((0 : Int), (0 : Int)))
def inklimit_sum_an : An := (.n none .z (.n none .z (.n none (.n none .z (.n none (.n (some ⟨[6, 7, 2], [], [], [.reg 3 (.int .i64), .reg 8 (.int .i64)], 0, []⟩) (.n none .z (.n none .z (.n none (.n none (.n none .z .z) .z) .z))) .z) .z)) (.n none .z .z))))
noncomputable def inklimit_sum_dc : List (Nat × Ctr) := []
def inklimit_sum_ctr : Ctr := ⟨(.pair (.list (.int .i64)) .unit), (.pair (.int .i64) .unit), inklimit_sum_r, 157⟩
theorem inklimit_sum_ok : CtrOk Try.prog 157 inklimit_sum_ctr := ctr_ok (l := inklimit_sum_dc) (f := 12) (an := inklimit_sum_an) trivial fun fu x => by kernel_rfl
def inklimit_Quick_j3 (fu : Nat) (j3 : (Int × List Int) → Option (List Int × Unit)) (v4 : Int × List Int) : Option (List Int × Unit) :=
  j3 (((IntKind.i64.wrap (v4.1 + (1 : Int))), v4.2))
def inklimit_Quick_l2 (fu : Nat) (a : List Int × Int × Int × Unit) (v2 : Int × Int × List Int) (j3 : (Int × List Int) → Option (List Int × Unit)) (v3 : Int × List Int) : Option (List Int × Unit) :=
  bif (decide (v3.1 < (List.length a.1 : Int))) then
    joinF (inklimit_Quick_j3 fu j3) fun j4 =>
    bif ((decide ((0 : Int) ≤ v3.1)) && (decide (v3.1 < (List.length a.1 : Int)))) then
    let v5 : Int := (List.getD a.1 (Int.toNat v3.1) 0)
    let v6 : Int := v3.1
    let v7 : Bool := (decide (v6 = a.2.1))
    bif v7 then
      bif ((decide ((0 : Int) ≤ v6)) && (decide (v6 < (List.length v3.2 : Int)))) then
      j4 ((v3.1, (List.set v3.2 (Int.toNat v6) v2.2.1)))
      else none
    else
    bif ((decide ((0 : Int) ≤ v6)) && (decide (v6 < (List.length v3.2 : Int)))) then
    bif (decide ((0 : Int) < v2.1)) then
      bif (decide (v2.1 ≠ (0 : Int))) then
      bif ((decide ((0 : Int) ≤ v6)) && (decide (v6 < (List.length (List.set v3.2 (Int.toNat v6) (0 : Int)) : Int)))) then
      j4 ((v3.1, (List.set (List.set v3.2 (Int.toNat v6) (0 : Int)) (Int.toNat v6) (IntKind.i64.wrap (Int.tdiv (IntKind.i64.wrap (v5 * (IntKind.i64.wrap (a.2.2.1 - v2.2.1)))) v2.1)))))
      else none
      else none
    else
    j4 ((v3.1, (List.set v3.2 (Int.toNat v6) (0 : Int))))
    else none
    else none
  else
  some ((v3.2, ()))
def inklimit_Quick_j1 (fu : Nat) (a : List Int × Int × Int × Unit) (v2 : Int × Int × List Int) : Option (List Int × Unit) :=
  loopF (inklimit_Quick_l2 fu a v2) fu (((0 : Int), v2.2.2))
def inklimit_Quick_r (fu : Nat) (a : List Int × Int × Int × Unit) : Option (List Int × Unit) :=
  bif (decide (((List.length a.1 : Int) * (8 : Int)) ≤ (140737488355328 : Int))) then
  bindO (inklimit_sum_r fu ((a.1, ()))) fun v0 =>
  let v1 : Int := v0.1
  bif (decide (v1 ≤ a.2.2.1)) then
    some ((a.1, ()))
  else
  joinF (inklimit_Quick_j1 fu a) fun j2 =>
  bif (decide ((0 : Int) ≤ a.2.1)) then
    bif ((decide ((0 : Int) ≤ a.2.1)) && (decide (a.2.1 < (List.length a.1 : Int)))) then
    let v3 : Int := (List.getD a.1 (Int.toNat a.2.1) 0)
    let v4 : Int := (min v3 a.2.2.1)
    bif ((decide ((0 : Int) ≤ a.2.1)) && (decide (a.2.1 < (List.length a.1 : Int)))) then
    let v5 : Int := (List.getD a.1 (Int.toNat a.2.1) 0)
    let v6 : Int := (IntKind.i64.wrap (v1 - v5))
    j2 ((v6, (v4, a.1)))
    else none
    else none
  else
  j2 ((v1, ((0 : Int), a.1)))
  else none
def inklimit_Quick_an : An := (.n none .z (.n none .z (.n none .z (.n none (.n none .z (.n none (.n none .z .z) .z)) (.n none .z (.n (some ⟨[0, 7, 1, 2], [], [], [.reg 8 (.int .i64), .reg 9 (.int .i64), .row 0 false (.int .i64) 3 0], 0, []⟩) (.n none .z (.n none (.n none .z .z) .z)) (.n none (.n none .z (.n none (.n (some ⟨[34, 8, 9, 35], [], [], [.reg 36 (.int .i64), .row 0 false (.int .i64) 3 0], 0, []⟩) (.n none .z (.n none .z (.n (some ⟨[], [], [], [.reg 36 (.int .i64), .row 0 false (.int .i64) 3 0], 0, []⟩) (.n none (.n none .z (.n none (.n none .z (.n none .z (.n none .z (.n none .z (.n none .z .z))))) .z)) .z) .z))) .z) .z)) (.n none .z .z))))))))
noncomputable def inklimit_Quick_dc : List (Nat × Ctr) := [(157, inklimit_sum_ctr)]
def inklimit_Quick_ctr : Ctr := ⟨(.pair (.list (.int .i64)) (.pair (.int .i64) (.pair (.int .i64) .unit))), (.pair (.list (.int .i64)) .unit), inklimit_Quick_r, 146⟩
theorem inklimit_Quick_ok : CtrOk Try.prog 146 inklimit_Quick_ctr := ctr_ok (l := inklimit_Quick_dc) (f := 12) (an := inklimit_Quick_an) ⟨inklimit_sum_ok, trivial⟩ fun fu x => by kernel_rfl
def condition_limited_l2 (fu : Nat) (v1 : List Int × Unit) (j2 : (Int × List Int) → Option ((Int × Int × Int × Int × Int × Int × Int × Int) × Unit)) (v2 : Int × List Int) : Option ((Int × Int × Int × Int × Int × Int × Int × Int) × Unit) :=
  bif (decide (v2.1 < (List.length v1.1 : Int))) then
    bif ((decide ((0 : Int) ≤ v2.1)) && (decide (v2.1 < (List.length v1.1 : Int)))) then
    let v3 : Int := (List.getD v1.1 (Int.toNat v2.1) 0)
    let v4 : Int := v2.1
    bif (((decide ((0 : Int) ≤ v4)) && (decide (v4 < (List.length v2.2 : Int)))) && (decide (v4 < (8 : Int)))) then
    j2 (((IntKind.i64.wrap (v2.1 + (1 : Int))), (List.set v2.2 (Int.toNat v4) (IntKind.u8.wrap v3))))
    else none
    else none
  else
  bif (decide ((List.length v2.2 : Int) = (8 : Int))) then
  some ((((List.getD v2.2 (Int.toNat (0 : Int)) 0), ((List.getD v2.2 (Int.toNat (1 : Int)) 0), ((List.getD v2.2 (Int.toNat (2 : Int)) 0), ((List.getD v2.2 (Int.toNat (3 : Int)) 0), ((List.getD v2.2 (Int.toNat (4 : Int)) 0), ((List.getD v2.2 (Int.toNat (5 : Int)) 0), ((List.getD v2.2 (Int.toNat (6 : Int)) 0), (List.getD v2.2 (Int.toNat (7 : Int)) 0)))))))), ()))
  else none
def condition_limited_j1 (fu : Nat) (a : (List (List UInt8) × List Int × List Int × (Int × Int × Int × List Int) × (Int × Int × Int × List Int) × List (List UInt8 × (Int × Int × Int) × (Int × Int × Int) × List (Int × Int) × List Int) × Int) × List Int × Unit) (v0 : Int) : Option ((Int × Int × Int × Int × Int × Int × Int × Int) × Unit) :=
  bindO (inklimit_Quick_r fu ((a.2.1, (v0, (a.1.2.2.2.2.2.2, ()))))) fun v1 =>
  loopF (condition_limited_l2 fu v1) fu (((0 : Int), ([(0 : Int), (0 : Int), (0 : Int), (0 : Int), (0 : Int), (0 : Int), (0 : Int), (0 : Int)] : List Int)))
def condition_limited_r (fu : Nat) (a : (List (List UInt8) × List Int × List Int × (Int × Int × Int × List Int) × (Int × Int × Int × List Int) × List (List UInt8 × (Int × Int × Int) × (Int × Int × Int) × List (Int × Int) × List Int) × Int) × List Int × Unit) : Option ((Int × Int × Int × Int × Int × Int × Int × Int) × Unit) :=
  joinF (condition_limited_j1 fu a) fun j0 =>
  bif (decide ((List.length a.1.2.1 : Int) = (4 : Int))) then
    bif (decide ((3 : Int) < (List.length a.1.2.1 : Int))) then
    let v1 : Int := (List.getD a.1.2.1 (Int.toNat (3 : Int)) 0)
    j0 (v1)
    else none
  else
  j0 ((-1 : Int))
def condition_limited_an : An := (.n none .z (.n none .z (.n (some ⟨[1, 0, 4], [0], [], [.reg 5 (.int .i64)], 0, []⟩) (.n none .z (.n none .z .z)) (.n none .z (.n none (.n none .z (.n none (.n (some ⟨[6, 27, 28], [], [], [.reg 29 (.int .i64), .row 1 true (.int .u8) 90 0], 0, []⟩) (.n none .z (.n none .z (.n none (.n none (.n none .z .z) .z) .z))) .z) .z)) (.n none .z .z))))))
noncomputable def condition_limited_dc : List (Nat × Ctr) := [(146, inklimit_Quick_ctr)]
def condition_limited_ctr : Ctr := ⟨(.pair (.ptr (.pair (.list .str) (.pair (.list (.int .i64)) (.pair (.list (.int .i64)) (.pair (.pair (.int .i64) (.pair (.int .i64) (.pair (.int .i64) (.list (.int .i64))))) (.pair (.pair (.int .i64) (.pair (.int .i64) (.pair (.int .i64) (.list (.int .i64))))) (.pair (.list (.pair .str (.pair (.pair (.int .i64) (.pair (.int .i64) (.int .i64))) (.pair (.pair (.int .i64) (.pair (.int .i64) (.int .i64))) (.pair (.list (.pair (.int .i64) (.int .i64))) (.list (.int .i64))))))) (.int .i64)))))))) (.pair (.list (.int .i64)) .unit)), (.pair (.agg (.pair (.int .u8) (.pair (.int .u8) (.pair (.int .u8) (.pair (.int .u8) (.pair (.int .u8) (.pair (.int .u8) (.pair (.int .u8) (.int .u8))))))))) .unit), condition_limited_r, 118⟩
theorem condition_limited_ok : CtrOk Try.prog 118 condition_limited_ctr := ctr_ok (l := condition_limited_dc) (f := 12) (an := condition_limited_an) ⟨inklimit_Quick_ok, trivial⟩ fun fu x => by kernel_rfl
def condition_placed_l1 (fu : Nat) (a : (List (List UInt8) × List Int × List Int × (Int × Int × Int × List Int) × (Int × Int × Int × List Int) × List (List UInt8 × (Int × Int × Int) × (Int × Int × Int) × List (Int × Int) × List Int) × Int) × List Int × Unit) (j0 : (Int × List Int) → Option ((Int × Int × Int × Int × Int × Int × Int × Int) × Unit)) (v0 : Int × List Int) : Option ((Int × Int × Int × Int × Int × Int × Int × Int) × Unit) :=
  bif (decide (v0.1 < (List.length a.2.1 : Int))) then
    bif ((decide ((0 : Int) ≤ v0.1)) && (decide (v0.1 < (List.length a.2.1 : Int)))) then
    let v1 : Int := (List.getD a.2.1 (Int.toNat v0.1) 0)
    let v2 : Int := v0.1
    bif ((decide ((0 : Int) ≤ v2)) && (decide (v2 < (List.length a.1.2.1 : Int)))) then
    let v3 : Int := (List.getD a.1.2.1 (Int.toNat v2) 0)
    bif ((decide ((0 : Int) ≤ v3)) && (decide (v3 < (List.length v0.2 : Int)))) then
    j0 (((IntKind.i64.wrap (v0.1 + (1 : Int))), (List.set v0.2 (Int.toNat v3) v1)))
    else none
    else none
    else none
  else
  bindO (condition_limited_r fu ((a.1, (v0.2, ())))) fun v1 =>
  some ((v1.1, ()))
def condition_placed_r (fu : Nat) (a : (List (List UInt8) × List Int × List Int × (Int × Int × Int × List Int) × (Int × Int × Int × List Int) × List (List UInt8 × (Int × Int × Int) × (Int × Int × Int) × List (Int × Int) × List Int) × Int) × List Int × Unit) : Option ((Int × Int × Int × Int × Int × Int × Int × Int) × Unit) :=
  bif ((decide ((0 : Int) ≤ (List.length a.1.1 : Int))) && (decide (((8 : Int) * (List.length a.1.1 : Int)) ≤ (281474976710656 : Int)))) then
  loopF (condition_placed_l1 fu a) fu (((0 : Int), (List.replicate (Int.toNat (List.length a.1.1 : Int)) (0 : Int))))
  else none
def condition_placed_an : An := (.n none .z (.n none .z (.n none (.n none .z (.n none (.n (some ⟨[4, 5, 0, 14, 15], [0], [], [.reg 16 (.int .i64), .row 1 true (.int .i64) 3 0], 0, []⟩) (.n none .z (.n none .z (.n none (.n none (.n none .z .z) .z) .z))) .z) .z)) (.n none .z .z))))
noncomputable def condition_placed_dc : List (Nat × Ctr) := [(118, condition_limited_ctr)]
def condition_placed_ctr : Ctr := ⟨(.pair (.ptr (.pair (.list .str) (.pair (.list (.int .i64)) (.pair (.list (.int .i64)) (.pair (.pair (.int .i64) (.pair (.int .i64) (.pair (.int .i64) (.list (.int .i64))))) (.pair (.pair (.int .i64) (.pair (.int .i64) (.pair (.int .i64) (.list (.int .i64))))) (.pair (.list (.pair .str (.pair (.pair (.int .i64) (.pair (.int .i64) (.int .i64))) (.pair (.pair (.int .i64) (.pair (.int .i64) (.int .i64))) (.pair (.list (.pair (.int .i64) (.int .i64))) (.list (.int .i64))))))) (.int .i64)))))))) (.pair (.list (.int .i64)) .unit)), (.pair (.agg (.pair (.int .u8) (.pair (.int .u8) (.pair (.int .u8) (.pair (.int .u8) (.pair (.int .u8) (.pair (.int .u8) (.pair (.int .u8) (.int .u8))))))))) .unit), condition_placed_r, 117⟩
theorem condition_placed_ok : CtrOk Try.prog 117 condition_placed_ctr := ctr_ok (l := condition_placed_dc) (f := 12) (an := condition_placed_an) ⟨condition_limited_ok, trivial⟩ fun fu x => by kernel_rfl
def profile_Tones_j2 (fu : Nat) (v0 : Int) (j0 : (Int) → Option (Int × Unit)) (v2 : Bool) : Option (Int × Unit) :=
  bif v2 then
    some (((3 : Int), ()))
  else
  j0 ((IntKind.i64.wrap (v0 + (1 : Int))))
def profile_Tones_l1 (fu : Nat) (a : List Int × Int × Unit) (j0 : (Int) → Option (Int × Unit)) (v0 : Int) : Option (Int × Unit) :=
  bif (decide (v0 < (List.length a.1 : Int))) then
    bif ((decide ((0 : Int) ≤ v0)) && (decide (v0 < (List.length a.1 : Int)))) then
    let v1 : Int := (List.getD a.1 (Int.toNat v0) 0)
    joinF (profile_Tones_j2 fu v0 j0) fun j2 =>
    bif (decide (v1 < (0 : Int))) then
      j2 (true)
    else
    j2 ((decide ((255 : Int) < v1)))
    else none
  else
  some (((0 : Int), ()))
def profile_Tones_r (fu : Nat) (a : List Int × Int × Unit) : Option (Int × Unit) :=
  bif (decide ((List.length a.1 : Int) ≠ a.2.1)) then
    some (((4 : Int), ()))
  else
  loopF (profile_Tones_l1 fu a) fu ((0 : Int))
def profile_Tones_an : An := (.n none .z (.n none (.n none .z (.n none (.n none .z .z) .z)) (.n none (.n none .z (.n none (.n (some ⟨[11, 12], [], [], [.reg 13 (.int .i64)], 0, []⟩) (.n none .z (.n none .z (.n none (.n none (.n none .z (.n (some ⟨[13], [], [], [.reg 22 .bool], 0, []⟩) .z (.n none (.n none .z .z) .z))) .z) .z))) .z) .z)) (.n none .z .z))))
noncomputable def profile_Tones_dc : List (Nat × Ctr) := []
def profile_Tones_ctr : Ctr := ⟨(.pair (.list (.int .i64)) (.pair (.int .i64) .unit)), (.pair (.int .i64) .unit), profile_Tones_r, 86⟩
theorem profile_Tones_ok : CtrOk Try.prog 86 profile_Tones_ctr := ctr_ok (l := profile_Tones_dc) (f := 12) (an := profile_Tones_an) trivial fun fu x => by kernel_rfl
def curve_Check_j3 (fu : Nat) (v3 : Int) (j3 : (Int) → Option (Int × Unit)) (v6 : Bool) : Option (Int × Unit) :=
  bif v6 then
    some (((18 : Int), ()))
  else
  j3 ((IntKind.i64.wrap (v3 + (1 : Int))))
def curve_Check_j2 (fu : Nat) (a : List (Int × Int) × Unit) (v3 : Int) (v4 : Int × Int) (j3 : (Int) → Option (Int × Unit)) (v5 : Bool) : Option (Int × Unit) :=
  bif v5 then
    some (((3 : Int), ()))
  else
  joinF (curve_Check_j3 fu v3 j3) fun j6 =>
  bif (decide ((0 : Int) < v3)) then
    bif ((decide ((0 : Int) ≤ (IntKind.i64.wrap (v3 - (1 : Int))))) && (decide ((IntKind.i64.wrap (v3 - (1 : Int))) < (List.length a.1 : Int)))) then
    let v7 : Int × Int := (List.getD a.1 (Int.toNat (IntKind.i64.wrap (v3 - (1 : Int)))) (0, 0))
    bif (decide (v4.1 ≤ v7.1)) then
      j6 (true)
    else
    bif ((decide ((0 : Int) ≤ (IntKind.i64.wrap (v3 - (1 : Int))))) && (decide ((IntKind.i64.wrap (v3 - (1 : Int))) < (List.length a.1 : Int)))) then
    let v8 : Int × Int := (List.getD a.1 (Int.toNat (IntKind.i64.wrap (v3 - (1 : Int)))) (0, 0))
    j6 ((decide (v4.2 < v8.2)))
    else none
    else none
  else
  j6 (false)
def curve_Check_j4 (fu : Nat) (v4 : Bool) : Option (Int × Unit) :=
  bif v4 then
    some (((4 : Int), ()))
  else
  some (((0 : Int), ()))
def curve_Check_l1 (fu : Nat) (a : List (Int × Int) × Unit) (j3 : (Int) → Option (Int × Unit)) (v3 : Int) : Option (Int × Unit) :=
  bif (decide (v3 < (List.length a.1 : Int))) then
    bif ((decide ((0 : Int) ≤ v3)) && (decide (v3 < (List.length a.1 : Int)))) then
    let v4 : Int × Int := (List.getD a.1 (Int.toNat v3) (0, 0))
    joinF (curve_Check_j2 fu a v3 v4 j3) fun j5 =>
    bif (decide (v4.1 < (0 : Int))) then
      j5 (true)
    else
    bif (decide ((65280 : Int) < v4.1)) then
      j5 (true)
    else
    bif (decide (v4.2 < (0 : Int))) then
      j5 (true)
    else
    j5 ((decide ((65280 : Int) < v4.2)))
    else none
  else
  joinF (curve_Check_j4 fu) fun j4 =>
  bif (decide ((0 : Int) < (List.length a.1 : Int))) then
  let v5 : Int × Int := (List.getD a.1 (Int.toNat (0 : Int)) (0, 0))
  bif (decide (v5.1 ≠ (0 : Int))) then
    j4 (true)
  else
  bif ((decide ((0 : Int) ≤ (IntKind.i64.wrap ((List.length a.1 : Int) - (1 : Int))))) && (decide ((IntKind.i64.wrap ((List.length a.1 : Int) - (1 : Int))) < (List.length a.1 : Int)))) then
  let v6 : Int × Int := (List.getD a.1 (Int.toNat (IntKind.i64.wrap ((List.length a.1 : Int) - (1 : Int)))) (0, 0))
  j4 ((decide (v6.1 ≠ (65280 : Int))))
  else none
  else none
def curve_Check_r (fu : Nat) (a : List (Int × Int) × Unit) : Option (Int × Unit) :=
  let v0 : Int := (List.length a.1 : Int)
  let v1 : Bool := (decide ((33 : Int) < v0))
  bif v1 then
    some (((2 : Int), ()))
  else
  let v2 : Bool := (decide (v0 < (2 : Int)))
  bif v2 then
    some (((1 : Int), ()))
  else
  loopF (curve_Check_l1 fu a) fu ((0 : Int))
def curve_Check_an : An := (.n none .z (.n none (.n none .z (.n none (.n none .z (.n none (.n none .z .z) (.n none .z (.n none (.n none .z .z) .z)))) .z)) (.n none (.n none .z (.n none (.n (some ⟨[1, 16, 17], [0], [], [.reg 18 (.int .i64)], 0, []⟩) (.n none .z (.n none .z (.n none (.n none (.n none .z (.n none (.n (some ⟨[5, 4, 18], [1], [], [.reg 40 .bool], 0, []⟩) .z (.n none (.n none .z .z) .z)) (.n (some ⟨[18], [1], [], [.reg 66 .bool], 0, []⟩) (.dr [] []) (.n none (.n none .z .z) .z)))) .z) .z))) .z) .z)) (.n none (.n (some ⟨[], [0], [], [.reg 85 .bool], 0, []⟩) .z (.n none (.n none .z .z) .z)) (.n none .z .z)))))
noncomputable def curve_Check_dc : List (Nat × Ctr) := []
def curve_Check_ctr : Ctr := ⟨(.pair (.agg (.list (.pair (.int .i64) (.int .i64)))) .unit), (.pair (.int .i64) .unit), curve_Check_r, 100⟩
theorem curve_Check_ok : CtrOk Try.prog 100 curve_Check_ctr := ctr_ok (l := curve_Check_dc) (f := 12) (an := curve_Check_an) trivial fun fu x => by kernel_rfl
def refspace_Check_j1 (fu : Nat) (v0 : Bool) : Option (Int × Unit) :=
  bif v0 then
    some (((3 : Int), ()))
  else
  some (((0 : Int), ()))
def refspace_Check_r (fu : Nat) (a : (Int × Int × Int) × Unit) : Option (Int × Unit) :=
  joinF (refspace_Check_j1 fu) fun j0 =>
  bif (decide (a.1.1 < (0 : Int))) then
    j0 (true)
  else
  bif (decide ((10000 : Int) < a.1.1)) then
    j0 (true)
  else
  bif (decide (a.1.2.1 < (-12800 : Int))) then
    j0 (true)
  else
  bif (decide ((12800 : Int) < a.1.2.1)) then
    j0 (true)
  else
  bif (decide (a.1.2.2 < (-12800 : Int))) then
    j0 (true)
  else
  j0 ((decide ((12800 : Int) < a.1.2.2)))
def refspace_Check_an : An := (.n none .z (.n none (.n (some ⟨[], [0], [], [.reg 30 .bool], 0, []⟩) .z (.n none (.n none .z .z) .z)) (.n none .z .z)))
noncomputable def refspace_Check_dc : List (Nat × Ctr) := []
def refspace_Check_ctr : Ctr := ⟨(.pair (.agg (.pair (.int .i64) (.pair (.int .i64) (.int .i64)))) .unit), (.pair (.int .i64) .unit), refspace_Check_r, 72⟩
theorem refspace_Check_ok : CtrOk Try.prog 72 refspace_Check_ctr := ctr_ok (l := refspace_Check_dc) (f := 12) (an := refspace_Check_an) trivial fun fu x => by kernel_rfl
def profile_IsName_j3 (fu : Nat) (v1 : Int) (j1 : (Int) → Option (Bool × Unit)) (v3 : Bool) : Option (Bool × Unit) :=
  bif v3 then
    some ((false, ()))
  else
  j1 ((IntKind.i64.wrap (v1 + (1 : Int))))
def profile_IsName_l2 (fu : Nat) (a : List UInt8 × Unit) (j1 : (Int) → Option (Bool × Unit)) (v1 : Int) : Option (Bool × Unit) :=
  bif (decide (v1 < (List.length a.1 : Int))) then
    bif ((decide ((0 : Int) ≤ v1)) && (decide (v1 < (List.length a.1 : Int)))) then
    let v2 : Int := ((List.getD a.1 (Int.toNat v1) 0).toNat : Int)
    joinF (profile_IsName_j3 fu v1 j1) fun j3 =>
    bif (decide (v2 < (97 : Int))) then
      bif (decide (v2 < (48 : Int))) then
        j3 ((decide (v2 ≠ (45 : Int))))
      else
      bif (decide ((57 : Int) < v2)) then
        j3 ((decide (v2 ≠ (45 : Int))))
      else
      j3 (false)
    else
    bif (decide ((122 : Int) < v2)) then
      bif (decide (v2 < (48 : Int))) then
        j3 ((decide (v2 ≠ (45 : Int))))
      else
      bif (decide ((57 : Int) < v2)) then
        j3 ((decide (v2 ≠ (45 : Int))))
      else
      j3 (false)
    else
    j3 (false)
    else none
  else
  some ((true, ()))
def profile_IsName_j1 (fu : Nat) (a : List UInt8 × Unit) (v0 : Bool) : Option (Bool × Unit) :=
  bif v0 then
    some ((false, ()))
  else
  loopF (profile_IsName_l2 fu a) fu ((0 : Int))
def profile_IsName_r (fu : Nat) (a : List UInt8 × Unit) : Option (Bool × Unit) :=
  joinF (profile_IsName_j1 fu a) fun j0 =>
  bif (decide ((List.length a.1 : Int) < (1 : Int))) then
    j0 (true)
  else
  bif (decide ((16 : Int) < (List.length a.1 : Int))) then
    j0 (true)
  else
  bif (decide ((0 : Int) < (List.length a.1 : Int))) then
  bif (decide (((List.getD a.1 (Int.toNat (0 : Int)) 0).toNat : Int) < (97 : Int))) then
    j0 (true)
  else
  bif (decide ((0 : Int) < (List.length a.1 : Int))) then
  j0 ((decide ((122 : Int) < ((List.getD a.1 (Int.toNat (0 : Int)) 0).toNat : Int))))
  else none
  else none
def profile_IsName_an : An := (.n none .z (.n none (.n (some ⟨[0], [], [], [.reg 22 .bool], 0, []⟩) .z (.n none (.n none .z .z) .z)) (.n none (.n none .z (.n none (.n (some ⟨[0, 24], [], [], [.reg 25 (.int .i64)], 0, []⟩) (.n none .z (.n none .z (.n none (.n none (.n none .z (.n none .z (.n (some ⟨[25], [], [], [.reg 48 .bool], 0, []⟩) .z (.n none (.n none .z .z) .z)))) .z) .z))) .z) .z)) (.n none .z .z))))
noncomputable def profile_IsName_dc : List (Nat × Ctr) := []
def profile_IsName_ctr : Ctr := ⟨(.pair .str .unit), (.pair .bool .unit), profile_IsName_r, 98⟩
theorem profile_IsName_ok : CtrOk Try.prog 98 profile_IsName_ctr := ctr_ok (l := profile_IsName_dc) (f := 12) (an := profile_IsName_an) trivial fun fu x => by kernel_rfl
def spot_one_r (fu : Nat) (a : (List UInt8 × (Int × Int × Int) × (Int × Int × Int) × List (Int × Int) × List Int) × Unit) : Option (Int × Unit) :=
  bindO (profile_IsName_r fu ((a.1.1, ()))) fun v0 =>
  bif (!v0.1) then
    some (((6 : Int), ()))
  else
  bindO (refspace_Check_r fu ((a.1.2.1, ()))) fun v1 =>
  let v2 : Int := v1.1
  bif (decide (v2 ≠ (0 : Int))) then
    some ((v2, ()))
  else
  bindO (refspace_Check_r fu ((a.1.2.2.1, ()))) fun v3 =>
  let v4 : Int := v3.1
  bif (decide (v4 ≠ (0 : Int))) then
    some ((v4, ()))
  else
  bindO (curve_Check_r fu ((a.1.2.2.2.1, ()))) fun v5 =>
  let v6 : Int := v5.1
  bif (decide (v6 ≠ (0 : Int))) then
    some ((v6, ()))
  else
  bif (decide ((8 : Int) < (List.length a.1.2.2.2.2 : Int))) then
    some (((2 : Int), ()))
  else
  bindO (profile_Tones_r fu ((a.1.2.2.2.2, ((List.length a.1.2.2.2.2 : Int), ())))) fun v7 =>
  let v8 : Int := v7.1
  some ((v8, ()))
def spot_one_an : An := (.n none .z (.n none (.n none .z (.n none (.n none .z .z) .z)) (.n none (.n none .z (.n none .z (.n none (.n none .z .z) .z))) (.n none (.n none .z (.n none .z (.n none (.n none .z .z) .z))) (.n none (.n none .z (.n none .z (.n none (.n none .z .z) .z))) (.n none (.n none .z (.n none (.n none .z .z) .z)) (.n none (.dr [] []) .z)))))))
noncomputable def spot_one_dc : List (Nat × Ctr) := [(72, refspace_Check_ctr), (86, profile_Tones_ctr), (98, profile_IsName_ctr), (100, curve_Check_ctr)]
def spot_one_ctr : Ctr := ⟨(.pair (.ptr (.pair .str (.pair (.pair (.int .i64) (.pair (.int .i64) (.int .i64))) (.pair (.pair (.int .i64) (.pair (.int .i64) (.int .i64))) (.pair (.list (.pair (.int .i64) (.int .i64))) (.list (.int .i64))))))) .unit), (.pair (.int .i64) .unit), spot_one_r, 144⟩
theorem spot_one_ok : CtrOk Try.prog 144 spot_one_ctr := ctr_ok (l := spot_one_dc) (f := 12) (an := spot_one_an) ⟨refspace_Check_ok, ⟨profile_Tones_ok, ⟨profile_IsName_ok, ⟨curve_Check_ok, trivial⟩⟩⟩⟩ fun fu x => by kernel_rfl
def spot_Check_l2 (fu : Nat) (a : List (List UInt8 × (Int × Int × Int) × (Int × Int × Int) × List (Int × Int) × List Int) × Unit) (v0 : Int) (j0 : (Int) → Option (Int × Unit)) (j4 : (Int) → Option (Int × Unit)) (v4 : Int) : Option (Int × Unit) :=
  bif (decide (v4 < v0)) then
    bif ((decide ((0 : Int) ≤ v4)) && (decide (v4 < (List.length a.1 : Int)))) then
    let v5 : List UInt8 × (Int × Int × Int) × (Int × Int × Int) × List (Int × Int) × List Int := (List.getD a.1 (Int.toNat v4) ([], ((0, (0, 0)), ((0, (0, 0)), ([], [])))))
    bif ((decide ((0 : Int) ≤ v0)) && (decide (v0 < (List.length a.1 : Int)))) then
    let v6 : List UInt8 × (Int × Int × Int) × (Int × Int × Int) × List (Int × Int) × List Int := (List.getD a.1 (Int.toNat v0) ([], ((0, (0, 0)), ((0, (0, 0)), ([], [])))))
    bif (decide (v5.1 = v6.1)) then
      some (((7 : Int), ()))
    else
    j4 ((IntKind.i64.wrap (v4 + (1 : Int))))
    else none
    else none
  else
  j0 ((IntKind.i64.wrap (v0 + (1 : Int))))
def spot_Check_l1 (fu : Nat) (a : List (List UInt8 × (Int × Int × Int) × (Int × Int × Int) × List (Int × Int) × List Int) × Unit) (j0 : (Int) → Option (Int × Unit)) (v0 : Int) : Option (Int × Unit) :=
  bif (decide (v0 < (List.length a.1 : Int))) then
    bif ((decide ((0 : Int) ≤ v0)) && (decide (v0 < (List.length a.1 : Int)))) then
    let v1 : List UInt8 × (Int × Int × Int) × (Int × Int × Int) × List (Int × Int) × List Int := (List.getD a.1 (Int.toNat v0) ([], ((0, (0, 0)), ((0, (0, 0)), ([], [])))))
    bindO (spot_one_r fu ((v1, ()))) fun v2 =>
    let v3 : Int := v2.1
    bif (decide (v3 ≠ (0 : Int))) then
      some ((v3, ()))
    else
    loopF (spot_Check_l2 fu a v0 j0) fu ((0 : Int))
    else none
  else
  some (((0 : Int), ()))
def spot_Check_r (fu : Nat) (a : List (List UInt8 × (Int × Int × Int) × (Int × Int × Int) × List (Int × Int) × List Int) × Unit) : Option (Int × Unit) :=
  bif (decide ((40 : Int) < (List.length a.1 : Int))) then
    some (((2 : Int), ()))
  else
  loopF (spot_Check_l1 fu a) fu ((0 : Int))
def spot_Check_an : An := (.n none .z (.n none (.n none .z (.n none (.n none .z .z) .z)) (.n none (.n none .z (.n none (.n (some ⟨[0, 10], [], [], [.reg 11 (.int .i64)], 0, []⟩) (.n none .z (.n none .z (.n none (.n none (.n none .z (.n none (.n none .z (.n none .z (.n none (.n none .z .z) .z))) (.n none .z (.n none (.n (some ⟨[11, 3, 21], [], [], [.reg 22 (.int .i64)], 0, []⟩) (.n none .z (.n none .z (.n none (.n none (.n none .z (.n none (.dr [] []) (.n none (.n none .z .z) .z))) .z) .z))) .z) .z)))) .z) .z))) .z) .z)) (.n none .z .z))))
noncomputable def spot_Check_dc : List (Nat × Ctr) := [(144, spot_one_ctr)]
def spot_Check_ctr : Ctr := ⟨(.pair (.list (.pair .str (.pair (.pair (.int .i64) (.pair (.int .i64) (.int .i64))) (.pair (.pair (.int .i64) (.pair (.int .i64) (.int .i64))) (.pair (.list (.pair (.int .i64) (.int .i64))) (.list (.int .i64))))))) .unit), (.pair (.int .i64) .unit), spot_Check_r, 115⟩
theorem spot_Check_ok : CtrOk Try.prog 115 spot_Check_ctr := ctr_ok (l := spot_Check_dc) (f := 12) (an := spot_Check_an) ⟨spot_one_ok, trivial⟩ fun fu x => by kernel_rfl
def grid_nodes_l3 (fu : Nat) (a : Int × Int × Int × Unit) (j2 : (Int × Int) → Option (Int × Int × Unit)) (v2 : Int × Int) : Option (Int × Int × Unit) :=
  bif (decide (v2.2 < a.1)) then
    let v3 : Int := (IntKind.i64.wrap (v2.1 * a.2.2.1))
    j2 ((v3, (IntKind.i64.wrap (v2.2 + (1 : Int)))))
  else
  bif (decide ((32768 : Int) < (IntKind.i64.wrap (v2.1 * a.2.1)))) then
    some (((0 : Int), ((2 : Int), ())))
  else
  let v3 : Int := v2.1
  some ((v3, ((0 : Int), ())))
def grid_nodes_j2 (fu : Nat) (a : Int × Int × Int × Unit) (v1 : Bool) : Option (Int × Int × Unit) :=
  bif v1 then
    loopF (grid_nodes_l3 fu a) fu (((1 : Int), (0 : Int)))
  else
  some (((0 : Int), ((3 : Int), ())))
def grid_nodes_j1 (fu : Nat) (a : Int × Int × Int × Unit) (v0 : Bool) : Option (Int × Int × Unit) :=
  bif v0 then
    some (((0 : Int), ((3 : Int), ())))
  else
  joinF (grid_nodes_j2 fu a) fun j1 =>
  let v2 : Bool := (decide (a.2.2.1 = (2 : Int)))
  bif v2 then
    j1 (v2)
  else
  let v3 : Bool := (decide (a.2.2.1 = (3 : Int)))
  bif v3 then
    j1 (v3)
  else
  let v4 : Bool := (decide (a.2.2.1 = (4 : Int)))
  bif v4 then
    j1 (v4)
  else
  let v5 : Bool := (decide (a.2.2.1 = (5 : Int)))
  bif v5 then
    j1 (v5)
  else
  let v6 : Bool := (decide (a.2.2.1 = (6 : Int)))
  bif v6 then
    j1 (v6)
  else
  let v7 : Bool := (decide (a.2.2.1 = (7 : Int)))
  bif v7 then
    j1 (v7)
  else
  let v8 : Bool := (decide (a.2.2.1 = (9 : Int)))
  j1 (v8)
def grid_nodes_r (fu : Nat) (a : Int × Int × Int × Unit) : Option (Int × Int × Unit) :=
  joinF (grid_nodes_j1 fu a) fun j0 =>
  bif (decide (a.1 < (1 : Int))) then
    j0 (true)
  else
  bif (decide ((4 : Int) < a.1)) then
    j0 (true)
  else
  bif (decide (a.2.1 < (1 : Int))) then
    j0 (true)
  else
  j0 ((decide ((8 : Int) < a.2.1)))
def grid_nodes_an : An := (.n none .z (.n none (.n (some ⟨[2, 1, 0], [], [], [.reg 22 .bool], 0, []⟩) .z (.n none (.n none .z .z) .z)) (.n none (.n none .z (.n none (.n (some ⟨[2, 1, 0], [], [], [.reg 24 .bool], 0, []⟩) (.n none .z (.n none .z (.n none .z (.n none .z (.n none .z (.n none .z (.n none .z (.n none .z (.n none .z (.n none .z (.n none .z (.n none .z .z)))))))))))) (.n none .z (.n none .z .z))) .z)) (.n none .z (.n none (.n none .z (.n none (.n (some ⟨[1, 2, 32], [], [], [.reg 8 (.int .i64), .reg 33 (.int .i64)], 0, []⟩) (.n none .z (.n none .z (.n none (.n none .z .z) .z))) .z) .z)) (.n none (.n none .z (.n none (.n none .z .z) .z)) (.n none .z .z)))))))
noncomputable def grid_nodes_dc : List (Nat × Ctr) := []
def grid_nodes_ctr : Ctr := ⟨(.pair (.int .i64) (.pair (.int .i64) (.pair (.int .i64) .unit))), (.pair (.int .i64) (.pair (.int .i64) .unit)), grid_nodes_r, 140⟩
theorem grid_nodes_ok : CtrOk Try.prog 140 grid_nodes_ctr := ctr_ok (l := grid_nodes_dc) (f := 12) (an := grid_nodes_an) trivial fun fu x => by kernel_rfl
def grid_Check_j2 (fu : Nat) (v3 : Int) (j3 : (Int) → Option (Int × Unit)) (v5 : Bool) : Option (Int × Unit) :=
  bif v5 then
    some (((3 : Int), ()))
  else
  j3 ((IntKind.i64.wrap (v3 + (1 : Int))))
def grid_Check_l1 (fu : Nat) (a : (Int × Int × Int × List Int) × Unit) (j3 : (Int) → Option (Int × Unit)) (v3 : Int) : Option (Int × Unit) :=
  bif (decide (v3 < (List.length a.1.2.2.2 : Int))) then
    bif ((decide ((0 : Int) ≤ v3)) && (decide (v3 < (List.length a.1.2.2.2 : Int)))) then
    let v4 : Int := (List.getD a.1.2.2.2 (Int.toNat v3) 0)
    joinF (grid_Check_j2 fu v3 j3) fun j5 =>
    bif (decide (v4 < (-32768 : Int))) then
      j5 (true)
    else
    j5 ((decide ((65535 : Int) < v4)))
    else none
  else
  some (((0 : Int), ()))
def grid_Check_r (fu : Nat) (a : (Int × Int × Int × List Int) × Unit) : Option (Int × Unit) :=
  bindO (grid_nodes_r fu ((a.1.1, (a.1.2.1, (a.1.2.2.1, ()))))) fun v0 =>
  let v1 : Int := v0.1
  let v2 : Int := v0.2.1
  bif (decide (v2 ≠ (0 : Int))) then
    some ((v2, ()))
  else
  bif (decide ((List.length a.1.2.2.2 : Int) ≠ (IntKind.i64.wrap (v1 * a.1.2.1)))) then
    some (((4 : Int), ()))
  else
  loopF (grid_Check_l1 fu a) fu ((0 : Int))
def grid_Check_an : An := (.n none .z (.n none .z (.n none (.n none .z (.n none (.n none .z .z) .z)) (.n none (.n none .z (.n none (.n none .z .z) .z)) (.n none (.n none .z (.n none (.n (some ⟨[29, 30], [0], [], [.reg 31 (.int .i64)], 0, []⟩) (.n none .z (.n none .z (.n none (.n none (.n none .z (.n (some ⟨[31], [], [], [.reg 40 .bool], 0, []⟩) .z (.n none (.n none .z .z) .z))) .z) .z))) .z) .z)) (.n none .z .z))))))
noncomputable def grid_Check_dc : List (Nat × Ctr) := [(140, grid_nodes_ctr)]
def grid_Check_ctr : Ctr := ⟨(.pair (.agg (.pair (.int .i64) (.pair (.int .i64) (.pair (.int .i64) (.list (.int .i64)))))) .unit), (.pair (.int .i64) .unit), grid_Check_r, 101⟩
theorem grid_Check_ok : CtrOk Try.prog 101 grid_Check_ctr := ctr_ok (l := grid_Check_dc) (f := 12) (an := grid_Check_an) ⟨grid_nodes_ok, trivial⟩ fun fu x => by kernel_rfl
def devicelink_Check_j2 (fu : Nat) (v2 : Int) (j2 : (Int) → Option (Int × Unit)) (v4 : Bool) : Option (Int × Unit) :=
  bif v4 then
    some (((3 : Int), ()))
  else
  j2 ((IntKind.i64.wrap (v2 + (1 : Int))))
def devicelink_Check_l1 (fu : Nat) (a : (Int × Int × Int × List Int) × Unit) (j2 : (Int) → Option (Int × Unit)) (v2 : Int) : Option (Int × Unit) :=
  bif (decide (v2 < (List.length a.1.2.2.2 : Int))) then
    bif ((decide ((0 : Int) ≤ v2)) && (decide (v2 < (List.length a.1.2.2.2 : Int)))) then
    let v3 : Int := (List.getD a.1.2.2.2 (Int.toNat v2) 0)
    joinF (devicelink_Check_j2 fu v2 j2) fun j4 =>
    bif (decide (v3 < (0 : Int))) then
      j4 (true)
    else
    j4 ((decide ((65280 : Int) < v3)))
    else none
  else
  some (((0 : Int), ()))
def devicelink_Check_r (fu : Nat) (a : (Int × Int × Int × List Int) × Unit) : Option (Int × Unit) :=
  bindO (grid_Check_r fu ((a.1, ()))) fun v0 =>
  let v1 : Int := v0.1
  bif (decide (v1 ≠ (0 : Int))) then
    some ((v1, ()))
  else
  loopF (devicelink_Check_l1 fu a) fu ((0 : Int))
def devicelink_Check_an : An := (.n none .z (.n none (.n none .z (.n none .z (.n none (.n none .z .z) .z))) (.n none (.n none .z (.n none (.n (some ⟨[12, 13], [0], [], [.reg 14 (.int .i64)], 0, []⟩) (.n none .z (.n none .z (.n none (.n none (.n none .z (.n (some ⟨[14], [], [], [.reg 23 .bool], 0, []⟩) .z (.n none (.n none .z .z) .z))) .z) .z))) .z) .z)) (.n none .z .z))))
noncomputable def devicelink_Check_dc : List (Nat × Ctr) := [(101, grid_Check_ctr)]
def devicelink_Check_ctr : Ctr := ⟨(.pair (.agg (.pair (.int .i64) (.pair (.int .i64) (.pair (.int .i64) (.list (.int .i64)))))) .unit), (.pair (.int .i64) .unit), devicelink_Check_r, 70⟩
theorem devicelink_Check_ok : CtrOk Try.prog 70 devicelink_Check_ctr := ctr_ok (l := devicelink_Check_dc) (f := 12) (an := devicelink_Check_an) ⟨grid_Check_ok, trivial⟩ fun fu x => by kernel_rfl
def condition_table_j1 (fu : Nat) (v2 : Bool) : Option (Int × Unit) :=
  bif v2 then
    some (((4 : Int), ()))
  else
  some (((0 : Int), ()))
def condition_table_r (fu : Nat) (a : (Int × Int × Int × List Int) × Int × Int × Unit) : Option (Int × Unit) :=
  bindO (devicelink_Check_r fu ((a.1, ()))) fun v0 =>
  let v1 : Int := v0.1
  bif (decide (v1 ≠ (0 : Int))) then
    some ((v1, ()))
  else
  joinF (condition_table_j1 fu) fun j2 =>
  bif (decide (a.1.1 ≠ a.2.1)) then
    j2 (true)
  else
  j2 ((decide (a.1.2.1 ≠ a.2.2.1)))
def condition_table_an : An := (.n none .z (.n none (.n none .z (.n none .z (.n none (.n none .z .z) .z))) (.n none (.n (some ⟨[], [0], [], [.reg 22 .bool], 0, []⟩) .z (.n none (.n none .z .z) .z)) (.n none .z .z))))
noncomputable def condition_table_dc : List (Nat × Ctr) := [(70, devicelink_Check_ctr)]
def condition_table_ctr : Ctr := ⟨(.pair (.agg (.pair (.int .i64) (.pair (.int .i64) (.pair (.int .i64) (.list (.int .i64)))))) (.pair (.int .i64) (.pair (.int .i64) .unit))), (.pair (.int .i64) .unit), condition_table_r, 114⟩
theorem condition_table_ok : CtrOk Try.prog 114 condition_table_ctr := ctr_ok (l := condition_table_dc) (f := 12) (an := condition_table_an) ⟨devicelink_Check_ok, trivial⟩ fun fu x => by kernel_rfl
def condition_distinct_l3 (fu : Nat) (a : List Int × Int × Unit) (v0 : Int) (v1 : Int) (j0 : (Int) → Option (Int × Unit)) (j3 : (Int) → Option (Int × Unit)) (v3 : Int) : Option (Int × Unit) :=
  bif (decide (v3 < (List.length (List.drop (Int.toNat (0 : Int)) (List.take (Int.toNat v0) a.1)) : Int))) then
    bif ((decide ((0 : Int) ≤ v3)) && (decide (v3 < (List.length (List.drop (Int.toNat (0 : Int)) (List.take (Int.toNat v0) a.1)) : Int)))) then
    let v4 : Int := (List.getD (List.drop (Int.toNat (0 : Int)) (List.take (Int.toNat v0) a.1)) (Int.toNat v3) 0)
    bif (decide (v4 = v1)) then
      some (((7 : Int), ()))
    else
    j3 ((IntKind.i64.wrap (v3 + (1 : Int))))
    else none
  else
  j0 ((IntKind.i64.wrap (v0 + (1 : Int))))
def condition_distinct_j2 (fu : Nat) (a : List Int × Int × Unit) (v0 : Int) (v1 : Int) (j0 : (Int) → Option (Int × Unit)) (v2 : Bool) : Option (Int × Unit) :=
  bif v2 then
    some (((3 : Int), ()))
  else
  bif ((decide ((0 : Int) ≤ v0)) && (decide (v0 ≤ (List.length a.1 : Int)))) then
  loopF (condition_distinct_l3 fu a v0 v1 j0) fu ((0 : Int))
  else none
def condition_distinct_l1 (fu : Nat) (a : List Int × Int × Unit) (j0 : (Int) → Option (Int × Unit)) (v0 : Int) : Option (Int × Unit) :=
  bif (decide (v0 < (List.length a.1 : Int))) then
    bif ((decide ((0 : Int) ≤ v0)) && (decide (v0 < (List.length a.1 : Int)))) then
    let v1 : Int := (List.getD a.1 (Int.toNat v0) 0)
    joinF (condition_distinct_j2 fu a v0 v1 j0) fun j2 =>
    bif (decide (v1 < (0 : Int))) then
      j2 (true)
    else
    j2 ((decide (a.2.1 ≤ v1)))
    else none
  else
  some (((0 : Int), ()))
def condition_distinct_r (fu : Nat) (a : List Int × Int × Unit) : Option (Int × Unit) :=
  loopF (condition_distinct_l1 fu a) fu ((0 : Int))
def condition_distinct_an : An := (.n none .z (.n none (.n none .z (.n none (.n (some ⟨[9, 1, 0, 10], [], [], [.reg 11 (.int .i64)], 0, []⟩) (.n none .z (.n none .z (.n none (.n none (.n none .z (.n none (.n (some ⟨[5, 11, 6], [], [], [.reg 22 .bool], 0, []⟩) .z (.n none (.n none .z .z) .z)) (.n none .z (.n none (.n (some ⟨[11, 25, 6, 26], [], [], [.reg 27 (.int .i64)], 0, []⟩) (.n none .z (.n none .z (.n none (.n none (.n none .z (.n none .z (.n none (.n none .z .z) .z))) .z) .z))) .z) .z)))) .z) .z))) .z) .z)) (.n none .z .z)))
noncomputable def condition_distinct_dc : List (Nat × Ctr) := []
def condition_distinct_ctr : Ctr := ⟨(.pair (.list (.int .i64)) (.pair (.int .i64) .unit)), (.pair (.int .i64) .unit), condition_distinct_r, 113⟩
theorem condition_distinct_ok : CtrOk Try.prog 113 condition_distinct_ctr := ctr_ok (l := condition_distinct_dc) (f := 12) (an := condition_distinct_an) trivial fun fu x => by kernel_rfl
def profile_Names_l2 (fu : Nat) (a : List (List UInt8) × Unit) (v0 : Int) (v1 : List UInt8) (j0 : (Int) → Option (Int × Unit)) (j3 : (Int) → Option (Int × Unit)) (v3 : Int) : Option (Int × Unit) :=
  bif (decide (v3 < (List.length (List.drop (Int.toNat (0 : Int)) (List.take (Int.toNat v0) a.1)) : Int))) then
    bif ((decide ((0 : Int) ≤ v3)) && (decide (v3 < (List.length (List.drop (Int.toNat (0 : Int)) (List.take (Int.toNat v0) a.1)) : Int)))) then
    let v4 : List UInt8 := (List.getD (List.drop (Int.toNat (0 : Int)) (List.take (Int.toNat v0) a.1)) (Int.toNat v3) [])
    bif (decide (v1 = v4)) then
      some (((7 : Int), ()))
    else
    j3 ((IntKind.i64.wrap (v3 + (1 : Int))))
    else none
  else
  j0 ((IntKind.i64.wrap (v0 + (1 : Int))))
def profile_Names_l1 (fu : Nat) (a : List (List UInt8) × Unit) (j0 : (Int) → Option (Int × Unit)) (v0 : Int) : Option (Int × Unit) :=
  bif (decide (v0 < (List.length a.1 : Int))) then
    bif ((decide ((0 : Int) ≤ v0)) && (decide (v0 < (List.length a.1 : Int)))) then
    let v1 : List UInt8 := (List.getD a.1 (Int.toNat v0) [])
    bindO (profile_IsName_r fu ((v1, ()))) fun v2 =>
    bif (!v2.1) then
      some (((6 : Int), ()))
    else
    bif ((decide ((0 : Int) ≤ v0)) && (decide (v0 ≤ (List.length a.1 : Int)))) then
    loopF (profile_Names_l2 fu a v0 v1 j0) fu ((0 : Int))
    else none
    else none
  else
  some (((0 : Int), ()))
def profile_Names_r (fu : Nat) (a : List (List UInt8) × Unit) : Option (Int × Unit) :=
  loopF (profile_Names_l1 fu a) fu ((0 : Int))
def profile_Names_an : An := (.n none .z (.n none (.n none .z (.n none (.n (some ⟨[7, 0, 8], [], [], [.reg 9 (.int .i64)], 0, []⟩) (.n none .z (.n none .z (.n none (.n none (.n none .z (.n none (.n none .z (.n none (.n none .z .z) .z)) (.n none .z (.n none (.n (some ⟨[9, 19, 4, 20], [], [], [.reg 21 (.int .i64)], 0, []⟩) (.n none .z (.n none .z (.n none (.n none (.n none .z (.n none .z (.n none (.n none .z .z) .z))) .z) .z))) .z) .z)))) .z) .z))) .z) .z)) (.n none .z .z)))
noncomputable def profile_Names_dc : List (Nat × Ctr) := [(98, profile_IsName_ctr)]
def profile_Names_ctr : Ctr := ⟨(.pair (.list .str) .unit), (.pair (.int .i64) .unit), profile_Names_r, 99⟩
theorem profile_Names_ok : CtrOk Try.prog 99 profile_Names_ctr := ctr_ok (l := profile_Names_dc) (f := 12) (an := profile_Names_an) ⟨profile_IsName_ok, trivial⟩ fun fu x => by kernel_rfl
def condition_Check_j3 (fu : Nat) (v16 : Int) (j16 : (Int) → Option (Int × Unit)) (v18 : Bool) : Option (Int × Unit) :=
  bif v18 then
    some (((4 : Int), ()))
  else
  j16 ((IntKind.i64.wrap (v16 + (1 : Int))))
def condition_Check_j4 (fu : Nat) (v17 : Bool) : Option (Int × Unit) :=
  bif v17 then
    some (((3 : Int), ()))
  else
  some (((0 : Int), ()))
def condition_Check_l2 (fu : Nat) (a : (List (List UInt8) × List Int × List Int × (Int × Int × Int × List Int) × (Int × Int × Int × List Int) × List (List UInt8 × (Int × Int × Int) × (Int × Int × Int) × List (Int × Int) × List Int) × Int) × Unit) (j16 : (Int) → Option (Int × Unit)) (v16 : Int) : Option (Int × Unit) :=
  bif (decide (v16 < (List.length a.1.2.2.2.2.2.1 : Int))) then
    bif ((decide ((0 : Int) ≤ v16)) && (decide (v16 < (List.length a.1.2.2.2.2.2.1 : Int)))) then
    let v17 : List UInt8 × (Int × Int × Int) × (Int × Int × Int) × List (Int × Int) × List Int := (List.getD a.1.2.2.2.2.2.1 (Int.toNat v16) ([], ((0, (0, 0)), ((0, (0, 0)), ([], [])))))
    joinF (condition_Check_j3 fu v16 j16) fun j18 =>
    bif (decide ((List.length v17.2.2.2.2 : Int) ≠ (4 : Int))) then
      j18 (true)
    else
    j18 ((decide ((List.length a.1.2.1 : Int) ≠ (4 : Int))))
    else none
  else
  joinF (condition_Check_j4 fu) fun j17 =>
  bif (decide (a.1.2.2.2.2.2.2 < (0 : Int))) then
    j17 (true)
  else
  j17 ((decide ((2040 : Int) < a.1.2.2.2.2.2.2)))
def condition_Check_j1 (fu : Nat) (a : (List (List UInt8) × List Int × List Int × (Int × Int × Int × List Int) × (Int × Int × Int × List Int) × List (List UInt8 × (Int × Int × Int) × (Int × Int × Int) × List (Int × Int) × List Int) × Int) × Unit) (v0 : Int) (v5 : Bool) : Option (Int × Unit) :=
  bif v5 then
    some (((4 : Int), ()))
  else
  bindO (condition_distinct_r fu ((a.1.2.1, (v0, ())))) fun v6 =>
  let v7 : Int := v6.1
  bif (decide (v7 ≠ (0 : Int))) then
    some ((v7, ()))
  else
  bindO (condition_distinct_r fu ((a.1.2.2.1, (v0, ())))) fun v8 =>
  let v9 : Int := v8.1
  bif (decide (v9 ≠ (0 : Int))) then
    some ((v9, ()))
  else
  bindO (condition_table_r fu ((a.1.2.2.2.1, ((1 : Int), (v0, ()))))) fun v10 =>
  let v11 : Int := v10.1
  bif (decide (v11 ≠ (0 : Int))) then
    some ((v11, ()))
  else
  bindO (condition_table_r fu ((a.1.2.2.2.2.1, ((3 : Int), (v0, ()))))) fun v12 =>
  let v13 : Int := v12.1
  bif (decide (v13 ≠ (0 : Int))) then
    some ((v13, ()))
  else
  bindO (spot_Check_r fu ((a.1.2.2.2.2.2.1, ()))) fun v14 =>
  let v15 : Int := v14.1
  bif (decide (v15 ≠ (0 : Int))) then
    some ((v15, ()))
  else
  loopF (condition_Check_l2 fu a) fu ((0 : Int))
def condition_Check_r (fu : Nat) (a : (List (List UInt8) × List Int × List Int × (Int × Int × Int × List Int) × (Int × Int × Int × List Int) × List (List UInt8 × (Int × Int × Int) × (Int × Int × Int) × List (Int × Int) × List Int) × Int) × Unit) : Option (Int × Unit) :=
  let v0 : Int := (List.length a.1.1 : Int)
  let v1 : Bool := (decide ((8 : Int) < v0))
  bif v1 then
    some (((2 : Int), ()))
  else
  let v2 : Bool := (decide (v0 = (0 : Int)))
  bif v2 then
    some (((1 : Int), ()))
  else
  bindO (profile_Names_r fu ((a.1.1, ()))) fun v3 =>
  let v4 : Int := v3.1
  bif (decide (v4 ≠ (0 : Int))) then
    some ((v4, ()))
  else
  joinF (condition_Check_j1 fu a v0) fun j5 =>
  bif (decide ((List.length a.1.2.1 : Int) ≠ (0 : Int))) then
    bif (decide ((List.length a.1.2.1 : Int) ≠ (4 : Int))) then
      j5 (true)
    else
    j5 ((decide ((List.length a.1.2.2.1 : Int) ≠ v0)))
  else
  j5 ((decide ((List.length a.1.2.2.1 : Int) ≠ v0)))
def condition_Check_an : An := (.n none .z (.n none .z (.n none (.n none (.n none .z (.n none (.n none .z .z) (.n none .z (.n none (.n none .z .z) .z)))) .z) (.n none (.n none .z (.n none .z (.n none (.n none .z .z) .z))) (.n none (.n (some ⟨[3, 1], [0], [], [.reg 43 .bool], 0, []⟩) .z (.n none (.n none .z .z) .z)) (.n none (.n none .z (.n none .z (.n none (.n none .z .z) .z))) (.n none (.n none .z (.n none .z (.n none (.n none .z .z) .z))) (.n none (.n none .z (.n none .z (.n none (.n none .z .z) .z))) (.n none (.n none .z (.n none .z (.n none (.n none .z .z) .z))) (.n none (.n none .z (.n none .z (.n none (.n none .z .z) .z))) (.n none (.n none .z (.n none (.n (some ⟨[1, 79, 80], [0], [], [.reg 81 (.int .i64)], 0, []⟩) (.n none .z (.n none .z (.n none (.n none (.n none .z (.n (some ⟨[81], [1], [], [.reg 94 .bool], 0, []⟩) .z (.n none (.n none .z .z) .z))) .z) .z))) .z) .z)) (.n none (.n (some ⟨[], [0], [], [.reg 103 .bool], 0, []⟩) .z (.n none (.n none .z .z) .z)) (.n none .z .z)))))))))))))
noncomputable def condition_Check_dc : List (Nat × Ctr) := [(99, profile_Names_ctr), (113, condition_distinct_ctr), (114, condition_table_ctr), (115, spot_Check_ctr)]
def condition_Check_ctr : Ctr := ⟨(.pair (.agg (.pair (.list .str) (.pair (.list (.int .i64)) (.pair (.list (.int .i64)) (.pair (.pair (.int .i64) (.pair (.int .i64) (.pair (.int .i64) (.list (.int .i64))))) (.pair (.pair (.int .i64) (.pair (.int .i64) (.pair (.int .i64) (.list (.int .i64))))) (.pair (.list (.pair .str (.pair (.pair (.int .i64) (.pair (.int .i64) (.int .i64))) (.pair (.pair (.int .i64) (.pair (.int .i64) (.int .i64))) (.pair (.list (.pair (.int .i64) (.int .i64))) (.list (.int .i64))))))) (.int .i64)))))))) .unit), (.pair (.int .i64) .unit), condition_Check_r, 53⟩
theorem condition_Check_ok : CtrOk Try.prog 53 condition_Check_ctr := ctr_ok (l := condition_Check_dc) (f := 12) (an := condition_Check_an) ⟨profile_Names_ok, ⟨condition_distinct_ok, ⟨condition_table_ok, ⟨spot_Check_ok, trivial⟩⟩⟩⟩ fun fu x => by kernel_rfl
def condition_Spot_l2 (fu : Nat) (a : (List (List UInt8) × List Int × List Int × (Int × Int × Int × List Int) × (Int × Int × Int × List Int) × List (List UInt8 × (Int × Int × Int) × (Int × Int × Int) × List (Int × Int) × List Int) × Int) × List UInt8 × Int × Unit) (j3 : (Int × List Int) → Option ((Int × Int × Int × Int × Int × Int × Int × Int) × Int × Unit)) (v3 : Int × List Int) : Option ((Int × Int × Int × Int × Int × Int × Int × Int) × Int × Unit) :=
  bif (decide (v3.1 < (List.length a.1.2.2.2.2.2.1 : Int))) then
    let v4 : Int := v3.1
    bif ((decide ((0 : Int) ≤ v4)) && (decide (v4 < (List.length a.1.2.2.2.2.2.1 : Int)))) then
    let v5 : List UInt8 × (Int × Int × Int) × (Int × Int × Int) × List (Int × Int) × List Int := (List.getD a.1.2.2.2.2.2.1 (Int.toNat v4) ([], ((0, (0, 0)), ((0, (0, 0)), ([], [])))))
    bif (decide (v5.1 = a.2.1)) then
      bif ((decide ((0 : Int) ≤ v4)) && (decide (v4 < (List.length a.1.2.2.2.2.2.1 : Int)))) then
      let v6 : List UInt8 × (Int × Int × Int) × (Int × Int × Int) × List (Int × Int) × List Int := (List.getD a.1.2.2.2.2.2.1 (Int.toNat v4) ([], ((0, (0, 0)), ((0, (0, 0)), ([], [])))))
      bindO (spot_Quick_r fu ((v6, ((IntKind.i64.wrap a.2.2.1), ())))) fun v7 =>
      bindO (condition_placed_r fu ((a.1, (v7.1, ())))) fun v8 =>
      bif (decide ((List.length v3.2 : Int) = (8 : Int))) then
      some ((v8.1, ((0 : Int), ())))
      else none
      else none
    else
    j3 (((IntKind.i64.wrap (v3.1 + (1 : Int))), v3.2))
    else none
  else
  bif (decide ((List.length v3.2 : Int) = (8 : Int))) then
  some ((((0 : Int), ((0 : Int), ((0 : Int), ((0 : Int), ((0 : Int), ((0 : Int), ((0 : Int), (0 : Int)))))))), ((6 : Int), ())))
  else none
def condition_Spot_l1 (fu : Nat) (a : (List (List UInt8) × List Int × List Int × (Int × Int × Int × List Int) × (Int × Int × Int × List Int) × List (List UInt8 × (Int × Int × Int) × (Int × Int × Int) × List (Int × Int) × List Int) × Int) × List UInt8 × Int × Unit) (j2 : (Int × List Int) → Option ((Int × Int × Int × Int × Int × Int × Int × Int) × Int × Unit)) (v2 : Int × List Int) : Option ((Int × Int × Int × Int × Int × Int × Int × Int) × Int × Unit) :=
  bif (decide (v2.1 < (List.length a.1.1 : Int))) then
    bif ((decide ((0 : Int) ≤ v2.1)) && (decide (v2.1 < (List.length a.1.1 : Int)))) then
    let v3 : List UInt8 := (List.getD a.1.1 (Int.toNat v2.1) [])
    let v4 : Int := v2.1
    bif (decide (v3 = a.2.1)) then
      bif ((decide ((0 : Int) ≤ (List.length a.1.1 : Int))) && (decide (((8 : Int) * (List.length a.1.1 : Int)) ≤ (281474976710656 : Int)))) then
      bif ((decide ((0 : Int) ≤ v4)) && (decide (v4 < (List.length (List.replicate (Int.toNat (List.length a.1.1 : Int)) (0 : Int)) : Int)))) then
      bindO (condition_limited_r fu ((a.1, ((List.set (List.replicate (Int.toNat (List.length a.1.1 : Int)) (0 : Int)) (Int.toNat v4) (IntKind.i64.wrap a.2.2.1)), ())))) fun v5 =>
      bif (decide ((List.length v2.2 : Int) = (8 : Int))) then
      some ((v5.1, ((0 : Int), ())))
      else none
      else none
      else none
    else
    j2 (((IntKind.i64.wrap (v2.1 + (1 : Int))), v2.2))
    else none
  else
  loopF (condition_Spot_l2 fu a) fu (((0 : Int), v2.2))
def condition_Spot_r (fu : Nat) (a : (List (List UInt8) × List Int × List Int × (Int × Int × Int × List Int) × (Int × Int × Int × List Int) × List (List UInt8 × (Int × Int × Int) × (Int × Int × Int) × List (Int × Int) × List Int) × Int) × List UInt8 × Int × Unit) : Option ((Int × Int × Int × Int × Int × Int × Int × Int) × Int × Unit) :=
  bindO (condition_Check_r fu ((a.1, ()))) fun v0 =>
  let v1 : Int := v0.1
  bif (decide (v1 ≠ (0 : Int))) then
    some ((((0 : Int), ((0 : Int), ((0 : Int), ((0 : Int), ((0 : Int), ((0 : Int), ((0 : Int), (0 : Int)))))))), (v1, ())))
  else
  loopF (condition_Spot_l1 fu a) fu (((0 : Int), ([(0 : Int), (0 : Int), (0 : Int), (0 : Int), (0 : Int), (0 : Int), (0 : Int), (0 : Int)] : List Int)))
def condition_Spot_an : An := (.n none .z (.n none (.n none .z (.n none .z (.n none (.n none .z .z) .z))) (.n none (.n none .z (.n none (.n (some ⟨[2, 3, 1, 6, 20, 21], [0], [], [.reg 22 (.int .i64), .row 1 true (.int .u8) 90 0], 0, []⟩) (.n none .z (.n none .z (.n none (.n none (.n none .z (.n none .z (.n none (.n none .z (.n none .z (.n none .z .z))) .z))) .z) .z))) .z) .z)) (.n none (.n none .z (.n none (.n (some ⟨[6, 1, 3, 2, 44], [0], [], [.reg 45 (.int .i64), .row 1 true (.int .u8) 90 0], 0, []⟩) (.n none .z (.n none .z (.n none (.n none (.n none .z (.n none .z (.n none (.n none .z .z) .z))) .z) .z))) .z) .z)) (.n none .z .z)))))
noncomputable def condition_Spot_dc : List (Nat × Ctr) := [(53, condition_Check_ctr), (117, condition_placed_ctr), (118, condition_limited_ctr), (119, spot_Quick_ctr)]
def condition_Spot_ctr : Ctr := ⟨(.pair (.agg (.pair (.list .str) (.pair (.list (.int .i64)) (.pair (.list (.int .i64)) (.pair (.pair (.int .i64) (.pair (.int .i64) (.pair (.int .i64) (.list (.int .i64))))) (.pair (.pair (.int .i64) (.pair (.int .i64) (.pair (.int .i64) (.list (.int .i64))))) (.pair (.list (.pair .str (.pair (.pair (.int .i64) (.pair (.int .i64) (.int .i64))) (.pair (.pair (.int .i64) (.pair (.int .i64) (.int .i64))) (.pair (.list (.pair (.int .i64) (.int .i64))) (.list (.int .i64))))))) (.int .i64)))))))) (.pair .str (.pair (.int .u8) .unit))), (.pair (.agg (.pair (.int .u8) (.pair (.int .u8) (.pair (.int .u8) (.pair (.int .u8) (.pair (.int .u8) (.pair (.int .u8) (.pair (.int .u8) (.int .u8))))))))) (.pair (.int .i64) .unit)), condition_Spot_r, 59⟩
theorem condition_Spot_ok : CtrOk Try.prog 59 condition_Spot_ctr := ctr_ok (l := condition_Spot_dc) (f := 12) (an := condition_Spot_an) ⟨condition_Check_ok, ⟨condition_placed_ok, ⟨condition_limited_ok, ⟨spot_Quick_ok, trivial⟩⟩⟩⟩ fun fu x => by kernel_rfl
def condition_Process_l1 (fu : Nat) (a : (List (List UInt8) × List Int × List Int × (Int × Int × Int × List Int) × (Int × Int × Int × List Int) × List (List UInt8 × (Int × Int × Int) × (Int × Int × Int) × List (Int × Int) × List Int) × Int) × (Int × Int × Int × Int) × Unit) (j2 : (Int × List Int) → Option ((Int × Int × Int × Int × Int × Int × Int × Int) × Int × Unit)) (v2 : Int × List Int) : Option ((Int × Int × Int × Int × Int × Int × Int × Int) × Int × Unit) :=
  bif (decide (v2.1 < (4 : Int))) then
    bif ((decide ((0 : Int) ≤ v2.1)) && (decide (v2.1 < (4 : Int)))) then
    let v3 : Int := v2.1
    let v4 : Int := (List.getD ([a.2.1.1, a.2.1.2.1, a.2.1.2.2.1, a.2.1.2.2.2] : List Int) (Int.toNat v2.1) 0)
    bif ((decide ((0 : Int) ≤ v3)) && (decide (v3 < (List.length v2.2 : Int)))) then
    j2 (((IntKind.i64.wrap (v2.1 + (1 : Int))), (List.set v2.2 (Int.toNat v3) (IntKind.i64.wrap v4))))
    else none
    else none
  else
  bindO (condition_placed_r fu ((a.1, (v2.2, ())))) fun v3 =>
  some ((v3.1, ((0 : Int), ())))
def condition_Process_r (fu : Nat) (a : (List (List UInt8) × List Int × List Int × (Int × Int × Int × List Int) × (Int × Int × Int × List Int) × List (List UInt8 × (Int × Int × Int) × (Int × Int × Int) × List (Int × Int) × List Int) × Int) × (Int × Int × Int × Int) × Unit) : Option ((Int × Int × Int × Int × Int × Int × Int × Int) × Int × Unit) :=
  bindO (condition_Check_r fu ((a.1, ()))) fun v0 =>
  let v1 : Int := v0.1
  bif (decide (v1 ≠ (0 : Int))) then
    some ((((0 : Int), ((0 : Int), ((0 : Int), ((0 : Int), ((0 : Int), ((0 : Int), ((0 : Int), (0 : Int)))))))), (v1, ())))
  else
  bif (decide ((List.length a.1.2.1 : Int) = (0 : Int))) then
    some ((((0 : Int), ((0 : Int), ((0 : Int), ((0 : Int), ((0 : Int), ((0 : Int), ((0 : Int), (0 : Int)))))))), ((8 : Int), ())))
  else
  loopF (condition_Process_l1 fu a) fu (((0 : Int), (List.replicate (Int.toNat (4 : Int)) (0 : Int))))
def condition_Process_an : An := (.n none .z (.n none (.n none .z (.n none .z (.n none (.n none .z .z) .z))) (.n none (.n none .z (.n none (.n none .z .z) .z)) (.n none .z (.n none (.n none .z (.n none (.n (some ⟨[4, 2, 7, 22, 5], [1, 2, 0], [], [.reg 23 (.int .i64), .row 3 true (.int .i64) 3 0], 0, []⟩) (.n none .z (.n none .z (.n none (.n none (.n none .z .z) .z) .z))) .z) .z)) (.n none .z .z))))))
noncomputable def condition_Process_dc : List (Nat × Ctr) := [(53, condition_Check_ctr), (117, condition_placed_ctr)]
def condition_Process_ctr : Ctr := ⟨(.pair (.agg (.pair (.list .str) (.pair (.list (.int .i64)) (.pair (.list (.int .i64)) (.pair (.pair (.int .i64) (.pair (.int .i64) (.pair (.int .i64) (.list (.int .i64))))) (.pair (.pair (.int .i64) (.pair (.int .i64) (.pair (.int .i64) (.list (.int .i64))))) (.pair (.list (.pair .str (.pair (.pair (.int .i64) (.pair (.int .i64) (.int .i64))) (.pair (.pair (.int .i64) (.pair (.int .i64) (.int .i64))) (.pair (.list (.pair (.int .i64) (.int .i64))) (.list (.int .i64))))))) (.int .i64)))))))) (.pair (.agg (.pair (.int .u8) (.pair (.int .u8) (.pair (.int .u8) (.int .u8))))) .unit)), (.pair (.agg (.pair (.int .u8) (.pair (.int .u8) (.pair (.int .u8) (.pair (.int .u8) (.pair (.int .u8) (.pair (.int .u8) (.pair (.int .u8) (.int .u8))))))))) (.pair (.int .i64) .unit)), condition_Process_r, 58⟩
theorem condition_Process_ok : CtrOk Try.prog 58 condition_Process_ctr := ctr_ok (l := condition_Process_dc) (f := 12) (an := condition_Process_an) ⟨condition_Check_ok, ⟨condition_placed_ok, trivial⟩⟩ fun fu x => by kernel_rfl
def condition_Order_r (fu : Nat) (a : (List (List UInt8) × List Int × List Int × (Int × Int × Int × List Int) × (Int × Int × Int × List Int) × List (List UInt8 × (Int × Int × Int) × (Int × Int × Int) × List (Int × Int) × List Int) × Int) × Unit) : Option (List Int × Int × Unit) :=
  bindO (condition_Check_r fu ((a.1, ()))) fun v0 =>
  let v1 : Int := v0.1
  bif (decide (v1 ≠ (0 : Int))) then
    some ((([] : List (Int)), (v1, ())))
  else
  bif (decide (((List.length a.1.2.2.1 : Int) * (8 : Int)) ≤ (140737488355328 : Int))) then
  some ((a.1.2.2.1, ((0 : Int), ())))
  else none
def condition_Order_an : An := (.n none .z (.n none (.n none .z (.n none .z (.n none (.n none .z .z) .z))) (.n none .z .z)))
noncomputable def condition_Order_dc : List (Nat × Ctr) := [(53, condition_Check_ctr)]
def condition_Order_ctr : Ctr := ⟨(.pair (.agg (.pair (.list .str) (.pair (.list (.int .i64)) (.pair (.list (.int .i64)) (.pair (.pair (.int .i64) (.pair (.int .i64) (.pair (.int .i64) (.list (.int .i64))))) (.pair (.pair (.int .i64) (.pair (.int .i64) (.pair (.int .i64) (.list (.int .i64))))) (.pair (.list (.pair .str (.pair (.pair (.int .i64) (.pair (.int .i64) (.int .i64))) (.pair (.pair (.int .i64) (.pair (.int .i64) (.int .i64))) (.pair (.list (.pair (.int .i64) (.int .i64))) (.list (.int .i64))))))) (.int .i64)))))))) .unit), (.pair (.list (.int .i64)) (.pair (.int .i64) .unit)), condition_Order_r, 57⟩
theorem condition_Order_ok : CtrOk Try.prog 57 condition_Order_ctr := ctr_ok (l := condition_Order_dc) (f := 12) (an := condition_Order_an) ⟨condition_Check_ok, trivial⟩ fun fu x => by kernel_rfl
def condition_Names_r (fu : Nat) (a : (List (List UInt8) × List Int × List Int × (Int × Int × Int × List Int) × (Int × Int × Int × List Int) × List (List UInt8 × (Int × Int × Int) × (Int × Int × Int) × List (Int × Int) × List Int) × Int) × Unit) : Option (List (List UInt8) × Int × Unit) :=
  bindO (condition_Check_r fu ((a.1, ()))) fun v0 =>
  let v1 : Int := v0.1
  bif (decide (v1 ≠ (0 : Int))) then
    some ((([] : List (List UInt8)), (v1, ())))
  else
  bif (decide (((List.length a.1.1 : Int) * (16 : Int)) ≤ (140737488355328 : Int))) then
  some ((a.1.1, ((0 : Int), ())))
  else none
def condition_Names_an : An := (.n none .z (.n none (.n none .z (.n none .z (.n none (.n none .z .z) .z))) (.n none .z .z)))
noncomputable def condition_Names_dc : List (Nat × Ctr) := [(53, condition_Check_ctr)]
def condition_Names_ctr : Ctr := ⟨(.pair (.agg (.pair (.list .str) (.pair (.list (.int .i64)) (.pair (.list (.int .i64)) (.pair (.pair (.int .i64) (.pair (.int .i64) (.pair (.int .i64) (.list (.int .i64))))) (.pair (.pair (.int .i64) (.pair (.int .i64) (.pair (.int .i64) (.list (.int .i64))))) (.pair (.list (.pair .str (.pair (.pair (.int .i64) (.pair (.int .i64) (.int .i64))) (.pair (.pair (.int .i64) (.pair (.int .i64) (.int .i64))) (.pair (.list (.pair (.int .i64) (.int .i64))) (.list (.int .i64))))))) (.int .i64)))))))) .unit), (.pair (.list .str) (.pair (.int .i64) .unit)), condition_Names_r, 56⟩
theorem condition_Names_ok : CtrOk Try.prog 56 condition_Names_ctr := ctr_ok (l := condition_Names_dc) (f := 12) (an := condition_Names_an) ⟨condition_Check_ok, trivial⟩ fun fu x => by kernel_rfl
def law_ConditionInks_l5 (fu : Nat) (a : (List (List UInt8) × List Int × List Int × (Int × Int × Int × List Int) × (Int × Int × Int × List Int) × List (List UInt8 × (Int × Int × Int) × (Int × Int × Int) × List (Int × Int) × List Int) × Int) × (Int × Int × Int × Int) × List UInt8 × Int × Unit) (v9 : (Int × Int × Int × Int × Int × Int × Int × Int) × Int × Unit) (v10 : Int) (v20 : List Int × Unit) (j21 : (Int × List Int) → Option (Bool × Unit)) (v21 : Int × List Int) : Option (Bool × Unit) :=
  bif (decide (v21.1 < (List.length v20.1 : Int))) then
    bif ((decide ((0 : Int) ≤ v21.1)) && (decide (v21.1 < (List.length v20.1 : Int)))) then
    let v22 : Int := (List.getD v20.1 (Int.toNat v21.1) 0)
    let v23 : Int := v21.1
    bif ((decide ((0 : Int) ≤ v23)) && (decide (v23 < (List.length a.1.2.1 : Int)))) then
    let v24 : Int := (List.getD a.1.2.1 (Int.toNat v23) 0)
    bif ((decide ((0 : Int) ≤ v24)) && (decide (v24 < (List.length v21.2 : Int)))) then
    j21 (((IntKind.i64.wrap (v21.1 + (1 : Int))), (List.set v21.2 (Int.toNat v24) v22)))
    else none
    else none
    else none
  else
  bif (decide (v10 = (0 : Int))) then
    bindO (R_Vector_r fu ((a.1, (v21.2, ())))) fun v22 =>
    let v23 : Bool := ((decide (v9.1.1 = v22.1.1)) && ((decide (v9.1.2.1 = v22.1.2.1)) && ((decide (v9.1.2.2.1 = v22.1.2.2.1)) && ((decide (v9.1.2.2.2.1 = v22.1.2.2.2.1)) && ((decide (v9.1.2.2.2.2.1 = v22.1.2.2.2.2.1)) && ((decide (v9.1.2.2.2.2.2.1 = v22.1.2.2.2.2.2.1)) && ((decide (v9.1.2.2.2.2.2.2.1 = v22.1.2.2.2.2.2.2.1)) && (decide (v9.1.2.2.2.2.2.2.2 = v22.1.2.2.2.2.2.2.2)))))))))
    some ((v23, ()))
  else
  some ((false, ()))
def law_ConditionInks_l4 (fu : Nat) (a : (List (List UInt8) × List Int × List Int × (Int × Int × Int × List Int) × (Int × Int × Int × List Int) × List (List UInt8 × (Int × Int × Int) × (Int × Int × Int) × List (Int × Int) × List Int) × Int) × (Int × Int × Int × Int) × List UInt8 × Int × Unit) (v9 : (Int × Int × Int × Int × Int × Int × Int × Int) × Int × Unit) (v10 : Int) (j16 : (Int × List Int) → Option (Bool × Unit)) (v16 : Int × List Int) : Option (Bool × Unit) :=
  bif (decide (v16.1 < (List.length a.1.1 : Int))) then
    bif ((decide ((0 : Int) ≤ v16.1)) && (decide (v16.1 < (List.length a.1.1 : Int)))) then
    let v17 : List UInt8 := (List.getD a.1.1 (Int.toNat v16.1) [])
    let v18 : Int := v16.1
    bif (decide (v17 = a.2.2.1)) then
      bif ((decide ((0 : Int) ≤ v18)) && (decide (v18 < (List.length v16.2 : Int)))) then
      bif (decide (v10 = (0 : Int))) then
        bindO (R_Vector_r fu ((a.1, ((List.set v16.2 (Int.toNat v18) (IntKind.i64.wrap a.2.2.2.1)), ())))) fun v19 =>
        let v20 : Bool := ((decide (v9.1.1 = v19.1.1)) && ((decide (v9.1.2.1 = v19.1.2.1)) && ((decide (v9.1.2.2.1 = v19.1.2.2.1)) && ((decide (v9.1.2.2.2.1 = v19.1.2.2.2.1)) && ((decide (v9.1.2.2.2.2.1 = v19.1.2.2.2.2.1)) && ((decide (v9.1.2.2.2.2.2.1 = v19.1.2.2.2.2.2.1)) && ((decide (v9.1.2.2.2.2.2.2.1 = v19.1.2.2.2.2.2.2.1)) && (decide (v9.1.2.2.2.2.2.2.2 = v19.1.2.2.2.2.2.2.2)))))))))
        some ((v20, ()))
      else
      some ((false, ()))
      else none
    else
    j16 (((IntKind.i64.wrap (v16.1 + (1 : Int))), v16.2))
    else none
  else
  bindO (R_SpotAt_r fu ((a.1.2.2.2.2.2.1, (a.2.2.1, ())))) fun v17 =>
  let v18 : Int := v17.1
  bif (decide (v18 < (0 : Int))) then
    bindO (law_none_r fu ((((decide (v9.1.1 = (0 : Int))) && ((decide (v9.1.2.1 = (0 : Int))) && ((decide (v9.1.2.2.1 = (0 : Int))) && ((decide (v9.1.2.2.2.1 = (0 : Int))) && ((decide (v9.1.2.2.2.2.1 = (0 : Int))) && ((decide (v9.1.2.2.2.2.2.1 = (0 : Int))) && ((decide (v9.1.2.2.2.2.2.2.1 = (0 : Int))) && (decide (v9.1.2.2.2.2.2.2.2 = (0 : Int)))))))))), (v10, ((6 : Int), ()))))) fun v19 =>
    let v20 : Bool := v19.1
    some ((v20, ()))
  else
  bif ((decide ((0 : Int) ≤ v18)) && (decide (v18 < (List.length a.1.2.2.2.2.2.1 : Int)))) then
  let v19 : List UInt8 × (Int × Int × Int) × (Int × Int × Int) × List (Int × Int) × List Int := (List.getD a.1.2.2.2.2.2.1 (Int.toNat v18) ([], ((0, (0, 0)), ((0, (0, 0)), ([], [])))))
  bindO (R_SpotProcess_r fu ((v19, ((IntKind.i64.wrap a.2.2.2.1), ())))) fun v20 =>
  loopF (law_ConditionInks_l5 fu a v9 v10 v20) fu (((0 : Int), v16.2))
  else none
def law_ConditionInks_j3 (fu : Nat) (a : (List (List UInt8) × List Int × List Int × (Int × Int × Int × List Int) × (Int × Int × Int × List Int) × List (List UInt8 × (Int × Int × Int) × (Int × Int × Int) × List (Int × Int) × List Int) × Int) × (Int × Int × Int × Int) × List UInt8 × Int × Unit) (v9 : (Int × Int × Int × Int × Int × Int × Int × Int) × Int × Unit) (v10 : Int) (v15 : Unit) : Option (Bool × Unit) :=
  bif ((decide ((0 : Int) ≤ (List.length a.1.1 : Int))) && (decide (((8 : Int) * (List.length a.1.1 : Int)) ≤ (281474976710656 : Int)))) then
  loopF (law_ConditionInks_l4 fu a v9 v10) fu (((0 : Int), (List.replicate (Int.toNat (List.length a.1.1 : Int)) (0 : Int))))
  else none
def law_ConditionInks_j6 (fu : Nat) (j15 : (Unit) → Option (Bool × Unit)) (v16 : Bool) : Option (Bool × Unit) :=
  bif v16 then
    some ((false, ()))
  else
  j15 (())
def law_ConditionInks_l2 (fu : Nat) (a : (List (List UInt8) × List Int × List Int × (Int × Int × Int × List Int) × (Int × Int × Int × List Int) × List (List UInt8 × (Int × Int × Int) × (Int × Int × Int) × List (Int × Int) × List Int) × Int) × (Int × Int × Int × Int) × List UInt8 × Int × Unit) (v7 : (Int × Int × Int × Int × Int × Int × Int × Int) × Int × Unit) (v8 : Int) (v9 : (Int × Int × Int × Int × Int × Int × Int × Int) × Int × Unit) (v10 : Int) (j14 : (Int × List Int) → Option (Bool × Unit)) (v14 : Int × List Int) : Option (Bool × Unit) :=
  bif (decide (v14.1 < (List.length a.1.2.1 : Int))) then
    bif ((decide ((0 : Int) ≤ v14.1)) && (decide (v14.1 < (List.length a.1.2.1 : Int)))) then
    let v15 : Int := (List.getD a.1.2.1 (Int.toNat v14.1) 0)
    let v16 : Int := v14.1
    bif (((decide ((0 : Int) ≤ v16)) && (decide (v16 < (List.length ([a.2.1.1, a.2.1.2.1, a.2.1.2.2.1, a.2.1.2.2.2] : List Int) : Int)))) && (decide (v16 < (4 : Int)))) then
    bif ((decide ((0 : Int) ≤ v15)) && (decide (v15 < (List.length v14.2 : Int)))) then
    j14 (((IntKind.i64.wrap (v14.1 + (1 : Int))), (List.set v14.2 (Int.toNat v15) (IntKind.i64.wrap (List.getD ([a.2.1.1, a.2.1.2.1, a.2.1.2.2.1, a.2.1.2.2.2] : List Int) (Int.toNat v16) 0)))))
    else none
    else none
    else none
  else
  joinF (law_ConditionInks_j3 fu a v9 v10) fun j15 =>
  bif (decide ((List.length a.1.2.1 : Int) = (0 : Int))) then
    bindO (law_none_r fu ((((decide (v7.1.1 = (0 : Int))) && ((decide (v7.1.2.1 = (0 : Int))) && ((decide (v7.1.2.2.1 = (0 : Int))) && ((decide (v7.1.2.2.2.1 = (0 : Int))) && ((decide (v7.1.2.2.2.2.1 = (0 : Int))) && ((decide (v7.1.2.2.2.2.2.1 = (0 : Int))) && ((decide (v7.1.2.2.2.2.2.2.1 = (0 : Int))) && (decide (v7.1.2.2.2.2.2.2.2 = (0 : Int)))))))))), (v8, ((8 : Int), ()))))) fun v16 =>
    bif (!v16.1) then
      some ((false, ()))
    else
    j15 (())
  else
  joinF (law_ConditionInks_j6 fu j15) fun j16 =>
  bif (decide (v8 ≠ (0 : Int))) then
    j16 (true)
  else
  bindO (R_Vector_r fu ((a.1, (v14.2, ())))) fun v17 =>
  j16 ((!((decide (v7.1.1 = v17.1.1)) && ((decide (v7.1.2.1 = v17.1.2.1)) && ((decide (v7.1.2.2.1 = v17.1.2.2.1)) && ((decide (v7.1.2.2.2.1 = v17.1.2.2.2.1)) && ((decide (v7.1.2.2.2.2.1 = v17.1.2.2.2.2.1)) && ((decide (v7.1.2.2.2.2.2.1 = v17.1.2.2.2.2.2.1)) && ((decide (v7.1.2.2.2.2.2.2.1 = v17.1.2.2.2.2.2.2.1)) && (decide (v7.1.2.2.2.2.2.2.2 = v17.1.2.2.2.2.2.2.2)))))))))))
def law_ConditionInks_j1 (fu : Nat) (a : (List (List UInt8) × List Int × List Int × (Int × Int × Int × List Int) × (Int × Int × Int × List Int) × List (List UInt8 × (Int × Int × Int) × (Int × Int × Int) × List (Int × Int) × List Int) × Int) × (Int × Int × Int × Int) × List UInt8 × Int × Unit) (v7 : (Int × Int × Int × Int × Int × Int × Int × Int) × Int × Unit) (v8 : Int) (v9 : (Int × Int × Int × Int × Int × Int × Int × Int) × Int × Unit) (v10 : Int) (v13 : Bool) : Option (Bool × Unit) :=
  bif v13 then
    some ((false, ()))
  else
  bif ((decide ((0 : Int) ≤ (List.length a.1.1 : Int))) && (decide (((8 : Int) * (List.length a.1.1 : Int)) ≤ (281474976710656 : Int)))) then
  loopF (law_ConditionInks_l2 fu a v7 v8 v9 v10) fu (((0 : Int), (List.replicate (Int.toNat (List.length a.1.1 : Int)) (0 : Int))))
  else none
def law_ConditionInks_r (fu : Nat) (a : (List (List UInt8) × List Int × List Int × (Int × Int × Int × List Int) × (Int × Int × Int × List Int) × List (List UInt8 × (Int × Int × Int) × (Int × Int × Int) × List (Int × Int) × List Int) × Int) × (Int × Int × Int × Int) × List UInt8 × Int × Unit) : Option (Bool × Unit) :=
  bindO (law_conditionWorks_r fu (())) fun v0 =>
  bif (!v0.1) then
    some ((false, ()))
  else
  bindO (condition_Names_r fu ((a.1, ()))) fun v1 =>
  let v2 : List (List UInt8) := v1.1
  let v3 : Int := v1.2.1
  bindO (condition_Order_r fu ((a.1, ()))) fun v4 =>
  let v5 : List Int := v4.1
  let v6 : Int := v4.2.1
  bindO (condition_Process_r fu ((a.1, (a.2.1, ())))) fun v7 =>
  let v8 : Int := v7.2.1
  bindO (condition_Spot_r fu ((a.1, (a.2.2.1, (a.2.2.2.1, ()))))) fun v9 =>
  let v10 : Int := v9.2.1
  bindO (R_ConditionErr_r fu ((a.1, ()))) fun v11 =>
  let v12 : Int := v11.1
  bif (decide (v12 ≠ (0 : Int))) then
    bindO (law_none_r fu (((decide ((List.length v2 : Int) = (0 : Int))), (v3, (v12, ()))))) fun v13 =>
    bif v13.1 then
      bindO (law_none_r fu (((decide ((List.length v5 : Int) = (0 : Int))), (v6, (v12, ()))))) fun v14 =>
      bif v14.1 then
        bindO (law_none_r fu ((((decide (v7.1.1 = (0 : Int))) && ((decide (v7.1.2.1 = (0 : Int))) && ((decide (v7.1.2.2.1 = (0 : Int))) && ((decide (v7.1.2.2.2.1 = (0 : Int))) && ((decide (v7.1.2.2.2.2.1 = (0 : Int))) && ((decide (v7.1.2.2.2.2.2.1 = (0 : Int))) && ((decide (v7.1.2.2.2.2.2.2.1 = (0 : Int))) && (decide (v7.1.2.2.2.2.2.2.2 = (0 : Int)))))))))), (v8, (v12, ()))))) fun v15 =>
        bif v15.1 then
          bindO (law_none_r fu ((((decide (v9.1.1 = (0 : Int))) && ((decide (v9.1.2.1 = (0 : Int))) && ((decide (v9.1.2.2.1 = (0 : Int))) && ((decide (v9.1.2.2.2.1 = (0 : Int))) && ((decide (v9.1.2.2.2.2.1 = (0 : Int))) && ((decide (v9.1.2.2.2.2.2.1 = (0 : Int))) && ((decide (v9.1.2.2.2.2.2.2.1 = (0 : Int))) && (decide (v9.1.2.2.2.2.2.2.2 = (0 : Int)))))))))), (v10, (v12, ()))))) fun v16 =>
          let v17 : Bool := v16.1
          some ((v17, ()))
        else
        some ((false, ()))
      else
      some ((false, ()))
    else
    some ((false, ()))
  else
  joinF (law_ConditionInks_j1 fu a v7 v8 v9 v10) fun j13 =>
  bif (decide (v3 ≠ (0 : Int))) then
    j13 (true)
  else
  bindO (R_SameTexts_r fu ((v2, (a.1.1, ())))) fun v14 =>
  bif (!v14.1) then
    j13 (true)
  else
  bif (decide (v6 ≠ (0 : Int))) then
    j13 (true)
  else
  bindO (R_SameInts_r fu ((v5, (a.1.2.2.1, ())))) fun v15 =>
  j13 ((!v15.1))
def law_ConditionInks_an : An := (.n none .z (.n none (.n none .z (.n none (.n none .z .z) .z)) (.n none .z (.n none .z (.n none .z (.n none .z (.n none (.n none .z (.n none .z (.n none (.n none .z .z) .z))) (.n none (.n (some ⟨[2, 3, 4, 15, 16, 13, 14, 5], [0, 1, 2, 3], [], [.reg 104 .bool], 0, []⟩) .z (.n none (.n none .z .z) .z)) (.n none .z (.n none (.n none .z (.n none (.n (some ⟨[2, 3, 4, 15, 16, 18, 13, 14, 110, 5, 111], [1, 2, 3, 0], [], [.reg 112 (.int .i64), .row 4 true (.int .i64) 3 0], 0, []⟩) (.n none .z (.n none .z (.n none (.n none (.n none .z .z) .z) .z))) .z) .z)) (.n (some ⟨[16, 15, 4, 3, 2], [1, 2, 4, 3, 0], [], [], 0, []⟩) (.n none .z (.n none (.n none .z (.n none (.n none .z .z) .z)) (.n (some ⟨[], [], [], [.reg 143 .bool], 0, []⟩) (.dr [] []) (.n none (.n none .z .z) .z)))) (.n none .z (.n none (.n none .z (.n none (.n (some ⟨[18, 149, 150], [], [], [.reg 151 (.int .i64), .row 5 true (.int .i64) 3 0], 0, []⟩) (.n none .z (.n none .z (.n none (.n none (.n none .z (.n none .z (.n none (.n none .z (.n none (.dr [] []) .z)) .z))) .z) .z))) .z) .z)) (.n none .z (.n none (.n none .z (.n none (.n none .z .z) .z)) (.n none (.n none .z (.n none (.n (some ⟨[18, 192, 193], [], [], [.reg 194 (.int .i64), .row 5 true (.int .i64) 3 0], 0, []⟩) (.n none .z (.n none .z (.n none (.n none (.n none .z .z) .z) .z))) .z) .z)) (.n none (.dr [] []) .z)))))))))))))))))
noncomputable def law_ConditionInks_dc : List (Nat × Ctr) := [(20, law_none_ctr), (31, R_SameInts_ctr), (49, law_conditionWorks_ctr), (52, R_ConditionErr_ctr), (54, R_Vector_ctr), (56, condition_Names_ctr), (57, condition_Order_ctr), (58, condition_Process_ctr), (59, condition_Spot_ctr), (60, R_SameTexts_ctr), (61, R_SpotAt_ctr), (62, R_SpotProcess_ctr)]
def law_ConditionInks_ctr : Ctr := ⟨(.pair (.agg (.pair (.list .str) (.pair (.list (.int .i64)) (.pair (.list (.int .i64)) (.pair (.pair (.int .i64) (.pair (.int .i64) (.pair (.int .i64) (.list (.int .i64))))) (.pair (.pair (.int .i64) (.pair (.int .i64) (.pair (.int .i64) (.list (.int .i64))))) (.pair (.list (.pair .str (.pair (.pair (.int .i64) (.pair (.int .i64) (.int .i64))) (.pair (.pair (.int .i64) (.pair (.int .i64) (.int .i64))) (.pair (.list (.pair (.int .i64) (.int .i64))) (.list (.int .i64))))))) (.int .i64)))))))) (.pair (.agg (.pair (.int .u8) (.pair (.int .u8) (.pair (.int .u8) (.int .u8))))) (.pair .str (.pair (.int .u8) .unit)))), (.pair .bool .unit), law_ConditionInks_r, 12⟩
theorem law_ConditionInks_ok : CtrOk Try.prog 12 law_ConditionInks_ctr := ctr_ok (l := law_ConditionInks_dc) (f := 12) (an := law_ConditionInks_an) ⟨law_none_ok, ⟨R_SameInts_ok, ⟨law_conditionWorks_ok, ⟨R_ConditionErr_ok, ⟨R_Vector_ok, ⟨condition_Names_ok, ⟨condition_Order_ok, ⟨condition_Process_ok, ⟨condition_Spot_ok, ⟨R_SameTexts_ok, ⟨R_SpotAt_ok, ⟨R_SpotProcess_ok, trivial⟩⟩⟩⟩⟩⟩⟩⟩⟩⟩⟩⟩ fun fu x => by kernel_rfl
end Go.Proofs.Ytjhdjjoacedlpaa
/- Grids: what the checks, the place of a node, Node and Step compute. -/
namespace Go.Proofs.Ytjhdjjoacedlpaa
open Go Go.RowKit
set_option linter.unusedSimpArgs false
set_option linter.unusedSectionVars false
set_option linter.unusedVariables false
theorem within_s (fu : Nat) (x lo hi : Int) : R_Within_r fu (x, (lo, (hi, ()))) = some (decide (lo ≤ x ∧ x ≤ hi), ()) := by
  unfold R_Within_r; by_cases h : lo ≤ x
  · rw [bif_pos h]; by_cases h' : x ≤ hi
    · rw [decide_eq_true h', decide_eq_true ⟨h, h'⟩]
    · rw [decide_eq_false h', decide_eq_false (by omega)]
  · rw [bif_neg h, decide_eq_false (by omega)]
theorem none_s (fu : Nat) (z : Bool) (g w : Int) : law_none_r fu (z, (g, (w, ()))) = some (z && decide (g = w), ()) := by
  unfold law_none_r
  cases z <;> rfl
theorem stLoop {X β : Type} {f : (X → Option β) → X → Option β} {n fu : Nat} (hn : n < fu) {st : Nat → X} {x0 : X} {fin : Option β} (h0 : st 0 = x0)
    (step : ∀ j (i : Nat), i < n → f j (st i) = j (st (i + 1))) (last : ∀ j, f j (st n) = fin) : loopF f fu x0 = fin := by
  have key := errGen (f := f) (n := n) (st := st) (E := fun _ => 0) (out := fun _ => none) (fin := fin) (fun j i hi _ => by rw [if_pos rfl]; exact step j i hi) (fun _ => last) fu 0 (by omega) (by omega) (by omega); rw [if_pos (firstE_all _ _ fun _ _ _ => rfl), h0] at key; exact key
abbrev GrT := Int × (Int × (Int × List Int))
theorem pw_bd {s : Int} {i : Nat} (h0 : 0 ≤ s) (h1 : s ≤ 9) (hi : i ≤ 4) : 0 ≤ s ^ i ∧ s ^ i ≤ 6561 := by
  obtain ⟨s, rfl⟩ := Int.eq_ofNat_of_zero_le h0; have : ∀ s : Nat, s < 10 → ∀ i : Nat, i < 5 → 0 ≤ ((s : Nat) : Int) ^ i ∧ ((s : Nat) : Int) ^ i ≤ 6561 := by decide
  exact this s (by omega) i (by omega)
section
variable {fu : Nat} (hf : 18446744073709551616 ≤ fu)
include hf
theorem power_r {s n : Int} (h0 : 0 ≤ s) (h1 : s ≤ 9) (h2 : 0 ≤ n) (h3 : n ≤ 4) : R_Power_r fu (s, (n, ())) = some (s ^ n.toNat, ()) := by
  obtain ⟨n, rfl⟩ := Int.eq_ofNat_of_zero_le h2; unfold R_Power_r; refine stLoop (n := n) (st := fun i => (s ^ i, (i : Int))) (by omega) (by simp) (fun j i hi => ?_) (fun j => ?_)
  · have hb := pw_bd (i := i) h0 h1 (by omega); have hb' := pw_bd (i := i + 1) h0 h1 (by omega); rw [Int.pow_succ] at hb'; unfold R_Power_l1; simp (disch := omega) only [joinF_eq, bindO_some, s_wr, s_td, s_tm, s_pos, s_neg, cond_true, cond_false, Bool.not_true, Bool.not_false, Bool.true_and, Bool.and_true, Bool.false_and, Bool.and_false, bne_self_eq_false, decide_true, decide_false, Int.toNat_natCast]; rw [Int.pow_succ]; rfl
  · unfold R_Power_l1; simp (disch := omega) only [joinF_eq, bindO_some, s_wr, s_td, s_tm, s_pos, s_neg, cond_true, cond_false, Bool.not_true, Bool.not_false, Bool.true_and, Bool.and_true, Bool.false_and, Bool.and_false, bne_self_eq_false, decide_true, decide_false, Int.toNat_natCast]
end
def shOk (i o s : Int) : Prop := (1 ≤ i ∧ i ≤ 4) ∧ (1 ≤ o ∧ o ≤ 8) ∧ (2 ≤ s ∧ s ≤ 9) ∧ s ≠ 8
instance (i o s : Int) : Decidable (shOk i o s) := by unfold shOk; infer_instance
def shE (i o s : Int) : Int := if shOk i o s then (if 32768 < s ^ i.toNat * o then 2 else 0) else 3
def vlE (l : List Int) (i : Nat) : Int := if -32768 ≤ l.getD i 0 ∧ l.getD i 0 ≤ 65535 then 0 else 3
def grE (g : GrT) : Int := if shE g.1 g.2.1 g.2.2.1 = 0 then (if (g.2.2.2.length : Int) = g.2.2.1 ^ g.1.toNat * g.2.1 then firstE (vlE g.2.2.2) g.2.2.2.length 0 else 4) else shE g.1 g.2.1 g.2.2.1
def tnE (l : List Int) (m : Int) (i : Nat) : Int := if 0 ≤ l.getD i 0 ∧ l.getD i 0 ≤ m then 0 else 3
def tonesE (l : List Int) (n m : Int) : Int := if (l.length : Int) = n then firstE (tnE l m) l.length 0 else 4
theorem shE3 {i o s : Int} (h : ¬ shOk i o s) : shE i o s = 3 := by unfold shE; rw [if_neg h]
theorem shE2 {i o s : Int} (h : shOk i o s) (h' : 32768 < s ^ i.toNat * o) : shE i o s = 2 := by unfold shE; rw [if_pos h, if_pos h']
theorem shE0 {i o s : Int} (h : shOk i o s) (h' : ¬ 32768 < s ^ i.toNat * o) : shE i o s = 0 := by unfold shE; rw [if_pos h, if_neg h']
theorem sh_bd {i o s : Int} (h : shOk i o s) : 0 ≤ s ^ i.toNat ∧ s ^ i.toNat ≤ 6561 ∧ 0 ≤ s ^ i.toNat * o ∧ s ^ i.toNat * o ≤ 52488 := by
  unfold shOk at h; obtain ⟨h1, h2⟩ := pw_bd (s := s) (i := i.toNat) (by omega) (by omega) (by omega); have h3 := Int.mul_nonneg h1 (show 0 ≤ o by omega); have h4 := Int.mul_le_mul h2 (show o ≤ 8 by omega) (by omega) (by omega); omega
section
variable {fu : Nat} (hf : 18446744073709551616 ≤ fu) {i o s : Int}
include hf
theorem shapeErr_r : R_ShapeErr_r fu (i, (o, (s, ()))) = some (shE i o s, ()) := by
  unfold R_ShapeErr_r; have kt : shE i o s = 3 → R_ShapeErr_j1 fu (i, (o, (s, ()))) true = some (shE i o s, ()) := fun h => by unfold R_ShapeErr_j1; rw [h]; rfl
  by_cases c1 : 1 ≤ i ∧ i ≤ 4
  · by_cases c2 : 1 ≤ o ∧ o ≤ 8
    · by_cases c3 : 2 ≤ s ∧ s ≤ 9
      · by_cases c4 : s = 8
        · have e := shE3 (i := i) (o := o) (s := s) (fun h => h.2.2.2 c4); simp only [joinF_eq, within_s, bindO_some, decide_eq_true c1, decide_eq_true c2, decide_eq_true c3, decide_eq_true c4, Bool.not_true, cond_false]; exact kt e
        · have ok : shOk i o s := ⟨c1, c2, c3, c4⟩; obtain ⟨b1, b2, b3, b4⟩ := sh_bd ok; simp only [joinF_eq, within_s, bindO_some, decide_eq_true c1, decide_eq_true c2, decide_eq_true c3, decide_eq_false c4, Bool.not_true, cond_false]; unfold R_ShapeErr_j1; simp (disch := omega) only [joinF_eq, bindO_some, s_wr, s_td, s_tm, s_pos, s_neg, cond_true, cond_false, Bool.not_true, Bool.not_false, Bool.true_and, Bool.and_true, Bool.false_and, Bool.and_false, bne_self_eq_false, decide_true, decide_false, Int.toNat_natCast, power_r hf]; by_cases c5 : 32768 < s ^ i.toNat * o
          · rw [shE2 ok c5]; simp (disch := omega) only [joinF_eq, bindO_some, s_wr, s_td, s_tm, s_pos, s_neg, cond_true, cond_false, Bool.not_true, Bool.not_false, Bool.true_and, Bool.and_true, Bool.false_and, Bool.and_false, bne_self_eq_false, decide_true, decide_false, Int.toNat_natCast]
          · rw [shE0 ok c5]; simp (disch := omega) only [joinF_eq, bindO_some, s_wr, s_td, s_tm, s_pos, s_neg, cond_true, cond_false, Bool.not_true, Bool.not_false, Bool.true_and, Bool.and_true, Bool.false_and, Bool.and_false, bne_self_eq_false, decide_true, decide_false, Int.toNat_natCast]
      · have e := shE3 (i := i) (o := o) (s := s) (fun h => c3 h.2.2.1); simp only [joinF_eq, within_s, bindO_some, decide_eq_true c1, decide_eq_true c2, decide_eq_false c3, Bool.not_true, Bool.not_false, cond_false, cond_true]; exact kt e
    · have e := shE3 (i := i) (o := o) (s := s) (fun h => c2 h.2.1); simp only [joinF_eq, within_s, bindO_some, decide_eq_true c1, decide_eq_false c2, Bool.not_true, Bool.not_false, cond_false, cond_true]; exact kt e
  · have e := shE3 (i := i) (o := o) (s := s) (fun h => c1 h.1); simp only [joinF_eq, within_s, bindO_some, decide_eq_false c1, Bool.not_false, cond_true]; exact kt e
theorem nodes_r : grid_nodes_r fu (i, (o, (s, ()))) = some ((if shE i o s = 0 then s ^ i.toNat else 0), (shE i o s, ())) := by
  unfold grid_nodes_r; have kt : shE i o s = 3 → grid_nodes_j1 fu (i, (o, (s, ()))) true = some ((if shE i o s = 0 then s ^ i.toNat else 0), (shE i o s, ())) := fun h => by unfold grid_nodes_j1; rw [h]; rfl
  by_cases c1 : i < 1
  · simp (disch := omega) only [joinF_eq, bindO_some, s_wr, s_td, s_tm, s_pos, s_neg, cond_true, cond_false, Bool.not_true, Bool.not_false, Bool.true_and, Bool.and_true, Bool.false_and, Bool.and_false, bne_self_eq_false, decide_true, decide_false, Int.toNat_natCast]; exact kt (shE3 fun h => by unfold shOk at h; omega)
  by_cases c2 : 4 < i
  · simp (disch := omega) only [joinF_eq, bindO_some, s_wr, s_td, s_tm, s_pos, s_neg, cond_true, cond_false, Bool.not_true, Bool.not_false, Bool.true_and, Bool.and_true, Bool.false_and, Bool.and_false, bne_self_eq_false, decide_true, decide_false, Int.toNat_natCast]; exact kt (shE3 fun h => by unfold shOk at h; omega)
  by_cases c3 : o < 1
  · simp (disch := omega) only [joinF_eq, bindO_some, s_wr, s_td, s_tm, s_pos, s_neg, cond_true, cond_false, Bool.not_true, Bool.not_false, Bool.true_and, Bool.and_true, Bool.false_and, Bool.and_false, bne_self_eq_false, decide_true, decide_false, Int.toNat_natCast]; exact kt (shE3 fun h => by unfold shOk at h; omega)
  by_cases c4 : 8 < o
  · simp (disch := omega) only [joinF_eq, bindO_some, s_wr, s_td, s_tm, s_pos, s_neg, cond_true, cond_false, Bool.not_true, Bool.not_false, Bool.true_and, Bool.and_true, Bool.false_and, Bool.and_false, bne_self_eq_false, decide_true, decide_false, Int.toNat_natCast]; exact kt (shE3 fun h => by unfold shOk at h; omega)
  simp (disch := omega) only [joinF_eq, bindO_some, s_wr, s_td, s_tm, s_pos, s_neg, cond_true, cond_false, Bool.not_true, Bool.not_false, Bool.true_and, Bool.and_true, Bool.false_and, Bool.and_false, bne_self_eq_false, decide_true, decide_false, Int.toNat_natCast]; unfold grid_nodes_j1; simp (disch := omega) only [joinF_eq, bindO_some, s_wr, s_td, s_tm, s_pos, s_neg, cond_true, cond_false, Bool.not_true, Bool.not_false, Bool.true_and, Bool.and_true, Bool.false_and, Bool.and_false, bne_self_eq_false, decide_true, decide_false, Int.toNat_natCast]
  have kf : ∀ b : Bool, (b = true ↔ (2 ≤ s ∧ s ≤ 9) ∧ s ≠ 8) → grid_nodes_j2 fu (i, (o, (s, ()))) b = some ((if shE i o s = 0 then s ^ i.toNat else 0), (shE i o s, ())) := by
    intro b hb; unfold grid_nodes_j2; cases b
    · rw [shE3 (fun h => by unfold shOk at h; have := hb.2 h.2.2; cases this)]; rfl
    · have ok : shOk i o s := ⟨by omega, by omega, (hb.1 rfl).1, (hb.1 rfl).2⟩; obtain ⟨b1, b2, b3, b4⟩ := sh_bd ok; have ok' := ok; unfold shOk at ok'; obtain ⟨n, rfl⟩ := Int.eq_ofNat_of_zero_le (show 0 ≤ i by omega); rw [Int.toNat_natCast] at b1 b2 b3 b4; simp (disch := omega) only [joinF_eq, bindO_some, s_wr, s_td, s_tm, s_pos, s_neg, cond_true, cond_false, Bool.not_true, Bool.not_false, Bool.true_and, Bool.and_true, Bool.false_and, Bool.and_false, bne_self_eq_false, decide_true, decide_false, Int.toNat_natCast]; refine stLoop (n := n) (st := fun i => (s ^ i, (i : Int))) (by omega) (by simp) (fun j k hk => ?_) (fun j => ?_)
      · have hb := pw_bd (s := s) (i := k) (by omega) (by omega) (by omega); have hb' := pw_bd (s := s) (i := k + 1) (by omega) (by omega) (by omega); rw [Int.pow_succ] at hb'; unfold grid_nodes_l3; simp (disch := omega) only [joinF_eq, bindO_some, s_wr, s_td, s_tm, s_pos, s_neg, cond_true, cond_false, Bool.not_true, Bool.not_false, Bool.true_and, Bool.and_true, Bool.false_and, Bool.and_false, bne_self_eq_false, decide_true, decide_false, Int.toNat_natCast]; rw [Int.pow_succ]; rfl
      · unfold grid_nodes_l3; simp (disch := omega) only [joinF_eq, bindO_some, s_wr, s_td, s_tm, s_pos, s_neg, cond_true, cond_false, Bool.not_true, Bool.not_false, Bool.true_and, Bool.and_true, Bool.false_and, Bool.and_false, bne_self_eq_false, decide_true, decide_false, Int.toNat_natCast]; by_cases c5 : 32768 < s ^ n * o
        · rw [shE2 ok (by rw [Int.toNat_natCast]; exact c5)]; simp (disch := omega) only [joinF_eq, bindO_some, s_wr, s_td, s_tm, s_pos, s_neg, cond_true, cond_false, Bool.not_true, Bool.not_false, Bool.true_and, Bool.and_true, Bool.false_and, Bool.and_false, bne_self_eq_false, decide_true, decide_false, Int.toNat_natCast]; rfl
        · rw [shE0 ok (by rw [Int.toNat_natCast]; exact c5)]; simp (disch := omega) only [joinF_eq, bindO_some, s_wr, s_td, s_tm, s_pos, s_neg, cond_true, cond_false, Bool.not_true, Bool.not_false, Bool.true_and, Bool.and_true, Bool.false_and, Bool.and_false, bne_self_eq_false, decide_true, decide_false, Int.toNat_natCast]; rfl
  by_cases d2 : s = 2
  · simp (disch := omega) only [joinF_eq, bindO_some, s_wr, s_td, s_tm, s_pos, s_neg, cond_true, cond_false, Bool.not_true, Bool.not_false, Bool.true_and, Bool.and_true, Bool.false_and, Bool.and_false, bne_self_eq_false, decide_true, decide_false, Int.toNat_natCast]; exact kf _ (by simp; omega)
  by_cases d3 : s = 3
  · simp (disch := omega) only [joinF_eq, bindO_some, s_wr, s_td, s_tm, s_pos, s_neg, cond_true, cond_false, Bool.not_true, Bool.not_false, Bool.true_and, Bool.and_true, Bool.false_and, Bool.and_false, bne_self_eq_false, decide_true, decide_false, Int.toNat_natCast]; exact kf _ (by simp; omega)
  by_cases d4 : s = 4
  · simp (disch := omega) only [joinF_eq, bindO_some, s_wr, s_td, s_tm, s_pos, s_neg, cond_true, cond_false, Bool.not_true, Bool.not_false, Bool.true_and, Bool.and_true, Bool.false_and, Bool.and_false, bne_self_eq_false, decide_true, decide_false, Int.toNat_natCast]; exact kf _ (by simp; omega)
  by_cases d5 : s = 5
  · simp (disch := omega) only [joinF_eq, bindO_some, s_wr, s_td, s_tm, s_pos, s_neg, cond_true, cond_false, Bool.not_true, Bool.not_false, Bool.true_and, Bool.and_true, Bool.false_and, Bool.and_false, bne_self_eq_false, decide_true, decide_false, Int.toNat_natCast]; exact kf _ (by simp; omega)
  by_cases d6 : s = 6
  · simp (disch := omega) only [joinF_eq, bindO_some, s_wr, s_td, s_tm, s_pos, s_neg, cond_true, cond_false, Bool.not_true, Bool.not_false, Bool.true_and, Bool.and_true, Bool.false_and, Bool.and_false, bne_self_eq_false, decide_true, decide_false, Int.toNat_natCast]; exact kf _ (by simp; omega)
  by_cases d7 : s = 7
  · simp (disch := omega) only [joinF_eq, bindO_some, s_wr, s_td, s_tm, s_pos, s_neg, cond_true, cond_false, Bool.not_true, Bool.not_false, Bool.true_and, Bool.and_true, Bool.false_and, Bool.and_false, bne_self_eq_false, decide_true, decide_false, Int.toNat_natCast]; exact kf _ (by simp; omega)
  simp (disch := omega) only [joinF_eq, bindO_some, s_wr, s_td, s_tm, s_pos, s_neg, cond_true, cond_false, Bool.not_true, Bool.not_false, Bool.true_and, Bool.and_true, Bool.false_and, Bool.and_false, bne_self_eq_false, decide_true, decide_false, Int.toNat_natCast]; exact kf _ (by rw [decide_eq_true_eq]; omega)
variable {vs : List Int} (hv : (vs.length : Int) ≤ 9223372036854775807)
include hv
theorem gridErr_r : R_GridErr_r fu ((i, (o, (s, vs))), ()) = some (grE (i, (o, (s, vs))), ()) := by
  unfold R_GridErr_r grE; simp only [shapeErr_r hf, bindO_some]; by_cases c : shE i o s = 0
  · have ok : shOk i o s := by
      refine Classical.byContradiction fun h => ?_
      rw [shE3 h] at c; omega
    obtain ⟨b1, b2, b3, b4⟩ := sh_bd ok; have ok' := ok; unfold shOk at ok'; rw [if_pos c]; simp (disch := omega) only [joinF_eq, bindO_some, s_wr, s_td, s_tm, s_pos, s_neg, cond_true, cond_false, Bool.not_true, Bool.not_false, Bool.true_and, Bool.and_true, Bool.false_and, Bool.and_false, bne_self_eq_false, decide_true, decide_false, Int.toNat_natCast, power_r hf]; by_cases c2 : (vs.length : Int) = s ^ i.toNat * o
    · rw [if_pos c2]; simp (disch := omega) only [joinF_eq, bindO_some, s_wr, s_td, s_tm, s_pos, s_neg, cond_true, cond_false, Bool.not_true, Bool.not_false, Bool.true_and, Bool.and_true, Bool.false_and, Bool.and_false, bne_self_eq_false, decide_true, decide_false, Int.toNat_natCast]; rw [errLoop (n := vs.length) (E := vlE vs) (out := fun e => some (e, ())) (fin := some (0, ())) (by omega)]
      · split
        · rename_i e; rw [e]
        · rfl
      · intro j k hk; unfold R_GridErr_l1 vlE; simp (disch := omega) only [joinF_eq, bindO_some, s_wr, s_td, s_tm, s_pos, s_neg, cond_true, cond_false, Bool.not_true, Bool.not_false, Bool.true_and, Bool.and_true, Bool.false_and, Bool.and_false, bne_self_eq_false, decide_true, decide_false, Int.toNat_natCast, within_s]; by_cases g : -32768 ≤ vs.getD k 0 ∧ vs.getD k 0 ≤ 65535
        · rw [if_pos g, decide_eq_true g]; simp (disch := omega) only [joinF_eq, bindO_some, s_wr, s_td, s_tm, s_pos, s_neg, cond_true, cond_false, Bool.not_true, Bool.not_false, Bool.true_and, Bool.and_true, Bool.false_and, Bool.and_false, bne_self_eq_false, decide_true, decide_false, Int.toNat_natCast]; rfl
        · rw [if_neg g, decide_eq_false g]; simp (disch := omega) only [joinF_eq, bindO_some, s_wr, s_td, s_tm, s_pos, s_neg, cond_true, cond_false, Bool.not_true, Bool.not_false, Bool.true_and, Bool.and_true, Bool.false_and, Bool.and_false, bne_self_eq_false, decide_true, decide_false, Int.toNat_natCast]; rfl
      · intro j; unfold R_GridErr_l1; simp (disch := omega) only [joinF_eq, bindO_some, s_wr, s_td, s_tm, s_pos, s_neg, cond_true, cond_false, Bool.not_true, Bool.not_false, Bool.true_and, Bool.and_true, Bool.false_and, Bool.and_false, bne_self_eq_false, decide_true, decide_false, Int.toNat_natCast]
    · rw [if_neg c2]; simp (disch := omega) only [joinF_eq, bindO_some, s_wr, s_td, s_tm, s_pos, s_neg, cond_true, cond_false, Bool.not_true, Bool.not_false, Bool.true_and, Bool.and_true, Bool.false_and, Bool.and_false, bne_self_eq_false, decide_true, decide_false, Int.toNat_natCast]
  · rw [if_neg c]; simp (disch := omega) only [joinF_eq, bindO_some, s_wr, s_td, s_tm, s_pos, s_neg, cond_true, cond_false, Bool.not_true, Bool.not_false, Bool.true_and, Bool.and_true, Bool.false_and, Bool.and_false, bne_self_eq_false, decide_true, decide_false, Int.toNat_natCast]
theorem check_r : grid_Check_r fu ((i, (o, (s, vs))), ()) = some (grE (i, (o, (s, vs))), ()) := by
  unfold grid_Check_r grE; simp only [nodes_r hf, bindO_some]; by_cases c : shE i o s = 0
  · have ok : shOk i o s := by
      refine Classical.byContradiction fun h => ?_
      rw [shE3 h] at c; omega
    obtain ⟨b1, b2, b3, b4⟩ := sh_bd ok; have ok' := ok; unfold shOk at ok'; simp only [if_pos c]; simp (disch := omega) only [joinF_eq, bindO_some, s_wr, s_td, s_tm, s_pos, s_neg, cond_true, cond_false, Bool.not_true, Bool.not_false, Bool.true_and, Bool.and_true, Bool.false_and, Bool.and_false, bne_self_eq_false, decide_true, decide_false, Int.toNat_natCast]; by_cases c2 : (vs.length : Int) = s ^ i.toNat * o
    · rw [if_pos c2]; simp (disch := omega) only [joinF_eq, bindO_some, s_wr, s_td, s_tm, s_pos, s_neg, cond_true, cond_false, Bool.not_true, Bool.not_false, Bool.true_and, Bool.and_true, Bool.false_and, Bool.and_false, bne_self_eq_false, decide_true, decide_false, Int.toNat_natCast]; rw [errLoop (n := vs.length) (E := vlE vs) (out := fun e => some (e, ())) (fin := some (0, ())) (by omega)]
      · split
        · rename_i e; rw [e]
        · rfl
      · intro j k hk; have t3 : ¬ (-32768 ≤ vs.getD k 0 ∧ vs.getD k 0 ≤ 65535) → vlE vs k = 3 := fun h => by unfold vlE; rw [if_neg h]
        have t0 : (-32768 ≤ vs.getD k 0 ∧ vs.getD k 0 ≤ 65535) → vlE vs k = 0 := fun h => by unfold vlE; rw [if_pos h]
        unfold grid_Check_l1; simp (disch := omega) only [joinF_eq, bindO_some, s_wr, s_td, s_tm, s_pos, s_neg, cond_true, cond_false, Bool.not_true, Bool.not_false, Bool.true_and, Bool.and_true, Bool.false_and, Bool.and_false, bne_self_eq_false, decide_true, decide_false, Int.toNat_natCast]; by_cases g : vs.getD k 0 < -32768
        · rw [t3 (by omega)]; simp (disch := omega) only [joinF_eq, bindO_some, s_wr, s_td, s_tm, s_pos, s_neg, cond_true, cond_false, Bool.not_true, Bool.not_false, Bool.true_and, Bool.and_true, Bool.false_and, Bool.and_false, bne_self_eq_false, decide_true, decide_false, Int.toNat_natCast, grid_Check_j2]; rfl
        by_cases g2 : 65535 < vs.getD k 0
        · rw [t3 (by omega)]; simp (disch := omega) only [joinF_eq, bindO_some, s_wr, s_td, s_tm, s_pos, s_neg, cond_true, cond_false, Bool.not_true, Bool.not_false, Bool.true_and, Bool.and_true, Bool.false_and, Bool.and_false, bne_self_eq_false, decide_true, decide_false, Int.toNat_natCast, grid_Check_j2]; rfl
        · rw [t0 (by omega)]; simp (disch := omega) only [joinF_eq, bindO_some, s_wr, s_td, s_tm, s_pos, s_neg, cond_true, cond_false, Bool.not_true, Bool.not_false, Bool.true_and, Bool.and_true, Bool.false_and, Bool.and_false, bne_self_eq_false, decide_true, decide_false, Int.toNat_natCast, grid_Check_j2]; rfl
      · intro j; unfold grid_Check_l1; simp (disch := omega) only [joinF_eq, bindO_some, s_wr, s_td, s_tm, s_pos, s_neg, cond_true, cond_false, Bool.not_true, Bool.not_false, Bool.true_and, Bool.and_true, Bool.false_and, Bool.and_false, bne_self_eq_false, decide_true, decide_false, Int.toNat_natCast]
    · rw [if_neg c2]; simp (disch := omega) only [joinF_eq, bindO_some, s_wr, s_td, s_tm, s_pos, s_neg, cond_true, cond_false, Bool.not_true, Bool.not_false, Bool.true_and, Bool.and_true, Bool.false_and, Bool.and_false, bne_self_eq_false, decide_true, decide_false, Int.toNat_natCast]
  · simp only [if_neg c]; simp (disch := omega) only [joinF_eq, bindO_some, s_wr, s_td, s_tm, s_pos, s_neg, cond_true, cond_false, Bool.not_true, Bool.not_false, Bool.true_and, Bool.and_true, Bool.false_and, Bool.and_false, bne_self_eq_false, decide_true, decide_false, Int.toNat_natCast]
end
end Go.Proofs.Ytjhdjjoacedlpaa
/- Grids: the place of a node, Node and Step, and the law GridNodes. -/
namespace Go.Proofs.Ytjhdjjoacedlpaa
open Go Go.RowKit
set_option linter.unusedSimpArgs false
set_option linter.unusedSectionVars false
set_option linter.unusedVariables false
section
variable {fu : Nat} (hf : 18446744073709551616 ≤ fu)
include hf
theorem tonesErr_r {l : List Int} (hl : (l.length : Int) ≤ 9223372036854775807) {n m : Int} : R_TonesErr_r fu (l, (n, (m, ()))) = some (tonesE l n m, ()) := by
  unfold R_TonesErr_r tonesE; by_cases c : (l.length : Int) = n
  · rw [if_pos c]; simp (disch := omega) only [joinF_eq, bindO_some, s_wr, s_td, s_tm, s_pos, s_neg, cond_true, cond_false, Bool.not_true, Bool.not_false, Bool.true_and, Bool.and_true, Bool.false_and, Bool.and_false, bne_self_eq_false, decide_true, decide_false, Int.toNat_natCast]; rw [errLoop (n := l.length) (E := tnE l m) (out := fun e => some (e, ())) (fin := some (0, ())) (by omega)]
    · split
      · rename_i e; rw [e]
      · rfl
    · intro j i hi; unfold R_TonesErr_l1 tnE; simp (disch := omega) only [joinF_eq, bindO_some, s_wr, s_td, s_tm, s_pos, s_neg, cond_true, cond_false, Bool.not_true, Bool.not_false, Bool.true_and, Bool.and_true, Bool.false_and, Bool.and_false, bne_self_eq_false, decide_true, decide_false, Int.toNat_natCast, within_s]; by_cases g : 0 ≤ l.getD i 0 ∧ l.getD i 0 ≤ m
      · rw [if_pos g, decide_eq_true g]; simp (disch := omega) only [joinF_eq, bindO_some, s_wr, s_td, s_tm, s_pos, s_neg, cond_true, cond_false, Bool.not_true, Bool.not_false, Bool.true_and, Bool.and_true, Bool.false_and, Bool.and_false, bne_self_eq_false, decide_true, decide_false, Int.toNat_natCast]; rfl
      · rw [if_neg g, decide_eq_false g]; simp (disch := omega) only [joinF_eq, bindO_some, s_wr, s_td, s_tm, s_pos, s_neg, cond_true, cond_false, Bool.not_true, Bool.not_false, Bool.true_and, Bool.and_true, Bool.false_and, Bool.and_false, bne_self_eq_false, decide_true, decide_false, Int.toNat_natCast]; rfl
    · intro j; unfold R_TonesErr_l1; simp (disch := omega) only [joinF_eq, bindO_some, s_wr, s_td, s_tm, s_pos, s_neg, cond_true, cond_false, Bool.not_true, Bool.not_false, Bool.true_and, Bool.and_true, Bool.false_and, Bool.and_false, bne_self_eq_false, decide_true, decide_false, Int.toNat_natCast]
  · rw [if_neg c]; simp (disch := omega) only [joinF_eq, bindO_some, s_wr, s_td, s_tm, s_pos, s_neg, cond_true, cond_false, Bool.not_true, Bool.not_false, Bool.true_and, Bool.and_true, Bool.false_and, Bool.and_false, bne_self_eq_false, decide_true, decide_false, Int.toNat_natCast]
theorem sameI_r {l : List Int} (hl : (l.length : Int) ≤ 9223372036854775807) : R_SameInts_r fu (l, (l, ())) = some (true, ()) := by
  unfold R_SameInts_r; simp (disch := omega) only [joinF_eq, bindO_some, s_wr, s_td, s_tm, s_pos, s_neg, cond_true, cond_false, Bool.not_true, Bool.not_false, Bool.true_and, Bool.and_true, Bool.false_and, Bool.and_false, bne_self_eq_false, decide_true, decide_false, Int.toNat_natCast]; rw [errLoop (n := l.length) (E := fun _ => 0) (out := fun e => some (true, ())) (fin := some (true, ())) (by omega)]
  · split <;> rfl
  · intro j i hi; unfold R_SameInts_l1; simp (disch := omega) only [joinF_eq, bindO_some, s_wr, s_td, s_tm, s_pos, s_neg, cond_true, cond_false, Bool.not_true, Bool.not_false, Bool.true_and, Bool.and_true, Bool.false_and, Bool.and_false, bne_self_eq_false, decide_true, decide_false, Int.toNat_natCast]; rfl
  · intro j; unfold R_SameInts_l1; simp (disch := omega) only [joinF_eq, bindO_some, s_wr, s_td, s_tm, s_pos, s_neg, cond_true, cond_false, Bool.not_true, Bool.not_false, Bool.true_and, Bool.and_true, Bool.false_and, Bool.and_false, bne_self_eq_false, decide_true, decide_false, Int.toNat_natCast]
end
end Go.Proofs.Ytjhdjjoacedlpaa
/- Tables rewritten from the left. No program in sight. -/
namespace Go.Proofs.Ytjhdjjoacedlpaa
open Go Go.RowKit
set_option linter.unusedVariables false
theorem tabP_set {o q : Nat} {A B : Int → Int} {v : Int} (hq : q < o) (hv : A q = v) : (tabL o fun k => if k < (q : Int) then A k else B k).set q v = tabL o fun k => if k < ((q + 1 : Nat) : Int) then A k else B k := by
  have := tabL_set (n := o) (G := fun k => if k < (q : Int) then A k else B k) (G' := fun k => if k < ((q + 1 : Nat) : Int) then A k else B k) (k := (q : Int)) (v := v) (by omega) (by rw [if_pos (by omega)]; exact hv) (fun i h0 h1 h2 => by
    by_cases c : i < (q : Int)
    · rw [if_pos c, if_pos (by omega)]
    · rw [if_neg c, if_neg (by omega)])
  rw [Int.toNat_natCast] at this; exact this
end Go.Proofs.Ytjhdjjoacedlpaa
/- Grids: what the document's interpolation computes; the loops for any result. -/
namespace Go.Proofs.Ytjhdjjoacedlpaa
open Go Go.RowKit
set_option linter.unusedSimpArgs false
set_option linter.unusedSectionVars false
set_option linter.unusedVariables false
set_option linter.unusedVariables false
structure InOk (n o s : Nat) (vs l : List Int) (t : Int) : Prop where
  n1 : 1 ≤ n
  n4 : n ≤ 4
  o1 : 1 ≤ o
  o8 : o ≤ 8
  s2 : 2 ≤ s
  s9 : s ≤ 9
  sz : s ^ n * o ≤ 32768
  hv : vs.length = s ^ n * o
  vb : ∀ k, k < vs.length → -32768 ≤ vs.getD k 0 ∧ vs.getD k 0 ≤ 65535
  hl : l.length = n
  bl : ∀ k, k < n → 0 ≤ l.getD k 0 ∧ l.getD k 0 ≤ 65280
  t1 : 8160 ≤ t
  t2 : t ≤ 65280
  tt : t * (s - 1) = 65280
section
variable {n o s : Nat} {vs l : List Int} {t : Int} (h : InOk n o s vs l t)
include h
end
section
variable {n o s : Nat} {vs l : List Int} {t : Int} (h : InOk n o s vs l t) {fu : Nat} (hf : 18446744073709551616 ≤ fu)
include h hf
end
end Go.Proofs.Ytjhdjjoacedlpaa
/- Grids: what Raw computes: the axes sorted by their parts, and the sum over their heads. -/
namespace Go.Proofs.Ytjhdjjoacedlpaa
open Go Go.RowKit
set_option linter.unusedSimpArgs false
set_option linter.unusedSectionVars false
set_option linter.unusedVariables false
section
variable {l : List Int} {t : Int}
end
section
variable {n o s : Nat} {vs l : List Int} {t : Int} (h : InOk n o s vs l t) {fu : Nat} (hf : 18446744073709551616 ≤ fu)
include h hf
end
end Go.Proofs.Ytjhdjjoacedlpaa
/- Grids: Raw adds up what the heads of the sorted axes give: the document's interpolation. -/
namespace Go.Proofs.Ytjhdjjoacedlpaa
open Go Go.RowKit
set_option linter.unusedSimpArgs false
set_option linter.unusedSectionVars false
set_option linter.unusedVariables false
theorem tabP_zero {o : Nat} {A B : Int → Int} : (tabL o fun k => if k < ((0 : Nat) : Int) then A k else B k) = tabL o B := tabL_congr fun i h0 h1 => if_neg (by omega)
section
variable {n o s : Nat} {vs l : List Int} {t : Int} (h : InOk n o s vs l t)
include h
variable {fu : Nat} (hf : 18446744073709551616 ≤ fu)
include hf
end
end Go.Proofs.Ytjhdjjoacedlpaa
/- Numbers: what the small functions compute. -/
namespace Go.Proofs.Ytjhdjjoacedlpaa
open Go Go.RowKit
set_option linter.unusedSimpArgs false
set_option linter.unusedSectionVars false
set_option linter.unusedVariables false

theorem floor_s (fu : Nat) {n d : Int} (hd : 0 < d) (h1 : d ≤ 9223372036854775807) (h2 : -9223372036854775808 ≤ n) (h3 : n ≤ 9223372036854775807) : R_Floor_r fu (n, (d, ())) = some (n / d, ()) := by
  unfold R_Floor_r; simp only [joinF_eq]; rw [bif_pos (by omega)]; have hm := Int.tmod_add_mul_tdiv n d; have hm1 := Int.natAbs_tmod n d; have h4 : n.tdiv d * d = n - n.tmod d := by rw [Int.mul_comm]; omega
  have h5 : (n.tmod d).natAbs ≤ n.natAbs := by rw [hm1]; exact Nat.mod_le _ _
  have hb : -9223372036854775808 ≤ n.tdiv d * d ∧ n.tdiv d * d ≤ 9223372036854775807 := by
    rcases Int.le_total 0 n with hn | hn
    · have := Int.tmod_nonneg d hn; omega
    · have := Int.tmod_nonneg (a := -n) d (by omega); rw [Int.neg_tmod] at this; omega
  obtain ⟨b1, b2⟩ := hb; have hq := Int.natAbs_tdiv n d; have hq' : (n.tdiv d).natAbs ≤ n.natAbs := by rw [hq]; exact Nat.div_le_self _ _
  have hq3 : n.tdiv d ≤ 9223372036854775807 := by
    rcases Int.le_total 0 n with hn | hn
    · omega
    · have := Int.tdiv_nonneg (a := -n) (b := d) (by omega) (by omega); rw [Int.neg_tdiv] at this; omega
  rw [wr64 (x := n.tdiv d) (by omega) hq3, wr64 (x := n.tdiv d * d) b1 b2]; by_cases hc : n < n.tdiv d * d
  · have hlow : -9223372036854775807 ≤ n.tdiv d := by
      rcases Int.lt_or_le d 2 with g | g
      · obtain rfl : d = 1 := by omega
        rw [Int.tdiv_one] at hc; omega
      · have h6 : (n.tdiv d).natAbs ≤ n.natAbs / 2 := by
          rw [hq]; exact Nat.div_le_div_left (by omega) (by omega)
        omega
    rw [bif_pos hc, wr64 (x := n.tdiv d - 1) (by omega) (by omega), tdiv_over hd hc]; rfl
  · rw [bif_neg hc, tdiv_under hd (by omega)]; rfl
theorem floor_mul' {n d : Int} (hd : 0 < d) : n / d * d ≤ n ∧ n < n / d * d + d := by
  have h1 := Int.mul_ediv_add_emod n d; have h2 := Int.emod_nonneg n (by omega : d ≠ 0); have h3 := Int.emod_lt_of_pos n hd; rw [Int.mul_comm] at h1; omega
theorem round_s (fu : Nat) {n d : Int} (hd : 0 < d) (h1 : d ≤ 1000000000000000) (h2 : -1000000000000000000 ≤ n) (h3 : n ≤ 1000000000000000000) : R_Round_r fu (n, (d, ())) = some (rnd n d, ()) := by
  unfold R_Round_r; simp only; rw [floor_s fu hd (by omega) (by omega) (by omega)]; simp only [bindO_some, joinF_eq]; obtain ⟨b1, b2⟩ := floor_mul' (n := n) hd
  have hq : -1000000000000000001 ≤ n / d ∧ n / d ≤ 1000000000000000000 := by
    constructor
    · rcases Int.lt_or_le (n / d) 0 with g | g
      · have : n / d * d ≤ n / d * 1 := Int.mul_le_mul_of_nonpos_left (by omega) (by omega); have h4 : n / d * d - n / d * 1 ≤ 0 := by omega
        have h5 : (n / d + 1) * d ≤ (n / d + 1) * 1 := Int.mul_le_mul_of_nonpos_left (by omega) (by omega); rw [Int.add_mul] at h5; omega
      · omega
    · rcases Int.lt_or_le (n / d) 1 with g | g
      · omega
      · have : n / d * 1 ≤ n / d * d := Int.mul_le_mul_of_nonneg_left (by omega) (by omega); omega
  rw [wr64 (x := n / d * d) (by omega) (by omega), wr64 (x := n - n / d * d) (by omega) (by omega), wr64 (x := 2 * (n - n / d * d)) (by omega) (by omega)]; by_cases hc : d ≤ 2 * (n - n / d * d)
  · rw [bif_pos hc, wr64 (x := n / d + 1) (by omega) (by omega), rnd_up hd hc]; rfl
  · rw [bif_neg hc, rnd_down hd (by omega)]; rfl
theorem nearest_s (fu : Nat) {n d : Int} (hd : 0 < d) (h1 : d ≤ 1000000000000000) (h2 : -1000000000000000000 ≤ n) (h3 : n ≤ 1000000000000000000) : curve_Nearest_r fu (n, (d, ())) = some (rnd n d, ()) := by
  obtain ⟨g1, g2⟩ := tdiv_abs (n := 2 * n + d) (m := 2002000000000000000) (2 * d) (by omega) (by omega); unfold curve_Nearest_r rnd; simp only [joinF_eq]; rw [wr64 (x := 2 * n) (by omega) (by omega), wr64 (x := 2 * n + d) (by omega) (by omega), wr64 (x := 2 * d) (by omega) (by omega), bif_pos (by omega), bif_pos (by omega), wr64 (x := (2 * n + d).tdiv (2 * d)) (by omega) (by omega)]; by_cases hc : (2 * n + d).tmod (2 * d) < 0
  · rw [bif_pos hc, wr64 (x := (2 * n + d).tdiv (2 * d) - 1) (by omega) (by omega), tdiv_neg (by omega) hc]; rfl
  · rw [bif_neg hc, tdiv_pos (by omega) (by omega)]; rfl
end Go.Proofs.Ytjhdjjoacedlpaa
/- Spot inks, curves, names (made out of the texts NumR, CurP, SpotP1, SpotP2 in a namespace of their own). -/
namespace Go.Proofs.Ytjhdjjoacedlpaa
open Go Go.RowKit
set_option linter.unusedSimpArgs false
set_option linter.unusedSectionVars false
set_option linter.unusedVariables false
namespace Sp
theorem rbset : (∀ {α : Type} (a b : α), (bif true then a else b) = a) ∧ (∀ {α : Type} (a b : α), (bif false then a else b) = b) ∧ ((!true) = false) ∧ ((!false) = true) ∧ (∀ b : Bool, (true && b) = b) ∧ (∀ b : Bool, (b && true) = b) ∧ (∀ b : Bool, (false && b) = false) ∧ (∀ b : Bool, (b && false) = false) ∧ (decide True = true) ∧ (decide False = false) := ⟨fun _ _ => rfl, fun _ _ => rfl, rfl, rfl, Bool.true_and, Bool.and_true, Bool.false_and, Bool.and_false, rfl, rfl⟩

def labR (c : Int × Int × Int) : Int := if 0 ≤ c.1 ∧ c.1 ≤ 10000 ∧ -12800 ≤ c.2.1 ∧ c.2.1 ≤ 12800 ∧ -12800 ≤ c.2.2 ∧ c.2.2 ≤ 12800 then 0 else 3
theorem labR_or (c : Int × Int × Int) : (labR c = 0 ∧ 0 ≤ c.1 ∧ c.1 ≤ 10000 ∧ -12800 ≤ c.2.1 ∧ c.2.1 ≤ 12800 ∧ -12800 ≤ c.2.2 ∧ c.2.2 ≤ 12800) ∨ labR c = 3 := by
  unfold labR; split
  · rename_i h; exact .inl ⟨rfl, h⟩
  · exact .inr rfl
theorem labErr_s (fu : Nat) (c : Int × Int × Int) : R_LabErr_r fu (c, ()) = some (labR c, ()) := by
  obtain ⟨l, a, b⟩ := c; unfold R_LabErr_r labR; simp only [joinF_eq, within_s, bindO_some]; by_cases h1 : 0 ≤ l ∧ l ≤ 10000
  · rw [decide_eq_true h1]; by_cases h2 : -12800 ≤ a ∧ a ≤ 12800
    · rw [decide_eq_true h2]; by_cases h3 : -12800 ≤ b ∧ b ≤ 12800
      · rw [decide_eq_true h3, if_pos (by omega)]; rfl
      · rw [decide_eq_false h3, if_neg (by omega)]; rfl
    · rw [decide_eq_false h2, if_neg (by omega)]; rfl
  · rw [decide_eq_false h1, if_neg (by omega)]; rfl
theorem refChk_s (fu : Nat) (c : Int × Int × Int) : refspace_Check_r fu (c, ()) = some (labR c, ()) := by
  obtain ⟨l, a, b⟩ := c; unfold refspace_Check_r labR; simp only [joinF_eq]; by_cases h1 : l < 0
  · rw [bif_pos h1, if_neg (by omega)]; rfl
  rw [bif_neg h1]; by_cases h2 : 10000 < l
  · rw [bif_pos h2, if_neg (by omega)]; rfl
  rw [bif_neg h2]; by_cases h3 : a < -12800
  · rw [bif_pos h3, if_neg (by omega)]; rfl
  rw [bif_neg h3]; by_cases h4 : 12800 < a
  · rw [bif_pos h4, if_neg (by omega)]; rfl
  rw [bif_neg h4]; by_cases h5 : b < -12800
  · rw [bif_pos h5, if_neg (by omega)]; rfl
  rw [bif_neg h5]; by_cases h6 : 12800 < b
  · rw [decide_eq_true h6, if_neg (by omega)]; rfl
  rw [decide_eq_false h6, if_pos (by omega)]; rfl
structure CurveOk (ps : List (Int × Int)) : Prop where
  two : 2 ≤ ps.length
  most : ps.length ≤ 33
  bd : ∀ (i : Nat) (x y : Int), ps[i]? = some (x, y) → 0 ≤ x ∧ x ≤ 65280 ∧ 0 ≤ y ∧ y ≤ 65280
  step : ∀ (i : Nat) (x y u v : Int), ps[i]? = some (x, y) → ps[i + 1]? = some (u, v) → x < u ∧ y ≤ v
  first : ∀ x y, ps[0]? = some (x, y) → x = 0
  last : ∀ x y, ps[ps.length - 1]? = some (x, y) → x = 65280

theorem CurveOk.le {ps : List (Int × Int)} (h : CurveOk ps) {i j : Nat} (hij : i ≤ j) {x y u v : Int} (hi : ps[i]? = some (x, y)) (hj : ps[j]? = some (u, v)) : x ≤ u ∧ y ≤ v ∧ (i < j → x < u) := by
  induction j generalizing u v with
  | zero =>
    obtain rfl : i = 0 := by omega
    rw [hi] at hj; simp at hj; omega
  | succ j ih =>
    rcases Nat.lt_or_ge i (j + 1) with hlt | hge
    · have hjl : j < ps.length := by have := (List.getElem?_eq_some_iff.1 hj).1; omega
      obtain ⟨⟨a, b⟩, hab⟩ : ∃ p, ps[j]? = some p := ⟨_, List.getElem?_eq_getElem hjl⟩; have h1 := ih (by omega) hab; have h2 := h.step j a b u v hab hj; omega
    · obtain rfl : i = j + 1 := by omega
      rw [hi] at hj; simp at hj; omega

def curveAtL (x : Int) : Int × Int → List (Int × Int) → Int
  | _, [] => -1
  | p, q :: r => if x ≤ q.1 then rnd (p.2 * (q.1 - x) + q.2 * (x - p.1)) (q.1 - p.1) else curveAtL x q r
def curveAt (ps : List (Int × Int)) (x : Int) : Int := curveAtL x (ps.getD 0 (0, 0)) (ps.drop 1)

def segV (x a b c d : Int) : Int := rnd (b * (c - x) + d * (x - a)) (c - a)
theorem rnd_add (a b : Int) {d : Int} (hd : 0 < d) : rnd (a * d + b) d = a + rnd b d := by
  unfold rnd; rw [show 2 * (a * d + b) + d = (2 * b + d) + (2 * d) * a from by rw [Int.mul_add, Int.mul_assoc, Int.mul_comm d a]; omega]; rw [Int.add_mul_ediv_left _ _ (by omega), Int.add_comm]
theorem rnd_zero {d : Int} (hd : 0 < d) : rnd 0 d = 0 := by
  unfold rnd; exact Int.ediv_eq_zero_of_lt (by omega) (by omega)
theorem segV_eq {x a b c d : Int} (h : a < c) : segV x a b c d = b + rnd ((d - b) * (x - a)) (c - a) := by
  unfold segV; rw [← rnd_add b _ (by omega)]; congr 1; simp only [Int.mul_sub, Int.sub_mul]; omega
theorem segV_end {a b c d : Int} (h : a < c) : segV c a b c d = d := by
  unfold segV; rw [Int.sub_self, Int.mul_zero, Int.zero_add]; have := rnd_add d 0 (d := c - a) (by omega); rw [Int.add_zero, rnd_zero (by omega)] at this; omega
theorem segV_start {a b c d : Int} (h : a < c) : segV a a b c d = b := by
  rw [segV_eq h, Int.sub_self, Int.mul_zero, rnd_zero (by omega)]; omega

theorem curveAtL_seg {x : Int} {p : Int × Int} {l : List (Int × Int)} {i : Nat} {a b c d : Int} (hlo : ∀ (j : Nat) (u v : Int), j < i → l[j]? = some (u, v) → u < x) (hi : (p :: l)[i]? = some (a, b)) (hi' : l[i]? = some (c, d)) (hx : x ≤ c) :
    curveAtL x p l = segV x a b c d := by
  induction l generalizing p i with
  | nil => simp at hi'
  | cons q r ih =>
    cases i with
    | zero =>
      simp only [List.getElem?_cons_zero, Option.some.injEq] at hi hi'; subst hi; subst hi'
      rw [curveAtL, if_pos hx]; rfl
    | succ i =>
      have := hlo 0 q.1 q.2 (by omega) rfl; rw [curveAtL, if_neg (by omega)]; exact ih (fun j u v hj hl => hlo (j + 1) u v (Nat.succ_lt_succ hj) (by simpa using hl)) (by simpa using hi) (by simpa using hi')

theorem curveAt_seg {ps : List (Int × Int)} (h : CurveOk ps) {x : Int} {i : Nat} {a b c d : Int} (hi : ps[i]? = some (a, b)) (hi' : ps[i + 1]? = some (c, d)) (h0 : i = 0 ∨ a < x) (hx : x ≤ c) : curveAt ps x = segV x a b c d := by
  cases ps with
  | nil => simp at hi
  | cons p l =>
    refine curveAtL_seg (i := i) ?_ (by simpa using hi) (by simpa using hi') hx; intro j u v hj hl; have := h.le (i := j + 1) (j := i) (by omega) (by simpa using hl) hi; omega
theorem curveAt_found {ps : List (Int × Int)} (h : CurveOk ps) {x : Int} {i : Nat} {a b c d : Int} (hi : ps[i]? = some (a, b)) (hi' : ps[i + 1]? = some (c, d)) (h0 : a ≤ x) (hx : x < c ∨ i + 1 = ps.length - 1) (hx' : x ≤ 65280) :
    curveAt ps x = segV x a b c d := by
  have hxc : x ≤ c := by
    rcases hx with hx | hx
    · omega
    · have := h.last c d (by rw [← hx]; exact hi'); omega
  rcases Nat.eq_zero_or_pos i with rfl | hp
  · exact curveAt_seg h hi hi' (.inl rfl) hxc
  rcases Int.lt_or_eq_of_le h0 with hlt | rfl
  · exact curveAt_seg h hi hi' (.inr hlt) hxc
  · have hil : i - 1 < ps.length := by have := (List.getElem?_eq_some_iff.1 hi).1; omega
    obtain ⟨⟨e, f⟩, hef⟩ : ∃ p, ps[i - 1]? = some p := ⟨_, List.getElem?_eq_getElem hil⟩; have hi2 : ps[i - 1 + 1]? = some (a, b) := by rw [show i - 1 + 1 = i from by omega]; exact hi
    have s1 := h.step (i - 1) e f a b hef hi2; have s2 := h.step i a b c d hi hi'; rw [curveAt_seg h hef hi2 (.inr s1.1) (Int.le_refl _), segV_end s1.1, segV_start s2.1]
theorem segV_bd {x a b c d : Int} (h1 : a < c) (h2 : a ≤ x) (h3 : x ≤ c) (h4 : 0 ≤ b) (h5 : b ≤ d) (h6 : d ≤ 65280) : 0 ≤ segV x a b c d ∧ segV x a b c d ≤ 65280 := by
  rw [segV_eq h1]; have e1 : 0 ≤ (d - b) * (x - a) := Int.mul_nonneg (by omega) (by omega); have e2 : (d - b) * (x - a) ≤ (d - b) * (c - a) := Int.mul_le_mul_of_nonneg_left (by omega) (by omega); have e3 : 0 ≤ rnd ((d - b) * (x - a)) (c - a) := by unfold rnd; exact Int.ediv_nonneg (by omega) (by omega)
  have e4 : rnd ((d - b) * (x - a)) (c - a) ≤ d - b := by
    have e5 := rnd_add (d - b) 0 (d := c - a) (by omega); rw [Int.add_zero, rnd_zero (by omega), Int.add_zero] at e5
    have e6 : rnd ((d - b) * (x - a)) (c - a) ≤ rnd ((d - b) * (c - a)) (c - a) := by
      unfold rnd; exact Int.ediv_le_ediv (by omega) (by omega)
    omega
  omega
theorem curveAt_first {ps : List (Int × Int)} (h : CurveOk ps) {x : Int} (h0 : 0 ≤ x) (h1 : x ≤ 65280) : ∃ i a b c d, ps[i]? = some (a, b) ∧ ps[i + 1]? = some (c, d) ∧ a ≤ x ∧ x ≤ c ∧ (i = 0 ∨ a < x) ∧ curveAt ps x = segV x a b c d := by
  have key : ∀ n i, n + i + 1 = ps.length → (∀ a b, ps[i]? = some (a, b) → i = 0 ∧ a ≤ x ∨ a < x) → i + 1 < ps.length ∨ i = 0 →
      ∃ i a b c d, ps[i]? = some (a, b) ∧ ps[i + 1]? = some (c, d) ∧ a ≤ x ∧ x ≤ c ∧ (i = 0 ∨ a < x) ∧ curveAt ps x = segV x a b c d := by
    intro n
    induction n with
    | zero => intro i hi _ h'; have := h.two; omega
    | succ n ih =>
      intro i hi hlo _; obtain ⟨⟨a, b⟩, hab⟩ : ∃ p, ps[i]? = some p := ⟨_, List.getElem?_eq_getElem (by omega)⟩; obtain ⟨⟨c, d⟩, hcd⟩ : ∃ p, ps[i + 1]? = some p := ⟨_, List.getElem?_eq_getElem (by omega)⟩; have hl := hlo a b hab; by_cases hx : x ≤ c
      · exact ⟨i, a, b, c, d, hab, hcd, by omega, hx, by omega, curveAt_seg h hab hcd (by omega) hx⟩
      · have hne : i + 1 ≠ ps.length - 1 := by
          intro he; have := h.last c d (by rw [← he]; exact hcd); omega
        refine ih (i + 1) (by omega) ?_ (.inl (by omega)); intro a' b' h'; rw [hcd] at h'; simp at h'; omega
  have h2 := h.two; refine key (ps.length - 1) 0 (by omega) ?_ (.inr rfl); intro a b hab; have := h.first a b hab; omega
theorem curveAt_bd {ps : List (Int × Int)} (h : CurveOk ps) {x : Int} (h0 : 0 ≤ x) (h1 : x ≤ 65280) : 0 ≤ curveAt ps x ∧ curveAt ps x ≤ 65280 := by
  obtain ⟨i, a, b, c, d, hi, hi', g1, g2, _, g4⟩ := curveAt_first h h0 h1; have b1 := h.bd i a b hi; have b2 := h.bd (i + 1) c d hi'; have b3 := h.step i a b c d hi hi'; rw [g4]; exact segV_bd b3.1 g1 g2 b1.2.2.1 b3.2 b2.2.2.2


def cP (ps : List (Int × Int)) (i : Nat) : Int × Int := ps.getD i (0, 0)
theorem cP_of {ps : List (Int × Int)} {i : Nat} {p : Int × Int} (h : ps[i]? = some p) : cP ps i = p := by
  unfold cP; rw [List.getD_eq_getElem?_getD, h]; rfl
theorem cP_get {ps : List (Int × Int)} {i : Nat} (h : i < ps.length) : ps[i]? = some ((cP ps i).1, (cP ps i).2) := by
  unfold cP; rw [List.getD_eq_getElem?_getD, List.getElem?_eq_getElem h]; rfl
def ptE (ps : List (Int × Int)) (i : Nat) : Int :=
  if (0 ≤ (cP ps i).1 ∧ (cP ps i).1 ≤ 65280) ∧ 0 ≤ (cP ps i).2 ∧ (cP ps i).2 ≤ 65280 then
    (if 0 < i ∧ ((cP ps i).1 ≤ (cP ps (i - 1)).1 ∨ (cP ps i).2 < (cP ps (i - 1)).2) then 18 else 0) else 3
def curE (ps : List (Int × Int)) : Int :=
  if 33 < ps.length then 2 else if ps.length < 2 then 1 else if firstE (ptE ps) ps.length 0 = 0 then (if (cP ps 0).1 = 0 ∧ (cP ps (ps.length - 1)).1 = 65280 then 0 else 4) else firstE (ptE ps) ps.length 0
theorem curE_ok {ps : List (Int × Int)} (h : curE ps = 0) : CurveOk ps := by
  unfold curE at h; by_cases h0 : 33 < ps.length
  · rw [if_pos h0] at h; omega
  rw [if_neg h0] at h; by_cases h1 : ps.length < 2
  · rw [if_pos h1] at h; omega
  rw [if_neg h1] at h; by_cases h2 : firstE (ptE ps) ps.length 0 = 0
  · rw [if_pos h2] at h; by_cases h3 : (cP ps 0).1 = 0 ∧ (cP ps (ps.length - 1)).1 = 65280
    · have hE : ∀ i, i < ps.length → ptE ps i = 0 := fun i hi => firstE_ok _ 0 h2 i (by omega) (by omega)
      have hB : ∀ i, i < ps.length → ((0 ≤ (cP ps i).1 ∧ (cP ps i).1 ≤ 65280) ∧ 0 ≤ (cP ps i).2 ∧ (cP ps i).2 ≤ 65280) ∧ ¬ (0 < i ∧ ((cP ps i).1 ≤ (cP ps (i - 1)).1 ∨ (cP ps i).2 < (cP ps (i - 1)).2)) := by
        intro i hi; have e := hE i hi; unfold ptE at e; split at e
        · rename_i c; split at e
          · omega
          · rename_i d; exact ⟨c, d⟩
        · omega
      refine ⟨by omega, by omega, ?_, ?_, ?_, ?_⟩
      · intro i x y hx; have hi := (List.getElem?_eq_some_iff.1 hx).1; have := (hB i hi).1; rw [cP_of hx] at this; exact ⟨this.1.1, this.1.2, this.2.1, this.2.2⟩
      · intro i x y u v hx hu; have hi := (List.getElem?_eq_some_iff.1 hu).1; have := (hB (i + 1) hi).2; rw [Nat.add_sub_cancel, cP_of hx, cP_of hu] at this; simp only at this; omega
      · intro x y hx; have := h3.1; rw [cP_of hx] at this; exact this
      · intro x y hx; have := h3.2; rw [cP_of hx] at this; exact this
    · rw [if_neg h3] at h; omega
  · rw [if_neg h2] at h; exact absurd h h2
section
variable {fu : Nat} (hf : 18446744073709551616 ≤ fu) {ps : List (Int × Int)}
include hf
theorem curCheck_r : curve_Check_r fu (ps, ()) = some (curE ps, ()) := by
  unfold curve_Check_r curE; by_cases c1 : 33 < ps.length
  · rw [if_pos c1]; simp (disch := omega) only [joinF_eq, bindO_some, s_wr, s_td, s_tm, s_pos, s_neg, Int.toNat_natCast, rbset]
  rw [if_neg c1]; by_cases c2 : ps.length < 2
  · rw [if_pos c2]; simp (disch := omega) only [joinF_eq, bindO_some, s_wr, s_td, s_tm, s_pos, s_neg, Int.toNat_natCast, rbset]
  rw [if_neg c2]; simp (disch := omega) only [joinF_eq, bindO_some, s_wr, s_td, s_tm, s_pos, s_neg, Int.toNat_natCast, rbset]; rw [errLoop (n := ps.length) (E := ptE ps) (out := fun e => some (e, ())) (fin := some (if (cP ps 0).1 = 0 ∧ (cP ps (ps.length - 1)).1 = 65280 then 0 else 4, ())) (by omega)]
  · split <;> rfl
  · intro j i hi; unfold curve_Check_l1; simp (disch := omega) only [joinF_eq, bindO_some, s_wr, s_td, s_tm, s_pos, s_neg, Int.toNat_natCast, rbset]; show (bif decide ((cP ps i).1 < 0) then _ else bif decide (65280 < (cP ps i).1) then _ else bif decide ((cP ps i).2 < 0) then _ else curve_Check_j2 fu _ _ (cP ps i) j (decide (65280 < (cP ps i).2))) = _
    have t3 : ¬ ((0 ≤ (cP ps i).1 ∧ (cP ps i).1 ≤ 65280) ∧ 0 ≤ (cP ps i).2 ∧ (cP ps i).2 ≤ 65280) → ∀ v, curve_Check_j2 fu (ps, ()) i v j true = if ptE ps i = 0 then j ((i : Int) + 1) else some (ptE ps i, ()) := by
      intro h v; have : ptE ps i = 3 := by unfold ptE; rw [if_neg h]
      rw [this]; rfl
    by_cases g1 : (cP ps i).1 < 0
    · simp (disch := omega) only [joinF_eq, bindO_some, s_wr, s_td, s_tm, s_pos, s_neg, Int.toNat_natCast, rbset]; exact t3 (by omega) _
    by_cases g2 : 65280 < (cP ps i).1
    · simp (disch := omega) only [joinF_eq, bindO_some, s_wr, s_td, s_tm, s_pos, s_neg, Int.toNat_natCast, rbset]; exact t3 (by omega) _
    by_cases g3 : (cP ps i).2 < 0
    · simp (disch := omega) only [joinF_eq, bindO_some, s_wr, s_td, s_tm, s_pos, s_neg, Int.toNat_natCast, rbset]; exact t3 (by omega) _
    by_cases g4 : 65280 < (cP ps i).2
    · simp (disch := omega) only [joinF_eq, bindO_some, s_wr, s_td, s_tm, s_pos, s_neg, Int.toNat_natCast, rbset]; exact t3 (by omega) _
    have hb : (0 ≤ (cP ps i).1 ∧ (cP ps i).1 ≤ 65280) ∧ 0 ≤ (cP ps i).2 ∧ (cP ps i).2 ≤ 65280 := by omega
    have t18 : 0 < i ∧ ((cP ps i).1 ≤ (cP ps (i - 1)).1 ∨ (cP ps i).2 < (cP ps (i - 1)).2) → ptE ps i = 18 := fun h => by unfold ptE; rw [if_pos hb, if_pos h]
    have t0 : ¬ (0 < i ∧ ((cP ps i).1 ≤ (cP ps (i - 1)).1 ∨ (cP ps i).2 < (cP ps (i - 1)).2)) → ptE ps i = 0 := fun h => by unfold ptE; rw [if_pos hb, if_neg h]
    unfold curve_Check_j2; by_cases z : 0 < i
    · simp (disch := omega) only [joinF_eq, bindO_some, s_wr, s_td, s_tm, s_pos, s_neg, Int.toNat_natCast, rbset]; rw [show ((i : Int) - 1).toNat = i - 1 by omega]; show (bif decide ((cP ps i).1 ≤ (cP ps (i - 1)).1) then _ else curve_Check_j3 fu _ j (decide ((cP ps i).2 < (cP ps (i - 1)).2))) = _; by_cases g5 : (cP ps i).1 ≤ (cP ps (i - 1)).1
      · rw [t18 (by omega)]; simp (disch := omega) only [joinF_eq, bindO_some, s_wr, s_td, s_tm, s_pos, s_neg, cond_true, cond_false, Bool.not_true, Bool.not_false, Bool.true_and, Bool.and_true, Bool.false_and, Bool.and_false, bne_self_eq_false, decide_true, decide_false, Int.toNat_natCast, curve_Check_j3]; rfl
      by_cases g6 : (cP ps i).2 < (cP ps (i - 1)).2
      · rw [t18 (by omega)]; simp (disch := omega) only [joinF_eq, bindO_some, s_wr, s_td, s_tm, s_pos, s_neg, cond_true, cond_false, Bool.not_true, Bool.not_false, Bool.true_and, Bool.and_true, Bool.false_and, Bool.and_false, bne_self_eq_false, decide_true, decide_false, Int.toNat_natCast, curve_Check_j3]; rfl
      · rw [t0 (by omega)]; simp (disch := omega) only [joinF_eq, bindO_some, s_wr, s_td, s_tm, s_pos, s_neg, cond_true, cond_false, Bool.not_true, Bool.not_false, Bool.true_and, Bool.and_true, Bool.false_and, Bool.and_false, bne_self_eq_false, decide_true, decide_false, Int.toNat_natCast, curve_Check_j3]; rfl
    · rw [t0 (by omega)]; simp (disch := omega) only [joinF_eq, bindO_some, s_wr, s_td, s_tm, s_pos, s_neg, cond_true, cond_false, Bool.not_true, Bool.not_false, Bool.true_and, Bool.and_true, Bool.false_and, Bool.and_false, bne_self_eq_false, decide_true, decide_false, Int.toNat_natCast, curve_Check_j3]; rfl
  · intro j; unfold curve_Check_l1; simp (disch := omega) only [joinF_eq, bindO_some, s_wr, s_td, s_tm, s_pos, s_neg, Int.toNat_natCast, rbset]; rw [show ((ps.length : Int) - 1).toNat = ps.length - 1 by omega]; show (bif decide ((cP ps 0).1 ≠ 0) then _ else curve_Check_j4 fu (decide ((cP ps (ps.length - 1)).1 ≠ 65280))) = _; by_cases g1 : (cP ps 0).1 = 0
    · by_cases g2 : (cP ps (ps.length - 1)).1 = 65280
      · rw [if_pos ⟨g1, g2⟩]; simp (disch := omega) only [joinF_eq, bindO_some, s_wr, s_td, s_tm, s_pos, s_neg, cond_true, cond_false, Bool.not_true, Bool.not_false, Bool.true_and, Bool.and_true, Bool.false_and, Bool.and_false, bne_self_eq_false, decide_true, decide_false, Int.toNat_natCast, curve_Check_j4]
      · rw [if_neg (by omega)]; simp (disch := omega) only [joinF_eq, bindO_some, s_wr, s_td, s_tm, s_pos, s_neg, cond_true, cond_false, Bool.not_true, Bool.not_false, Bool.true_and, Bool.and_true, Bool.false_and, Bool.and_false, bne_self_eq_false, decide_true, decide_false, Int.toNat_natCast, curve_Check_j4]
    · rw [if_neg (by omega)]; simp (disch := omega) only [joinF_eq, bindO_some, s_wr, s_td, s_tm, s_pos, s_neg, cond_true, cond_false, Bool.not_true, Bool.not_false, Bool.true_and, Bool.and_true, Bool.false_and, Bool.and_false, bne_self_eq_false, decide_true, decide_false, Int.toNat_natCast, curve_Check_j4]
theorem curErr_r : R_CurveErr_r fu (ps, ()) = some (curE ps, ()) := by
  unfold R_CurveErr_r curE; by_cases c1 : 33 < ps.length
  · rw [if_pos c1]; simp (disch := omega) only [joinF_eq, bindO_some, s_wr, s_td, s_tm, s_pos, s_neg, Int.toNat_natCast, rbset]
  rw [if_neg c1]; by_cases c2 : ps.length < 2
  · rw [if_pos c2]; simp (disch := omega) only [joinF_eq, bindO_some, s_wr, s_td, s_tm, s_pos, s_neg, Int.toNat_natCast, rbset]
  rw [if_neg c2]; simp (disch := omega) only [joinF_eq, bindO_some, s_wr, s_td, s_tm, s_pos, s_neg, Int.toNat_natCast, rbset]
  refine loopF_spec (f := R_CurveErr_l1 fu (ps, ())) (fun s : Int × Int × Int => ((ps.length : Int) - s.2.2).toNat) (fun s => (0 ≤ s.2.2 ∧ s.2.2 ≤ ps.length) ∧ (s.2.2 = 0 → s.1 = -1 ∧ s.2.1 = 0) ∧ (0 < s.2.2 → s.1 = (cP ps (s.2.2.toNat - 1)).1 ∧ s.2.1 = (cP ps (s.2.2.toNat - 1)).2))
    (fun s => some (if firstE (ptE ps) (ps.length - s.2.2.toNat) s.2.2.toNat = 0 then (if (cP ps 0).1 = 0 ∧ (cP ps (ps.length - 1)).1 = 65280 then 0 else 4) else firstE (ptE ps) (ps.length - s.2.2.toNat) s.2.2.toNat, ())) ?_ fu (-1, (0, 0)) ⟨⟨by simp, by simp⟩, by simp, by simp⟩ (by simp; omega)
  rintro j ⟨x, y, i⟩ ⟨⟨k0, k1⟩, k2, k3⟩ ih
  simp only at k0 k1 k2 k3; obtain ⟨i, rfl⟩ := Int.eq_ofNat_of_zero_le k0; rw [Int.toNat_natCast] at k3; unfold R_CurveErr_l1; by_cases hi : i < ps.length
  · have ih' := ih ((cP ps i).1, ((cP ps i).2, (i : Int) + 1)) ⟨⟨by simp only; omega, by simp only; omega⟩, by simp only; omega, fun _ => by simp only; rw [show ((i : Int) + 1).toNat - 1 = i by omega]; exact ⟨rfl, rfl⟩⟩ (by simp only; omega); simp only at ih'; rw [show ((i : Int) + 1).toNat = i + 1 by omega] at ih'; simp (disch := omega) only [joinF_eq, bindO_some, s_wr, s_td, s_tm, s_pos, s_neg, Int.toNat_natCast, rbset]; rw [firstE_step hi]; show bindO (R_Within_r fu ((cP ps i).1, (0, (65280, ())))) _ = _; rw [within_s]; simp (disch := omega) only [joinF_eq, bindO_some, s_wr, s_td, s_tm, s_pos, s_neg, Int.toNat_natCast, rbset]
    have t3 : ¬ ((0 ≤ (cP ps i).1 ∧ (cP ps i).1 ≤ 65280) ∧ 0 ≤ (cP ps i).2 ∧ (cP ps i).2 ≤ 65280) → ptE ps i = 3 := by
      intro h; unfold ptE; rw [if_neg h]
    by_cases g1 : 0 ≤ (cP ps i).1 ∧ (cP ps i).1 ≤ 65280
    · rw [decide_eq_true g1]; simp (disch := omega) only [joinF_eq, bindO_some, s_wr, s_td, s_tm, s_pos, s_neg, Int.toNat_natCast, rbset]; show bindO (R_Within_r fu ((cP ps i).2, (0, (65280, ())))) _ = _; rw [within_s]; simp (disch := omega) only [joinF_eq, bindO_some, s_wr, s_td, s_tm, s_pos, s_neg, Int.toNat_natCast, rbset]; by_cases g2 : 0 ≤ (cP ps i).2 ∧ (cP ps i).2 ≤ 65280
      · rw [decide_eq_true g2]; simp (disch := omega) only [joinF_eq, bindO_some, s_wr, s_td, s_tm, s_pos, s_neg, cond_true, cond_false, Bool.not_true, Bool.not_false, Bool.true_and, Bool.and_true, Bool.false_and, Bool.and_false, bne_self_eq_false, decide_true, decide_false, Int.toNat_natCast, R_CurveErr_j2]; show (bif decide ((cP ps i).1 ≤ x) then _ else R_CurveErr_j3 fu _ (cP ps i) j (decide ((cP ps i).2 < y))) = _
        have o : ptE ps i = if (cP ps i).1 ≤ x ∨ (cP ps i).2 < y then 18 else 0 := by
          unfold ptE; rw [if_pos ⟨g1, g2⟩]
          by_cases z : 0 < i
          · obtain ⟨q1, q2⟩ := k3 (by omega); rw [q1, q2]; by_cases w : (cP ps i).1 ≤ (cP ps (i - 1)).1 ∨ (cP ps i).2 < (cP ps (i - 1)).2
            · rw [if_pos ⟨z, w⟩, if_pos w]
            · rw [if_neg (fun q => w q.2), if_neg w]
          · obtain ⟨q1, q2⟩ := k2 (by omega); rw [if_neg (fun q => z q.1), if_neg (by omega)]
        by_cases g5 : (cP ps i).1 ≤ x
        · rw [if_pos (.inl g5)] at o; rw [o]; simp (disch := omega) only [joinF_eq, bindO_some, s_wr, s_td, s_tm, s_pos, s_neg, cond_true, cond_false, Bool.not_true, Bool.not_false, Bool.true_and, Bool.and_true, Bool.false_and, Bool.and_false, bne_self_eq_false, decide_true, decide_false, Int.toNat_natCast, R_CurveErr_j3]; rfl
        by_cases g6 : (cP ps i).2 < y
        · rw [if_pos (.inr g6)] at o; rw [o]; simp (disch := omega) only [joinF_eq, bindO_some, s_wr, s_td, s_tm, s_pos, s_neg, cond_true, cond_false, Bool.not_true, Bool.not_false, Bool.true_and, Bool.and_true, Bool.false_and, Bool.and_false, bne_self_eq_false, decide_true, decide_false, Int.toNat_natCast, R_CurveErr_j3]; rfl
        · rw [if_neg (by omega)] at o; rw [o]; simp (disch := omega) only [joinF_eq, bindO_some, s_wr, s_td, s_tm, s_pos, s_neg, cond_true, cond_false, Bool.not_true, Bool.not_false, Bool.true_and, Bool.and_true, Bool.false_and, Bool.and_false, bne_self_eq_false, decide_true, decide_false, Int.toNat_natCast, R_CurveErr_j3]; exact ih'
      · rw [t3 (fun q => g2 q.2), decide_eq_false g2]; rfl
    · rw [t3 (fun q => g1 q.1), decide_eq_false g1]; rfl
  · have e : i = ps.length := by omega
    subst e; obtain ⟨q1, q2⟩ := k3 (by omega); simp (disch := omega) only [joinF_eq, bindO_some, s_wr, s_td, s_tm, s_pos, s_neg, Int.toNat_natCast, rbset]; rw [Nat.sub_self]; show (bif decide ((cP ps 0).1 ≠ 0) then _ else R_CurveErr_j4 fu (decide (x ≠ 65280))) = some (if (cP ps 0).1 = 0 ∧ (cP ps (ps.length - 1)).1 = 65280 then 0 else 4, ()); rw [q1]; by_cases g1 : (cP ps 0).1 = 0
    · by_cases g2 : (cP ps (ps.length - 1)).1 = 65280
      · rw [if_pos ⟨g1, g2⟩]; simp (disch := omega) only [joinF_eq, bindO_some, s_wr, s_td, s_tm, s_pos, s_neg, cond_true, cond_false, Bool.not_true, Bool.not_false, Bool.true_and, Bool.and_true, Bool.false_and, Bool.and_false, bne_self_eq_false, decide_true, decide_false, Int.toNat_natCast, R_CurveErr_j4]
      · rw [if_neg (by omega)]; simp (disch := omega) only [joinF_eq, bindO_some, s_wr, s_td, s_tm, s_pos, s_neg, cond_true, cond_false, Bool.not_true, Bool.not_false, Bool.true_and, Bool.and_true, Bool.false_and, Bool.and_false, bne_self_eq_false, decide_true, decide_false, Int.toNat_natCast, R_CurveErr_j4]
    · rw [if_neg (by omega)]; simp (disch := omega) only [joinF_eq, bindO_some, s_wr, s_td, s_tm, s_pos, s_neg, cond_true, cond_false, Bool.not_true, Bool.not_false, Bool.true_and, Bool.and_true, Bool.false_and, Bool.and_false, bne_self_eq_false, decide_true, decide_false, Int.toNat_natCast, R_CurveErr_j4]
section
variable (ok : CurveOk ps) {x : Int} (h0 : 0 ≤ x) (h1 : x ≤ 65280)
include ok h0 h1
theorem seg_bd {i k : Nat} (hik : i < k) (hk : k < ps.length) : (0 ≤ (cP ps i).1 ∧ (cP ps i).1 < (cP ps k).1 ∧ (cP ps k).1 ≤ 65280) ∧ 0 ≤ (cP ps i).2 ∧ (cP ps i).2 ≤ (cP ps k).2 ∧ (cP ps k).2 ≤ 65280 := by
  have a1 := cP_get (ps := ps) (i := i) (by omega); have a2 := cP_get (ps := ps) (i := k) hk; have b1 := ok.bd i _ _ a1; have b2 := ok.bd k _ _ a2; have b3 := ok.le (i := i) (j := k) (by omega) a1 a2; omega
theorem curRaw_r : curve_Raw_r fu (ps, (x, ())) = some (curveAt ps x, ()) := by
  have hl := ok.two; have hm := ok.most; unfold curve_Raw_r; simp (disch := omega) only [joinF_eq, bindO_some, s_wr, s_td, s_tm, s_pos, s_neg, Int.toNat_natCast, rbset]
  refine postLoop (f := curve_Raw_l1 fu (ps, (x, ()))) (fun s : Int × Int => (s.1 - s.2).toNat) (fun s => ∃ h l : Nat, s = ((h : Int), (l : Int)) ∧ l < h ∧ h < ps.length ∧ (cP ps l).1 ≤ x ∧ (x < (cP ps h).1 ∨ h = ps.length - 1)) (fun r => r = some (curveAt ps x, ())) ?_ fu ((ps.length : Int) - 1, 0)
    ⟨ps.length - 1, 0, by rw [show ((ps.length - 1 : Nat) : Int) = (ps.length : Int) - 1 by omega]; rfl, by omega, by omega, by rw [ok.first _ _ (cP_get (by omega))]; exact h0, .inr rfl⟩ (by simp only; omega)
  rintro j _ ⟨h, l, rfl, k1, k2, k3, k4⟩
  unfold curve_Raw_l1; by_cases c : 1 < (h : Int) - l
  · refine .inl ?_; simp (disch := omega) only [joinF_eq, bindO_some, s_wr, s_td, s_tm, s_pos, s_neg, Int.toNat_natCast, rbset]; obtain ⟨m, hm2⟩ : ∃ m : Nat, m = (l + h) / 2 := ⟨_, rfl⟩; have e : ((l : Int) + h) / 2 = (m : Int) := by omega
    simp (disch := omega) only [joinF_eq, bindO_some, s_wr, s_td, s_tm, s_pos, s_neg, cond_true, cond_false, Bool.not_true, Bool.not_false, Bool.true_and, Bool.and_true, Bool.false_and, Bool.and_false, bne_self_eq_false, decide_true, decide_false, Int.toNat_natCast, e]; show ∃ x', _ ∧ _ ∧ (bif decide ((cP ps m).1 ≤ x) then _ else _) = _; by_cases g : (cP ps m).1 ≤ x
    · simp (disch := omega) only [joinF_eq, bindO_some, s_wr, s_td, s_tm, s_pos, s_neg, Int.toNat_natCast, rbset]; exact ⟨(h, m), ⟨h, m, rfl, by omega, k2, g, k4⟩, by simp only; omega, rfl⟩
    · simp (disch := omega) only [joinF_eq, bindO_some, s_wr, s_td, s_tm, s_pos, s_neg, Int.toNat_natCast, rbset]; exact ⟨(m, l), ⟨m, l, rfl, by omega, by omega, k3, .inl (by omega)⟩, by simp only; omega, rfl⟩
  · refine .inr ?_; obtain rfl : h = l + 1 := by omega
    obtain ⟨b1, b2⟩ := seg_bd hf ok h0 h1 (i := l) (k := l + 1) (by omega) k2; have a1 := cP_get (ps := ps) (i := l) (by omega); have a2 := cP_get (ps := ps) (i := l + 1) k2; have hv := curveAt_found ok a1 a2 k3 (by omega) h1; rw [hv, segV_eq (by omega)]; simp (disch := omega) only [joinF_eq, bindO_some, s_wr, s_td, s_tm, s_pos, s_neg, Int.toNat_natCast, rbset]; show bindO (curve_Nearest_r fu (IntKind.i64.wrap (IntKind.i64.wrap ((cP ps (l + 1)).2 - (cP ps l).2) * IntKind.i64.wrap (x - (cP ps l).1)), (IntKind.i64.wrap ((cP ps (l + 1)).1 - (cP ps l).1), ()))) _ = _
    have hx : x ≤ (cP ps (l + 1)).1 := by
      rcases k4 with k4 | k4
      · omega
      · have := ok.last _ _ (by rw [← k4]; exact a2); omega
    have m1 : 0 ≤ ((cP ps (l + 1)).2 - (cP ps l).2) * (x - (cP ps l).1) := Int.mul_nonneg (by omega) (by omega); have m2 : ((cP ps (l + 1)).2 - (cP ps l).2) * (x - (cP ps l).1) ≤ 65280 * 65280 := Int.mul_le_mul (by omega) (by omega) (by omega) (by omega); have sb := segV_bd (x := x) (a := (cP ps l).1) (b := (cP ps l).2) (c := (cP ps (l + 1)).1) (d := (cP ps (l + 1)).2) (by omega) k3 hx (by omega) (by omega) (by omega); rw [segV_eq (by omega)] at sb; generalize hpr : ((cP ps (l + 1)).2 - (cP ps l).2) * (x - (cP ps l).1) = pr at *
    simp (disch := omega) only [joinF_eq, bindO_some, s_wr, s_td, s_tm, s_pos, s_neg, cond_true, cond_false, Bool.not_true, Bool.not_false, Bool.true_and, Bool.and_true, Bool.false_and, Bool.and_false, bne_self_eq_false, decide_true, decide_false, Int.toNat_natCast, hpr]; rw [nearest_s fu (by omega) (by omega) (by omega) (by omega)]; simp (disch := omega) only [joinF_eq, bindO_some, s_wr, s_td, s_tm, s_pos, s_neg, Int.toNat_natCast, rbset]; show some (IntKind.i64.wrap ((cP ps l).2 + _), ()) = _; simp (disch := omega) only [joinF_eq, bindO_some, s_wr, s_td, s_tm, s_pos, s_neg, Int.toNat_natCast, rbset]
theorem curAt_r : R_CurveAt_r fu (ps, (x, ())) = some (curveAt ps x, ()) := by
  have hl := ok.two; have hm := ok.most; unfold R_CurveAt_r; refine postLoop (f := R_CurveAt_l1 fu (ps, (x, ()))) (fun s : Int => ((ps.length : Int) - s).toNat) (fun s => ∃ i : Nat, s = (i : Int) + 1 ∧ i + 1 < ps.length ∧ (i = 0 ∨ (cP ps i).1 < x)) (fun r => r = some (curveAt ps x, ())) ?_ fu 1 ⟨0, rfl, by omega, .inl rfl⟩ (by omega)
  rintro j _ ⟨i, rfl, k1, k2⟩
  obtain ⟨b1, b2⟩ := seg_bd hf ok h0 h1 (i := i) (k := i + 1) (by omega) k1; have a1 := cP_get (ps := ps) (i := i) (by omega); have a2 := cP_get (ps := ps) (i := i + 1) k1; unfold R_CurveAt_l1; simp (disch := omega) only [joinF_eq, bindO_some, s_wr, s_td, s_tm, s_pos, s_neg, Int.toNat_natCast, rbset]; rw [show ((i : Int) + 1 - 1).toNat = i by omega, show ((i : Int) + 1).toNat = i + 1 by omega]; show (∃ x', _ ∧ _ ∧ (bif decide (x ≤ (cP ps (i + 1)).1) then _ else _) = _) ∨ (bif decide (x ≤ (cP ps (i + 1)).1) then _ else _) = _; by_cases g : x ≤ (cP ps (i + 1)).1
  · refine .inr ?_; have hv := curveAt_seg ok a1 a2 k2 g; rw [hv]; unfold segV
    have hx : (cP ps i).1 ≤ x := by
      rcases k2 with k2 | k2
      · subst k2; have := ok.first _ _ a1; omega
      · omega
    simp (disch := omega) only [joinF_eq, bindO_some, s_wr, s_td, s_tm, s_pos, s_neg, Int.toNat_natCast, rbset]; show bindO (R_Round_r fu (IntKind.i64.wrap (IntKind.i64.wrap ((cP ps i).2 * IntKind.i64.wrap ((cP ps (i + 1)).1 - x)) + IntKind.i64.wrap ((cP ps (i + 1)).2 * IntKind.i64.wrap (x - (cP ps i).1))), (IntKind.i64.wrap ((cP ps (i + 1)).1 - (cP ps i).1), ()))) _ = _; have m1 : 0 ≤ (cP ps i).2 * ((cP ps (i + 1)).1 - x) := Int.mul_nonneg (by omega) (by omega); have m2 : (cP ps i).2 * ((cP ps (i + 1)).1 - x) ≤ 65280 * 65280 := Int.mul_le_mul (by omega) (by omega) (by omega) (by omega); have m3 : 0 ≤ (cP ps (i + 1)).2 * (x - (cP ps i).1) := Int.mul_nonneg (by omega) (by omega); have m4 : (cP ps (i + 1)).2 * (x - (cP ps i).1) ≤ 65280 * 65280 := Int.mul_le_mul (by omega) (by omega) (by omega) (by omega); generalize hp : (cP ps i).2 * ((cP ps (i + 1)).1 - x) = p at *
    generalize hq : (cP ps (i + 1)).2 * (x - (cP ps i).1) = q at *
    simp (disch := omega) only [joinF_eq, bindO_some, s_wr, s_td, s_tm, s_pos, s_neg, cond_true, cond_false, Bool.not_true, Bool.not_false, Bool.true_and, Bool.and_true, Bool.false_and, Bool.and_false, bne_self_eq_false, decide_true, decide_false, Int.toNat_natCast, hp, hq]; rw [round_s fu (by omega) (by omega) (by omega) (by omega)]; simp (disch := omega) only [joinF_eq, bindO_some, s_wr, s_td, s_tm, s_pos, s_neg, Int.toNat_natCast, rbset]
  · refine .inl ⟨(i : Int) + 1 + 1, ⟨i + 1, by omega, ?_, .inr (by omega)⟩, by omega, ?_⟩
    · rcases Nat.lt_or_ge (i + 1 + 1) ps.length with q | q
      · exact q
      · have := ok.last _ _ (by rw [show ps.length - 1 = i + 1 by omega]; exact a2); omega
    · simp (disch := omega) only [joinF_eq, bindO_some, s_wr, s_td, s_tm, s_pos, s_neg, Int.toNat_natCast, rbset]
end
end
def lowC (c : Int) : Prop := 97 ≤ c ∧ c ≤ 122
def restC (c : Int) : Prop := lowC c ∨ (48 ≤ c ∧ c ≤ 57) ∨ c = 45
instance (c : Int) : Decidable (lowC c) := by unfold lowC; infer_instance
instance (c : Int) : Decidable (restC c) := by unfold restC; infer_instance
def chr (s : List UInt8) (i : Nat) : Int := (s.getD i 0).toNat
def nameE (s : List UInt8) (i : Nat) : Int := if lowC (chr s i) ∨ (0 < i ∧ restC (chr s i)) then 0 else 1
def nameB (s : List UInt8) : Bool := decide ((1 ≤ s.length ∧ s.length ≤ 16) ∧ firstE (nameE s) s.length 0 = 0)
section
variable {fu : Nat} (hf : 18446744073709551616 ≤ fu)
include hf
theorem name_r {s : List UInt8} : R_Name_r fu (s, ()) = some (nameB s, ()) := by
  unfold R_Name_r R_Name_j1 nameB; by_cases c1 : s.length < 1
  · rw [decide_eq_false (p := _ ∧ _) (by omega)]; simp (disch := omega) only [joinF_eq, bindO_some, s_wr, s_td, s_tm, s_pos, s_neg, Int.toNat_natCast, rbset]
  by_cases c2 : 16 < s.length
  · rw [decide_eq_false (p := _ ∧ _) (by omega)]; simp (disch := omega) only [joinF_eq, bindO_some, s_wr, s_td, s_tm, s_pos, s_neg, Int.toNat_natCast, rbset]
  simp (disch := omega) only [joinF_eq, bindO_some, s_wr, s_td, s_tm, s_pos, s_neg, Int.toNat_natCast, rbset]; rw [errLoop (n := s.length) (E := nameE s) (out := fun _ => some (false, ())) (fin := some (true, ())) (by omega)]
  · by_cases e : firstE (nameE s) s.length 0 = 0
    · rw [if_pos e, decide_eq_true ⟨by omega, e⟩]
    · rw [if_neg e, decide_eq_false (fun h => e h.2)]
  · intro j i hi; unfold R_Name_l2; simp (disch := omega) only [joinF_eq, bindO_some, s_wr, s_td, s_tm, s_pos, s_neg, Int.toNat_natCast, rbset]; show (bif decide (97 ≤ chr s i) then R_Name_j3 fu _ _ j (decide (chr s i ≤ 122)) else _) = _; have t0 : lowC (chr s i) ∨ (0 < i ∧ restC (chr s i)) → nameE s i = 0 := fun h => by unfold nameE; rw [if_pos h]
    have t1 : ¬ (lowC (chr s i) ∨ (0 < i ∧ restC (chr s i))) → nameE s i = 1 := fun h => by unfold nameE; rw [if_neg h]
    unfold restC lowC at t0 t1
    have k : ∀ b, (b = true ↔ 97 ≤ chr s i ∧ chr s i ≤ 122) → R_Name_j3 fu (s, ()) i j b = if nameE s i = 0 then j ((i : Int) + 1) else some (false, ()) := by
      intro b hb; unfold R_Name_j3; cases b
      · have hb : ¬ (97 ≤ chr s i ∧ chr s i ≤ 122) := fun h => by simpa using hb.2 h
        simp (disch := omega) only [joinF_eq, bindO_some, s_wr, s_td, s_tm, s_pos, s_neg, Int.toNat_natCast, rbset]; by_cases z : i = 0
        · rw [t1 (by omega)]; simp (disch := omega) only [joinF_eq, bindO_some, s_wr, s_td, s_tm, s_pos, s_neg, cond_true, cond_false, Bool.not_true, Bool.not_false, Bool.true_and, Bool.and_true, Bool.false_and, Bool.and_false, bne_self_eq_false, decide_true, decide_false, Int.toNat_natCast, R_Name_j4]; rfl
        simp (disch := omega) only [joinF_eq, bindO_some, s_wr, s_td, s_tm, s_pos, s_neg, Int.toNat_natCast, rbset]; show (bif decide (chr s i ≠ 45) then (bif decide (chr s i < 48) then _ else R_Name_j4 fu _ j (decide (57 < chr s i))) else _) = _; by_cases g1 : chr s i = 45
        · rw [t0 (by omega)]; simp (disch := omega) only [joinF_eq, bindO_some, s_wr, s_td, s_tm, s_pos, s_neg, cond_true, cond_false, Bool.not_true, Bool.not_false, Bool.true_and, Bool.and_true, Bool.false_and, Bool.and_false, bne_self_eq_false, decide_true, decide_false, Int.toNat_natCast, R_Name_j4]; rfl
        by_cases g2 : chr s i < 48
        · rw [t1 (by omega)]; simp (disch := omega) only [joinF_eq, bindO_some, s_wr, s_td, s_tm, s_pos, s_neg, cond_true, cond_false, Bool.not_true, Bool.not_false, Bool.true_and, Bool.and_true, Bool.false_and, Bool.and_false, bne_self_eq_false, decide_true, decide_false, Int.toNat_natCast, R_Name_j4]; rfl
        by_cases g3 : 57 < chr s i
        · rw [t1 (by omega)]; simp (disch := omega) only [joinF_eq, bindO_some, s_wr, s_td, s_tm, s_pos, s_neg, cond_true, cond_false, Bool.not_true, Bool.not_false, Bool.true_and, Bool.and_true, Bool.false_and, Bool.and_false, bne_self_eq_false, decide_true, decide_false, Int.toNat_natCast, R_Name_j4]; rfl
        · rw [t0 (by omega)]; simp (disch := omega) only [joinF_eq, bindO_some, s_wr, s_td, s_tm, s_pos, s_neg, cond_true, cond_false, Bool.not_true, Bool.not_false, Bool.true_and, Bool.and_true, Bool.false_and, Bool.and_false, bne_self_eq_false, decide_true, decide_false, Int.toNat_natCast, R_Name_j4]; rfl
      · have hb := hb.1 rfl; rw [t0 (by omega)]; simp (disch := omega) only [joinF_eq, bindO_some, s_wr, s_td, s_tm, s_pos, s_neg, cond_true, cond_false, Bool.not_true, Bool.not_false, Bool.true_and, Bool.and_true, Bool.false_and, Bool.and_false, bne_self_eq_false, decide_true, decide_false, Int.toNat_natCast, R_Name_j4]; rfl
    by_cases g1 : 97 ≤ chr s i
    · simp (disch := omega) only [joinF_eq, bindO_some, s_wr, s_td, s_tm, s_pos, s_neg, Int.toNat_natCast, rbset]; refine k _ ?_; rw [decide_eq_true_eq]; omega
    · simp (disch := omega) only [joinF_eq, bindO_some, s_wr, s_td, s_tm, s_pos, s_neg, Int.toNat_natCast, rbset]; refine k _ ?_; simp; omega
  · intro j; unfold R_Name_l2; simp (disch := omega) only [joinF_eq, bindO_some, s_wr, s_td, s_tm, s_pos, s_neg, Int.toNat_natCast, rbset]
theorem isName_r {s : List UInt8} : profile_IsName_r fu (s, ()) = some (nameB s, ()) := by
  unfold profile_IsName_r profile_IsName_j1 nameB; by_cases c1 : s.length < 1
  · rw [decide_eq_false (p := _ ∧ _) (by omega)]; simp (disch := omega) only [joinF_eq, bindO_some, s_wr, s_td, s_tm, s_pos, s_neg, Int.toNat_natCast, rbset]
  by_cases c2 : 16 < s.length
  · rw [decide_eq_false (p := _ ∧ _) (by omega)]; simp (disch := omega) only [joinF_eq, bindO_some, s_wr, s_td, s_tm, s_pos, s_neg, Int.toNat_natCast, rbset]
  simp (disch := omega) only [joinF_eq, bindO_some, s_wr, s_td, s_tm, s_pos, s_neg, Int.toNat_natCast, rbset]; show (bif decide (chr s 0 < 97) then _ else (bif decide (122 < chr s 0) then _ else _)) = _
  have hz : ¬ (97 ≤ chr s 0 ∧ chr s 0 ≤ 122) → firstE (nameE s) s.length 0 ≠ 0 := by
    intro h e; have := firstE_ok _ 0 e 0 (by omega) (by omega); unfold nameE lowC at this; rw [if_neg (by omega)] at this; omega
  by_cases c3 : chr s 0 < 97
  · rw [decide_eq_false (p := _ ∧ _) (fun h => hz (by omega) h.2)]; simp (disch := omega) only [joinF_eq, bindO_some, s_wr, s_td, s_tm, s_pos, s_neg, Int.toNat_natCast, rbset]
  by_cases c4 : 122 < chr s 0
  · rw [decide_eq_false (p := _ ∧ _) (fun h => hz (by omega) h.2)]; simp (disch := omega) only [joinF_eq, bindO_some, s_wr, s_td, s_tm, s_pos, s_neg, Int.toNat_natCast, rbset]
  simp (disch := omega) only [joinF_eq, bindO_some, s_wr, s_td, s_tm, s_pos, s_neg, Int.toNat_natCast, rbset]; rw [errLoop (n := s.length) (E := nameE s) (out := fun _ => some (false, ())) (fin := some (true, ())) (by omega)]
  · by_cases e : firstE (nameE s) s.length 0 = 0
    · rw [if_pos e, decide_eq_true ⟨by omega, e⟩]
    · rw [if_neg e, decide_eq_false (fun h => e h.2)]
  · intro j i hi; unfold profile_IsName_l2; simp (disch := omega) only [joinF_eq, bindO_some, s_wr, s_td, s_tm, s_pos, s_neg, Int.toNat_natCast, rbset]; have t0 : lowC (chr s i) ∨ (0 < i ∧ restC (chr s i)) → nameE s i = 0 := fun h => by unfold nameE; rw [if_pos h]
    have t1 : ¬ (lowC (chr s i) ∨ (0 < i ∧ restC (chr s i))) → nameE s i = 1 := fun h => by unfold nameE; rw [if_neg h]
    unfold restC lowC at t0 t1; have z : i = 0 → 97 ≤ chr s i ∧ chr s i ≤ 122 := by rintro rfl; omega
    show (bif decide (chr s i < 97) then (bif decide (chr s i < 48) then profile_IsName_j3 fu _ j (decide (chr s i ≠ 45)) else (bif decide (57 < chr s i) then profile_IsName_j3 fu _ j (decide (chr s i ≠ 45)) else profile_IsName_j3 fu _ j false))
      else (bif decide (122 < chr s i) then (bif decide (chr s i < 48) then profile_IsName_j3 fu _ j (decide (chr s i ≠ 45)) else (bif decide (57 < chr s i) then profile_IsName_j3 fu _ j (decide (chr s i ≠ 45)) else profile_IsName_j3 fu _ j false)) else profile_IsName_j3 fu _ j false)) = _
    by_cases g1 : chr s i < 97
    · by_cases g2 : chr s i < 48
      · by_cases g3 : chr s i = 45
        · rw [t0 (by omega)]; simp (disch := omega) only [joinF_eq, bindO_some, s_wr, s_td, s_tm, s_pos, s_neg, cond_true, cond_false, Bool.not_true, Bool.not_false, Bool.true_and, Bool.and_true, Bool.false_and, Bool.and_false, bne_self_eq_false, decide_true, decide_false, Int.toNat_natCast, profile_IsName_j3]; rfl
        · rw [t1 (by omega)]; simp (disch := omega) only [joinF_eq, bindO_some, s_wr, s_td, s_tm, s_pos, s_neg, cond_true, cond_false, Bool.not_true, Bool.not_false, Bool.true_and, Bool.and_true, Bool.false_and, Bool.and_false, bne_self_eq_false, decide_true, decide_false, Int.toNat_natCast, profile_IsName_j3]; rfl
      · by_cases g3 : 57 < chr s i
        · rw [t1 (by omega)]; simp (disch := omega) only [joinF_eq, bindO_some, s_wr, s_td, s_tm, s_pos, s_neg, cond_true, cond_false, Bool.not_true, Bool.not_false, Bool.true_and, Bool.and_true, Bool.false_and, Bool.and_false, bne_self_eq_false, decide_true, decide_false, Int.toNat_natCast, profile_IsName_j3]; rfl
        · rw [t0 (by omega)]; simp (disch := omega) only [joinF_eq, bindO_some, s_wr, s_td, s_tm, s_pos, s_neg, cond_true, cond_false, Bool.not_true, Bool.not_false, Bool.true_and, Bool.and_true, Bool.false_and, Bool.and_false, bne_self_eq_false, decide_true, decide_false, Int.toNat_natCast, profile_IsName_j3]; rfl
    · by_cases g2 : 122 < chr s i
      · rw [t1 (by omega)]; simp (disch := omega) only [joinF_eq, bindO_some, s_wr, s_td, s_tm, s_pos, s_neg, cond_true, cond_false, Bool.not_true, Bool.not_false, Bool.true_and, Bool.and_true, Bool.false_and, Bool.and_false, bne_self_eq_false, decide_true, decide_false, Int.toNat_natCast, profile_IsName_j3]; rfl
      · rw [t0 (by omega)]; simp (disch := omega) only [joinF_eq, bindO_some, s_wr, s_td, s_tm, s_pos, s_neg, cond_true, cond_false, Bool.not_true, Bool.not_false, Bool.true_and, Bool.and_true, Bool.false_and, Bool.and_false, bne_self_eq_false, decide_true, decide_false, Int.toNat_natCast, profile_IsName_j3]; rfl
  · intro j; unfold profile_IsName_l2; simp (disch := omega) only [joinF_eq, bindO_some, s_wr, s_td, s_tm, s_pos, s_neg, Int.toNat_natCast, rbset]
end
def tnE (l : List Int) (m : Int) (i : Nat) : Int := if 0 ≤ l.getD i 0 ∧ l.getD i 0 ≤ m then 0 else 3
def tonesE (l : List Int) (n m : Int) : Int := if (l.length : Int) = n then firstE (tnE l m) l.length 0 else 4
section
variable {fu : Nat} (hf : 18446744073709551616 ≤ fu) {l : List Int} (hl : (l.length : Int) ≤ 9223372036854775807) {n : Int}
include hf hl
theorem tonesErr_r {m : Int} : R_TonesErr_r fu (l, (n, (m, ()))) = some (tonesE l n m, ()) := by
  unfold R_TonesErr_r tonesE; by_cases c : (l.length : Int) = n
  · rw [if_pos c]; simp (disch := omega) only [joinF_eq, bindO_some, s_wr, s_td, s_tm, s_pos, s_neg, Int.toNat_natCast, rbset]; rw [errLoop (n := l.length) (E := tnE l m) (out := fun e => some (e, ())) (fin := some (0, ())) (by omega)]
    · split
      · rename_i e; rw [e]
      · rfl
    · intro j i hi; unfold R_TonesErr_l1 tnE; simp (disch := omega) only [joinF_eq, bindO_some, s_wr, s_td, s_tm, s_pos, s_neg, cond_true, cond_false, Bool.not_true, Bool.not_false, Bool.true_and, Bool.and_true, Bool.false_and, Bool.and_false, bne_self_eq_false, decide_true, decide_false, Int.toNat_natCast, within_s]; by_cases g : 0 ≤ l.getD i 0 ∧ l.getD i 0 ≤ m
      · rw [if_pos g, decide_eq_true g]; simp (disch := omega) only [joinF_eq, bindO_some, s_wr, s_td, s_tm, s_pos, s_neg, Int.toNat_natCast, rbset]; rfl
      · rw [if_neg g, decide_eq_false g]; simp (disch := omega) only [joinF_eq, bindO_some, s_wr, s_td, s_tm, s_pos, s_neg, Int.toNat_natCast, rbset]; rfl
    · intro j; unfold R_TonesErr_l1; simp (disch := omega) only [joinF_eq, bindO_some, s_wr, s_td, s_tm, s_pos, s_neg, Int.toNat_natCast, rbset]
  · rw [if_neg c]; simp (disch := omega) only [joinF_eq, bindO_some, s_wr, s_td, s_tm, s_pos, s_neg, Int.toNat_natCast, rbset]
theorem tones_r : profile_Tones_r fu (l, (n, ())) = some (tonesE l n 255, ()) := by
  unfold profile_Tones_r tonesE; by_cases c : (l.length : Int) = n
  · rw [if_pos c]; simp (disch := omega) only [joinF_eq, bindO_some, s_wr, s_td, s_tm, s_pos, s_neg, Int.toNat_natCast, rbset]; rw [errLoop (n := l.length) (E := tnE l 255) (out := fun e => some (e, ())) (fin := some (0, ())) (by omega)]
    · split
      · rename_i e; rw [e]
      · rfl
    · intro j i hi; have t3 : ¬ (0 ≤ l.getD i 0 ∧ l.getD i 0 ≤ 255) → tnE l 255 i = 3 := fun h => by unfold tnE; rw [if_neg h]
      have t0 : (0 ≤ l.getD i 0 ∧ l.getD i 0 ≤ 255) → tnE l 255 i = 0 := fun h => by unfold tnE; rw [if_pos h]
      unfold profile_Tones_l1; simp (disch := omega) only [joinF_eq, bindO_some, s_wr, s_td, s_tm, s_pos, s_neg, Int.toNat_natCast, rbset]; by_cases g : l.getD i 0 < 0
      · rw [t3 (by omega)]; simp (disch := omega) only [joinF_eq, bindO_some, s_wr, s_td, s_tm, s_pos, s_neg, cond_true, cond_false, Bool.not_true, Bool.not_false, Bool.true_and, Bool.and_true, Bool.false_and, Bool.and_false, bne_self_eq_false, decide_true, decide_false, Int.toNat_natCast, profile_Tones_j2]; rfl
      by_cases g2 : 255 < l.getD i 0
      · rw [t3 (by omega)]; simp (disch := omega) only [joinF_eq, bindO_some, s_wr, s_td, s_tm, s_pos, s_neg, cond_true, cond_false, Bool.not_true, Bool.not_false, Bool.true_and, Bool.and_true, Bool.false_and, Bool.and_false, bne_self_eq_false, decide_true, decide_false, Int.toNat_natCast, profile_Tones_j2]; rfl
      · rw [t0 (by omega)]; simp (disch := omega) only [joinF_eq, bindO_some, s_wr, s_td, s_tm, s_pos, s_neg, cond_true, cond_false, Bool.not_true, Bool.not_false, Bool.true_and, Bool.and_true, Bool.false_and, Bool.and_false, bne_self_eq_false, decide_true, decide_false, Int.toNat_natCast, profile_Tones_j2]; rfl
    · intro j; unfold profile_Tones_l1; simp (disch := omega) only [joinF_eq, bindO_some, s_wr, s_td, s_tm, s_pos, s_neg, Int.toNat_natCast, rbset]
  · rw [if_neg c]; simp (disch := omega) only [joinF_eq, bindO_some, s_wr, s_td, s_tm, s_pos, s_neg, Int.toNat_natCast, rbset]
end
theorem tonesE_ok {l : List Int} {n m : Int} (h : tonesE l n m = 0) : (l.length : Int) = n ∧ ∀ i, i < l.length → 0 ≤ l.getD i 0 ∧ l.getD i 0 ≤ m := by
  unfold tonesE at h; by_cases c : (l.length : Int) = n
  · rw [if_pos c] at h; refine ⟨c, fun i hi => ?_⟩; have := firstE_ok _ 0 h i (by omega) (by omega); unfold tnE at this; split at this
    · rename_i g; exact g
    · omega
  · rw [if_neg c] at h; omega
abbrev LabT := Int × Int × Int
abbrev SpotT := List UInt8 × LabT × LabT × List (Int × Int) × List Int
def spotE (s : SpotT) : Int :=
  if nameB s.1 = true then (if labR s.2.1 = 0 ∧ labR s.2.2.1 = 0 then (if curE s.2.2.2.1 = 0 then (if 8 < s.2.2.2.2.length then 2 else tonesE s.2.2.2.2 s.2.2.2.2.length 255) else curE s.2.2.2.1) else 3) else 6
def wfS (s : SpotT) : Prop := (s.2.2.2.2.length : Int) ≤ 9223372036854775807
section
variable {fu : Nat} (hf : 18446744073709551616 ≤ fu) {s : SpotT} (hs : wfS s)
include hf hs
theorem spotOne_r : spot_one_r fu (s, ()) = some (spotE s, ()) := by
  obtain ⟨nm, p, q, cu, pr⟩ := s; unfold spot_one_r spotE; simp (disch := omega) only [joinF_eq, bindO_some, s_wr, s_td, s_tm, s_pos, s_neg, cond_true, cond_false, Bool.not_true, Bool.not_false, Bool.true_and, Bool.and_true, Bool.false_and, Bool.and_false, bne_self_eq_false, decide_true, decide_false, Int.toNat_natCast, isName_r hf, refChk_s, curCheck_r hf, tones_r hf hs]; cases hn : nameB nm
  · rfl
  simp (disch := omega) only [joinF_eq, bindO_some, s_wr, s_td, s_tm, s_pos, s_neg, Int.toNat_natCast, rbset]; rcases labR_or p with ⟨e1, _⟩ | e1
  · rcases labR_or q with ⟨e2, _⟩ | e2
    · simp (disch := omega) only [joinF_eq, bindO_some, s_wr, s_td, s_tm, s_pos, s_neg, cond_true, cond_false, Bool.not_true, Bool.not_false, Bool.true_and, Bool.and_true, Bool.false_and, Bool.and_false, bne_self_eq_false, decide_true, decide_false, Int.toNat_natCast, e1, e2]; by_cases c : curE cu = 0
      · rw [if_pos c]; simp (disch := omega) only [joinF_eq, bindO_some, s_wr, s_td, s_tm, s_pos, s_neg, Int.toNat_natCast, rbset]; by_cases g : 8 < pr.length
        · rw [if_pos g]; simp (disch := omega) only [joinF_eq, bindO_some, s_wr, s_td, s_tm, s_pos, s_neg, Int.toNat_natCast, rbset]; rfl
        · rw [if_neg g]; simp (disch := omega) only [joinF_eq, bindO_some, s_wr, s_td, s_tm, s_pos, s_neg, Int.toNat_natCast, rbset]; rfl
      · rw [if_neg c]; simp (disch := omega) only [joinF_eq, bindO_some, s_wr, s_td, s_tm, s_pos, s_neg, Int.toNat_natCast, rbset]; rfl
    · simp (disch := omega) only [joinF_eq, bindO_some, s_wr, s_td, s_tm, s_pos, s_neg, cond_true, cond_false, Bool.not_true, Bool.not_false, Bool.true_and, Bool.and_true, Bool.false_and, Bool.and_false, bne_self_eq_false, decide_true, decide_false, Int.toNat_natCast, e1, e2]; rfl
  · simp (disch := omega) only [joinF_eq, bindO_some, s_wr, s_td, s_tm, s_pos, s_neg, cond_true, cond_false, Bool.not_true, Bool.not_false, Bool.true_and, Bool.and_true, Bool.false_and, Bool.and_false, bne_self_eq_false, decide_true, decide_false, Int.toNat_natCast, e1]; rfl
theorem spotErr_r : R_SpotErr_r fu (s, ()) = some (spotE s, ()) := by
  obtain ⟨nm, p, q, cu, pr⟩ := s; unfold R_SpotErr_r R_SpotErr_j1 spotE; simp (disch := omega) only [joinF_eq, bindO_some, s_wr, s_td, s_tm, s_pos, s_neg, cond_true, cond_false, Bool.not_true, Bool.not_false, Bool.true_and, Bool.and_true, Bool.false_and, Bool.and_false, bne_self_eq_false, decide_true, decide_false, Int.toNat_natCast, name_r hf, labErr_s, curErr_r hf, tonesErr_r hf hs]; cases hn : nameB nm
  · rfl
  simp (disch := omega) only [joinF_eq, bindO_some, s_wr, s_td, s_tm, s_pos, s_neg, Int.toNat_natCast, rbset]; rcases labR_or p with ⟨e1, _⟩ | e1
  · rcases labR_or q with ⟨e2, _⟩ | e2
    · simp (disch := omega) only [joinF_eq, bindO_some, s_wr, s_td, s_tm, s_pos, s_neg, cond_true, cond_false, Bool.not_true, Bool.not_false, Bool.true_and, Bool.and_true, Bool.false_and, Bool.and_false, bne_self_eq_false, decide_true, decide_false, Int.toNat_natCast, e1, e2]; by_cases c : curE cu = 0
      · rw [if_pos c]; simp (disch := omega) only [joinF_eq, bindO_some, s_wr, s_td, s_tm, s_pos, s_neg, Int.toNat_natCast, rbset]; by_cases g : 8 < pr.length
        · rw [if_pos g]; simp (disch := omega) only [joinF_eq, bindO_some, s_wr, s_td, s_tm, s_pos, s_neg, Int.toNat_natCast, rbset]; rfl
        · rw [if_neg g]; simp (disch := omega) only [joinF_eq, bindO_some, s_wr, s_td, s_tm, s_pos, s_neg, Int.toNat_natCast, rbset]; rfl
      · rw [if_neg c]; simp (disch := omega) only [joinF_eq, bindO_some, s_wr, s_td, s_tm, s_pos, s_neg, Int.toNat_natCast, rbset]; rfl
    · simp (disch := omega) only [joinF_eq, bindO_some, s_wr, s_td, s_tm, s_pos, s_neg, cond_true, cond_false, Bool.not_true, Bool.not_false, Bool.true_and, Bool.and_true, Bool.false_and, Bool.and_false, bne_self_eq_false, decide_true, decide_false, Int.toNat_natCast, e1, e2]; rfl
  · simp (disch := omega) only [joinF_eq, bindO_some, s_wr, s_td, s_tm, s_pos, s_neg, cond_true, cond_false, Bool.not_true, Bool.not_false, Bool.true_and, Bool.and_true, Bool.false_and, Bool.and_false, bne_self_eq_false, decide_true, decide_false, Int.toNat_natCast, e1]; rfl
end
structure SpotOk (s : SpotT) : Prop where
  p : labR s.2.1 = 0
  q : labR s.2.2.1 = 0
  c : CurveOk s.2.2.2.1
  n : s.2.2.2.2.length ≤ 8
  t : ∀ i, i < s.2.2.2.2.length → 0 ≤ s.2.2.2.2.getD i 0 ∧ s.2.2.2.2.getD i 0 ≤ 255
theorem spotE_ok {s : SpotT} (h : spotE s = 0) : SpotOk s := by
  unfold spotE at h; split at h
  · split at h
    · rename_i c1 c2; split at h
      · rename_i c3; split at h
        · omega
        · rename_i c4; exact ⟨c2.1, c2.2, curE_ok c3, by omega, (tonesE_ok h).2⟩
      · rename_i c3; exact absurd h c3
    · omega
  · omega
def quick (s : SpotT) (t : Int) : List Int := tabL s.2.2.2.2.length fun i => rnd (s.2.2.2.2.getD i.toNat 0 * curveAt s.2.2.2.1 (256 * t)) 65280
theorem quick_bd {s : SpotT} {t : Int} (ok : SpotOk s) (h0 : 0 ≤ t) (h1 : t ≤ 255) {i : Nat} (hi : i < s.2.2.2.2.length) : (0 ≤ s.2.2.2.2.getD i 0 * curveAt s.2.2.2.1 (256 * t) ∧ s.2.2.2.2.getD i 0 * curveAt s.2.2.2.1 (256 * t) ≤ 16646400) ∧ 0 ≤ rnd (s.2.2.2.2.getD i 0 * curveAt s.2.2.2.1 (256 * t)) 65280 ∧ rnd (s.2.2.2.2.getD i 0 * curveAt s.2.2.2.1 (256 * t)) 65280 ≤ 255 := by
  have b := curveAt_bd ok.c (x := 256 * t) (by omega) (by omega); have g := ok.t i hi; have m1 : 0 ≤ s.2.2.2.2.getD i 0 * curveAt s.2.2.2.1 (256 * t) := Int.mul_nonneg (by omega) (by omega); have m2 : s.2.2.2.2.getD i 0 * curveAt s.2.2.2.1 (256 * t) ≤ 255 * 65280 := Int.mul_le_mul (by omega) (by omega) (by omega) (by omega); unfold rnd; generalize s.2.2.2.2.getD i 0 * curveAt s.2.2.2.1 (256 * t) = z at *
  omega
section
variable {fu : Nat} (hf : 18446744073709551616 ≤ fu) {s : SpotT} (ok : SpotOk s) {t : Int} (h0 : 0 ≤ t) (h1 : t ≤ 255)
include hf ok h0 h1
theorem quick_r : spot_Quick_r fu (s, (t, ())) = some (quick s t, ()) := by
  have hq := fun i hi => quick_bd ok h0 h1 (i := i) hi
  have hn := ok.n; have hc := curRaw_r hf ok.c (x := 256 * t) (by omega) (by omega); unfold spot_Quick_r; simp (disch := omega) only [joinF_eq, bindO_some, s_wr, s_td, s_tm, s_pos, s_neg, Int.toNat_natCast, rbset]
  refine (foldLoop (f := spot_Quick_l1 fu (s, (t, ()))) (n := s.2.2.2.2.length) (fu := fu) (by omega) (fun k r => r = tabL s.2.2.2.2.length fun i => if i < k then rnd (s.2.2.2.2.getD i.toNat 0 * curveAt s.2.2.2.1 (256 * t)) 65280 else 0) (fin := fun r => some (r, ()))
    (s0 := List.replicate s.2.2.2.2.length 0) (tabL_rep fun i g0 g1 => if_neg (by omega)).symm ?_ ?_).elim fun s' ⟨g1, g2⟩ => ?_
  · rintro j i r hi rfl
    refine ⟨_, rfl, ?_⟩; obtain ⟨b1, b2⟩ := hq i hi; unfold spot_Quick_l1; simp (disch := omega) only [joinF_eq, bindO_some, s_wr, s_td, s_tm, s_pos, s_neg, cond_true, cond_false, Bool.not_true, Bool.not_false, Bool.true_and, Bool.and_true, Bool.false_and, Bool.and_false, bne_self_eq_false, decide_true, decide_false, Int.toNat_natCast, hc, tabL_length, nearest_s]; refine congrArg (fun r => j ((i : Int) + 1, r)) (tabL_set (k := (i : Int)) (by omega) (if_pos (by omega)) fun k g0 g1 g2 => ?_); by_cases c : k < i
    · rw [if_pos (by omega), if_pos (by omega)]
    · rw [if_neg (by omega), if_neg (by omega)]
  · rintro j r rfl
    unfold spot_Quick_l1; simp (disch := omega) only [joinF_eq, bindO_some, s_wr, s_td, s_tm, s_pos, s_neg, Int.toNat_natCast, rbset]
  · rw [g2, g1]; unfold quick; rw [tabL_congr fun i g0 g1 => if_pos (by omega)]
theorem process_r : R_SpotProcess_r fu (s, (t, ())) = some (quick s t, ()) := by
  have hq := fun i hi => quick_bd ok h0 h1 (i := i) hi
  have hn := ok.n; have hc := curAt_r hf ok.c (x := 256 * t) (by omega) (by omega); unfold R_SpotProcess_r
  refine (foldLoop (f := R_SpotProcess_l1 fu (s, (t, ()))) (n := s.2.2.2.2.length) (fu := fu) (by omega) (fun k r => r = tabL k fun i => rnd (s.2.2.2.2.getD i.toNat 0 * curveAt s.2.2.2.1 (256 * t)) 65280) (fin := fun r => some (r, ()))
    (s0 := []) rfl ?_ ?_).elim fun s' ⟨g1, g2⟩ => ?_
  · rintro j i r hi rfl
    refine ⟨_, rfl, ?_⟩; obtain ⟨b1, b2⟩ := hq i hi; unfold R_SpotProcess_l1; simp (disch := omega) only [joinF_eq, bindO_some, s_wr, s_td, s_tm, s_pos, s_neg, cond_true, cond_false, Bool.not_true, Bool.not_false, Bool.true_and, Bool.and_true, Bool.false_and, Bool.and_false, bne_self_eq_false, decide_true, decide_false, Int.toNat_natCast, hc, tabL_length, round_s, List.length_cons, List.length_nil]; rw [tabL_succ]; rfl
  · rintro j r rfl
    unfold R_SpotProcess_l1; simp (disch := omega) only [joinF_eq, bindO_some, s_wr, s_td, s_tm, s_pos, s_neg, Int.toNat_natCast, rbset]
  · rw [g2, g1]; rfl
end
def spAt (l : List SpotT) (i : Nat) : SpotT := l.getD i ([], ((0, (0, 0)), ((0, (0, 0)), ([], []))))
theorem spAt_mem {l : List SpotT} {i : Nat} (h : i < l.length) : spAt l i ∈ l := by
  unfold spAt; rw [List.getD_eq_getElem?_getD, List.getElem?_eq_getElem h]; exact List.getElem_mem h
def AllS (l : List SpotT) : Prop := (l.length : Int) ≤ 9223372036854775807 ∧ ∀ s ∈ l, wfS s
theorem AllS.at {l : List SpotT} (h : AllS l) {i : Nat} (hi : i < l.length) : wfS (spAt l i) := h.2 _ (spAt_mem hi)
def twin (l : List SpotT) (i : Nat) : Prop := ∃ k, k < i ∧ (spAt l k).1 = (spAt l i).1
open Classical in
noncomputable def liE (l : List SpotT) (i : Nat) : Int := if spotE (spAt l i) = 0 then (if twin l i then 7 else 0) else spotE (spAt l i)
noncomputable def libE (l : List SpotT) : Int := if 40 < l.length then 2 else firstE (liE l) l.length 0
theorem libE_ok {l : List SpotT} (h : libE l = 0) : l.length ≤ 40 ∧ ∀ i, i < l.length → SpotOk (spAt l i) ∧ ∀ k, k < i → (spAt l k).1 ≠ (spAt l i).1 := by
  unfold libE at h; by_cases c : 40 < l.length
  · rw [if_pos c] at h; omega
  rw [if_neg c] at h; refine ⟨by omega, fun i hi => ?_⟩; have e := firstE_ok _ 0 h i (by omega) (by omega); unfold liE at e; split at e
  · rename_i c1; split at e
    · omega
    · rename_i c2; exact ⟨spotE_ok c1, fun k hk q => c2 ⟨k, hk, q⟩⟩
  · rename_i c1; exact absurd e c1
section
variable {fu : Nat} (hf : 18446744073709551616 ≤ fu)
include hf
theorem spotAt_r {l : List SpotT} (hl : (l.length : Int) ≤ 9223372036854775807) (nm : List UInt8) :
    (∃ k, k < l.length ∧ (spAt l k).1 = nm ∧ (∀ i, k < i → i < l.length → (spAt l i).1 ≠ nm) ∧ R_SpotAt_r fu (l, (nm, ())) = some ((k : Int), ())) ∨ ((∀ i, i < l.length → (spAt l i).1 ≠ nm) ∧ R_SpotAt_r fu (l, (nm, ())) = some (-1, ())) := by
  unfold R_SpotAt_r; simp (disch := omega) only [joinF_eq, bindO_some, s_wr, s_td, s_tm, s_pos, s_neg, Int.toNat_natCast, rbset]; refine downLoop (f := R_SpotAt_l1 fu (l, (nm, ()))) (n := l.length) (fu := fu) (by omega) (p := fun i => (spAt l i).1 = nm) (hit := fun k => some ((k : Int), ())) (miss := some (-1, ())) ?_ ?_ ?_
  · intro j i hi hp; unfold R_SpotAt_l1; simp (disch := omega) only [joinF_eq, bindO_some, s_wr, s_td, s_tm, s_pos, s_neg, Int.toNat_natCast, rbset]; show (bif decide ((spAt l i).1 = nm) then _ else _) = _; simp (disch := omega) only [joinF_eq, bindO_some, s_wr, s_td, s_tm, s_pos, s_neg, Int.toNat_natCast, rbset]
  · intro j i hi hp; unfold R_SpotAt_l1; simp (disch := omega) only [joinF_eq, bindO_some, s_wr, s_td, s_tm, s_pos, s_neg, Int.toNat_natCast, rbset]; show (bif decide ((spAt l i).1 = nm) then _ else _) = _; simp (disch := omega) only [joinF_eq, bindO_some, s_wr, s_td, s_tm, s_pos, s_neg, Int.toNat_natCast, rbset]
  · intro j; unfold R_SpotAt_l1; simp (disch := omega) only [joinF_eq, bindO_some, s_wr, s_td, s_tm, s_pos, s_neg, Int.toNat_natCast, rbset]
variable {l : List SpotT} (hl : AllS l)
include hl
theorem libCheck_r : spot_Check_r fu (l, ()) = some (libE l, ()) := by
  have hl1 := hl.1; unfold spot_Check_r libE; by_cases c : 40 < l.length
  · rw [if_pos c]; simp (disch := omega) only [joinF_eq, bindO_some, s_wr, s_td, s_tm, s_pos, s_neg, Int.toNat_natCast, rbset]
  rw [if_neg c]; simp (disch := omega) only [joinF_eq, bindO_some, s_wr, s_td, s_tm, s_pos, s_neg, Int.toNat_natCast, rbset]; rw [errLoop (n := l.length) (E := liE l) (out := fun e => some (e, ())) (fin := some (0, ())) (by omega)]
  · split
    · rename_i e; rw [e]
    · rfl
  · intro j i hi; have hw := hl.at hi; have t7 : spotE (spAt l i) = 0 → twin l i → liE l i = 7 := fun h h' => by unfold liE; rw [if_pos h, if_pos h']
    have t0 : spotE (spAt l i) = 0 → ¬ twin l i → liE l i = 0 := fun h h' => by unfold liE; rw [if_pos h, if_neg h']
    have tE : spotE (spAt l i) ≠ 0 → liE l i = spotE (spAt l i) := fun h => by unfold liE; rw [if_neg h]
    unfold spot_Check_l1; simp (disch := omega) only [joinF_eq, bindO_some, s_wr, s_td, s_tm, s_pos, s_neg, Int.toNat_natCast, rbset]; show bindO (spot_one_r fu (spAt l i, ())) _ = _; rw [spotOne_r hf hw]; simp (disch := omega) only [joinF_eq, bindO_some, s_wr, s_td, s_tm, s_pos, s_neg, Int.toNat_natCast, rbset]; by_cases e0 : spotE (spAt l i) = 0
    · simp (disch := omega) only [joinF_eq, bindO_some, s_wr, s_td, s_tm, s_pos, s_neg, Int.toNat_natCast, rbset]
      rcases findLoop (f := spot_Check_l2 fu (l, ()) i j) (n := i) (fu := fu) (by omega) (p := fun k => (spAt l k).1 = (spAt l i).1) (hit := fun _ => some (7, ())) (miss := j ((i : Int) + 1))
        (fun j' k hk hp => by
          unfold spot_Check_l2; simp (disch := omega) only [joinF_eq, bindO_some, s_wr, s_td, s_tm, s_pos, s_neg, Int.toNat_natCast, rbset]; show (bif decide ((spAt l k).1 = (spAt l i).1) then _ else _) = _
          simp (disch := omega) only [joinF_eq, bindO_some, s_wr, s_td, s_tm, s_pos, s_neg, Int.toNat_natCast, rbset])
        (fun j' k hk hp => by
          unfold spot_Check_l2; simp (disch := omega) only [joinF_eq, bindO_some, s_wr, s_td, s_tm, s_pos, s_neg, Int.toNat_natCast, rbset]; show (bif decide ((spAt l k).1 = (spAt l i).1) then _ else _) = _
          simp (disch := omega) only [joinF_eq, bindO_some, s_wr, s_td, s_tm, s_pos, s_neg, Int.toNat_natCast, rbset])
        (fun j' => by
          unfold spot_Check_l2
          simp (disch := omega) only [joinF_eq, bindO_some, s_wr, s_td, s_tm, s_pos, s_neg, Int.toNat_natCast, rbset]) with ⟨k, hk, hp, _, h⟩ | ⟨hp, h⟩
      · rw [h, t7 e0 ⟨k, hk, hp⟩]; rfl
      · rw [h, t0 e0 (fun ⟨k, hk, q⟩ => hp k hk q)]; rfl
    · rw [tE e0, if_neg e0]; simp (disch := omega) only [joinF_eq, bindO_some, s_wr, s_td, s_tm, s_pos, s_neg, Int.toNat_natCast, rbset]
  · intro j; unfold spot_Check_l1; simp (disch := omega) only [joinF_eq, bindO_some, s_wr, s_td, s_tm, s_pos, s_neg, Int.toNat_natCast, rbset]
theorem libErr_r : R_SpotsErr_r fu (l, ()) = some (libE l, ()) := by
  have hl1 := hl.1; unfold R_SpotsErr_r libE; by_cases c : 40 < l.length
  · rw [if_pos c]; simp (disch := omega) only [joinF_eq, bindO_some, s_wr, s_td, s_tm, s_pos, s_neg, Int.toNat_natCast, rbset]
  rw [if_neg c]; simp (disch := omega) only [joinF_eq, bindO_some, s_wr, s_td, s_tm, s_pos, s_neg, Int.toNat_natCast, rbset]; rw [errLoop (n := l.length) (E := liE l) (out := fun e => some (e, ())) (fin := some (0, ())) (by omega)]
  · split
    · rename_i e; rw [e]
    · rfl
  · intro j i hi; have hw := hl.at hi; have t7 : spotE (spAt l i) = 0 → twin l i → liE l i = 7 := fun h h' => by unfold liE; rw [if_pos h, if_pos h']
    have t0 : spotE (spAt l i) = 0 → ¬ twin l i → liE l i = 0 := fun h h' => by unfold liE; rw [if_pos h, if_neg h']
    have tE : spotE (spAt l i) ≠ 0 → liE l i = spotE (spAt l i) := fun h => by unfold liE; rw [if_neg h]
    unfold R_SpotsErr_l1; simp (disch := omega) only [joinF_eq, bindO_some, s_wr, s_td, s_tm, s_pos, s_neg, Int.toNat_natCast, rbset]; show bindO (R_SpotErr_r fu (spAt l i, ())) _ = _; rw [spotErr_r hf hw]; simp (disch := omega) only [joinF_eq, bindO_some, s_wr, s_td, s_tm, s_pos, s_neg, Int.toNat_natCast, rbset]; by_cases e0 : spotE (spAt l i) = 0
    · simp (disch := omega) only [joinF_eq, bindO_some, s_wr, s_td, s_tm, s_pos, s_neg, Int.toNat_natCast, rbset]; show bindO (R_SpotAt_r fu (List.take i l, ((spAt l i).1, ()))) _ = _; have ht : (List.take i l).length = i := by rw [List.length_take]; omega
      have hta : ∀ k, k < i → spAt (List.take i l) k = spAt l k := fun k hk => by
        unfold spAt; rw [List.getD_eq_getElem?_getD, List.getD_eq_getElem?_getD, List.getElem?_take_of_lt hk]
      rcases spotAt_r hf (l := List.take i l) (by rw [ht]; omega) (spAt l i).1 with ⟨k, hk, hp, _, h⟩ | ⟨hp, h⟩
      · rw [ht] at hk; rw [hta k hk] at hp; rw [h, t7 e0 ⟨k, hk, hp⟩]; simp (disch := omega) only [joinF_eq, bindO_some, s_wr, s_td, s_tm, s_pos, s_neg, Int.toNat_natCast, rbset]; rfl
      · rw [h, t0 e0 (fun ⟨k, hk, q⟩ => hp k (by rw [ht]; exact hk) (by rw [hta k hk]; exact q))]; simp (disch := omega) only [joinF_eq, bindO_some, s_wr, s_td, s_tm, s_pos, s_neg, Int.toNat_natCast, rbset]; rfl
    · rw [tE e0, if_neg e0]; simp (disch := omega) only [joinF_eq, bindO_some, s_wr, s_td, s_tm, s_pos, s_neg, Int.toNat_natCast, rbset]
  · intro j; unfold R_SpotsErr_l1; simp (disch := omega) only [joinF_eq, bindO_some, s_wr, s_td, s_tm, s_pos, s_neg, Int.toNat_natCast, rbset]
end
section
variable {fu : Nat} (hf : 18446744073709551616 ≤ fu)
include hf
end
end Sp
end Go.Proofs.Ytjhdjjoacedlpaa
/- Device links (DlP without its law). -/
namespace Go.Proofs.Ytjhdjjoacedlpaa
open Go Go.RowKit
set_option linter.unusedSimpArgs false
set_option linter.unusedSectionVars false
set_option linter.unusedVariables false
theorem wf_len {n : Nat} (h : n ≤ maxLen) : (n : Int) ≤ 9223372036854775807 := by unfold maxLen at h; omega
def fineL (l : List Int) : List Int := tabL l.length fun q => 256 * l.getD q.toNat 0
section
variable {n o s : Nat} {vs l : List Int} {t : Int} (h : InOk n o s vs (fineL l) t) {fu : Nat} (hf : 18446744073709551616 ≤ fu) (hb : ∀ k, k < l.length → 0 ≤ l.getD k 0 ∧ l.getD k 0 ≤ 255)
include h
include hf hb
end
def lkE (g : GrT) : Int := if grE g = 0 then tonesE g.2.2.2 g.2.2.2.length 65280 else grE g
section
variable {fu : Nat} (hf : 18446744073709551616 ≤ fu) {i o s : Int} {vs l : List Int} (hv : (vs.length : Int) ≤ 9223372036854775807) (hl : (l.length : Int) ≤ 9223372036854775807)
include hf
include hv
theorem dcheck_r : devicelink_Check_r fu ((i, (o, (s, vs))), ()) = some (lkE (i, (o, (s, vs))), ()) := by
  unfold devicelink_Check_r lkE; simp only; rw [check_r hf hv]; simp only [bindO_some]; by_cases c : grE (i, (o, (s, vs))) = 0
  · rw [bif_neg (fun g => g c), if_pos c]; unfold tonesE; rw [if_pos rfl, errLoop (n := vs.length) (E := tnE vs 65280) (out := fun e => some (e, ())) (fin := some (0, ())) (by omega)]
    · split
      · rename_i e; rw [e]
      · rfl
    · intro j k hk; unfold devicelink_Check_l1 devicelink_Check_j2 tnE; simp only [joinF_eq, Int.toNat_natCast]; rw [bif_pos (by omega), bif_and (by omega) (by omega)]; by_cases g1 : vs.getD k 0 < 0
      · have e : (if 0 ≤ vs.getD k 0 ∧ vs.getD k 0 ≤ 65280 then (0 : Int) else 3) = 3 := if_neg (by omega); rw [bif_pos g1, e]; rfl
      · rw [bif_neg g1]; by_cases g2 : 65280 < vs.getD k 0
        · have e : (if 0 ≤ vs.getD k 0 ∧ vs.getD k 0 ≤ 65280 then (0 : Int) else 3) = 3 := if_neg (by omega); rw [s_pos g2, e]; rfl
        · have e : (if 0 ≤ vs.getD k 0 ∧ vs.getD k 0 ≤ 65280 then (0 : Int) else 3) = 0 := if_pos (by omega); rw [s_neg g2, e, if_pos rfl]; simp only [cond_false]; rw [s_wr (by omega) (by omega)]
    · intro j; unfold devicelink_Check_l1; rw [bif_neg (by simp only; omega)]
  · rw [bif_pos c, if_neg c]
theorem linkErr_r : R_LinkErr_r fu ((i, (o, (s, vs))), ()) = some (lkE (i, (o, (s, vs))), ()) := by
  unfold R_LinkErr_r lkE; simp only; rw [gridErr_r hf hv]; simp only [bindO_some]; by_cases c : grE (i, (o, (s, vs))) = 0
  · rw [bif_neg (fun g => g c), if_pos c, tonesErr_r hf hv]; rfl
  · rw [bif_pos c, if_neg c]
end
end Go.Proofs.Ytjhdjjoacedlpaa
/- Conditions: Check and ConditionErr. -/
namespace Go.Proofs.Ytjhdjjoacedlpaa
open Go Go.RowKit
set_option linter.unusedSimpArgs false
set_option linter.unusedSectionVars false
set_option linter.unusedVariables false
namespace Co
abbrev CondT := List (List UInt8) × (List Int × (List Int × (GrT × (GrT × (List Sp.SpotT × Int)))))
def orE (a b : Int) : Int := if a = 0 then b else a
theorem or_r (a b : Int) : (bif decide (a ≠ 0) then some (a, ()) else some (b, ())) = some (orE a b, ()) := by
  unfold orE; by_cases h : a = 0
  · rw [if_pos h, bif_neg (fun g => g h)]
  · rw [if_neg h, bif_pos h]
theorem orE_zero (a : Int) : orE a 0 = a := by unfold orE; split <;> omega
theorem orE_eq {a b : Int} (h : orE a b = 0) : a = 0 ∧ b = 0 := by
  unfold orE at h; split at h
  · exact ⟨by omega, h⟩
  · omega
theorem errLoopO {f : (Int → Option (Int × Unit)) → Int → Option (Int × Unit)} {n fu : Nat} (hn : n < fu) {E : Nat → Int} {F : Int}
    (step : ∀ j (i : Nat), i < n → f j i = if E i = 0 then j ((i : Int) + 1) else some (E i, ())) (last : ∀ j, f j n = some (F, ())) :
    loopF f fu 0 = some (orE (firstE E n 0) F, ()) := by
  rw [errLoop hn (out := fun e => some (e, ())) step last]; unfold orE; by_cases h : firstE E n 0 = 0
  · rw [if_pos h, if_pos h]
  · rw [if_neg h, if_neg h]
def nmTwin (l : List (List UInt8)) (i : Nat) : Prop := ∃ k, k < i ∧ l.getD k [] = l.getD i []
open Classical in
noncomputable def nmE (l : List (List UInt8)) (i : Nat) : Int := if Sp.nameB (l.getD i []) = true then (if nmTwin l i then 7 else 0) else 6
def dsTwin (l : List Int) (i : Nat) : Prop := ∃ k, k < i ∧ l.getD k 0 = l.getD i 0
open Classical in
noncomputable def dsE (n : Int) (l : List Int) (i : Nat) : Int := if 0 ≤ l.getD i 0 ∧ l.getD i 0 < n then (if dsTwin l i then 7 else 0) else 3
theorem take_at {α : Type} {l : List α} {d : α} {i k : Nat} (hk : k < i) : (List.drop (Int.toNat (0 : Int)) (List.take i l)).getD k d = l.getD k d := by
  rw [show (Int.toNat (0 : Int)) = 0 from rfl, List.drop_zero, List.getD_eq_getElem?_getD, List.getD_eq_getElem?_getD, List.getElem?_take_of_lt hk]
theorem take_ln {α : Type} {l : List α} {i : Nat} (hi : i < l.length) : (List.drop (Int.toNat (0 : Int)) (List.take i l)).length = i := by
  rw [show (Int.toNat (0 : Int)) = 0 from rfl, List.drop_zero, List.length_take]; omega
section
variable {fu : Nat} (hf : 18446744073709551616 ≤ fu)
include hf
theorem names_r {l : List (List UInt8)} (hl : (l.length : Int) ≤ 9223372036854775807) : profile_Names_r fu (l, ()) = some (orE (firstE (nmE l) l.length 0) 0, ()) := by
  unfold profile_Names_r; refine errLoopO (by omega) (fun j i hi => ?_) (fun j => ?_)
  · unfold profile_Names_l1; simp only [Int.toNat_natCast]; rw [bif_pos (by omega), bif_and (by omega) (by omega), Sp.isName_r hf]; simp only [bindO_some]; by_cases c : Sp.nameB (l.getD i []) = true
    · rw [c, Bool.not_true, cond_false, bif_and (by omega) (by omega)]
      rcases findLoop (f := profile_Names_l2 fu (l, ()) i (l.getD i []) j) (n := i) (fu := fu) (by omega) (p := fun k => l.getD k [] = l.getD i []) (hit := fun _ => some (7, ())) (miss := j ((i : Int) + 1))
        (fun j' k hk hp => by
          unfold profile_Names_l2; simp only [Int.toNat_natCast, take_at hk, take_ln hi]
          rw [bif_pos (by omega), bif_and (by omega) (by omega), bif_pos hp.symm])
        (fun j' k hk hp => by
          unfold profile_Names_l2; simp only [Int.toNat_natCast, take_at hk, take_ln hi]
          rw [bif_pos (by omega), bif_and (by omega) (by omega), bif_neg (fun g => hp g.symm), s_wr (by omega) (by omega)])
        (fun j' => by
          unfold profile_Names_l2; simp only [Int.toNat_natCast, take_ln hi]
          rw [bif_neg (by omega), s_wr (by omega) (by omega)]) with ⟨k, hk, hp, _, h⟩ | ⟨hp, h⟩
      · have e : nmE l i = 7 := by unfold nmE; rw [if_pos c, if_pos ⟨k, hk, hp⟩]
        rw [h, e]; rfl
      · have e : nmE l i = 0 := by unfold nmE; rw [if_pos c, if_neg (fun ⟨k, hk, q⟩ => hp k hk q)]
        rw [h, e]; rfl
    · have e : nmE l i = 6 := by unfold nmE; rw [if_neg c]
      rw [Bool.eq_false_iff.2 c, Bool.not_false, cond_true, e]; rfl
  · unfold profile_Names_l1; rw [bif_neg (by simp only; omega)]
theorem namesErr_r {l : List (List UInt8)} (hl : (l.length : Int) ≤ 9223372036854775807) : R_NamesErr_r fu (l, ()) = some (orE (firstE (nmE l) l.length 0) 0, ()) := by
  unfold R_NamesErr_r; refine errLoopO (by omega) (fun j i hi => ?_) (fun j => ?_)
  · unfold R_NamesErr_l1; simp only [Int.toNat_natCast]; rw [bif_pos (by omega), bif_and (by omega) (by omega), Sp.name_r hf]; simp only [bindO_some]; by_cases c : Sp.nameB (l.getD i []) = true
    · rw [c, Bool.not_true, cond_false]
      rcases findLoop (f := R_NamesErr_l2 fu (l, ()) i (l.getD i []) j) (n := i) (fu := fu) (by omega) (p := fun k => l.getD k [] = l.getD i []) (hit := fun _ => some (7, ())) (miss := j ((i : Int) + 1))
        (fun j' k hk hp => by
          unfold R_NamesErr_l2; simp only [Int.toNat_natCast]
          rw [bif_pos (by omega), bif_and (by omega) (by omega), bif_pos hp])
        (fun j' k hk hp => by
          unfold R_NamesErr_l2; simp only [Int.toNat_natCast]
          rw [bif_pos (by omega), bif_and (by omega) (by omega), bif_neg hp, s_wr (by omega) (by omega)])
        (fun j' => by
          unfold R_NamesErr_l2; simp only [Int.toNat_natCast]
          rw [bif_neg (by omega), s_wr (by omega) (by omega)]) with ⟨k, hk, hp, _, h⟩ | ⟨hp, h⟩
      · have e : nmE l i = 7 := by unfold nmE; rw [if_pos c, if_pos ⟨k, hk, hp⟩]
        rw [h, e]; rfl
      · have e : nmE l i = 0 := by unfold nmE; rw [if_pos c, if_neg (fun ⟨k, hk, q⟩ => hp k hk q)]
        rw [h, e]; rfl
    · have e : nmE l i = 6 := by unfold nmE; rw [if_neg c]
      rw [Bool.eq_false_iff.2 c, Bool.not_false, cond_true, e]; rfl
  · unfold R_NamesErr_l1; rw [bif_neg (by simp only; omega)]
theorem distinct_r {l : List Int} (hl : (l.length : Int) ≤ 9223372036854775807) (n : Int) : condition_distinct_r fu (l, (n, ())) = some (orE (firstE (dsE n l) l.length 0) 0, ()) := by
  unfold condition_distinct_r; refine errLoopO (by omega) (fun j i hi => ?_) (fun j => ?_)
  · unfold condition_distinct_l1 condition_distinct_j2; simp only [Int.toNat_natCast, joinF_eq]; rw [bif_pos (by omega), bif_and (by omega) (by omega)]; by_cases c1 : l.getD i 0 < 0
    · have e : dsE n l i = 3 := by unfold dsE; rw [if_neg (by omega)]
      rw [bif_pos c1, e]; rfl
    rw [bif_neg c1]; by_cases c2 : n ≤ l.getD i 0
    · have e : dsE n l i = 3 := by unfold dsE; rw [if_neg (by omega)]
      rw [s_pos c2, e]; rfl
    rw [s_neg c2, cond_false, bif_and (by omega) (by omega)]
    rcases findLoop (f := condition_distinct_l3 fu (l, (n, ())) i (l.getD i 0) j) (n := i) (fu := fu) (by omega) (p := fun k => l.getD k 0 = l.getD i 0) (hit := fun _ => some (7, ())) (miss := j ((i : Int) + 1))
      (fun j' k hk hp => by
        unfold condition_distinct_l3; simp only [Int.toNat_natCast, take_at hk, take_ln hi]
        rw [bif_pos (by omega), bif_and (by omega) (by omega), bif_pos hp])
      (fun j' k hk hp => by
        unfold condition_distinct_l3; simp only [Int.toNat_natCast, take_at hk, take_ln hi]
        rw [bif_pos (by omega), bif_and (by omega) (by omega), bif_neg hp, s_wr (by omega) (by omega)])
      (fun j' => by
        unfold condition_distinct_l3; simp only [Int.toNat_natCast, take_ln hi]
        rw [bif_neg (by omega), s_wr (by omega) (by omega)]) with ⟨k, hk, hp, _, h⟩ | ⟨hp, h⟩
    · have e : dsE n l i = 7 := by unfold dsE; rw [if_pos (by omega), if_pos ⟨k, hk, hp⟩]
      rw [h, e]; rfl
    · have e : dsE n l i = 0 := by unfold dsE; rw [if_pos (by omega), if_neg (fun ⟨k, hk, q⟩ => hp k hk q)]
      rw [h, e]; rfl
  · unfold condition_distinct_l1; rw [bif_neg (by simp only; omega)]
theorem rdistinct_r {l : List Int} (hl : (l.length : Int) ≤ 9223372036854775807) {n : Int} (h0 : 0 ≤ n) (h1 : n ≤ 9223372036854775807) (v4 : Int) (J : Int → Option (Int × Unit)) :
    loopF (R_ConditionErr_l3 fu n v4 l J) fu 0 = if firstE (dsE n l) l.length 0 = 0 then J (IntKind.i64.wrap (v4 + 1)) else some (firstE (dsE n l) l.length 0, ()) := by
  refine errLoop (out := fun e => some (e, ())) (by omega) (fun j i hi => ?_) (fun j => ?_)
  · unfold R_ConditionErr_l3; simp only [Int.toNat_natCast]; rw [bif_pos (by omega), bif_and (by omega) (by omega), within_s, s_wr (x := n - 1) (by omega) (by omega)]; simp only [bindO_some]; by_cases c : 0 ≤ l.getD i 0 ∧ l.getD i 0 ≤ n - 1
    · rw [s_pos c, Bool.not_true, cond_false]
      rcases findLoop (f := R_ConditionErr_l4 fu l i (l.getD i 0) j) (n := i) (fu := fu) (by omega) (p := fun k => l.getD k 0 = l.getD i 0) (hit := fun _ => some (7, ())) (miss := j ((i : Int) + 1))
        (fun j' k hk hp => by
          unfold R_ConditionErr_l4; simp only [Int.toNat_natCast]
          rw [bif_pos (by omega), bif_and (by omega) (by omega), bif_pos hp])
        (fun j' k hk hp => by
          unfold R_ConditionErr_l4; simp only [Int.toNat_natCast]
          rw [bif_pos (by omega), bif_and (by omega) (by omega), bif_neg hp, s_wr (by omega) (by omega)])
        (fun j' => by
          unfold R_ConditionErr_l4; simp only
          rw [bif_neg (by omega), s_wr (by omega) (by omega)]) with ⟨k, hk, hp, _, h⟩ | ⟨hp, h⟩
      · have e : dsE n l i = 7 := by unfold dsE; rw [if_pos (by omega), if_pos ⟨k, hk, hp⟩]
        rw [h, e]; rfl
      · have e : dsE n l i = 0 := by unfold dsE; rw [if_pos (by omega), if_neg (fun ⟨k, hk, q⟩ => hp k hk q)]
        rw [h, e]; rfl
    · have e : dsE n l i = 3 := by unfold dsE; rw [if_neg (by omega)]
      rw [s_neg c, Bool.not_false, cond_true, e]; rfl
  · unfold R_ConditionErr_l3; rw [bif_neg (by omega)]
def tabE (g : GrT) (i n : Int) : Int := orE (lkE g) (if g.1 = i ∧ g.2.1 = n then 0 else 4)
theorem table_r {g : GrT} (hv : (g.2.2.2.length : Int) ≤ 9223372036854775807) (i n : Int) : condition_table_r fu ((g.1, (g.2.1, (g.2.2.1, g.2.2.2))), (i, (n, ()))) = some (tabE g i n, ()) := by
  obtain ⟨a, o, s, vs⟩ := g; unfold condition_table_r condition_table_j1 tabE; simp only [joinF_eq]; rw [dcheck_r hf hv]; simp only [bindO_some]; rw [← or_r]; congr 1; by_cases c1 : a = i
  · rw [bif_neg (fun g => g c1)]; by_cases c2 : o = n
    · rw [if_pos ⟨c1, c2⟩, s_neg (fun g => g c2)]; rfl
    · rw [if_neg (fun g => c2 g.2), s_pos c2]; rfl
  · rw [if_neg (fun g => c1 g.1), bif_pos c1]; rfl
end
structure WfC (c : CondT) : Prop where
  inks : (c.1.length : Int) ≤ 9223372036854775807
  pr : (c.2.1.length : Int) ≤ 9223372036854775807
  li : (c.2.2.1.length : Int) ≤ 9223372036854775807
  gy : (c.2.2.2.1.2.2.2.length : Int) ≤ 9223372036854775807
  rgb : (c.2.2.2.2.1.2.2.2.length : Int) ≤ 9223372036854775807
  sp : Sp.AllS c.2.2.2.2.2.1
def scE (p : Int) (l : List Sp.SpotT) (i : Nat) : Int := if ((Sp.spAt l i).2.2.2.2.length : Int) = 4 ∧ p = 4 then 0 else 4
noncomputable def lateE (c : CondT) : Int :=
  orE (firstE (dsE c.1.length c.2.1) c.2.1.length 0) (orE (firstE (dsE c.1.length c.2.2.1) c.2.2.1.length 0) (orE (tabE c.2.2.2.1 1 c.1.length) (orE (tabE c.2.2.2.2.1 3 c.1.length) (orE (Sp.libE c.2.2.2.2.2.1) (orE (firstE (scE c.2.1.length c.2.2.2.2.2.1) c.2.2.2.2.2.1.length 0) (if 0 ≤ c.2.2.2.2.2.2 ∧ c.2.2.2.2.2.2 ≤ 2040 then 0 else 3))))))
noncomputable def cE (c : CondT) : Int :=
  if 8 < (c.1.length : Int) then 2 else if (c.1.length : Int) = 0 then 1 else orE (orE (firstE (nmE c.1) c.1.length 0) 0) (if ((c.2.1.length : Int) = 0 ∨ (c.2.1.length : Int) = 4) ∧ (c.2.2.1.length : Int) = c.1.length then lateE c else 4)
section
variable {fu : Nat} (hf : 18446744073709551616 ≤ fu) {c : CondT} (hc : WfC c)
include hf hc
theorem late_r : condition_Check_j1 fu (c, ()) (c.1.length : Int) false = some (lateE c, ()) := by
  unfold condition_Check_j1 lateE; simp only [cond_false]; rw [distinct_r hf hc.pr, distinct_r hf hc.li, table_r hf hc.gy, table_r hf hc.rgb, Sp.libCheck_r hf hc.sp]; simp only [bindO_some]; have hs := hc.sp.1; rw [errLoopO (n := c.2.2.2.2.2.1.length) (fu := fu) (E := scE c.2.1.length c.2.2.2.2.2.1) (F := if 0 ≤ c.2.2.2.2.2.2 ∧ c.2.2.2.2.2.2 ≤ 2040 then 0 else 3) (by omega) (fun j i hi => ?_) (fun j => ?_)]
  · simp only [or_r, orE_zero]
  · have t0 : ((Sp.spAt c.2.2.2.2.2.1 i).2.2.2.2.length : Int) = 4 → (c.2.1.length : Int) = 4 → scE c.2.1.length c.2.2.2.2.2.1 i = 0 := fun h h' => by unfold scE; rw [if_pos ⟨h, h'⟩]
    have t4 : ¬ (((Sp.spAt c.2.2.2.2.2.1 i).2.2.2.2.length : Int) = 4 ∧ (c.2.1.length : Int) = 4) → scE c.2.1.length c.2.2.2.2.2.1 i = 4 := fun h => by unfold scE; rw [if_neg h]
    show (bif decide ((i : Int) < _) then bif (decide ((0 : Int) ≤ (i : Int)) && decide ((i : Int) < _)) then (bif decide (((Sp.spAt c.2.2.2.2.2.1 i).2.2.2.2.length : Int) ≠ 4) then (bif true then some ((4 : Int), ()) else j (IntKind.i64.wrap ((i : Int) + 1))) else (bif decide ((c.2.1.length : Int) ≠ 4) then some ((4 : Int), ()) else j (IntKind.i64.wrap ((i : Int) + 1)))) else none else _) = _; rw [bif_pos (by simp only; omega), bif_and (by omega) (by simp only; omega)]; generalize Sp.spAt c.2.2.2.2.2.1 i = s at *
    by_cases c1 : (s.2.2.2.2.length : Int) = 4
    · rw [bif_neg (fun g => g c1)]; by_cases c2 : (c.2.1.length : Int) = 4
      · rw [t0 c1 c2, s_neg (fun g => g c2), s_wr (by omega) (by omega)]; rfl
      · rw [t4 (fun g => c2 g.2), s_pos c2]; rfl
    · rw [t4 (fun g => c1 g.1), bif_pos c1]; rfl
  · unfold condition_Check_l2 condition_Check_j4; simp only [joinF_eq]; rw [bif_neg (by omega)]; by_cases c1 : c.2.2.2.2.2.2 < 0
    · rw [bif_pos c1, if_neg (by omega)]; rfl
    · rw [bif_neg c1]; by_cases c2 : 2040 < c.2.2.2.2.2.2
      · rw [s_pos c2, if_neg (by omega)]; rfl
      · rw [s_neg c2, if_pos (by omega)]; rfl
theorem check_r : condition_Check_r fu (c, ()) = some (cE c, ()) := by
  have hi := hc.inks; unfold condition_Check_r cE; simp only; by_cases h8 : 8 < (c.1.length : Int)
  · rw [s_pos h8, if_pos h8]; rfl
  rw [s_neg h8, if_neg h8, cond_false]; by_cases h0 : (c.1.length : Int) = 0
  · rw [s_pos h0, if_pos h0]; rfl
  rw [s_neg h0, if_neg h0, cond_false, names_r hf hi]; simp only [bindO_some]; have h4 : condition_Check_j1 fu (c, ()) (c.1.length : Int) true = some (4, ()) := rfl; refine Eq.trans ?_ (or_r _ _); refine congrArg (fun x => bif decide (orE (firstE (nmE c.1) c.1.length 0) 0 ≠ 0) then some (orE (firstE (nmE c.1) c.1.length 0) 0, ()) else x) ?_; show (bif decide ((c.2.1.length : Int) ≠ 0) then (bif decide ((c.2.1.length : Int) ≠ 4) then condition_Check_j1 fu (c, ()) (c.1.length : Int) true else condition_Check_j1 fu (c, ()) (c.1.length : Int) (decide ((c.2.2.1.length : Int) ≠ (c.1.length : Int)))) else condition_Check_j1 fu (c, ()) (c.1.length : Int) (decide ((c.2.2.1.length : Int) ≠ (c.1.length : Int)))) = _; by_cases p0 : (c.2.1.length : Int) = 0
  · rw [bif_neg (fun g => g p0)]; by_cases l0 : (c.2.2.1.length : Int) = c.1.length
    · rw [s_neg (fun g => g l0), if_pos ⟨.inl p0, l0⟩, late_r hf hc]
    · rw [s_pos l0, if_neg (fun g => l0 g.2), h4]
  · rw [bif_pos p0]; by_cases p4 : (c.2.1.length : Int) = 4
    · rw [bif_neg (fun g => g p4)]; by_cases l0 : (c.2.2.1.length : Int) = c.1.length
      · rw [s_neg (fun g => g l0), if_pos ⟨.inr p4, l0⟩, late_r hf hc]
      · rw [s_pos l0, if_neg (fun g => l0 g.2), h4]
    · rw [bif_pos p4, if_neg (fun g => g.1.elim p0 p4), h4]
omit hf hc in
theorem first2 (E : Nat → Int) : firstE E 2 0 = orE (E 0) (E 1) := by
  simp only [firstE]; unfold orE; by_cases h : E 0 = 0
  · rw [if_pos h, if_pos h]; by_cases g : E 1 = 0
    · rw [if_pos g, g]
    · rw [if_neg g]
  · rw [if_neg h, if_neg h]
omit hf hc in
theorem orE_assoc (a b c : Int) : orE (orE a b) c = orE a (orE b c) := by
  unfold orE; by_cases h : a = 0
  · simp only [if_pos h]
  · simp only [if_neg h]
theorem rlate_r (h8 : (c.1.length : Int) ≤ 8) (hp : (c.2.1.length : Int) = 0 ∨ (c.2.1.length : Int) = 4) : R_ConditionErr_j1 fu (c, ()) (c.1.length : Int) false = some (lateE c, ()) := by
  have hs := hc.sp.1; unfold R_ConditionErr_j1 lateE; simp only [cond_false]
  rw [errLoopO (n := 2) (fu := fu) (E := fun i => if i = 0 then firstE (dsE c.1.length c.2.1) c.2.1.length 0 else firstE (dsE c.1.length c.2.2.1) c.2.2.1.length 0)
    (F := orE (tabE c.2.2.2.1 1 c.1.length) (orE (tabE c.2.2.2.2.1 3 c.1.length) (orE (Sp.libE c.2.2.2.2.2.1) (orE (firstE (scE c.2.1.length c.2.2.2.2.2.1) c.2.2.2.2.2.1.length 0) (if 0 ≤ c.2.2.2.2.2.2 ∧ c.2.2.2.2.2.2 ≤ 2040 then 0 else 3))))) (by omega) (fun j i hi => ?_) (fun j => ?_)]
  · rw [first2]; exact congrArg (fun x => some (x, ())) (orE_assoc _ _ _)
  · unfold R_ConditionErr_l2; rw [bif_pos (by simp only [List.length_cons, List.length_nil]; omega), bif_and (by omega) (by simp only [List.length_cons, List.length_nil]; omega)]; obtain rfl | rfl : i = 0 ∨ i = 1 := by omega
    · exact rdistinct_r hf hc.pr (by omega) (by omega) 0 j
    · exact rdistinct_r hf hc.li (by omega) (by omega) 1 j
  · unfold R_ConditionErr_l2; rw [bif_neg (by simp only [List.length_cons, List.length_nil]; omega)]
    rw [errLoopO (n := 2) (fu := fu) (E := fun i => if i = 0 then tabE c.2.2.2.1 1 c.1.length else tabE c.2.2.2.2.1 3 c.1.length)
      (F := orE (Sp.libE c.2.2.2.2.2.1) (orE (firstE (scE c.2.1.length c.2.2.2.2.2.1) c.2.2.2.2.2.1.length 0) (if 0 ≤ c.2.2.2.2.2.2 ∧ c.2.2.2.2.2.2 ≤ 2040 then 0 else 3))) (by omega) (fun j i hi => ?_) (fun j => ?_)]
    · rw [first2]; exact congrArg (fun x => some (x, ())) (orE_assoc _ _ _)
    · unfold R_ConditionErr_l5; rw [bif_pos (by simp only [List.length_cons, List.length_nil]; omega), bif_and (by omega) (by simp only [List.length_cons, List.length_nil]; omega)]
      have step : ∀ (g : GrT) (k : Int), (g.2.2.2.length : Int) ≤ 9223372036854775807 → (bindO (R_LinkErr_r fu ((g.1, (g.2.1, (g.2.2.1, g.2.2.2))), ())) fun v6 => bif decide (v6.1 ≠ 0) then some (v6.1, ()) else (bif decide (g.1 ≠ k) then R_ConditionErr_j6 fu i j true else R_ConditionErr_j6 fu i j (decide (g.2.1 ≠ (c.1.length : Int))))) = if tabE g k c.1.length = 0 then j ((i : Int) + 1) else some (tabE g k c.1.length, ()) := by
        intro g k hg; obtain ⟨a, o, s, vs⟩ := g; rw [linkErr_r hf hg]; simp only [bindO_some]; by_cases c0 : lkE (a, (o, (s, vs))) = 0
        · have t0 : a = k → o = (c.1.length : Int) → tabE (a, (o, (s, vs))) k c.1.length = 0 := fun h h' => by unfold tabE orE; rw [if_pos c0, if_pos ⟨h, h'⟩]
          have t4 : ¬ (a = k ∧ o = (c.1.length : Int)) → tabE (a, (o, (s, vs))) k c.1.length = 4 := fun h => by unfold tabE orE; rw [if_pos c0, if_neg h]
          rw [bif_neg (fun g => g c0)]; unfold R_ConditionErr_j6; by_cases c1 : a = k
          · rw [bif_neg (fun g => g c1)]; by_cases c2 : o = (c.1.length : Int)
            · rw [t0 c1 c2, s_neg (fun g => g c2), s_wr (by omega) (by omega)]; rfl
            · rw [t4 (fun g => c2 g.2), s_pos c2]; rfl
          · rw [t4 (fun g => c1 g.1), bif_pos c1]; rfl
        · have tE : tabE (a, (o, (s, vs))) k c.1.length = lkE (a, (o, (s, vs))) := by unfold tabE orE; rw [if_neg c0]
          rw [bif_pos c0, tE, if_neg c0]
      obtain rfl | rfl : i = 0 ∨ i = 1 := by omega
      · exact step c.2.2.2.1 1 hc.gy
      · exact step c.2.2.2.2.1 3 hc.rgb
    · unfold R_ConditionErr_l5; rw [bif_neg (by simp only [List.length_cons, List.length_nil]; omega)]; rw [Sp.libErr_r hf hc.sp]; simp only [bindO_some]; rw [← or_r]; by_cases hsp : Sp.libE c.2.2.2.2.2.1 = 0
      · rw [bif_neg (fun g => g hsp), bif_neg (fun g => g hsp)]; refine errLoopO (n := c.2.2.2.2.2.1.length) (fu := fu) (E := scE c.2.1.length c.2.2.2.2.2.1) (F := if 0 ≤ c.2.2.2.2.2.2 ∧ c.2.2.2.2.2.2 ≤ 2040 then 0 else 3) (by omega) (fun j i hi => ?_) (fun j => ?_)
        · have t0 : ((Sp.spAt c.2.2.2.2.2.1 i).2.2.2.2.length : Int) = 4 → (c.2.1.length : Int) = 4 → scE c.2.1.length c.2.2.2.2.2.1 i = 0 := fun h h' => by unfold scE; rw [if_pos ⟨h, h'⟩]
          have t4 : ¬ (((Sp.spAt c.2.2.2.2.2.1 i).2.2.2.2.length : Int) = 4 ∧ (c.2.1.length : Int) = 4) → scE c.2.1.length c.2.2.2.2.2.1 i = 4 := fun h => by unfold scE; rw [if_neg h]
          show (bif decide ((i : Int) < _) then bif (decide ((0 : Int) ≤ (i : Int)) && decide ((i : Int) < _)) then (bif decide (((Sp.spAt c.2.2.2.2.2.1 i).2.2.2.2.length : Int) ≠ 4) then (bif true then some ((4 : Int), ()) else j (IntKind.i64.wrap ((i : Int) + 1))) else (bif decide ((c.2.1.length : Int) = 0) then some ((4 : Int), ()) else j (IntKind.i64.wrap ((i : Int) + 1)))) else none else _) = _; rw [bif_pos (by simp only; omega), bif_and (by omega) (by simp only; omega)]; generalize Sp.spAt c.2.2.2.2.2.1 i = s at *
          by_cases c1 : (s.2.2.2.2.length : Int) = 4
          · rw [bif_neg (fun g => g c1)]; by_cases c2 : (c.2.1.length : Int) = 4
            · rw [t0 c1 c2, bif_neg (by omega), s_wr (by omega) (by omega)]; rfl
            · rw [t4 (fun g => c2 g.2), bif_pos (by omega)]; rfl
          · rw [t4 (fun g => c1 g.1), bif_pos c1]; rfl
        · unfold R_ConditionErr_l7; rw [bif_neg (by simp only; omega), within_s]; simp only [bindO_some]; by_cases c1 : 0 ≤ c.2.2.2.2.2.2 ∧ c.2.2.2.2.2.2 ≤ 2040
          · rw [s_pos c1, if_pos c1]; rfl
          · rw [s_neg c1, if_neg c1]; rfl
      · rw [bif_pos hsp, bif_pos hsp]
theorem cErr_r : R_ConditionErr_r fu (c, ()) = some (cE c, ()) := by
  have hi := hc.inks; unfold R_ConditionErr_r cE; simp only; by_cases h8 : 8 < (c.1.length : Int)
  · rw [bif_pos h8, if_pos h8]
  rw [bif_neg h8, if_neg h8]; by_cases h0 : (c.1.length : Int) = 0
  · rw [bif_pos h0, if_pos h0]
  rw [bif_neg h0, if_neg h0, namesErr_r hf hi]; simp only [bindO_some]; have h4 : R_ConditionErr_j1 fu (c, ()) (c.1.length : Int) true = some (4, ()) := rfl; refine Eq.trans ?_ (or_r _ _); refine congrArg (fun x => bif decide (orE (firstE (nmE c.1) c.1.length 0) 0 ≠ 0) then some (orE (firstE (nmE c.1) c.1.length 0) 0, ()) else x) ?_; show (bif decide ((c.2.1.length : Int) ≠ 0) then (bif decide ((c.2.1.length : Int) ≠ 4) then R_ConditionErr_j1 fu (c, ()) (c.1.length : Int) true else R_ConditionErr_j1 fu (c, ()) (c.1.length : Int) (decide ((c.2.2.1.length : Int) ≠ (c.1.length : Int)))) else R_ConditionErr_j1 fu (c, ()) (c.1.length : Int) (decide ((c.2.2.1.length : Int) ≠ (c.1.length : Int)))) = _; by_cases p0 : (c.2.1.length : Int) = 0
  · rw [bif_neg (fun g => g p0)]; by_cases l0 : (c.2.2.1.length : Int) = c.1.length
    · rw [s_neg (fun g => g l0), if_pos ⟨.inl p0, l0⟩, rlate_r hf hc (by omega) (.inl p0)]
    · rw [s_pos l0, if_neg (fun g => l0 g.2), h4]
  · rw [bif_pos p0]; by_cases p4 : (c.2.1.length : Int) = 4
    · rw [bif_neg (fun g => g p4)]; by_cases l0 : (c.2.2.1.length : Int) = c.1.length
      · rw [s_neg (fun g => g l0), if_pos ⟨.inr p4, l0⟩, rlate_r hf hc (by omega) (.inr p4)]
      · rw [s_pos l0, if_neg (fun g => l0 g.2), h4]
    · rw [bif_pos p4, if_neg (fun g => g.1.elim p0 p4), h4]
end
end Co
end Go.Proofs.Ytjhdjjoacedlpaa
/- Conditions: tones of all inks within the total; the law ConditionColors. -/
namespace Go.Proofs.Ytjhdjjoacedlpaa
open Go Go.RowKit
set_option linter.unusedSimpArgs false
set_option linter.unusedSectionVars false
set_option linter.unusedVariables false
namespace Co
abbrev InkT := Int × (Int × (Int × (Int × (Int × (Int × (Int × Int))))))
def z8 : List Int := [0, 0, 0, 0, 0, 0, 0, 0]
theorem take_sum {l : List Int} {i : Nat} (h : i < l.length) : (l.take (i + 1)).sum = (l.take i).sum + l.getD i 0 := by
  rw [List.take_add_one, List.sum_append, List.getD_eq_getElem?_getD, List.getElem?_eq_getElem h]; simp
def Sml (l : List Int) : Prop := ∀ k, k < l.length → -1000000000000 ≤ l.getD k 0 ∧ l.getD k 0 ≤ 1000000000000
theorem sum_bd {l : List Int} (hs : Sml l) : ∀ k, k ≤ l.length → -((k : Int) * 1000000000000) ≤ (l.take k).sum ∧ (l.take k).sum ≤ (k : Int) * 1000000000000
  | 0, _ => by simp
  | k + 1, h => by
    have := sum_bd hs k (by omega); have := hs k (by omega); rw [take_sum (by omega)]; omega
section
variable {fu : Nat} (hf : 18446744073709551616 ≤ fu)
include hf
theorem total_r {l : List Int} (h8 : l.length ≤ 8) (hs : Sml l) : R_Total_r fu (l, ()) = some (l.sum, ()) := by
  unfold R_Total_r; refine stLoop (n := l.length) (st := fun k : Nat => ((l.take k).sum, (k : Int))) (by omega) rfl (fun j k hk => ?_) (fun j => ?_)
  · have b1 := sum_bd hs k (by omega); have b2 := hs k hk; unfold R_Total_l1; simp only [Int.toNat_natCast]; rw [bif_pos (by omega), bif_and (by omega) (by omega), take_sum hk, s_wr (by omega) (by omega), s_wr (by omega) (by omega)]; rfl
  · unfold R_Total_l1; rw [bif_neg (by simp only; omega), List.take_length]
theorem sum_r {l : List Int} (h8 : l.length ≤ 8) (hs : Sml l) : inklimit_sum_r fu (l, ()) = some (l.sum, ()) := total_r hf h8 hs
theorem lim_r {l : List Int} (h8 : l.length ≤ 8) (hs : Sml l) {b T : Int} (hb : b = -1 ∨ (0 ≤ b ∧ b < (l.length : Int))) (t0 : 0 ≤ T) (t1 : T ≤ 2040) :
    ∃ v : List Int, v.length = l.length ∧ inklimit_Quick_r fu (l, (b, (T, ()))) = some (v, ()) ∧ R_Limited_r fu (l, (b, (T, ()))) = some (v, ()) := by
  have hsum := sum_bd hs l.length (Nat.le_refl _); rw [List.take_length] at hsum; unfold inklimit_Quick_r R_Limited_r; simp only; rw [bif_pos (by omega), bif_pos (by simp only [List.length_nil]; omega), sum_r hf h8 hs, total_r hf h8 hs]; simp only [bindO_some, joinF_eq, List.nil_append]; generalize l.sum = S at *
  by_cases c : S ≤ T
  · exact ⟨l, rfl, bif_pos c, bif_pos c⟩
  rw [bif_neg c, bif_neg c]; obtain ⟨B, hB⟩ : ∃ B : Int → Int, B = fun q => l.getD q.toNat 0 := ⟨_, rfl⟩
  have hl : tabL l.length B = l := by rw [hB]; exact tabL_self l
  rcases hb with hb | ⟨hb0, hb1⟩
  · rw [bif_neg (by omega), bif_pos (by omega)]; obtain ⟨A, hA⟩ : ∃ A : Int → Int, A = fun q => IntKind.i64.wrap (Int.tdiv (IntKind.i64.wrap (l.getD q.toNat 0 * T)) S) := ⟨_, rfl⟩
    have hAk : ∀ k : Nat, A k = IntKind.i64.wrap (Int.tdiv (IntKind.i64.wrap (l.getD k 0 * T)) S) := fun k => by rw [hA]; rfl
    refine ⟨tabL l.length A, tabL_length _ _, ?_, ?_⟩
    · unfold inklimit_Quick_j1; refine stLoop (n := l.length) (st := fun k : Nat => ((k : Int), tabL l.length (fun q => if q < (k : Int) then A q else B q))) (by omega) ?_ (fun j k hk => ?_) (fun j => ?_)
      · exact Prod.ext rfl ((tabP_zero (A := A) (B := B)).trans hl)
      · unfold inklimit_Quick_l2 inklimit_Quick_j3; simp only [joinF_eq, Int.toNat_natCast, tabL_length, List.length_set, List.set_set]; rw [bif_pos (by omega), bif_and (by omega) (by omega), s_neg (by omega), cond_false, bif_and (by omega) (by omega), bif_pos (by omega), bif_pos (by omega), bif_and (by omega) (by omega), s_wr (x := T - 0) (by omega) (by omega), Int.sub_zero, s_wr (x := (k : Int) + 1) (by omega) (by omega), tabP_set (A := A) (B := B) hk (hAk k)]; rfl
      · unfold inklimit_Quick_l2; rw [bif_neg (by simp only; omega)]; exact congrArg (fun x => some (x, ())) (tabL_congr fun i h0 h1 => if_pos h1)
    · refine stLoop (n := l.length) (st := fun k : Nat => ((k : Int), tabL l.length (fun q => if q < (k : Int) then A q else B q))) (by omega) ?_ (fun j k hk => ?_) (fun j => ?_)
      · exact Prod.ext rfl ((tabP_zero (A := A) (B := B)).trans hl)
      · unfold R_Limited_l1; simp only [Int.toNat_natCast, tabL_length]; rw [bif_pos (by omega), bif_and (by omega) (by omega), bif_pos (by omega), bif_and (by omega) (by omega), s_wr (x := (k : Int) + 1) (by omega) (by omega), tabP_set (A := A) (B := B) hk (hAk k)]; rfl
      · unfold R_Limited_l1; rw [bif_neg (by simp only; omega)]; exact congrArg (fun x => some (x, ())) (tabL_congr fun i h0 h1 => if_pos h1)
  · obtain ⟨bn, rfl⟩ := Int.eq_ofNat_of_zero_le hb0; have hk0 := hs bn (by omega); rw [bif_pos (by omega), bif_and (by omega) (by omega), bif_and (by omega) (by omega), bif_neg (by omega), bif_and (by omega) (by omega)]; simp only [Int.toNat_natCast]; generalize hK : l.getD bn 0 = K at *
    have hbd : -9000000000000 ≤ S - K ∧ S - K ≤ 9000000000000 := by omega
    rw [s_wr (x := S - K) (by omega) (by omega)]; obtain ⟨A, hA⟩ : ∃ A : Int → Int, A = fun q => if q = (bn : Int) then min K T else if T ≤ K then 0 else IntKind.i64.wrap (Int.tdiv (IntKind.i64.wrap (l.getD q.toNat 0 * (T - K))) (S - K)) := ⟨_, rfl⟩
    have hA1 : ∀ k : Nat, (k : Int) = (bn : Int) → A k = min K T := fun k h => by rw [hA]; exact if_pos h
    have hA2 : ∀ k : Nat, ¬ (k : Int) = (bn : Int) → T ≤ K → A k = 0 := fun k h h' => by rw [hA]; exact (if_neg h).trans (if_pos h')
    have hA3 : ∀ k : Nat, ¬ (k : Int) = (bn : Int) → ¬ T ≤ K → A k = IntKind.i64.wrap (Int.tdiv (IntKind.i64.wrap (l.getD k 0 * (T - K))) (S - K)) := fun k h h' => by rw [hA]; exact (if_neg h).trans (if_neg h')
    refine ⟨tabL l.length A, tabL_length _ _, ?_, ?_⟩
    · unfold inklimit_Quick_j1; refine stLoop (n := l.length) (st := fun k : Nat => ((k : Int), tabL l.length (fun q => if q < (k : Int) then A q else B q))) (by omega) ?_ (fun j k hk => ?_) (fun j => ?_)
      · exact Prod.ext rfl ((tabP_zero (A := A) (B := B)).trans hl)
      · unfold inklimit_Quick_l2 inklimit_Quick_j3; simp only [joinF_eq, Int.toNat_natCast, tabL_length, List.length_set, List.set_set]; rw [bif_pos (by omega), bif_and (by omega) (by omega), s_wr (x := (k : Int) + 1) (by omega) (by omega)]; by_cases e : (k : Int) = (bn : Int)
        · rw [s_pos e, cond_true, bif_and (by omega) (by omega), tabP_set (A := A) (B := B) hk (hA1 k e)]; rfl
        · rw [s_neg e, cond_false, bif_and (by omega) (by omega)]; by_cases g : 0 < S - K
          · rw [bif_pos g, bif_pos (by omega), bif_and (by omega) (by omega), s_wr (x := T - min K T) (by omega) (by omega)]; by_cases gt : T ≤ K
            · rw [show T - min K T = 0 by omega, Int.mul_zero, s_wr (x := 0) (by omega) (by omega), Int.zero_tdiv, s_wr (x := 0) (by omega) (by omega), tabP_set (A := A) (B := B) hk (hA2 k e gt)]; rfl
            · rw [show T - min K T = T - K by omega, tabP_set (A := A) (B := B) hk (hA3 k e gt)]; rfl
          · rw [bif_neg g, tabP_set (A := A) (B := B) hk (hA2 k e (by omega))]; rfl
      · unfold inklimit_Quick_l2; rw [bif_neg (by simp only; omega)]; exact congrArg (fun x => some (x, ())) (tabL_congr fun i h0 h1 => if_pos h1)
    · refine stLoop (n := l.length) (st := fun k : Nat => ((k : Int), tabL l.length (fun q => if q < (k : Int) then A q else B q))) (by omega) ?_ (fun j k hk => ?_) (fun j => ?_)
      · exact Prod.ext rfl ((tabP_zero (A := A) (B := B)).trans hl)
      · unfold R_Limited_l2 R_Limited_j3; simp only [joinF_eq, Int.toNat_natCast, tabL_length]; rw [bif_pos (by omega), bif_and (by omega) (by omega), s_wr (x := (k : Int) + 1) (by omega) (by omega)]; by_cases e : (k : Int) = (bn : Int)
        · rw [s_pos e, cond_true, bif_and (by omega) (by omega), tabP_set (A := A) (B := B) hk (hA1 k e)]; rfl
        · rw [s_neg e, cond_false]; by_cases gt : T ≤ K
          · rw [s_pos gt, cond_true, bif_and (by omega) (by omega), tabP_set (A := A) (B := B) hk (hA2 k e gt)]; rfl
          · rw [s_neg gt, cond_false, s_wr (x := S - K) (by omega) (by omega), bif_pos (by omega), bif_and (by omega) (by omega), s_wr (x := T - K) (by omega) (by omega), tabP_set (A := A) (B := B) hk (hA3 k e gt)]; rfl
      · unfold R_Limited_l2; rw [bif_neg (by simp only; omega)]; exact congrArg (fun x => some (x, ())) (tabL_congr fun i h0 h1 => if_pos h1)
omit hf in
def vecS (v : List Int) : Nat → List Int
  | 0 => z8
  | k + 1 => (vecS v k).set k (IntKind.u8.wrap (v.getD k 0))
omit hf in
theorem vecS_len (v : List Int) : ∀ k, (vecS v k).length = 8
  | 0 => rfl
  | k + 1 => by rw [vecS, List.length_set, vecS_len v k]
theorem vecL_r {v : List Int} (h8 : v.length ≤ 8) : ∃ x : InkT, loopF (R_Vector_l2 fu (v, ())) fu (((0 : Int), z8)) = some (x, ()) := by
  refine ⟨((vecS v v.length).getD 0 0, ((vecS v v.length).getD 1 0, ((vecS v v.length).getD 2 0, ((vecS v v.length).getD 3 0, ((vecS v v.length).getD 4 0, ((vecS v v.length).getD 5 0, ((vecS v v.length).getD 6 0, (vecS v v.length).getD 7 0))))))), ?_⟩; refine stLoop (n := v.length) (st := fun k : Nat => ((k : Int), vecS v k)) (by omega) rfl (fun j k hk => ?_) (fun j => ?_)
  · unfold R_Vector_l2; simp only [Int.toNat_natCast, vecS_len]; rw [bif_pos (by omega), bif_and (by omega) (by omega), s_wr (by omega) (by omega), decide_eq_true (show (0 : Int) ≤ (k : Int) by omega), decide_eq_true (show (k : Int) < ((8 : Nat) : Int) by omega), decide_eq_true (show (k : Int) < 8 by omega)]; rfl
  · unfold R_Vector_l2; simp only [vecS_len]; rw [bif_neg (by omega)]; rfl
variable {c : CondT}
theorem vec_r {l : List Int} (h8 : l.length ≤ 8) (hs : Sml l) (hp : (c.2.1.length : Int) = 4 → 0 ≤ c.2.1.getD 3 0 ∧ c.2.1.getD 3 0 < (l.length : Int)) (t0 : 0 ≤ c.2.2.2.2.2.2) (t1 : c.2.2.2.2.2.2 ≤ 2040) :
    ∃ x : InkT, R_Vector_r fu (c, (l, ())) = some (x, ()) ∧ condition_limited_r fu (c, (l, ())) = some (x, ()) := by
  have key : ∀ b : Int, (b = -1 ∨ (0 ≤ b ∧ b < (l.length : Int))) → ∃ x : InkT, R_Vector_j1 fu (c, (l, ())) b = some (x, ()) ∧ condition_limited_j1 fu (c, (l, ())) b = some (x, ()) := by
    intro b hb; obtain ⟨v, hv, e1, e2⟩ := lim_r hf h8 hs hb t0 t1; obtain ⟨x, hx⟩ := vecL_r hf (v := v) (by omega); refine ⟨x, ?_, ?_⟩
    · unfold R_Vector_j1; simp only; rw [e2]; exact hx
    · unfold condition_limited_j1; simp only; rw [e1]; exact hx
  unfold R_Vector_r condition_limited_r; simp only [joinF_eq]; by_cases h4 : (c.2.1.length : Int) = 4
  · obtain ⟨x, e1, e2⟩ := key (c.2.1.getD 3 0) (.inr (hp h4)); exact ⟨x, (bif_pos h4).trans ((bif_pos (by omega)).trans e1), (bif_pos h4).trans ((bif_pos (by omega)).trans e2)⟩
  · obtain ⟨x, e1, e2⟩ := key (-1) (.inl rfl); exact ⟨x, (bif_neg h4).trans e1, (bif_neg h4).trans e2⟩
end
end Co
end Go.Proofs.Ytjhdjjoacedlpaa
