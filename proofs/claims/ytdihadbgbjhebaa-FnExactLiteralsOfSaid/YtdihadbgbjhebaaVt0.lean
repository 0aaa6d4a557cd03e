/- What functions of the program compute, and that they do. -/
import Derived.Test.YtdihadbgbjhebaaProg
import Derived.Test.YtdihadbgbjhebaaVc31
namespace Go.Proofs.Ytdihadbgbjhebaa.Vc
open Go Go.RowKit
set_option linter.unusedVariables false
set_option maxRecDepth 100000
set_option maxHeartbeats 4000000
abbrev Y7 : Ty := .pair (.int .i64) (.pair (.int .i64) (.pair .bool (.int .u8)))
abbrev Y13 : Ty := .pair .str (.int .u64)
abbrev Y64 : Ty := .pair (.int .i64) (.pair (.sl (.pair .str (.int .i64))) (.pair (.sl (.pair (.int .i64) (.pair (.sl (.pair (.int .i64) (.pair .str (.pair (.int .i64) (.pair (.int .i64) (.pair (.int .i64) (.pair .bool (.sl (.int .i64))))))))) (.pair (.sl (.pair (.int .i64) (.pair .str (.pair (.int .i64) (.pair (.int .i64) (.pair (.int .i64) (.pair .bool (.sl (.int .i64))))))))) (.pair (.int .i64) (.int .i64)))))) (.pair (.int .i64) (.pair (.int .i64) (.pair (.int .i64) (.pair (.int .i64) (.pair (.int .i64) (.int .i64))))))))
abbrev Y75 : Ty := .pair (.int .i64) (.int .i64)
abbrev Y89 : Ty := .pair (.int .i64) (.pair .str (.pair (.int .i64) (.pair (.int .i64) (.pair (.int .i64) (.pair .bool (.sl (.int .i64)))))))
abbrev Y107 : Ty := .pair .str (.int .i64)
abbrev Y120 : Ty := .pair (.sl (.int .u8)) Y75
abbrev Y138 : Ty := .pair (.sl (.int .u8)) (.pair (.int .i64) .bool)
abbrev Y146 : Ty := .pair (.int .i64) (.pair (.sl Y89) (.pair (.sl Y89) Y75))
def TL : List (Nat × TI) := [(2, { ty := (.int .i64) }),
  (3, { ty := (.int .i64) }),
  (4, { ty := .bool }),
  (5, { ty := (.int .u8) }),
  (6, { ty := (.int .u8) }),
  (7, { ty := Y7, offs := [0, 1, 2, 3], szs := [1, 1, 1, 1] }),
  (8, { ty := Y7, offs := [0, 1, 2, 3], szs := [1, 1, 1, 1] }),
  (9, { ty := .str }),
  (10, { ty := .str }),
  (11, { ty := .str }),
  (12, { ty := (.int .u64) }),
  (13, { ty := Y13, offs := [0, 1], szs := [1, 1] }),
  (14, { ty := Y13, offs := [0, 1], szs := [1, 1] }),
  (21, { ty := (.int .i32) }),
  (24, { ty := (.sl Y75), elem := 78 }),
  (26, { ty := (.sl (.int .i64)), elem := 3 }),
  (28, { ty := (.sl Y75), elem := 76 }),
  (35, { ty := (.sl .str), elem := 9 }),
  (40, { ty := (.sl (.int .u8)), elem := 5 }),
  (42, { ty := (.sl Y89), elem := 90 }),
  (54, { ty := (.sl Y89), elem := 102 }),
  (60, { ty := (.sl Y107), elem := 108 }),
  (62, { ty := (.sl Y107), elem := 111 }),
  (63, { ty := (.sl Y146), elem := 147 }),
  (64, { ty := Y64, offs := [0, 1, 2, 3, 4, 5, 6, 7, 8], szs := [1, 1, 1, 1, 1, 1, 1, 1, 1] }),
  (65, { ty := Y64, offs := [0, 1, 2, 3, 4, 5, 6, 7, 8], szs := [1, 1, 1, 1, 1, 1, 1, 1, 1] }),
  (75, { ty := Y75, offs := [0, 1], szs := [1, 1] }),
  (76, { ty := Y75, offs := [0, 1], szs := [1, 1] }),
  (78, { ty := Y75, offs := [0, 1], szs := [1, 1] }),
  (89, { ty := Y89, offs := [0, 1, 2, 3, 4, 5, 6], szs := [1, 1, 1, 1, 1, 1, 1] }),
  (90, { ty := Y89, offs := [0, 1, 2, 3, 4, 5, 6], szs := [1, 1, 1, 1, 1, 1, 1] }),
  (102, { ty := Y89, offs := [0, 1, 2, 3, 4, 5, 6], szs := [1, 1, 1, 1, 1, 1, 1] }),
  (107, { ty := Y107, offs := [0, 1], szs := [1, 1] }),
  (108, { ty := Y107, offs := [0, 1], szs := [1, 1] }),
  (111, { ty := Y107, offs := [0, 1], szs := [1, 1] }),
  (116, { ty := (.sl Y75), elem := 118 }),
  (117, { ty := Y75, offs := [0, 1], szs := [1, 1] }),
  (118, { ty := Y75, offs := [0, 1], szs := [1, 1] }),
  (120, { ty := Y120, offs := [0, 1, 2], szs := [1, 1, 1] }),
  (121, { ty := Y120, offs := [0, 1, 2], szs := [1, 1, 1] }),
  (137, { ty := (.int .u64) }),
  (138, { ty := Y138, offs := [0, 1, 2], szs := [1, 1, 1] }),
  (139, { ty := Y138, offs := [0, 1, 2], szs := [1, 1, 1] }),
  (146, { ty := Y146, offs := [0, 1, 2, 3, 4], szs := [1, 1, 1, 1, 1] }),
  (147, { ty := Y146, offs := [0, 1, 2, 3, 4], szs := [1, 1, 1, 1, 1] }),
  (153, { ty := (.sl (.sl (.int .u8))), elem := 40 }),
  (156, { ty := (.sl (.sl Y89)), elem := 42 }),
  (166, { ty := (.int .u32) }),
  (167, { ty := (.int .u8) }),
  (168, { ty := (.int .u8) }),
  (171, { ty := (.int .i32) }),
  (172, { ty := (.int .i32) })]
abbrev T : Tab := lookT TL
theorem T_ok : TabOk Go.Proofs.Try.prog T := tabOk_of TL (by kernel_rfl)
theorem T_rec : RecOk Go.Proofs.Try.prog T := recOk_of TL (by kernel_rfl)
/- loop.example/g00844/spec.l01In -/
def F53 (N : Nat) (a0 : Int) (a1 : Int) (a2 : Int) : Option (Bool) :=
  cond (decide (a1 ≤ a0)) (some (decide (a0 ≤ a2))) (some false)
theorem ok53 (N : Nat) (a0 : Int) (a1 : Int) (a2 : Int) {r : Bool} (h : F53 N a0 a1 a2 = some r) : Con Go.Proofs.Try.prog 53 [I a0, I a1, I a2] [.lf (.v .bool r)] := by
  refine ⟨enters_of Go.Proofs.Try.func53 rfl (by decide), HC.intro [.lf (.v .bool)] T_ok Go.Proofs.Try.func53 rfl (Nat.le_of_ble_eq_true rfl) (Nat.le_of_ble_eq_true rfl) fun w0 E0 => ?_⟩
  unfold F53 at h
  show VW _ _ _ _ _ (retQ _ _ _ _) _
  refine VW.seq ?_
  refine VW.region ?_
  refine VO.seg T_ok .dp 1 [0, 1, 2] [] (s' := ⟨[(0, I a0), (1, I a1), (2, I a2)], []⟩) (φ := True ∧ True) (by kernel_rfl) ⟨trivial, trivial⟩ ?_
  refine VO.nil ?_
  show VW _ _ _ _ _ _ _
  refine VW.seq ?_
  refine VW.region ?_
  refine VO.seg T_ok .dp 4 [0, 2, 10] [] (s' := ⟨[(0, I a0), (2, I a2), (10, B (decide (a1 ≤ a0)))], []⟩) (φ := True ∧ True ∧ True ∧ True ∧ True) (by kernel_rfl) ⟨trivial, trivial, trivial, trivial, trivial⟩ ?_
  refine VO.splitB 10 (b := (decide (a1 ≤ a0))) (by kernel_rfl) (fun hb => ?_) (fun hb => ?_)
  · replace h := cond_t h hb; clear hb
    refine VO.seg T_ok .dp 5 [6] [] (s' := ⟨[(6, B (decide (a0 ≤ a2)))], []⟩) (φ := True ∧ True ∧ True ∧ True ∧ True ∧ True) (by kernel_rfl) ⟨trivial, trivial, trivial, trivial, trivial, trivial⟩ ?_
    refine VO.nil ?_
    show VW _ _ _ _ _ _ _
    refine VW.ret ?_
    replace h := Option.some.inj h
    subst h
    exact retR [] (by kernel_rfl) rfl
  · replace h := cond_f h hb; clear hb
    refine VO.seg T_ok .dp 5 [6] [] (s' := ⟨[(6, B false)], []⟩) (φ := True ∧ True ∧ True ∧ True ∧ True ∧ True) (by kernel_rfl) ⟨trivial, trivial, trivial, trivial, trivial, trivial⟩ ?_
    refine VO.nil ?_
    show VW _ _ _ _ _ _ _
    refine VW.ret ?_
    replace h := Option.some.inj h
    subst h
    exact retR [] (by kernel_rfl) rfl

/- loop.example/g00844/impl.in -/
def F54 (N : Nat) (a0 : Int) (a1 : Int) (a2 : Int) : Option (Bool) :=
  cond (decide (a0 ≥ a1)) (some (decide (a0 ≤ a2))) (some false)
theorem ok54 (N : Nat) (a0 : Int) (a1 : Int) (a2 : Int) {r : Bool} (h : F54 N a0 a1 a2 = some r) : Con Go.Proofs.Try.prog 54 [I a0, I a1, I a2] [.lf (.v .bool r)] := by
  refine ⟨enters_of Go.Proofs.Try.func54 rfl (by decide), HC.intro [.lf (.v .bool)] T_ok Go.Proofs.Try.func54 rfl (Nat.le_of_ble_eq_true rfl) (Nat.le_of_ble_eq_true rfl) fun w0 E0 => ?_⟩
  unfold F54 at h
  show VW _ _ _ _ _ (retQ _ _ _ _) _
  refine VW.seq ?_
  refine VW.region ?_
  refine VO.seg T_ok .dp 1 [0, 1, 2] [] (s' := ⟨[(0, I a0), (1, I a1), (2, I a2)], []⟩) (φ := True ∧ True) (by kernel_rfl) ⟨trivial, trivial⟩ ?_
  refine VO.nil ?_
  show VW _ _ _ _ _ _ _
  refine VW.seq ?_
  refine VW.region ?_
  refine VO.seg T_ok .dp 4 [0, 2, 10] [] (s' := ⟨[(0, I a0), (2, I a2), (10, B (decide (a0 ≥ a1)))], []⟩) (φ := True ∧ True ∧ True ∧ True ∧ True) (by kernel_rfl) ⟨trivial, trivial, trivial, trivial, trivial⟩ ?_
  refine VO.splitB 10 (b := (decide (a0 ≥ a1))) (by kernel_rfl) (fun hb => ?_) (fun hb => ?_)
  · replace h := cond_t h hb; clear hb
    refine VO.seg T_ok .dp 5 [6] [] (s' := ⟨[(6, B (decide (a0 ≤ a2)))], []⟩) (φ := True ∧ True ∧ True ∧ True ∧ True ∧ True) (by kernel_rfl) ⟨trivial, trivial, trivial, trivial, trivial, trivial⟩ ?_
    refine VO.nil ?_
    show VW _ _ _ _ _ _ _
    refine VW.ret ?_
    replace h := Option.some.inj h
    subst h
    exact retR [] (by kernel_rfl) rfl
  · replace h := cond_f h hb; clear hb
    refine VO.seg T_ok .dp 5 [6] [] (s' := ⟨[(6, B false)], []⟩) (φ := True ∧ True ∧ True ∧ True ∧ True ∧ True) (by kernel_rfl) ⟨trivial, trivial, trivial, trivial, trivial, trivial⟩ ?_
    refine VO.nil ?_
    show VW _ _ _ _ _ _ _
    refine VW.ret ?_
    replace h := Option.some.inj h
    subst h
    exact retR [] (by kernel_rfl) rfl

/- loop.example/g00844/laws.eqIntS -/
def F15_j0 (N : Nat) : Option (Bool) :=
  some true
def F15_l0_b (N : Nat) (a0 : (List Int)) (a1 : (List Int)) (nx25 : Int → Option (Bool)) (x20 : Int) : Option (Bool) :=
  cond (decide (x20 < (a0.length : Int))) (gd (InR x20 a0.length) (gd (InR x20 a1.length) (cond ((a0.getD x20.toNat (Ty.dflt (.int .i64))) != (a1.getD x20.toNat (Ty.dflt (.int .i64)))) (some false) (nx25 (IntKind.i64.wrap (x20 + (1 : Int))))))) (F15_j0 N)
def F15_l0 (N : Nat) (a0 : (List Int)) (a1 : (List Int)) : Nat → Int → Option (Bool) := loopF (F15_l0_b N a0 a1) (fun _ => none)
theorem F15_l0_s (N : Nat) (a0 : (List Int)) (a1 : (List Int)) {k : Nat} (hk : 0 < k) (x20 : Int) : F15_l0 N a0 a1 k x20 = F15_l0_b N a0 a1 (F15_l0 N a0 a1 (k - 1)) x20 := by
  cases k with
  | zero => exact absurd hk (Nat.lt_irrefl 0)
  | succ m => rfl
def F15 (N : Nat) (a0 : (List Int)) (a1 : (List Int)) : Option (Bool) :=
  cond ((a0.length : Int) != (a1.length : Int)) (some false) (F15_l0 N a0 a1 N (0 : Int))
theorem ok15 (N : Nat) (a0 : (List Int)) (a1 : (List Int)) {r : Bool} (h : F15 N a0 a1 = some r) : Con Go.Proofs.Try.prog 15 [.lf (.v (.sl (.int .i64)) a0), .lf (.v (.sl (.int .i64)) a1)] [.lf (.v .bool r)] := by
  refine ⟨enters_of Go.Proofs.Try.func15 rfl (by decide), HC.intro [.lf (.v .bool)] T_ok Go.Proofs.Try.func15 rfl (Nat.le_of_ble_eq_true rfl) (Nat.le_of_ble_eq_true rfl) fun w0 E0 => ?_⟩
  unfold F15 at h
  show VW _ _ _ _ _ (retQ _ _ _ _) _
  refine VW.seq ?_
  refine VW.region ?_
  refine VO.seg T_ok .dp 1 [0, 1] [] (s' := ⟨[(0, .lf (.v (.sl (.int .i64)) a0)), (1, .lf (.v (.sl (.int .i64)) a1))], []⟩) (φ := True ∧ True) (by kernel_rfl) ⟨trivial, trivial⟩ ?_
  refine VO.nil ?_
  show VW _ _ _ _ _ _ _
  refine VW.seq ?_
  refine VW.seq ?_
  refine VW.region ?_
  refine VO.seg T_ok .dp 5 [0, 1, 10] [] (s' := ⟨[(0, .lf (.v (.sl (.int .i64)) a0)), (1, .lf (.v (.sl (.int .i64)) a1)), (10, B ((a0.length : Int) != (a1.length : Int)))], []⟩) (φ := True ∧ True ∧ True ∧ True ∧ True ∧ True) (by kernel_rfl) ⟨trivial, trivial, trivial, trivial, trivial, trivial⟩ ?_
  refine VO.nil ?_
  show VW _ _ _ _ _ _ _
  refine VW.cond (b := ((a0.length : Int) != (a1.length : Int))) (by kernel_rfl) (fun hb => ?_) (fun hb => ?_)
  · replace h := cond_t h hb; clear hb
    refine VW.seq ?_
    refine VW.region ?_
    refine VO.seg T_ok .dp 1 [4] [] (s' := ⟨[(4, B false)], []⟩) (φ := True ∧ True) (by kernel_rfl) ⟨trivial, trivial⟩ ?_
    refine VO.nil ?_
    show VW _ _ _ _ _ _ _
    refine VW.ret ?_
    replace h := Option.some.inj h
    subst h
    exact retR [] (by kernel_rfl) rfl
  · replace h := cond_f h hb; clear hb
    refine VW.skip ?_
    show VW _ _ _ _ _ _ _
    refine VW.join (fun s => s = ⟨[], []⟩ ∧ F15_j0 N = some r) ?_ ?_
    · refine VW.seq ?_
      refine VW.region ?_
      refine VO.seg T_ok .dp 1 [0, 1, 5] [] (s' := ⟨[(0, .lf (.v (.sl (.int .i64)) a0)), (1, .lf (.v (.sl (.int .i64)) a1)), (5, I (0 : Int))], []⟩) (φ := True ∧ True) (by kernel_rfl) ⟨trivial, trivial⟩ ?_
      refine VO.nil ?_
      show VW _ _ _ _ _ _ _
      refine VW.block ?_
      refine VW.loopL (fun k s => ∃ (x20 : Int), s = ⟨[(0, .lf (.v (.sl (.int .i64)) a0)), (1, .lf (.v (.sl (.int .i64)) a1)), (5, I x20)], []⟩ ∧ F15_l0 N a0 a1 k x20 = some r) N [.ren [0, 1, 5] []] (by kernel_rfl) ⟨(0 : Int), rfl, h⟩ ?_
      rintro k25 s ⟨x20, rfl, h⟩
      cases k25 with
      | zero => exact nomatch (show (none : Option (Bool)) = some r from h)
      | succ k25 =>
        replace h : F15_l0_b N a0 a1 (F15_l0 N a0 a1 k25) x20 = some r := h
        unfold F15_l0_b at h
        refine VW.seq ?_
        refine VW.seq ?_
        refine VW.region ?_
        refine VO.seg T_ok .dp 4 [0, 1, 5, 14] [] (s' := ⟨[(0, .lf (.v (.sl (.int .i64)) a0)), (1, .lf (.v (.sl (.int .i64)) a1)), (5, I x20), (14, B (decide (x20 < (a0.length : Int))))], []⟩) (φ := True ∧ True ∧ True ∧ True ∧ True) (by kernel_rfl) ⟨trivial, trivial, trivial, trivial, trivial⟩ ?_
        refine VO.nil ?_
        show VW _ _ _ _ _ _ _
        refine VW.cond (b := (decide (x20 < (a0.length : Int)))) (by kernel_rfl) (fun hb => ?_) (fun hb => ?_)
        · replace h := cond_t h hb; clear hb
          refine VW.skip ?_
          show VW _ _ _ _ _ _ _
          refine VW.seq ?_
          refine VW.block ?_
          refine VW.seq ?_
          obtain ⟨g28, h⟩ := gd_some h
          obtain ⟨g29, h⟩ := gd_some h
          refine VW.drawn (by kernel_rfl) [some (17, .lf (.v (.sl (.int .i64)) a0)), some (18, I x20), some (19, .lf (.fp (.int .i64) (a0.getD x20.toNat (Ty.dflt (.int .i64))) 0)), some (20, I (a0.getD x20.toNat (Ty.dflt (.int .i64)))), some (21, .lf (.v (.sl (.int .i64)) a1)), some (22, I x20), some (23, .lf (.fp (.int .i64) (a1.getD x20.toNat (Ty.dflt (.int .i64))) 0)), some (24, I (a1.getD x20.toNat (Ty.dflt (.int .i64)))), some (25, B ((a0.getD x20.toNat (Ty.dflt (.int .i64))) != (a1.getD x20.toNat (Ty.dflt (.int .i64)))))] [] [[]] [(0, 0), (1, 0), (2, 0), (3, 0), (4, 0), (5, 0), (6, 0), (7, 0), (8, 0)] [0, 1, 5, 25] [] (s' := ⟨[(0, .lf (.v (.sl (.int .i64)) a0)), (1, .lf (.v (.sl (.int .i64)) a1)), (5, I x20), (25, B ((a0.getD x20.toNat (Ty.dflt (.int .i64))) != (a1.getD x20.toNat (Ty.dflt (.int .i64)))))], []⟩) (by kernel_rfl) (by kernel_rfl) ⟨⟨_, rfl, Stp.ev T_ok (m := .dp) (φ := True) (by kernel_rfl) trivial⟩,
    ⟨_, rfl, Stp.ev T_ok (m := .dp) (φ := True) (by kernel_rfl) trivial⟩,
    ⟨_, rfl, Stp.ev T_ok (m := .dp) (φ := InR x20 a0.length) (by kernel_rfl) g28⟩,
    ⟨_, rfl, Stp.ev T_ok (m := .dp) (φ := True) (by kernel_rfl) trivial⟩,
    ⟨_, rfl, Stp.ev T_ok (m := .dp) (φ := True) (by kernel_rfl) trivial⟩,
    ⟨_, rfl, Stp.ev T_ok (m := .dp) (φ := True) (by kernel_rfl) trivial⟩,
    ⟨_, rfl, Stp.ev T_ok (m := .dp) (φ := InR x20 a1.length) (by kernel_rfl) g29⟩,
    ⟨_, rfl, Stp.ev T_ok (m := .dp) (φ := True) (by kernel_rfl) trivial⟩,
    ⟨_, rfl, Stp.ev T_ok (m := .dp) (φ := True) (by kernel_rfl) trivial⟩, trivial⟩ (by kernel_rfl) ?_
          show VW _ _ _ _ _ _ _
          refine VW.cond (b := ((a0.getD x20.toNat (Ty.dflt (.int .i64))) != (a1.getD x20.toNat (Ty.dflt (.int .i64))))) (by kernel_rfl) (fun hb => ?_) (fun hb => ?_)
          · replace h := cond_t h hb; clear hb
            refine VW.seq ?_
            refine VW.region ?_
            refine VO.seg T_ok .dp 1 [4] [] (s' := ⟨[(4, B false)], []⟩) (φ := True ∧ True) (by kernel_rfl) ⟨trivial, trivial⟩ ?_
            refine VO.nil ?_
            show VW _ _ _ _ _ _ _
            refine VW.ret ?_
            replace h := Option.some.inj h
            subst h
            exact retR [] (by kernel_rfl) rfl
          · replace h := cond_f h hb; clear hb
            refine VW.skip ?_
            show VW _ _ _ _ _ _ _
            refine VW.region ?_
            refine VO.seg T_ok .dp 3 [0, 1, 5] [] (s' := ⟨[(0, .lf (.v (.sl (.int .i64)) a0)), (1, .lf (.v (.sl (.int .i64)) a1)), (5, I (IntKind.i64.wrap (x20 + (1 : Int))))], []⟩) (φ := True ∧ True ∧ True ∧ True) (by kernel_rfl) ⟨trivial, trivial, trivial, trivial⟩ ?_
            refine VO.nil ?_
            exact around [.ren [0, 1, 5] []] (by kernel_rfl) ⟨(IntKind.i64.wrap (x20 + (1 : Int))), rfl, h⟩
        · replace h := cond_f h hb; clear hb
          refine VW.exit ?_
          exact arrive [.ren [] []] (by kernel_rfl) ⟨rfl, h⟩
    · rintro s ⟨rfl, h⟩
      unfold F15_j0 at h
      refine VW.seq ?_
      refine VW.region ?_
      refine VO.seg T_ok .dp 1 [4] [] (s' := ⟨[(4, B true)], []⟩) (φ := True ∧ True) (by kernel_rfl) ⟨trivial, trivial⟩ ?_
      refine VO.nil ?_
      show VW _ _ _ _ _ _ _
      refine VW.ret ?_
      replace h := Option.some.inj h
      subst h
      exact retR [] (by kernel_rfl) rfl

/- loop.example/g00844/laws.markIntS -/
def F18_j0 (N : Nat) (x17 : Int) (x18 : (List Int)) : Option ((List Int) × Int) :=
  some (x18, x17)
def F18_l0_b (N : Nat) (nx31 : (List Int) → Int → Int → Option ((List Int) × Int)) (x24 : (List Int)) (x25 : Int) (x26 : Int) : Option ((List Int) × Int) :=
  cond (decide (x26 < (x24.length : Int))) (gd (InR x26 x24.length) (gd (x26.toNat < x24.length) (nx31 (x24.set x26.toNat x25) (IntKind.i64.wrap (x25 + (1 : Int))) (IntKind.i64.wrap (x26 + (1 : Int)))))) (F18_j0 N x25 x24)
def F18_l0 (N : Nat) : Nat → (List Int) → Int → Int → Option ((List Int) × Int) := loopF (F18_l0_b N) (fun _ _ _ => none)
theorem F18_l0_s (N : Nat) {k : Nat} (hk : 0 < k) (x24 : (List Int)) (x25 : Int) (x26 : Int) : F18_l0 N k x24 x25 x26 = F18_l0_b N (F18_l0 N (k - 1)) x24 x25 x26 := by
  cases k with
  | zero => exact absurd hk (Nat.lt_irrefl 0)
  | succ m => rfl
def F18 (N : Nat) (a0 : (List Int)) (a1 : Int) : Option ((List Int) × Int) :=
  F18_l0 N N a0 a1 (0 : Int)
theorem ok18 (N : Nat) (a0 : (List Int)) (a1 : Int) {r : (List Int) × Int} (h : F18 N a0 a1 = some r) : ConM Go.Proofs.Try.prog 18 [ar 0 (.int .i64) a0 .dp] [.lf (.hd 0 0 none), I a1] [.lf (.v (.int .i64) r.2)] [ar 0 (.int .i64) r.1 .dp] := by
  refine ⟨enters_of Go.Proofs.Try.func18 rfl (by decide), HM.intro [.lf (.v (.int .i64))] T_ok Go.Proofs.Try.func18 rfl (Nat.le_of_ble_eq_true rfl) (Nat.le_of_ble_eq_true rfl) fun w0 E0 => ?_⟩
  unfold F18 at h
  show VW _ _ _ _ _ (retM _ _ _ _ _) _
  refine VW.seq ?_
  refine VW.region ?_
  refine VO.seg T_ok .dp 1 [0, 1, 65536] [0] (s' := ⟨[(0, .lf (.hd 0 0 none)), (1, I a1), (65536, .lf (.hd 0 0 none))], [ar 0 (.int .i64) a0 .dp]⟩) (φ := True ∧ True) (by kernel_rfl) ⟨trivial, trivial⟩ ?_
  refine VO.nil ?_
  show VW _ _ _ _ _ _ _
  refine VW.join (fun s => ∃ (x17 : Int) (x18 : (List Int)), s = ⟨[(1, I x17), (65536, .lf (.hd 0 0 none))], [ar 0 (.int .i64) x18 .dp]⟩ ∧ F18_j0 N x17 x18 = some r) ?_ ?_
  · refine VW.seq ?_
    refine VW.region ?_
    refine VO.seg T_ok .dp 1 [0, 1, 5, 65536] [0] (s' := ⟨[(0, .lf (.hd 0 0 none)), (1, I a1), (5, I (0 : Int)), (65536, .lf (.hd 0 0 none))], [ar 0 (.int .i64) a0 .dp]⟩) (φ := True ∧ True) (by kernel_rfl) ⟨trivial, trivial⟩ ?_
    refine VO.nil ?_
    show VW _ _ _ _ _ _ _
    refine VW.block ?_
    refine VW.loopL (fun k s => ∃ (x24 : (List Int)) (x25 : Int) (x26 : Int), s = ⟨[(0, .lf (.hd 0 0 none)), (1, I x25), (5, I x26), (65536, .lf (.hd 0 0 none))], [ar 0 (.int .i64) x24 .dp]⟩ ∧ F18_l0 N k x24 x25 x26 = some r) N [.ren [0, 1, 5, 65536] [0]] (by kernel_rfl) ⟨a0, a1, (0 : Int), rfl, h⟩ ?_
    rintro k31 s ⟨x24, x25, x26, rfl, h⟩
    cases k31 with
    | zero => exact nomatch (show (none : Option ((List Int) × Int)) = some r from h)
    | succ k31 =>
      replace h : F18_l0_b N (F18_l0 N k31) x24 x25 x26 = some r := h
      unfold F18_l0_b at h
      refine VW.seq ?_
      refine VW.seq ?_
      refine VW.region ?_
      refine VO.seg T_ok .dp 4 [0, 1, 5, 9, 65536] [0] (s' := ⟨[(0, .lf (.hd 0 0 none)), (1, I x25), (5, I x26), (9, B (decide (x26 < (x24.length : Int)))), (65536, .lf (.hd 0 0 none))], [ar 0 (.int .i64) x24 .dp]⟩) (φ := True ∧ True ∧ True ∧ True ∧ True) (by kernel_rfl) ⟨trivial, trivial, trivial, trivial, trivial⟩ ?_
      refine VO.nil ?_
      show VW _ _ _ _ _ _ _
      refine VW.cond (b := (decide (x26 < (x24.length : Int)))) (by kernel_rfl) (fun hb => ?_) (fun hb => ?_)
      · replace h := cond_t h hb; clear hb
        refine VW.skip ?_
        show VW _ _ _ _ _ _ _
        refine VW.seq ?_
        refine VW.block ?_
        refine VW.seq ?_
        refine VW.region ?_
        obtain ⟨g34, h⟩ := gd_some h
        obtain ⟨g35, h⟩ := gd_some h
        refine VO.seg T_ok .dp 5 [0, 1, 5, 65536] [0] (s' := ⟨[(0, .lf (.hd 0 0 none)), (1, I x25), (5, I x26), (65536, .lf (.hd 0 0 none))], [ar 0 (.int .i64) (x24.set x26.toNat x25) .dp]⟩) (φ := True ∧ True ∧ True ∧ (InR x26 x24.length) ∧ (x26.toNat < x24.length) ∧ True) (by kernel_rfl) ⟨trivial, trivial, trivial, g34, g35, trivial⟩ ?_
        refine VO.nil ?_
        show VW _ _ _ _ _ _ _
        refine VW.region ?_
        refine VO.seg T_ok .dp 3 [0, 1, 5, 65536] [0] (s' := ⟨[(0, .lf (.hd 0 0 none)), (1, I (IntKind.i64.wrap (x25 + (1 : Int)))), (5, I x26), (65536, .lf (.hd 0 0 none))], [ar 0 (.int .i64) (x24.set x26.toNat x25) .dp]⟩) (φ := True ∧ True ∧ True ∧ True) (by kernel_rfl) ⟨trivial, trivial, trivial, trivial⟩ ?_
        refine VO.nil ?_
        show VW _ _ _ _ _ _ _
        refine VW.region ?_
        refine VO.seg T_ok .dp 3 [0, 1, 5, 65536] [0] (s' := ⟨[(0, .lf (.hd 0 0 none)), (1, I (IntKind.i64.wrap (x25 + (1 : Int)))), (5, I (IntKind.i64.wrap (x26 + (1 : Int)))), (65536, .lf (.hd 0 0 none))], [ar 0 (.int .i64) (x24.set x26.toNat x25) .dp]⟩) (φ := True ∧ True ∧ True ∧ True) (by kernel_rfl) ⟨trivial, trivial, trivial, trivial⟩ ?_
        refine VO.nil ?_
        exact around [.ren [0, 1, 5, 65536] [0]] (by kernel_rfl) ⟨(x24.set x26.toNat x25), (IntKind.i64.wrap (x25 + (1 : Int))), (IntKind.i64.wrap (x26 + (1 : Int))), rfl, h⟩
      · replace h := cond_f h hb; clear hb
        refine VW.exit ?_
        exact arrive [.ren [1, 65536] [0]] (by kernel_rfl) ⟨x25, x24, rfl, h⟩
  · rintro s ⟨x17, x18, rfl, h⟩
    unfold F18_j0 at h
    refine VW.seq ?_
    refine VW.region ?_
    refine VO.seg T_ok .dp 2 [4, 65536] [0] (s' := ⟨[(4, I x17), (65536, .lf (.hd 0 0 none))], [ar 0 (.int .i64) x18 .dp]⟩) (φ := True ∧ True ∧ True) (by kernel_rfl) ⟨trivial, trivial, trivial⟩ ?_
    refine VO.nil ?_
    show VW _ _ _ _ _ _ _
    replace h := Option.some.inj h
    subst h
    refine VW.ghl [.ren [4, 65536] [0]] (VW.ret ?_)
    exact ⟨[], by kernel_rfl, by kernel_rfl, by kernel_rfl⟩

/- loop.example/g00844/laws.heldIntS -/
def F19_j0 (N : Nat) (x16 : Int) : Option (Int) :=
  some x16
def F19_l0_b (N : Nat) (a0 : (List Int)) (nx28 : Int → Int → Option (Int)) (x22 : Int) (x23 : Int) : Option (Int) :=
  cond (decide (x23 < (a0.length : Int))) (gd (InR x23 a0.length) (cond ((a0.getD x23.toNat (Ty.dflt (.int .i64))) != x22) (some (-1 : Int)) (nx28 (IntKind.i64.wrap (x22 + (1 : Int))) (IntKind.i64.wrap (x23 + (1 : Int)))))) (F19_j0 N x22)
def F19_l0 (N : Nat) (a0 : (List Int)) : Nat → Int → Int → Option (Int) := loopF (F19_l0_b N a0) (fun _ _ => none)
theorem F19_l0_s (N : Nat) (a0 : (List Int)) {k : Nat} (hk : 0 < k) (x22 : Int) (x23 : Int) : F19_l0 N a0 k x22 x23 = F19_l0_b N a0 (F19_l0 N a0 (k - 1)) x22 x23 := by
  cases k with
  | zero => exact absurd hk (Nat.lt_irrefl 0)
  | succ m => rfl
def F19 (N : Nat) (a0 : (List Int)) (a1 : Int) : Option (Int) :=
  F19_l0 N a0 N a1 (0 : Int)
theorem ok19 (N : Nat) (a0 : (List Int)) (a1 : Int) {r : Int} (h : F19 N a0 a1 = some r) : Con Go.Proofs.Try.prog 19 [.lf (.v (.sl (.int .i64)) a0), I a1] [.lf (.v (.int .i64) r)] := by
  refine ⟨enters_of Go.Proofs.Try.func19 rfl (by decide), HC.intro [.lf (.v (.int .i64))] T_ok Go.Proofs.Try.func19 rfl (Nat.le_of_ble_eq_true rfl) (Nat.le_of_ble_eq_true rfl) fun w0 E0 => ?_⟩
  unfold F19 at h
  show VW _ _ _ _ _ (retQ _ _ _ _) _
  refine VW.seq ?_
  refine VW.region ?_
  refine VO.seg T_ok .dp 1 [0, 1] [] (s' := ⟨[(0, .lf (.v (.sl (.int .i64)) a0)), (1, I a1)], []⟩) (φ := True ∧ True) (by kernel_rfl) ⟨trivial, trivial⟩ ?_
  refine VO.nil ?_
  show VW _ _ _ _ _ _ _
  refine VW.join (fun s => ∃ (x16 : Int), s = ⟨[(1, I x16)], []⟩ ∧ F19_j0 N x16 = some r) ?_ ?_
  · refine VW.seq ?_
    refine VW.region ?_
    refine VO.seg T_ok .dp 1 [0, 1, 5] [] (s' := ⟨[(0, .lf (.v (.sl (.int .i64)) a0)), (1, I a1), (5, I (0 : Int))], []⟩) (φ := True ∧ True) (by kernel_rfl) ⟨trivial, trivial⟩ ?_
    refine VO.nil ?_
    show VW _ _ _ _ _ _ _
    refine VW.block ?_
    refine VW.loopL (fun k s => ∃ (x22 : Int) (x23 : Int), s = ⟨[(0, .lf (.v (.sl (.int .i64)) a0)), (1, I x22), (5, I x23)], []⟩ ∧ F19_l0 N a0 k x22 x23 = some r) N [.ren [0, 1, 5] []] (by kernel_rfl) ⟨a1, (0 : Int), rfl, h⟩ ?_
    rintro k28 s ⟨x22, x23, rfl, h⟩
    cases k28 with
    | zero => exact nomatch (show (none : Option (Int)) = some r from h)
    | succ k28 =>
      replace h : F19_l0_b N a0 (F19_l0 N a0 k28) x22 x23 = some r := h
      unfold F19_l0_b at h
      refine VW.seq ?_
      refine VW.seq ?_
      refine VW.region ?_
      refine VO.seg T_ok .dp 4 [0, 1, 5, 9] [] (s' := ⟨[(0, .lf (.v (.sl (.int .i64)) a0)), (1, I x22), (5, I x23), (9, B (decide (x23 < (a0.length : Int))))], []⟩) (φ := True ∧ True ∧ True ∧ True ∧ True) (by kernel_rfl) ⟨trivial, trivial, trivial, trivial, trivial⟩ ?_
      refine VO.nil ?_
      show VW _ _ _ _ _ _ _
      refine VW.cond (b := (decide (x23 < (a0.length : Int)))) (by kernel_rfl) (fun hb => ?_) (fun hb => ?_)
      · replace h := cond_t h hb; clear hb
        refine VW.skip ?_
        show VW _ _ _ _ _ _ _
        refine VW.seq ?_
        refine VW.block ?_
        refine VW.seq ?_
        refine VW.seq ?_
        refine VW.region ?_
        obtain ⟨g32, h⟩ := gd_some h
        refine VO.seg T_ok .dp 6 [0, 1, 5, 17] [] (s' := ⟨[(0, .lf (.v (.sl (.int .i64)) a0)), (1, I x22), (5, I x23), (17, B ((a0.getD x23.toNat (Ty.dflt (.int .i64))) != x22))], []⟩) (φ := True ∧ True ∧ (InR x23 a0.length) ∧ True ∧ True ∧ True ∧ True) (by kernel_rfl) ⟨trivial, trivial, g32, trivial, trivial, trivial, trivial⟩ ?_
        refine VO.nil ?_
        show VW _ _ _ _ _ _ _
        refine VW.cond (b := ((a0.getD x23.toNat (Ty.dflt (.int .i64))) != x22)) (by kernel_rfl) (fun hb => ?_) (fun hb => ?_)
        · replace h := cond_t h hb; clear hb
          refine VW.seq ?_
          refine VW.region ?_
          refine VO.seg T_ok .dp 1 [4] [] (s' := ⟨[(4, I (-1 : Int))], []⟩) (φ := True ∧ True) (by kernel_rfl) ⟨trivial, trivial⟩ ?_
          refine VO.nil ?_
          show VW _ _ _ _ _ _ _
          refine VW.ret ?_
          replace h := Option.some.inj h
          subst h
          exact retR [] (by kernel_rfl) rfl
        · replace h := cond_f h hb; clear hb
          refine VW.skip ?_
          show VW _ _ _ _ _ _ _
          refine VW.region ?_
          refine VO.seg T_ok .dp 3 [0, 1, 5] [] (s' := ⟨[(0, .lf (.v (.sl (.int .i64)) a0)), (1, I (IntKind.i64.wrap (x22 + (1 : Int)))), (5, I x23)], []⟩) (φ := True ∧ True ∧ True ∧ True) (by kernel_rfl) ⟨trivial, trivial, trivial, trivial⟩ ?_
          refine VO.nil ?_
          show VW _ _ _ _ _ _ _
          refine VW.region ?_
          refine VO.seg T_ok .dp 3 [0, 1, 5] [] (s' := ⟨[(0, .lf (.v (.sl (.int .i64)) a0)), (1, I (IntKind.i64.wrap (x22 + (1 : Int)))), (5, I (IntKind.i64.wrap (x23 + (1 : Int))))], []⟩) (φ := True ∧ True ∧ True ∧ True) (by kernel_rfl) ⟨trivial, trivial, trivial, trivial⟩ ?_
          refine VO.nil ?_
          exact around [.ren [0, 1, 5] []] (by kernel_rfl) ⟨(IntKind.i64.wrap (x22 + (1 : Int))), (IntKind.i64.wrap (x23 + (1 : Int))), rfl, h⟩
      · replace h := cond_f h hb; clear hb
        refine VW.exit ?_
        exact arrive [.ren [1] []] (by kernel_rfl) ⟨x22, rfl, h⟩
  · rintro s ⟨x16, rfl, h⟩
    unfold F19_j0 at h
    refine VW.seq ?_
    refine VW.region ?_
    refine VO.seg T_ok .dp 2 [4] [] (s' := ⟨[(4, I x16)], []⟩) (φ := True ∧ True ∧ True) (by kernel_rfl) ⟨trivial, trivial, trivial⟩ ?_
    refine VO.nil ?_
    show VW _ _ _ _ _ _ _
    refine VW.ret ?_
    replace h := Option.some.inj h
    subst h
    exact retR [] (by kernel_rfl) rfl

/- loop.example/g00844/laws.markText -/
def F59_j0 (N : Nat) (x7 : ByteArray) : Option (ByteArray) :=
  gd ((⟨#[109]⟩ : ByteArray).size + x7.size ≤ 9223372036854775807) (some ((⟨#[109]⟩ : ByteArray) ++ x7))
def F59_l0_b (N : Nat) (nx14 : Int → ByteArray → Option (ByteArray)) (x11 : Int) (x12 : ByteArray) : Option (ByteArray) :=
  cond (decide (x11 > (0 : Int))) (gd ((strOfNums ([(IntKind.u8.wrap (IntKind.i64.wrap ((48 : Int) + (Int.tmod x11 (10 : Int)))))])).size + x12.size ≤ 9223372036854775807) (nx14 (IntKind.i64.wrap (Int.tdiv x11 (10 : Int))) ((strOfNums ([(IntKind.u8.wrap (IntKind.i64.wrap ((48 : Int) + (Int.tmod x11 (10 : Int)))))])) ++ x12))) (F59_j0 N x12)
def F59_l0 (N : Nat) : Nat → Int → ByteArray → Option (ByteArray) := loopF (F59_l0_b N) (fun _ _ => none)
theorem F59_l0_s (N : Nat) {k : Nat} (hk : 0 < k) (x11 : Int) (x12 : ByteArray) : F59_l0 N k x11 x12 = F59_l0_b N (F59_l0 N (k - 1)) x11 x12 := by
  cases k with
  | zero => exact absurd hk (Nat.lt_irrefl 0)
  | succ m => rfl
def F59 (N : Nat) (a0 : Int) : Option (ByteArray) :=
  cond (decide (a0 ≤ (0 : Int))) (some (⟨#[109, 48]⟩ : ByteArray)) (F59_l0 N N a0 ByteArray.empty)
theorem ok59 (N : Nat) (a0 : Int) {r : ByteArray} (h : F59 N a0 = some r) : Con Go.Proofs.Try.prog 59 [I a0] [.lf (.v .str r)] := by
  refine ⟨enters_of Go.Proofs.Try.func59 rfl (by decide), HC.intro [.lf (.v .str)] T_ok Go.Proofs.Try.func59 rfl (Nat.le_of_ble_eq_true rfl) (Nat.le_of_ble_eq_true rfl) fun w0 E0 => ?_⟩
  unfold F59 at h
  show VW _ _ _ _ _ (retQ _ _ _ _) _
  refine VW.seq ?_
  refine VW.region ?_
  refine VO.seg T_ok .dp 1 [0] [] (s' := ⟨[(0, I a0)], []⟩) (φ := True ∧ True) (by kernel_rfl) ⟨trivial, trivial⟩ ?_
  refine VO.nil ?_
  show VW _ _ _ _ _ _ _
  refine VW.seq ?_
  refine VW.seq ?_
  refine VW.region ?_
  refine VO.seg T_ok .dp 2 [0, 5] [] (s' := ⟨[(0, I a0), (5, B (decide (a0 ≤ (0 : Int))))], []⟩) (φ := True ∧ True ∧ True) (by kernel_rfl) ⟨trivial, trivial, trivial⟩ ?_
  refine VO.nil ?_
  show VW _ _ _ _ _ _ _
  refine VW.cond (b := (decide (a0 ≤ (0 : Int)))) (by kernel_rfl) (fun hb => ?_) (fun hb => ?_)
  · replace h := cond_t h hb; clear hb
    refine VW.seq ?_
    refine VW.region ?_
    refine VO.seg T_ok .dp 1 [2] [] (s' := ⟨[(2, S (⟨#[109, 48]⟩ : ByteArray))], []⟩) (φ := True ∧ True) (by kernel_rfl) ⟨trivial, trivial⟩ ?_
    refine VO.nil ?_
    show VW _ _ _ _ _ _ _
    refine VW.ret ?_
    replace h := Option.some.inj h
    subst h
    exact retR [] (by kernel_rfl) rfl
  · replace h := cond_f h hb; clear hb
    refine VW.skip ?_
    show VW _ _ _ _ _ _ _
    refine VW.seq ?_
    refine VW.region ?_
    refine VO.seg T_ok .dp 1 [0, 3] [] (s' := ⟨[(0, I a0), (3, S ByteArray.empty)], []⟩) (φ := True ∧ True) (by kernel_rfl) ⟨trivial, trivial⟩ ?_
    refine VO.nil ?_
    show VW _ _ _ _ _ _ _
    refine VW.join (fun s => ∃ (x7 : ByteArray), s = ⟨[(3, S x7)], []⟩ ∧ F59_j0 N x7 = some r) ?_ ?_
    · refine VW.block ?_
      refine VW.loopL (fun k s => ∃ (x11 : Int) (x12 : ByteArray), s = ⟨[(0, I x11), (3, S x12)], []⟩ ∧ F59_l0 N k x11 x12 = some r) N [.ren [0, 3] []] (by kernel_rfl) ⟨a0, ByteArray.empty, rfl, h⟩ ?_
      rintro k14 s ⟨x11, x12, rfl, h⟩
      cases k14 with
      | zero => exact nomatch (show (none : Option (ByteArray)) = some r from h)
      | succ k14 =>
        replace h : F59_l0_b N (F59_l0 N k14) x11 x12 = some r := h
        unfold F59_l0_b at h
        refine VW.seq ?_
        refine VW.seq ?_
        refine VW.region ?_
        refine VO.seg T_ok .dp 2 [0, 3, 7] [] (s' := ⟨[(0, I x11), (3, S x12), (7, B (decide (x11 > (0 : Int))))], []⟩) (φ := True ∧ True ∧ True) (by kernel_rfl) ⟨trivial, trivial, trivial⟩ ?_
        refine VO.nil ?_
        show VW _ _ _ _ _ _ _
        refine VW.cond (b := (decide (x11 > (0 : Int)))) (by kernel_rfl) (fun hb => ?_) (fun hb => ?_)
        · replace h := cond_t h hb; clear hb
          refine VW.skip ?_
          show VW _ _ _ _ _ _ _
          refine VW.block ?_
          refine VW.seq ?_
          refine VW.region ?_
          obtain ⟨g15, h⟩ := gd_some h
          refine VO.seg T_ok .dp 9 [0, 3] [] (s' := ⟨[(0, I x11), (3, S ((strOfNums ([(IntKind.u8.wrap (IntKind.i64.wrap ((48 : Int) + (Int.tmod x11 (10 : Int)))))])) ++ x12))], []⟩) (φ := True ∧ ((10 : Int) ≠ 0) ∧ True ∧ True ∧ True ∧ True ∧ True ∧ ((strOfNums ([(IntKind.u8.wrap (IntKind.i64.wrap ((48 : Int) + (Int.tmod x11 (10 : Int)))))])).size + x12.size ≤ 9223372036854775807) ∧ True ∧ True) (by kernel_rfl) ⟨trivial, (by decide), trivial, trivial, trivial, trivial, trivial, g15, trivial, trivial⟩ ?_
          refine VO.nil ?_
          show VW _ _ _ _ _ _ _
          refine VW.region ?_
          refine VO.seg T_ok .dp 3 [0, 3] [] (s' := ⟨[(0, I (IntKind.i64.wrap (Int.tdiv x11 (10 : Int)))), (3, S ((strOfNums ([(IntKind.u8.wrap (IntKind.i64.wrap ((48 : Int) + (Int.tmod x11 (10 : Int)))))])) ++ x12))], []⟩) (φ := True ∧ ((10 : Int) ≠ 0) ∧ True ∧ True) (by kernel_rfl) ⟨trivial, (by decide), trivial, trivial⟩ ?_
          refine VO.nil ?_
          exact around [.ren [0, 3] []] (by kernel_rfl) ⟨(IntKind.i64.wrap (Int.tdiv x11 (10 : Int))), ((strOfNums ([(IntKind.u8.wrap (IntKind.i64.wrap ((48 : Int) + (Int.tmod x11 (10 : Int)))))])) ++ x12), rfl, h⟩
        · replace h := cond_f h hb; clear hb
          refine VW.exit ?_
          exact arrive [.ren [3] []] (by kernel_rfl) ⟨x12, rfl, h⟩
    · rintro s ⟨x7, rfl, h⟩
      unfold F59_j0 at h
      refine VW.seq ?_
      refine VW.region ?_
      obtain ⟨g8, h⟩ := gd_some h
      refine VO.seg T_ok .dp 3 [2] [] (s' := ⟨[(2, S ((⟨#[109]⟩ : ByteArray) ++ x7))], []⟩) (φ := True ∧ ((⟨#[109]⟩ : ByteArray).size + x7.size ≤ 9223372036854775807) ∧ True ∧ True) (by kernel_rfl) ⟨trivial, g8, trivial, trivial⟩ ?_
      refine VO.nil ?_
      show VW _ _ _ _ _ _ _
      refine VW.ret ?_
      replace h := Option.some.inj h
      subst h
      exact retR [] (by kernel_rfl) rfl

/- loop.example/g00844/spec.l01Number -/
def F104 (N : Nat) (a0 : Int) : Option (Bool) :=
  andO (F53 N a0 (-1000000 : Int) (1000000 : Int)) fun y1 => some y1
theorem ok104 (N : Nat) (a0 : Int) {r : Bool} (h : F104 N a0 = some r) : Con Go.Proofs.Try.prog 104 [I a0] [.lf (.v .bool r)] := by
  refine ⟨enters_of Go.Proofs.Try.func104 rfl (by decide), HC.intro [.lf (.v .bool)] T_ok Go.Proofs.Try.func104 rfl (Nat.le_of_ble_eq_true rfl) (Nat.le_of_ble_eq_true rfl) fun w0 E0 => ?_⟩
  unfold F104 at h
  show VW _ _ _ _ _ (retQ _ _ _ _) _
  refine VW.seq ?_
  refine VW.region ?_
  refine VO.seg T_ok .dp 1 [0] [] (s' := ⟨[(0, I a0)], []⟩) (φ := True ∧ True) (by kernel_rfl) ⟨trivial, trivial⟩ ?_
  refine VO.nil ?_
  show VW _ _ _ _ _ _ _
  refine VW.seq ?_
  refine VW.region ?_
  refine VO.seg T_ok .dp 1 [3] [] (s' := ⟨[(3, I a0)], []⟩) (φ := True ∧ True) (by kernel_rfl) ⟨trivial, trivial⟩ ?_
  obtain ⟨y1, hy, h⟩ := andO_some h
  refine VO.call false [.t (.int .i64), .t (.int .i64), .t (.int .i64)] [] T_ok (d := some 4) (by kernel_rfl) (ok53 N _ _ _ hy) rfl ?_
  refine VO.seg T_ok .dp 1 [2] [] (s' := ⟨[(2, B y1)], []⟩) (φ := True ∧ True) (by kernel_rfl) ⟨trivial, trivial⟩ ?_
  refine VO.nil ?_
  show VW _ _ _ _ _ _ _
  refine VW.ret ?_
  replace h := Option.some.inj h
  subst h
  exact retR [] (by kernel_rfl) rfl

/- loop.example/g00844/spec.WordOk -/
def F134_j0 (N : Nat) : Option (Bool) :=
  some true
def F134_j1 (N : Nat) (nx74 : Int → Option (Bool)) (x60 : Int) : Option (Bool) :=
  nx74 (IntKind.i64.wrap (x60 + (1 : Int)))
def F134_l0_b (N : Nat) (a0 : ByteArray) (nx74 : Int → Option (Bool)) (x60 : Int) : Option (Bool) :=
  cond (decide (x60 < (a0.size : Int))) (gd (InR x60 a0.size) (cond (decide (((a0.data.getD x60.toNat 0).toNat : Int) < (97 : Int))) (gd (InR x60 a0.size) (cond (decide (((a0.data.getD x60.toNat 0).toNat : Int) < (48 : Int))) (some false) (gd (InR x60 a0.size) (cond (decide (((a0.data.getD x60.toNat 0).toNat : Int) > (57 : Int))) (some false) (F134_j1 N nx74 x60))))) (gd (InR x60 a0.size) (cond (decide (((a0.data.getD x60.toNat 0).toNat : Int) > (122 : Int))) (gd (InR x60 a0.size) (cond (decide (((a0.data.getD x60.toNat 0).toNat : Int) < (48 : Int))) (some false) (gd (InR x60 a0.size) (cond (decide (((a0.data.getD x60.toNat 0).toNat : Int) > (57 : Int))) (some false) (F134_j1 N nx74 x60))))) (F134_j1 N nx74 x60))))) (F134_j0 N)
def F134_l0 (N : Nat) (a0 : ByteArray) : Nat → Int → Option (Bool) := loopF (F134_l0_b N a0) (fun _ => none)
theorem F134_l0_s (N : Nat) (a0 : ByteArray) {k : Nat} (hk : 0 < k) (x60 : Int) : F134_l0 N a0 k x60 = F134_l0_b N a0 (F134_l0 N a0 (k - 1)) x60 := by
  cases k with
  | zero => exact absurd hk (Nat.lt_irrefl 0)
  | succ m => rfl
def F134 (N : Nat) (a0 : ByteArray) : Option (Bool) :=
  andO (F53 N (a0.size : Int) (1 : Int) (12 : Int)) fun y3 => cond (!y3) (some false) (gd (InR (0 : Int) a0.size) (cond (decide (((a0.data.getD (0 : Int).toNat 0).toNat : Int) < (97 : Int))) (some false) (F134_l0 N a0 N (0 : Int))))
theorem ok134 (N : Nat) (a0 : ByteArray) {r : Bool} (h : F134 N a0 = some r) : Con Go.Proofs.Try.prog 134 [S a0] [.lf (.v .bool r)] := by
  refine ⟨enters_of Go.Proofs.Try.func134 rfl (by decide), HC.intro [.lf (.v .bool)] T_ok Go.Proofs.Try.func134 rfl (Nat.le_of_ble_eq_true rfl) (Nat.le_of_ble_eq_true rfl) fun w0 E0 => ?_⟩
  unfold F134 at h
  show VW _ _ _ _ _ (retQ _ _ _ _) _
  refine VW.seq ?_
  refine VW.region ?_
  refine VO.seg T_ok .dp 1 [0] [] (s' := ⟨[(0, S a0)], []⟩) (φ := True ∧ True) (by kernel_rfl) ⟨trivial, trivial⟩ ?_
  refine VO.nil ?_
  show VW _ _ _ _ _ _ _
  refine VW.seq ?_
  refine VW.seq ?_
  refine VW.region ?_
  refine VO.seg T_ok .dp 2 [0, 5] [] (s' := ⟨[(0, S a0), (5, I (a0.size : Int))], []⟩) (φ := True ∧ True ∧ True) (by kernel_rfl) ⟨trivial, trivial, trivial⟩ ?_
  obtain ⟨y3, hy, h⟩ := andO_some h
  refine VO.call false [.t (.int .i64), .t (.int .i64), .t (.int .i64)] [] T_ok (d := some 6) (by kernel_rfl) (ok53 N _ _ _ hy) rfl ?_
  refine VO.seg T_ok .dp 2 [0, 8] [] (s' := ⟨[(0, S a0), (8, B (!y3))], []⟩) (φ := True ∧ True ∧ True) (by kernel_rfl) ⟨trivial, trivial, trivial⟩ ?_
  refine VO.splitB 8 (b := (!y3)) (by kernel_rfl) (fun hb => ?_) (fun hb => ?_)
  · replace h := cond_t h hb; clear hb
    refine VO.seg T_ok .dp 4 [0, 12] [] (s' := ⟨[(0, S a0), (12, B true)], []⟩) (φ := True ∧ True ∧ True ∧ True ∧ True) (by kernel_rfl) ⟨trivial, trivial, trivial, trivial, trivial⟩ ?_
    refine VO.nil ?_
    show VW _ _ _ _ _ _ _
    refine VW.cond (b := true) (by kernel_rfl) (fun _ => ?_) (fun h' => nomatch h')
    refine VW.seq ?_
    refine VW.region ?_
    refine VO.seg T_ok .dp 1 [2] [] (s' := ⟨[(2, B false)], []⟩) (φ := True ∧ True) (by kernel_rfl) ⟨trivial, trivial⟩ ?_
    refine VO.nil ?_
    show VW _ _ _ _ _ _ _
    refine VW.ret ?_
    replace h := Option.some.inj h
    subst h
    exact retR [] (by kernel_rfl) rfl
  · replace h := cond_f h hb; clear hb
    obtain ⟨g4, h⟩ := gd_some h
    refine VO.seg T_ok .dp 4 [0, 12] [] (s' := ⟨[(0, S a0), (12, B (decide (((a0.data.getD (0 : Int).toNat 0).toNat : Int) < (97 : Int))))], []⟩) (φ := True ∧ (InR (0 : Int) a0.size) ∧ True ∧ True ∧ True) (by kernel_rfl) ⟨trivial, g4, trivial, trivial, trivial⟩ ?_
    refine VO.nil ?_
    show VW _ _ _ _ _ _ _
    refine VW.cond (b := (decide (((a0.data.getD (0 : Int).toNat 0).toNat : Int) < (97 : Int)))) (by kernel_rfl) (fun hb => ?_) (fun hb => ?_)
    · replace h := cond_t h hb; clear hb
      refine VW.seq ?_
      refine VW.region ?_
      refine VO.seg T_ok .dp 1 [2] [] (s' := ⟨[(2, B false)], []⟩) (φ := True ∧ True) (by kernel_rfl) ⟨trivial, trivial⟩ ?_
      refine VO.nil ?_
      show VW _ _ _ _ _ _ _
      refine VW.ret ?_
      replace h := Option.some.inj h
      subst h
      exact retR [] (by kernel_rfl) rfl
    · replace h := cond_f h hb; clear hb
      refine VW.skip ?_
      show VW _ _ _ _ _ _ _
      refine VW.join (fun s => s = ⟨[], []⟩ ∧ F134_j0 N = some r) ?_ ?_
      · refine VW.seq ?_
        refine VW.region ?_
        refine VO.seg T_ok .dp 1 [0, 3] [] (s' := ⟨[(0, S a0), (3, I (0 : Int))], []⟩) (φ := True ∧ True) (by kernel_rfl) ⟨trivial, trivial⟩ ?_
        refine VO.nil ?_
        show VW _ _ _ _ _ _ _
        refine VW.block ?_
        refine VW.loopL (fun k s => ∃ (x60 : Int), s = ⟨[(0, S a0), (3, I x60)], []⟩ ∧ F134_l0 N a0 k x60 = some r) N [.ren [0, 3] []] (by kernel_rfl) ⟨(0 : Int), rfl, h⟩ ?_
        rintro k74 s ⟨x60, rfl, h⟩
        cases k74 with
        | zero => exact nomatch (show (none : Option (Bool)) = some r from h)
        | succ k74 =>
          replace h : F134_l0_b N a0 (F134_l0 N a0 k74) x60 = some r := h
          unfold F134_l0_b at h
          refine VW.seq ?_
          refine VW.seq ?_
          refine VW.region ?_
          refine VO.seg T_ok .dp 4 [0, 3, 16] [] (s' := ⟨[(0, S a0), (3, I x60), (16, B (decide (x60 < (a0.size : Int))))], []⟩) (φ := True ∧ True ∧ True ∧ True ∧ True) (by kernel_rfl) ⟨trivial, trivial, trivial, trivial, trivial⟩ ?_
          refine VO.nil ?_
          show VW _ _ _ _ _ _ _
          refine VW.cond (b := (decide (x60 < (a0.size : Int)))) (by kernel_rfl) (fun hb => ?_) (fun hb => ?_)
          · replace h := cond_t h hb; clear hb
            refine VW.skip ?_
            show VW _ _ _ _ _ _ _
            refine VW.join (fun s => s = ⟨[(0, S a0), (3, I x60)], []⟩ ∧ F134_j1 N (F134_l0 N a0 k74) x60 = some r) ?_ ?_
            · refine VW.block ?_
              refine VW.seq ?_
              refine VW.region ?_
              obtain ⟨g82, h⟩ := gd_some h
              refine VO.seg T_ok .dp 5 [0, 3, 23] [] (s' := ⟨[(0, S a0), (3, I x60), (23, B (decide (((a0.data.getD x60.toNat 0).toNat : Int) < (97 : Int))))], []⟩) (φ := True ∧ True ∧ (InR x60 a0.size) ∧ True ∧ True ∧ True) (by kernel_rfl) ⟨trivial, trivial, g82, trivial, trivial, trivial⟩ ?_
              refine VO.splitB 23 (b := (decide (((a0.data.getD x60.toNat 0).toNat : Int) < (97 : Int)))) (by kernel_rfl) (fun hb => ?_) (fun hb => ?_)
              · replace h := cond_t h hb; clear hb
                obtain ⟨g83, h⟩ := gd_some h
                refine VO.seg T_ok .dp 11 [0, 3, 29, 34] [] (s' := ⟨[(0, S a0), (3, I x60), (29, B true), (34, B (decide (((a0.data.getD x60.toNat 0).toNat : Int) < (48 : Int))))], []⟩) (φ := True ∧ True ∧ True ∧ True ∧ True ∧ True ∧ True ∧ True ∧ (InR x60 a0.size) ∧ True ∧ True ∧ True) (by kernel_rfl) ⟨trivial, trivial, trivial, trivial, trivial, trivial, trivial, trivial, g83, trivial, trivial, trivial⟩ ?_
                refine VO.splitB 34 (b := (decide (((a0.data.getD x60.toNat 0).toNat : Int) < (48 : Int)))) (by kernel_rfl) (fun hb => ?_) (fun hb => ?_)
                · replace h := cond_t h hb; clear hb
                  refine VO.seg T_ok .dp 6 [0, 3, 40] [] (s' := ⟨[(0, S a0), (3, I x60), (40, B true)], []⟩) (φ := True ∧ True ∧ True ∧ True ∧ True ∧ True ∧ True) (by kernel_rfl) ⟨trivial, trivial, trivial, trivial, trivial, trivial, trivial⟩ ?_
                  refine VO.nil ?_
                  show VW _ _ _ _ _ _ _
                  refine VW.cond (b := true) (by kernel_rfl) (fun _ => ?_) (fun h' => nomatch h')
                  refine VW.seq ?_
                  refine VW.region ?_
                  refine VO.seg T_ok .dp 1 [2] [] (s' := ⟨[(2, B false)], []⟩) (φ := True ∧ True) (by kernel_rfl) ⟨trivial, trivial⟩ ?_
                  refine VO.nil ?_
                  show VW _ _ _ _ _ _ _
                  refine VW.ret ?_
                  replace h := Option.some.inj h
                  subst h
                  exact retR [] (by kernel_rfl) rfl
                · replace h := cond_f h hb; clear hb
                  obtain ⟨g84, h⟩ := gd_some h
                  refine VO.seg T_ok .dp 6 [0, 3, 40] [] (s' := ⟨[(0, S a0), (3, I x60), (40, B (decide (((a0.data.getD x60.toNat 0).toNat : Int) > (57 : Int))))], []⟩) (φ := True ∧ True ∧ (InR x60 a0.size) ∧ True ∧ True ∧ True ∧ True) (by kernel_rfl) ⟨trivial, trivial, g84, trivial, trivial, trivial, trivial⟩ ?_
                  refine VO.nil ?_
                  show VW _ _ _ _ _ _ _
                  refine VW.cond (b := (decide (((a0.data.getD x60.toNat 0).toNat : Int) > (57 : Int)))) (by kernel_rfl) (fun hb => ?_) (fun hb => ?_)
                  · replace h := cond_t h hb; clear hb
                    refine VW.seq ?_
                    refine VW.region ?_
                    refine VO.seg T_ok .dp 1 [2] [] (s' := ⟨[(2, B false)], []⟩) (φ := True ∧ True) (by kernel_rfl) ⟨trivial, trivial⟩ ?_
                    refine VO.nil ?_
                    show VW _ _ _ _ _ _ _
                    refine VW.ret ?_
                    replace h := Option.some.inj h
                    subst h
                    exact retR [] (by kernel_rfl) rfl
                  · replace h := cond_f h hb; clear hb
                    refine VW.skip ?_
                    exact arrive [.ren [0, 3] []] (by kernel_rfl) ⟨rfl, h⟩
              · replace h := cond_f h hb; clear hb
                obtain ⟨g85, h⟩ := gd_some h
                refine VO.seg T_ok .dp 6 [0, 3, 29] [] (s' := ⟨[(0, S a0), (3, I x60), (29, B (decide (((a0.data.getD x60.toNat 0).toNat : Int) > (122 : Int))))], []⟩) (φ := True ∧ True ∧ (InR x60 a0.size) ∧ True ∧ True ∧ True ∧ True) (by kernel_rfl) ⟨trivial, trivial, g85, trivial, trivial, trivial, trivial⟩ ?_
                refine VO.splitB 29 (b := (decide (((a0.data.getD x60.toNat 0).toNat : Int) > (122 : Int)))) (by kernel_rfl) (fun hb => ?_) (fun hb => ?_)
                · replace h := cond_t h hb; clear hb
                  obtain ⟨g86, h⟩ := gd_some h
                  refine VO.seg T_ok .dp 5 [0, 3, 29, 34] [] (s' := ⟨[(0, S a0), (3, I x60), (29, B true), (34, B (decide (((a0.data.getD x60.toNat 0).toNat : Int) < (48 : Int))))], []⟩) (φ := True ∧ True ∧ (InR x60 a0.size) ∧ True ∧ True ∧ True) (by kernel_rfl) ⟨trivial, trivial, g86, trivial, trivial, trivial⟩ ?_
                  refine VO.splitB 34 (b := (decide (((a0.data.getD x60.toNat 0).toNat : Int) < (48 : Int)))) (by kernel_rfl) (fun hb => ?_) (fun hb => ?_)
                  · replace h := cond_t h hb; clear hb
                    refine VO.seg T_ok .dp 6 [0, 3, 40] [] (s' := ⟨[(0, S a0), (3, I x60), (40, B true)], []⟩) (φ := True ∧ True ∧ True ∧ True ∧ True ∧ True ∧ True) (by kernel_rfl) ⟨trivial, trivial, trivial, trivial, trivial, trivial, trivial⟩ ?_
                    refine VO.nil ?_
                    show VW _ _ _ _ _ _ _
                    refine VW.cond (b := true) (by kernel_rfl) (fun _ => ?_) (fun h' => nomatch h')
                    refine VW.seq ?_
                    refine VW.region ?_
                    refine VO.seg T_ok .dp 1 [2] [] (s' := ⟨[(2, B false)], []⟩) (φ := True ∧ True) (by kernel_rfl) ⟨trivial, trivial⟩ ?_
                    refine VO.nil ?_
                    show VW _ _ _ _ _ _ _
                    refine VW.ret ?_
                    replace h := Option.some.inj h
                    subst h
                    exact retR [] (by kernel_rfl) rfl
                  · replace h := cond_f h hb; clear hb
                    obtain ⟨g87, h⟩ := gd_some h
                    refine VO.seg T_ok .dp 6 [0, 3, 40] [] (s' := ⟨[(0, S a0), (3, I x60), (40, B (decide (((a0.data.getD x60.toNat 0).toNat : Int) > (57 : Int))))], []⟩) (φ := True ∧ True ∧ (InR x60 a0.size) ∧ True ∧ True ∧ True ∧ True) (by kernel_rfl) ⟨trivial, trivial, g87, trivial, trivial, trivial, trivial⟩ ?_
                    refine VO.nil ?_
                    show VW _ _ _ _ _ _ _
                    refine VW.cond (b := (decide (((a0.data.getD x60.toNat 0).toNat : Int) > (57 : Int)))) (by kernel_rfl) (fun hb => ?_) (fun hb => ?_)
                    · replace h := cond_t h hb; clear hb
                      refine VW.seq ?_
                      refine VW.region ?_
                      refine VO.seg T_ok .dp 1 [2] [] (s' := ⟨[(2, B false)], []⟩) (φ := True ∧ True) (by kernel_rfl) ⟨trivial, trivial⟩ ?_
                      refine VO.nil ?_
                      show VW _ _ _ _ _ _ _
                      refine VW.ret ?_
                      replace h := Option.some.inj h
                      subst h
                      exact retR [] (by kernel_rfl) rfl
                    · replace h := cond_f h hb; clear hb
                      refine VW.skip ?_
                      exact arrive [.ren [0, 3] []] (by kernel_rfl) ⟨rfl, h⟩
                · replace h := cond_f h hb; clear hb
                  refine VO.seg T_ok .dp 11 [0, 3, 40] [] (s' := ⟨[(0, S a0), (3, I x60), (40, B false)], []⟩) (φ := True ∧ True ∧ True ∧ True ∧ True ∧ True ∧ True ∧ True ∧ True ∧ True ∧ True ∧ True) (by kernel_rfl) ⟨trivial, trivial, trivial, trivial, trivial, trivial, trivial, trivial, trivial, trivial, trivial, trivial⟩ ?_
                  refine VO.nil ?_
                  show VW _ _ _ _ _ _ _
                  refine VW.cond (b := false) (by kernel_rfl) (fun h' => nomatch h') (fun _ => ?_)
                  refine VW.skip ?_
                  exact arrive [.ren [0, 3] []] (by kernel_rfl) ⟨rfl, h⟩
            · rintro s ⟨rfl, h⟩
              unfold F134_j1 at h
              refine VW.region ?_
              refine VO.seg T_ok .dp 3 [0, 3] [] (s' := ⟨[(0, S a0), (3, I (IntKind.i64.wrap (x60 + (1 : Int))))], []⟩) (φ := True ∧ True ∧ True ∧ True) (by kernel_rfl) ⟨trivial, trivial, trivial, trivial⟩ ?_
              refine VO.nil ?_
              exact around [.ren [0, 3] []] (by kernel_rfl) ⟨(IntKind.i64.wrap (x60 + (1 : Int))), rfl, h⟩
          · replace h := cond_f h hb; clear hb
            refine VW.exit ?_
            exact arrive [.ren [] []] (by kernel_rfl) ⟨rfl, h⟩
      · rintro s ⟨rfl, h⟩
        unfold F134_j0 at h
        refine VW.seq ?_
        refine VW.region ?_
        refine VO.seg T_ok .dp 1 [2] [] (s' := ⟨[(2, B true)], []⟩) (φ := True ∧ True) (by kernel_rfl) ⟨trivial, trivial⟩ ?_
        refine VO.nil ?_
        show VW _ _ _ _ _ _ _
        refine VW.ret ?_
        replace h := Option.some.inj h
        subst h
        exact retR [] (by kernel_rfl) rfl

/- loop.example/g00844/spec.l02Col -/
def F142 (N : Nat) (a0 : Int) : Option (Bool) :=
  andO (F53 N a0 (0 : Int) (63 : Int)) fun y1 => some y1
theorem ok142 (N : Nat) (a0 : Int) {r : Bool} (h : F142 N a0 = some r) : Con Go.Proofs.Try.prog 142 [I a0] [.lf (.v .bool r)] := by
  refine ⟨enters_of Go.Proofs.Try.func142 rfl (by decide), HC.intro [.lf (.v .bool)] T_ok Go.Proofs.Try.func142 rfl (Nat.le_of_ble_eq_true rfl) (Nat.le_of_ble_eq_true rfl) fun w0 E0 => ?_⟩
  unfold F142 at h
  show VW _ _ _ _ _ (retQ _ _ _ _) _
  refine VW.seq ?_
  refine VW.region ?_
  refine VO.seg T_ok .dp 1 [0] [] (s' := ⟨[(0, I a0)], []⟩) (φ := True ∧ True) (by kernel_rfl) ⟨trivial, trivial⟩ ?_
  refine VO.nil ?_
  show VW _ _ _ _ _ _ _
  refine VW.seq ?_
  refine VW.region ?_
  refine VO.seg T_ok .dp 1 [3] [] (s' := ⟨[(3, I a0)], []⟩) (φ := True ∧ True) (by kernel_rfl) ⟨trivial, trivial⟩ ?_
  obtain ⟨y1, hy, h⟩ := andO_some h
  refine VO.call false [.t (.int .i64), .t (.int .i64), .t (.int .i64)] [] T_ok (d := some 4) (by kernel_rfl) (ok53 N _ _ _ hy) rfl ?_
  refine VO.seg T_ok .dp 1 [2] [] (s' := ⟨[(2, B y1)], []⟩) (φ := True ∧ True) (by kernel_rfl) ⟨trivial, trivial⟩ ?_
  refine VO.nil ?_
  show VW _ _ _ _ _ _ _
  refine VW.ret ?_
  replace h := Option.some.inj h
  subst h
  exact retR [] (by kernel_rfl) rfl

/- loop.example/g00844/spec.NodeOk -/
def F102_j0 (N : Nat) : Option (Bool) :=
  some false
def F102_j1 (N : Nat) (x11 : Int) (x13 : Int) (x14 : Bool) (x15 : (List Int)) : Option (Bool) :=
  andO (F53 N (x15.length : Int) (1 : Int) (6 : Int)) fun y75 => cond y75 (cond (x11 == (0 : Int)) (cond (x13 == (0 : Int)) (some (!x14)) (some false)) (some false)) (some false)
def F102_l0_b (N : Nat) (x11 : Int) (x13 : Int) (x14 : Bool) (x15 : (List Int)) (nx86 : Int → Option (Bool)) (x81 : Int) : Option (Bool) :=
  cond (decide (x81 < (x15.length : Int))) (gd (InR x81 x15.length) (andO (F142 N (x15.getD x81.toNat (Ty.dflt (.int .i64)))) fun y90 => cond (!y90) (some false) (nx86 (IntKind.i64.wrap (x81 + (1 : Int)))))) (F102_j1 N x11 x13 x14 x15)
def F102_l0 (N : Nat) (x11 : Int) (x13 : Int) (x14 : Bool) (x15 : (List Int)) : Nat → Int → Option (Bool) := loopF (F102_l0_b N x11 x13 x14 x15) (fun _ => none)
theorem F102_l0_s (N : Nat) (x11 : Int) (x13 : Int) (x14 : Bool) (x15 : (List Int)) {k : Nat} (hk : 0 < k) (x81 : Int) : F102_l0 N x11 x13 x14 x15 k x81 = F102_l0_b N x11 x13 x14 x15 (F102_l0 N x11 x13 x14 x15 (k - 1)) x81 := by
  cases k with
  | zero => exact absurd hk (Nat.lt_irrefl 0)
  | succ m => rfl
def F102_j2 (N : Nat) (x11 : Int) (x13 : Int) (x14 : Bool) (x95 : Bool) : Option (Bool) :=
  cond x95 (cond (x11 == (0 : Int)) (cond (x13 == (0 : Int)) (some (!x14)) (some false)) (some false)) (F102_j0 N)
def F102_j3 (N : Nat) (x9 : Int) (x10 : ByteArray) (x11 : Int) (x12 : Int) (x13 : Int) (x14 : Bool) (x15 : (List Int)) : Option (Bool) :=
  cond (x9 == (0 : Int)) (andO (F134 N x10) fun y57 => cond y57 (cond (x11 == (0 : Int)) (cond (x13 == (0 : Int)) (some (!x14)) (some false)) (some false)) (some false)) (cond (x9 == (1 : Int)) (andO (F142 N x11) fun y58 => cond y58 (andO (F53 N x12 (0 : Int) (3 : Int)) fun y59 => cond y59 (andO (F104 N x13) fun y60 => cond y60 (cond (x12 != (3 : Int)) (some true) (cond (x13 == (0 : Int)) (some (!x14)) (some false))) (some false)) (some false)) (some false)) (cond (x9 == (2 : Int)) (F102_l0 N x11 x13 x14 x15 N (0 : Int)) (cond (x9 == (3 : Int)) (andO (F142 N x11) fun y91 => cond y91 (andO (F142 N x13) fun y92 => cond y92 (some (!x14)) (some false)) (some false)) (cond (x9 == (5 : Int)) (andO (F142 N x11) fun y93 => cond y93 (cond (x13 == (0 : Int)) (some (!x14)) (some false)) (some false)) (cond (x9 == (6 : Int)) (cond (x11 == (0 : Int)) (andO (F53 N x13 (0 : Int) (1000000 : Int)) fun y94 => some y94) (some false)) (cond (x9 == (4 : Int)) (F102_j2 N x11 x13 x14 (x9 == (4 : Int))) (F102_j2 N x11 x13 x14 (x9 == (7 : Int)))))))))
def F102 (N : Nat) (a0 : (Int × (ByteArray × (Int × (Int × (Int × (Bool × (List Int)))))))) : Option (Bool) :=
  cond (a0.1 != (0 : Int)) (cond (!(a0.2.1.toList == ByteArray.empty.toList)) (some false) (cond (a0.1 != (2 : Int)) (cond (decide ((a0.2.2.2.2.2.2.length : Int) > (0 : Int))) (some false) (cond (a0.1 != (1 : Int)) (cond (a0.2.2.2.1 != (0 : Int)) (some false) (cond a0.2.2.2.2.2.1 (andO (F53 N a0.2.2.2.2.1 (0 : Int) (39 : Int)) fun y98 => cond (!y98) (some false) (F102_j3 N a0.1 a0.2.1 a0.2.2.1 a0.2.2.2.1 a0.2.2.2.2.1 a0.2.2.2.2.2.1 a0.2.2.2.2.2.2)) (F102_j3 N a0.1 a0.2.1 a0.2.2.1 a0.2.2.2.1 a0.2.2.2.2.1 a0.2.2.2.2.2.1 a0.2.2.2.2.2.2))) (cond a0.2.2.2.2.2.1 (andO (F53 N a0.2.2.2.2.1 (0 : Int) (39 : Int)) fun y99 => cond (!y99) (some false) (F102_j3 N a0.1 a0.2.1 a0.2.2.1 a0.2.2.2.1 a0.2.2.2.2.1 a0.2.2.2.2.2.1 a0.2.2.2.2.2.2)) (F102_j3 N a0.1 a0.2.1 a0.2.2.1 a0.2.2.2.1 a0.2.2.2.2.1 a0.2.2.2.2.2.1 a0.2.2.2.2.2.2)))) (cond (a0.1 != (1 : Int)) (cond (a0.2.2.2.1 != (0 : Int)) (some false) (cond a0.2.2.2.2.2.1 (andO (F53 N a0.2.2.2.2.1 (0 : Int) (39 : Int)) fun y100 => cond (!y100) (some false) (F102_j3 N a0.1 a0.2.1 a0.2.2.1 a0.2.2.2.1 a0.2.2.2.2.1 a0.2.2.2.2.2.1 a0.2.2.2.2.2.2)) (F102_j3 N a0.1 a0.2.1 a0.2.2.1 a0.2.2.2.1 a0.2.2.2.2.1 a0.2.2.2.2.2.1 a0.2.2.2.2.2.2))) (cond a0.2.2.2.2.2.1 (andO (F53 N a0.2.2.2.2.1 (0 : Int) (39 : Int)) fun y101 => cond (!y101) (some false) (F102_j3 N a0.1 a0.2.1 a0.2.2.1 a0.2.2.2.1 a0.2.2.2.2.1 a0.2.2.2.2.2.1 a0.2.2.2.2.2.2)) (F102_j3 N a0.1 a0.2.1 a0.2.2.1 a0.2.2.2.1 a0.2.2.2.2.1 a0.2.2.2.2.2.1 a0.2.2.2.2.2.2))))) (cond (a0.1 != (2 : Int)) (cond (decide ((a0.2.2.2.2.2.2.length : Int) > (0 : Int))) (some false) (cond (a0.1 != (1 : Int)) (cond (a0.2.2.2.1 != (0 : Int)) (some false) (cond a0.2.2.2.2.2.1 (andO (F53 N a0.2.2.2.2.1 (0 : Int) (39 : Int)) fun y102 => cond (!y102) (some false) (F102_j3 N a0.1 a0.2.1 a0.2.2.1 a0.2.2.2.1 a0.2.2.2.2.1 a0.2.2.2.2.2.1 a0.2.2.2.2.2.2)) (F102_j3 N a0.1 a0.2.1 a0.2.2.1 a0.2.2.2.1 a0.2.2.2.2.1 a0.2.2.2.2.2.1 a0.2.2.2.2.2.2))) (cond a0.2.2.2.2.2.1 (andO (F53 N a0.2.2.2.2.1 (0 : Int) (39 : Int)) fun y103 => cond (!y103) (some false) (F102_j3 N a0.1 a0.2.1 a0.2.2.1 a0.2.2.2.1 a0.2.2.2.2.1 a0.2.2.2.2.2.1 a0.2.2.2.2.2.2)) (F102_j3 N a0.1 a0.2.1 a0.2.2.1 a0.2.2.2.1 a0.2.2.2.2.1 a0.2.2.2.2.2.1 a0.2.2.2.2.2.2)))) (cond (a0.1 != (1 : Int)) (cond (a0.2.2.2.1 != (0 : Int)) (some false) (cond a0.2.2.2.2.2.1 (andO (F53 N a0.2.2.2.2.1 (0 : Int) (39 : Int)) fun y104 => cond (!y104) (some false) (F102_j3 N a0.1 a0.2.1 a0.2.2.1 a0.2.2.2.1 a0.2.2.2.2.1 a0.2.2.2.2.2.1 a0.2.2.2.2.2.2)) (F102_j3 N a0.1 a0.2.1 a0.2.2.1 a0.2.2.2.1 a0.2.2.2.2.1 a0.2.2.2.2.2.1 a0.2.2.2.2.2.2))) (cond a0.2.2.2.2.2.1 (andO (F53 N a0.2.2.2.2.1 (0 : Int) (39 : Int)) fun y105 => cond (!y105) (some false) (F102_j3 N a0.1 a0.2.1 a0.2.2.1 a0.2.2.2.1 a0.2.2.2.2.1 a0.2.2.2.2.2.1 a0.2.2.2.2.2.2)) (F102_j3 N a0.1 a0.2.1 a0.2.2.1 a0.2.2.2.1 a0.2.2.2.2.1 a0.2.2.2.2.2.1 a0.2.2.2.2.2.2))))
theorem ok102 (N : Nat) (a0 : (Int × (ByteArray × (Int × (Int × (Int × (Bool × (List Int)))))))) {r : Bool} (h : F102 N a0 = some r) : Con Go.Proofs.Try.prog 102 [.agg [.v (.int .i64) a0.1, .v .str a0.2.1, .v (.int .i64) a0.2.2.1, .v (.int .i64) a0.2.2.2.1, .v (.int .i64) a0.2.2.2.2.1, .v .bool a0.2.2.2.2.2.1, .v (.sl (.int .i64)) a0.2.2.2.2.2.2]] [.lf (.v .bool r)] := by
  refine ⟨enters_of Go.Proofs.Try.func102 rfl (by decide), HC.intro [.lf (.v .bool)] T_ok Go.Proofs.Try.func102 rfl (Nat.le_of_ble_eq_true rfl) (Nat.le_of_ble_eq_true rfl) fun w0 E0 => ?_⟩
  unfold F102 at h
  show VW _ _ _ _ _ (retQ _ _ _ _) _
  refine VW.seq ?_
  refine VW.region ?_
  refine VO.seg T_ok .dp 2 [1] [0] (s' := ⟨[(1, .lf (.ptr 0 0 0 0))], [bx [.v (.int .i64) a0.1, .v .str a0.2.1, .v (.int .i64) a0.2.2.1, .v (.int .i64) a0.2.2.2.1, .v (.int .i64) a0.2.2.2.2.1, .v .bool a0.2.2.2.2.2.1, .v (.sl (.int .i64)) a0.2.2.2.2.2.2] 90]⟩) (φ := True ∧ True ∧ True) (by kernel_rfl) ⟨trivial, trivial, trivial⟩ ?_
  refine VO.nil ?_
  show VW _ _ _ _ _ _ _
  refine VW.join (fun s => ∃ (x9 : Int) (x10 : ByteArray) (x11 : Int) (x12 : Int) (x13 : Int) (x14 : Bool) (x15 : (List Int)), s = ⟨[(1, .lf (.ptr 0 0 0 0))], [bx [.v (.int .i64) x9, .v .str x10, .v (.int .i64) x11, .v (.int .i64) x12, .v (.int .i64) x13, .v .bool x14, .v (.sl (.int .i64)) x15] 90]⟩ ∧ F102_j3 N x9 x10 x11 x12 x13 x14 x15 = some r) ?_ ?_
  · refine VW.seq ?_
    refine VW.region ?_
    refine VO.seg T_ok .dp 4 [1, 7] [0] (s' := ⟨[(1, .lf (.ptr 0 0 0 0)), (7, B (a0.1 != (0 : Int)))], [bx [.v (.int .i64) a0.1, .v .str a0.2.1, .v (.int .i64) a0.2.2.1, .v (.int .i64) a0.2.2.2.1, .v (.int .i64) a0.2.2.2.2.1, .v .bool a0.2.2.2.2.2.1, .v (.sl (.int .i64)) a0.2.2.2.2.2.2] 90]⟩) (φ := True ∧ True ∧ True ∧ True ∧ True) (by kernel_rfl) ⟨trivial, trivial, trivial, trivial, trivial⟩ ?_
    refine VO.splitB 7 (b := (a0.1 != (0 : Int))) (by kernel_rfl) (fun hb => ?_) (fun hb => ?_)
    · replace h := cond_t h hb; clear hb
      refine VO.seg T_ok .dp 5 [1, 12] [0] (s' := ⟨[(1, .lf (.ptr 0 0 0 0)), (12, B (!(a0.2.1.toList == ByteArray.empty.toList)))], [bx [.v (.int .i64) a0.1, .v .str a0.2.1, .v (.int .i64) a0.2.2.1, .v (.int .i64) a0.2.2.2.1, .v (.int .i64) a0.2.2.2.2.1, .v .bool a0.2.2.2.2.2.1, .v (.sl (.int .i64)) a0.2.2.2.2.2.2] 90]⟩) (φ := True ∧ True ∧ True ∧ True ∧ True ∧ True) (by kernel_rfl) ⟨trivial, trivial, trivial, trivial, trivial, trivial⟩ ?_
      refine VO.splitB 12 (b := (!(a0.2.1.toList == ByteArray.empty.toList))) (by kernel_rfl) (fun hb => ?_) (fun hb => ?_)
      · replace h := cond_t h hb; clear hb
        refine VO.seg T_ok .dp 30 [1, 42] [0] (s' := ⟨[(1, .lf (.ptr 0 0 0 0)), (42, B true)], [bx [.v (.int .i64) a0.1, .v .str a0.2.1, .v (.int .i64) a0.2.2.1, .v (.int .i64) a0.2.2.2.1, .v (.int .i64) a0.2.2.2.2.1, .v .bool a0.2.2.2.2.2.1, .v (.sl (.int .i64)) a0.2.2.2.2.2.2] 90]⟩) (φ := True ∧ True ∧ True ∧ True ∧ True ∧ True ∧ True ∧ True ∧ True ∧ True ∧ True ∧ True ∧ True ∧ True ∧ True ∧ True ∧ True ∧ True ∧ True ∧ True ∧ True ∧ True ∧ True ∧ True ∧ True ∧ True ∧ True ∧ True ∧ True ∧ True ∧ True) (by kernel_rfl) ⟨trivial, trivial, trivial, trivial, trivial, trivial, trivial, trivial, trivial, trivial, trivial, trivial, trivial, trivial, trivial, trivial, trivial, trivial, trivial, trivial, trivial, trivial, trivial, trivial, trivial, trivial, trivial, trivial, trivial, trivial, trivial⟩ ?_
        refine VO.nil ?_
        show VW _ _ _ _ _ _ _
        refine VW.cond (b := true) (by kernel_rfl) (fun _ => ?_) (fun h' => nomatch h')
        refine VW.seq ?_
        refine VW.region ?_
        refine VO.seg T_ok .dp 1 [2] [] (s' := ⟨[(2, B false)], []⟩) (φ := True ∧ True) (by kernel_rfl) ⟨trivial, trivial⟩ ?_
        refine VO.nil ?_
        show VW _ _ _ _ _ _ _
        refine VW.ret ?_
        replace h := Option.some.inj h
        subst h
        exact retR [] (by kernel_rfl) rfl
      · replace h := cond_f h hb; clear hb
        refine VO.seg T_ok .dp 4 [1, 12, 16] [0] (s' := ⟨[(1, .lf (.ptr 0 0 0 0)), (12, B false), (16, B (a0.1 != (2 : Int)))], [bx [.v (.int .i64) a0.1, .v .str a0.2.1, .v (.int .i64) a0.2.2.1, .v (.int .i64) a0.2.2.2.1, .v (.int .i64) a0.2.2.2.2.1, .v .bool a0.2.2.2.2.2.1, .v (.sl (.int .i64)) a0.2.2.2.2.2.2] 90]⟩) (φ := True ∧ True ∧ True ∧ True ∧ True) (by kernel_rfl) ⟨trivial, trivial, trivial, trivial, trivial⟩ ?_
        refine VO.splitB 16 (b := (a0.1 != (2 : Int))) (by kernel_rfl) (fun hb => ?_) (fun hb => ?_)
        · replace h := cond_t h hb; clear hb
          refine VO.seg T_ok .dp 7 [1, 23] [0] (s' := ⟨[(1, .lf (.ptr 0 0 0 0)), (23, B (decide ((a0.2.2.2.2.2.2.length : Int) > (0 : Int))))], [bx [.v (.int .i64) a0.1, .v .str a0.2.1, .v (.int .i64) a0.2.2.1, .v (.int .i64) a0.2.2.2.1, .v (.int .i64) a0.2.2.2.2.1, .v .bool a0.2.2.2.2.2.1, .v (.sl (.int .i64)) a0.2.2.2.2.2.2] 90]⟩) (φ := True ∧ True ∧ True ∧ True ∧ True ∧ True ∧ True ∧ True) (by kernel_rfl) ⟨trivial, trivial, trivial, trivial, trivial, trivial, trivial, trivial⟩ ?_
          refine VO.splitB 23 (b := (decide ((a0.2.2.2.2.2.2.length : Int) > (0 : Int)))) (by kernel_rfl) (fun hb => ?_) (fun hb => ?_)
          · replace h := cond_t h hb; clear hb
            refine VO.seg T_ok .dp 19 [1, 42] [0] (s' := ⟨[(1, .lf (.ptr 0 0 0 0)), (42, B true)], [bx [.v (.int .i64) a0.1, .v .str a0.2.1, .v (.int .i64) a0.2.2.1, .v (.int .i64) a0.2.2.2.1, .v (.int .i64) a0.2.2.2.2.1, .v .bool a0.2.2.2.2.2.1, .v (.sl (.int .i64)) a0.2.2.2.2.2.2] 90]⟩) (φ := True ∧ True ∧ True ∧ True ∧ True ∧ True ∧ True ∧ True ∧ True ∧ True ∧ True ∧ True ∧ True ∧ True ∧ True ∧ True ∧ True ∧ True ∧ True ∧ True) (by kernel_rfl) ⟨trivial, trivial, trivial, trivial, trivial, trivial, trivial, trivial, trivial, trivial, trivial, trivial, trivial, trivial, trivial, trivial, trivial, trivial, trivial, trivial⟩ ?_
            refine VO.nil ?_
            show VW _ _ _ _ _ _ _
            refine VW.cond (b := true) (by kernel_rfl) (fun _ => ?_) (fun h' => nomatch h')
            refine VW.seq ?_
            refine VW.region ?_
            refine VO.seg T_ok .dp 1 [2] [] (s' := ⟨[(2, B false)], []⟩) (φ := True ∧ True) (by kernel_rfl) ⟨trivial, trivial⟩ ?_
            refine VO.nil ?_
            show VW _ _ _ _ _ _ _
            refine VW.ret ?_
            replace h := Option.some.inj h
            subst h
            exact retR [] (by kernel_rfl) rfl
          · replace h := cond_f h hb; clear hb
            refine VO.seg T_ok .dp 4 [1, 23, 27] [0] (s' := ⟨[(1, .lf (.ptr 0 0 0 0)), (23, B false), (27, B (a0.1 != (1 : Int)))], [bx [.v (.int .i64) a0.1, .v .str a0.2.1, .v (.int .i64) a0.2.2.1, .v (.int .i64) a0.2.2.2.1, .v (.int .i64) a0.2.2.2.2.1, .v .bool a0.2.2.2.2.2.1, .v (.sl (.int .i64)) a0.2.2.2.2.2.2] 90]⟩) (φ := True ∧ True ∧ True ∧ True ∧ True) (by kernel_rfl) ⟨trivial, trivial, trivial, trivial, trivial⟩ ?_
            refine VO.splitB 27 (b := (a0.1 != (1 : Int))) (by kernel_rfl) (fun hb => ?_) (fun hb => ?_)
            · replace h := cond_t h hb; clear hb
              refine VO.seg T_ok .dp 6 [1, 33] [0] (s' := ⟨[(1, .lf (.ptr 0 0 0 0)), (33, B (a0.2.2.2.1 != (0 : Int)))], [bx [.v (.int .i64) a0.1, .v .str a0.2.1, .v (.int .i64) a0.2.2.1, .v (.int .i64) a0.2.2.2.1, .v (.int .i64) a0.2.2.2.2.1, .v .bool a0.2.2.2.2.2.1, .v (.sl (.int .i64)) a0.2.2.2.2.2.2] 90]⟩) (φ := True ∧ True ∧ True ∧ True ∧ True ∧ True ∧ True) (by kernel_rfl) ⟨trivial, trivial, trivial, trivial, trivial, trivial, trivial⟩ ?_
              refine VO.splitB 33 (b := (a0.2.2.2.1 != (0 : Int))) (by kernel_rfl) (fun hb => ?_) (fun hb => ?_)
              · replace h := cond_t h hb; clear hb
                refine VO.seg T_ok .dp 9 [1, 42] [0] (s' := ⟨[(1, .lf (.ptr 0 0 0 0)), (42, B true)], [bx [.v (.int .i64) a0.1, .v .str a0.2.1, .v (.int .i64) a0.2.2.1, .v (.int .i64) a0.2.2.2.1, .v (.int .i64) a0.2.2.2.2.1, .v .bool a0.2.2.2.2.2.1, .v (.sl (.int .i64)) a0.2.2.2.2.2.2] 90]⟩) (φ := True ∧ True ∧ True ∧ True ∧ True ∧ True ∧ True ∧ True ∧ True ∧ True) (by kernel_rfl) ⟨trivial, trivial, trivial, trivial, trivial, trivial, trivial, trivial, trivial, trivial⟩ ?_
                refine VO.nil ?_
                show VW _ _ _ _ _ _ _
                refine VW.cond (b := true) (by kernel_rfl) (fun _ => ?_) (fun h' => nomatch h')
                refine VW.seq ?_
                refine VW.region ?_
                refine VO.seg T_ok .dp 1 [2] [] (s' := ⟨[(2, B false)], []⟩) (φ := True ∧ True) (by kernel_rfl) ⟨trivial, trivial⟩ ?_
                refine VO.nil ?_
                show VW _ _ _ _ _ _ _
                refine VW.ret ?_
                replace h := Option.some.inj h
                subst h
                exact retR [] (by kernel_rfl) rfl
              · replace h := cond_f h hb; clear hb
                refine VO.seg T_ok .dp 3 [1, 33, 36] [0] (s' := ⟨[(1, .lf (.ptr 0 0 0 0)), (33, B false), (36, B a0.2.2.2.2.2.1)], [bx [.v (.int .i64) a0.1, .v .str a0.2.1, .v (.int .i64) a0.2.2.1, .v (.int .i64) a0.2.2.2.1, .v (.int .i64) a0.2.2.2.2.1, .v .bool a0.2.2.2.2.2.1, .v (.sl (.int .i64)) a0.2.2.2.2.2.2] 90]⟩) (φ := True ∧ True ∧ True ∧ True) (by kernel_rfl) ⟨trivial, trivial, trivial, trivial⟩ ?_
                refine VO.splitB 36 (b := a0.2.2.2.2.2.1) (by kernel_rfl) (fun hb => ?_) (fun hb => ?_)
                · replace h := cond_t h hb; clear hb
                  refine VO.seg T_ok .dp 2 [1, 33, 36, 38] [0] (s' := ⟨[(1, .lf (.ptr 0 0 0 0)), (33, B false), (36, B true), (38, I a0.2.2.2.2.1)], [bx [.v (.int .i64) a0.1, .v .str a0.2.1, .v (.int .i64) a0.2.2.1, .v (.int .i64) a0.2.2.2.1, .v (.int .i64) a0.2.2.2.2.1, .v .bool a0.2.2.2.2.2.1, .v (.sl (.int .i64)) a0.2.2.2.2.2.2] 90]⟩) (φ := True ∧ True ∧ True) (by kernel_rfl) ⟨trivial, trivial, trivial⟩ ?_
                  refine VO.on (j := 32) (want := true) (d := 36) (b := true) rfl rfl rfl (by kernel_rfl) rfl ?_
                  obtain ⟨y98, hy, h⟩ := andO_some h
                  refine VO.call false [.t (.int .i64), .t (.int .i64), .t (.int .i64)] [] T_ok (d := some 39) (by kernel_rfl) (ok53 N _ _ _ hy) rfl ?_
                  refine VO.seg T_ok .dp 3 [1, 42] [0] (s' := ⟨[(1, .lf (.ptr 0 0 0 0)), (42, B (!y98))], [bx [.v (.int .i64) a0.1, .v .str a0.2.1, .v (.int .i64) a0.2.2.1, .v (.int .i64) a0.2.2.2.1, .v (.int .i64) a0.2.2.2.2.1, .v .bool a0.2.2.2.2.2.1, .v (.sl (.int .i64)) a0.2.2.2.2.2.2] 90]⟩) (φ := True ∧ True ∧ True ∧ True) (by kernel_rfl) ⟨trivial, trivial, trivial, trivial⟩ ?_
                  refine VO.nil ?_
                  show VW _ _ _ _ _ _ _
                  refine VW.cond (b := (!y98)) (by kernel_rfl) (fun hb => ?_) (fun hb => ?_)
                  · replace h := cond_t h hb; clear hb
                    refine VW.seq ?_
                    refine VW.region ?_
                    refine VO.seg T_ok .dp 1 [2] [] (s' := ⟨[(2, B false)], []⟩) (φ := True ∧ True) (by kernel_rfl) ⟨trivial, trivial⟩ ?_
                    refine VO.nil ?_
                    show VW _ _ _ _ _ _ _
                    refine VW.ret ?_
                    replace h := Option.some.inj h
                    subst h
                    exact retR [] (by kernel_rfl) rfl
                  · replace h := cond_f h hb; clear hb
                    refine VW.skip ?_
                    exact arrive [.ren [1] [0]] (by kernel_rfl) ⟨a0.1, a0.2.1, a0.2.2.1, a0.2.2.2.1, a0.2.2.2.2.1, a0.2.2.2.2.2.1, a0.2.2.2.2.2.2, rfl, h⟩
                · replace h := cond_f h hb; clear hb
                  refine VO.seg T_ok .dp 6 [1, 42] [0] (s' := ⟨[(1, .lf (.ptr 0 0 0 0)), (42, B false)], [bx [.v (.int .i64) a0.1, .v .str a0.2.1, .v (.int .i64) a0.2.2.1, .v (.int .i64) a0.2.2.2.1, .v (.int .i64) a0.2.2.2.2.1, .v .bool a0.2.2.2.2.2.1, .v (.sl (.int .i64)) a0.2.2.2.2.2.2] 90]⟩) (φ := True ∧ True ∧ True ∧ True ∧ True ∧ True ∧ True) (by kernel_rfl) ⟨trivial, trivial, trivial, trivial, trivial, trivial, trivial⟩ ?_
                  refine VO.nil ?_
                  show VW _ _ _ _ _ _ _
                  refine VW.cond (b := false) (by kernel_rfl) (fun h' => nomatch h') (fun _ => ?_)
                  refine VW.skip ?_
                  exact arrive [.ren [1] [0]] (by kernel_rfl) ⟨a0.1, a0.2.1, a0.2.2.1, a0.2.2.2.1, a0.2.2.2.2.1, a0.2.2.2.2.2.1, a0.2.2.2.2.2.2, rfl, h⟩
            · replace h := cond_f h hb; clear hb
              refine VO.seg T_ok .dp 9 [1, 33, 36] [0] (s' := ⟨[(1, .lf (.ptr 0 0 0 0)), (33, B false), (36, B a0.2.2.2.2.2.1)], [bx [.v (.int .i64) a0.1, .v .str a0.2.1, .v (.int .i64) a0.2.2.1, .v (.int .i64) a0.2.2.2.1, .v (.int .i64) a0.2.2.2.2.1, .v .bool a0.2.2.2.2.2.1, .v (.sl (.int .i64)) a0.2.2.2.2.2.2] 90]⟩) (φ := True ∧ True ∧ True ∧ True ∧ True ∧ True ∧ True ∧ True ∧ True ∧ True) (by kernel_rfl) ⟨trivial, trivial, trivial, trivial, trivial, trivial, trivial, trivial, trivial, trivial⟩ ?_
              refine VO.splitB 36 (b := a0.2.2.2.2.2.1) (by kernel_rfl) (fun hb => ?_) (fun hb => ?_)
              · replace h := cond_t h hb; clear hb
                refine VO.seg T_ok .dp 2 [1, 33, 36, 38] [0] (s' := ⟨[(1, .lf (.ptr 0 0 0 0)), (33, B false), (36, B true), (38, I a0.2.2.2.2.1)], [bx [.v (.int .i64) a0.1, .v .str a0.2.1, .v (.int .i64) a0.2.2.1, .v (.int .i64) a0.2.2.2.1, .v (.int .i64) a0.2.2.2.2.1, .v .bool a0.2.2.2.2.2.1, .v (.sl (.int .i64)) a0.2.2.2.2.2.2] 90]⟩) (φ := True ∧ True ∧ True) (by kernel_rfl) ⟨trivial, trivial, trivial⟩ ?_
                refine VO.on (j := 32) (want := true) (d := 36) (b := true) rfl rfl rfl (by kernel_rfl) rfl ?_
                obtain ⟨y99, hy, h⟩ := andO_some h
                refine VO.call false [.t (.int .i64), .t (.int .i64), .t (.int .i64)] [] T_ok (d := some 39) (by kernel_rfl) (ok53 N _ _ _ hy) rfl ?_
                refine VO.seg T_ok .dp 3 [1, 42] [0] (s' := ⟨[(1, .lf (.ptr 0 0 0 0)), (42, B (!y99))], [bx [.v (.int .i64) a0.1, .v .str a0.2.1, .v (.int .i64) a0.2.2.1, .v (.int .i64) a0.2.2.2.1, .v (.int .i64) a0.2.2.2.2.1, .v .bool a0.2.2.2.2.2.1, .v (.sl (.int .i64)) a0.2.2.2.2.2.2] 90]⟩) (φ := True ∧ True ∧ True ∧ True) (by kernel_rfl) ⟨trivial, trivial, trivial, trivial⟩ ?_
                refine VO.nil ?_
                show VW _ _ _ _ _ _ _
                refine VW.cond (b := (!y99)) (by kernel_rfl) (fun hb => ?_) (fun hb => ?_)
                · replace h := cond_t h hb; clear hb
                  refine VW.seq ?_
                  refine VW.region ?_
                  refine VO.seg T_ok .dp 1 [2] [] (s' := ⟨[(2, B false)], []⟩) (φ := True ∧ True) (by kernel_rfl) ⟨trivial, trivial⟩ ?_
                  refine VO.nil ?_
                  show VW _ _ _ _ _ _ _
                  refine VW.ret ?_
                  replace h := Option.some.inj h
                  subst h
                  exact retR [] (by kernel_rfl) rfl
                · replace h := cond_f h hb; clear hb
                  refine VW.skip ?_
                  exact arrive [.ren [1] [0]] (by kernel_rfl) ⟨a0.1, a0.2.1, a0.2.2.1, a0.2.2.2.1, a0.2.2.2.2.1, a0.2.2.2.2.2.1, a0.2.2.2.2.2.2, rfl, h⟩
              · replace h := cond_f h hb; clear hb
                refine VO.seg T_ok .dp 6 [1, 42] [0] (s' := ⟨[(1, .lf (.ptr 0 0 0 0)), (42, B false)], [bx [.v (.int .i64) a0.1, .v .str a0.2.1, .v (.int .i64) a0.2.2.1, .v (.int .i64) a0.2.2.2.1, .v (.int .i64) a0.2.2.2.2.1, .v .bool a0.2.2.2.2.2.1, .v (.sl (.int .i64)) a0.2.2.2.2.2.2] 90]⟩) (φ := True ∧ True ∧ True ∧ True ∧ True ∧ True ∧ True) (by kernel_rfl) ⟨trivial, trivial, trivial, trivial, trivial, trivial, trivial⟩ ?_
                refine VO.nil ?_
                show VW _ _ _ _ _ _ _
                refine VW.cond (b := false) (by kernel_rfl) (fun h' => nomatch h') (fun _ => ?_)
                refine VW.skip ?_
                exact arrive [.ren [1] [0]] (by kernel_rfl) ⟨a0.1, a0.2.1, a0.2.2.1, a0.2.2.2.1, a0.2.2.2.2.1, a0.2.2.2.2.2.1, a0.2.2.2.2.2.2, rfl, h⟩
        · replace h := cond_f h hb; clear hb
          refine VO.seg T_ok .dp 11 [1, 23, 27] [0] (s' := ⟨[(1, .lf (.ptr 0 0 0 0)), (23, B false), (27, B (a0.1 != (1 : Int)))], [bx [.v (.int .i64) a0.1, .v .str a0.2.1, .v (.int .i64) a0.2.2.1, .v (.int .i64) a0.2.2.2.1, .v (.int .i64) a0.2.2.2.2.1, .v .bool a0.2.2.2.2.2.1, .v (.sl (.int .i64)) a0.2.2.2.2.2.2] 90]⟩) (φ := True ∧ True ∧ True ∧ True ∧ True ∧ True ∧ True ∧ True ∧ True ∧ True ∧ True ∧ True) (by kernel_rfl) ⟨trivial, trivial, trivial, trivial, trivial, trivial, trivial, trivial, trivial, trivial, trivial, trivial⟩ ?_
          refine VO.splitB 27 (b := (a0.1 != (1 : Int))) (by kernel_rfl) (fun hb => ?_) (fun hb => ?_)
          · replace h := cond_t h hb; clear hb
            refine VO.seg T_ok .dp 6 [1, 33] [0] (s' := ⟨[(1, .lf (.ptr 0 0 0 0)), (33, B (a0.2.2.2.1 != (0 : Int)))], [bx [.v (.int .i64) a0.1, .v .str a0.2.1, .v (.int .i64) a0.2.2.1, .v (.int .i64) a0.2.2.2.1, .v (.int .i64) a0.2.2.2.2.1, .v .bool a0.2.2.2.2.2.1, .v (.sl (.int .i64)) a0.2.2.2.2.2.2] 90]⟩) (φ := True ∧ True ∧ True ∧ True ∧ True ∧ True ∧ True) (by kernel_rfl) ⟨trivial, trivial, trivial, trivial, trivial, trivial, trivial⟩ ?_
            refine VO.splitB 33 (b := (a0.2.2.2.1 != (0 : Int))) (by kernel_rfl) (fun hb => ?_) (fun hb => ?_)
            · replace h := cond_t h hb; clear hb
              refine VO.seg T_ok .dp 9 [1, 42] [0] (s' := ⟨[(1, .lf (.ptr 0 0 0 0)), (42, B true)], [bx [.v (.int .i64) a0.1, .v .str a0.2.1, .v (.int .i64) a0.2.2.1, .v (.int .i64) a0.2.2.2.1, .v (.int .i64) a0.2.2.2.2.1, .v .bool a0.2.2.2.2.2.1, .v (.sl (.int .i64)) a0.2.2.2.2.2.2] 90]⟩) (φ := True ∧ True ∧ True ∧ True ∧ True ∧ True ∧ True ∧ True ∧ True ∧ True) (by kernel_rfl) ⟨trivial, trivial, trivial, trivial, trivial, trivial, trivial, trivial, trivial, trivial⟩ ?_
              refine VO.nil ?_
              show VW _ _ _ _ _ _ _
              refine VW.cond (b := true) (by kernel_rfl) (fun _ => ?_) (fun h' => nomatch h')
              refine VW.seq ?_
              refine VW.region ?_
              refine VO.seg T_ok .dp 1 [2] [] (s' := ⟨[(2, B false)], []⟩) (φ := True ∧ True) (by kernel_rfl) ⟨trivial, trivial⟩ ?_
              refine VO.nil ?_
              show VW _ _ _ _ _ _ _
              refine VW.ret ?_
              replace h := Option.some.inj h
              subst h
              exact retR [] (by kernel_rfl) rfl
            · replace h := cond_f h hb; clear hb
              refine VO.seg T_ok .dp 3 [1, 33, 36] [0] (s' := ⟨[(1, .lf (.ptr 0 0 0 0)), (33, B false), (36, B a0.2.2.2.2.2.1)], [bx [.v (.int .i64) a0.1, .v .str a0.2.1, .v (.int .i64) a0.2.2.1, .v (.int .i64) a0.2.2.2.1, .v (.int .i64) a0.2.2.2.2.1, .v .bool a0.2.2.2.2.2.1, .v (.sl (.int .i64)) a0.2.2.2.2.2.2] 90]⟩) (φ := True ∧ True ∧ True ∧ True) (by kernel_rfl) ⟨trivial, trivial, trivial, trivial⟩ ?_
              refine VO.splitB 36 (b := a0.2.2.2.2.2.1) (by kernel_rfl) (fun hb => ?_) (fun hb => ?_)
              · replace h := cond_t h hb; clear hb
                refine VO.seg T_ok .dp 2 [1, 33, 36, 38] [0] (s' := ⟨[(1, .lf (.ptr 0 0 0 0)), (33, B false), (36, B true), (38, I a0.2.2.2.2.1)], [bx [.v (.int .i64) a0.1, .v .str a0.2.1, .v (.int .i64) a0.2.2.1, .v (.int .i64) a0.2.2.2.1, .v (.int .i64) a0.2.2.2.2.1, .v .bool a0.2.2.2.2.2.1, .v (.sl (.int .i64)) a0.2.2.2.2.2.2] 90]⟩) (φ := True ∧ True ∧ True) (by kernel_rfl) ⟨trivial, trivial, trivial⟩ ?_
                refine VO.on (j := 32) (want := true) (d := 36) (b := true) rfl rfl rfl (by kernel_rfl) rfl ?_
                obtain ⟨y100, hy, h⟩ := andO_some h
                refine VO.call false [.t (.int .i64), .t (.int .i64), .t (.int .i64)] [] T_ok (d := some 39) (by kernel_rfl) (ok53 N _ _ _ hy) rfl ?_
                refine VO.seg T_ok .dp 3 [1, 42] [0] (s' := ⟨[(1, .lf (.ptr 0 0 0 0)), (42, B (!y100))], [bx [.v (.int .i64) a0.1, .v .str a0.2.1, .v (.int .i64) a0.2.2.1, .v (.int .i64) a0.2.2.2.1, .v (.int .i64) a0.2.2.2.2.1, .v .bool a0.2.2.2.2.2.1, .v (.sl (.int .i64)) a0.2.2.2.2.2.2] 90]⟩) (φ := True ∧ True ∧ True ∧ True) (by kernel_rfl) ⟨trivial, trivial, trivial, trivial⟩ ?_
                refine VO.nil ?_
                show VW _ _ _ _ _ _ _
                refine VW.cond (b := (!y100)) (by kernel_rfl) (fun hb => ?_) (fun hb => ?_)
                · replace h := cond_t h hb; clear hb
                  refine VW.seq ?_
                  refine VW.region ?_
                  refine VO.seg T_ok .dp 1 [2] [] (s' := ⟨[(2, B false)], []⟩) (φ := True ∧ True) (by kernel_rfl) ⟨trivial, trivial⟩ ?_
                  refine VO.nil ?_
                  show VW _ _ _ _ _ _ _
                  refine VW.ret ?_
                  replace h := Option.some.inj h
                  subst h
                  exact retR [] (by kernel_rfl) rfl
                · replace h := cond_f h hb; clear hb
                  refine VW.skip ?_
                  exact arrive [.ren [1] [0]] (by kernel_rfl) ⟨a0.1, a0.2.1, a0.2.2.1, a0.2.2.2.1, a0.2.2.2.2.1, a0.2.2.2.2.2.1, a0.2.2.2.2.2.2, rfl, h⟩
              · replace h := cond_f h hb; clear hb
                refine VO.seg T_ok .dp 6 [1, 42] [0] (s' := ⟨[(1, .lf (.ptr 0 0 0 0)), (42, B false)], [bx [.v (.int .i64) a0.1, .v .str a0.2.1, .v (.int .i64) a0.2.2.1, .v (.int .i64) a0.2.2.2.1, .v (.int .i64) a0.2.2.2.2.1, .v .bool a0.2.2.2.2.2.1, .v (.sl (.int .i64)) a0.2.2.2.2.2.2] 90]⟩) (φ := True ∧ True ∧ True ∧ True ∧ True ∧ True ∧ True) (by kernel_rfl) ⟨trivial, trivial, trivial, trivial, trivial, trivial, trivial⟩ ?_
                refine VO.nil ?_
                show VW _ _ _ _ _ _ _
                refine VW.cond (b := false) (by kernel_rfl) (fun h' => nomatch h') (fun _ => ?_)
                refine VW.skip ?_
                exact arrive [.ren [1] [0]] (by kernel_rfl) ⟨a0.1, a0.2.1, a0.2.2.1, a0.2.2.2.1, a0.2.2.2.2.1, a0.2.2.2.2.2.1, a0.2.2.2.2.2.2, rfl, h⟩
          · replace h := cond_f h hb; clear hb
            refine VO.seg T_ok .dp 9 [1, 33, 36] [0] (s' := ⟨[(1, .lf (.ptr 0 0 0 0)), (33, B false), (36, B a0.2.2.2.2.2.1)], [bx [.v (.int .i64) a0.1, .v .str a0.2.1, .v (.int .i64) a0.2.2.1, .v (.int .i64) a0.2.2.2.1, .v (.int .i64) a0.2.2.2.2.1, .v .bool a0.2.2.2.2.2.1, .v (.sl (.int .i64)) a0.2.2.2.2.2.2] 90]⟩) (φ := True ∧ True ∧ True ∧ True ∧ True ∧ True ∧ True ∧ True ∧ True ∧ True) (by kernel_rfl) ⟨trivial, trivial, trivial, trivial, trivial, trivial, trivial, trivial, trivial, trivial⟩ ?_
            refine VO.splitB 36 (b := a0.2.2.2.2.2.1) (by kernel_rfl) (fun hb => ?_) (fun hb => ?_)
            · replace h := cond_t h hb; clear hb
              refine VO.seg T_ok .dp 2 [1, 33, 36, 38] [0] (s' := ⟨[(1, .lf (.ptr 0 0 0 0)), (33, B false), (36, B true), (38, I a0.2.2.2.2.1)], [bx [.v (.int .i64) a0.1, .v .str a0.2.1, .v (.int .i64) a0.2.2.1, .v (.int .i64) a0.2.2.2.1, .v (.int .i64) a0.2.2.2.2.1, .v .bool a0.2.2.2.2.2.1, .v (.sl (.int .i64)) a0.2.2.2.2.2.2] 90]⟩) (φ := True ∧ True ∧ True) (by kernel_rfl) ⟨trivial, trivial, trivial⟩ ?_
              refine VO.on (j := 32) (want := true) (d := 36) (b := true) rfl rfl rfl (by kernel_rfl) rfl ?_
              obtain ⟨y101, hy, h⟩ := andO_some h
              refine VO.call false [.t (.int .i64), .t (.int .i64), .t (.int .i64)] [] T_ok (d := some 39) (by kernel_rfl) (ok53 N _ _ _ hy) rfl ?_
              refine VO.seg T_ok .dp 3 [1, 42] [0] (s' := ⟨[(1, .lf (.ptr 0 0 0 0)), (42, B (!y101))], [bx [.v (.int .i64) a0.1, .v .str a0.2.1, .v (.int .i64) a0.2.2.1, .v (.int .i64) a0.2.2.2.1, .v (.int .i64) a0.2.2.2.2.1, .v .bool a0.2.2.2.2.2.1, .v (.sl (.int .i64)) a0.2.2.2.2.2.2] 90]⟩) (φ := True ∧ True ∧ True ∧ True) (by kernel_rfl) ⟨trivial, trivial, trivial, trivial⟩ ?_
              refine VO.nil ?_
              show VW _ _ _ _ _ _ _
              refine VW.cond (b := (!y101)) (by kernel_rfl) (fun hb => ?_) (fun hb => ?_)
              · replace h := cond_t h hb; clear hb
                refine VW.seq ?_
                refine VW.region ?_
                refine VO.seg T_ok .dp 1 [2] [] (s' := ⟨[(2, B false)], []⟩) (φ := True ∧ True) (by kernel_rfl) ⟨trivial, trivial⟩ ?_
                refine VO.nil ?_
                show VW _ _ _ _ _ _ _
                refine VW.ret ?_
                replace h := Option.some.inj h
                subst h
                exact retR [] (by kernel_rfl) rfl
              · replace h := cond_f h hb; clear hb
                refine VW.skip ?_
                exact arrive [.ren [1] [0]] (by kernel_rfl) ⟨a0.1, a0.2.1, a0.2.2.1, a0.2.2.2.1, a0.2.2.2.2.1, a0.2.2.2.2.2.1, a0.2.2.2.2.2.2, rfl, h⟩
            · replace h := cond_f h hb; clear hb
              refine VO.seg T_ok .dp 6 [1, 42] [0] (s' := ⟨[(1, .lf (.ptr 0 0 0 0)), (42, B false)], [bx [.v (.int .i64) a0.1, .v .str a0.2.1, .v (.int .i64) a0.2.2.1, .v (.int .i64) a0.2.2.2.1, .v (.int .i64) a0.2.2.2.2.1, .v .bool a0.2.2.2.2.2.1, .v (.sl (.int .i64)) a0.2.2.2.2.2.2] 90]⟩) (φ := True ∧ True ∧ True ∧ True ∧ True ∧ True ∧ True) (by kernel_rfl) ⟨trivial, trivial, trivial, trivial, trivial, trivial, trivial⟩ ?_
              refine VO.nil ?_
              show VW _ _ _ _ _ _ _
              refine VW.cond (b := false) (by kernel_rfl) (fun h' => nomatch h') (fun _ => ?_)
              refine VW.skip ?_
              exact arrive [.ren [1] [0]] (by kernel_rfl) ⟨a0.1, a0.2.1, a0.2.2.1, a0.2.2.2.1, a0.2.2.2.2.1, a0.2.2.2.2.2.1, a0.2.2.2.2.2.2, rfl, h⟩
    · replace h := cond_f h hb; clear hb
      refine VO.seg T_ok .dp 9 [1, 12, 16] [0] (s' := ⟨[(1, .lf (.ptr 0 0 0 0)), (12, B false), (16, B (a0.1 != (2 : Int)))], [bx [.v (.int .i64) a0.1, .v .str a0.2.1, .v (.int .i64) a0.2.2.1, .v (.int .i64) a0.2.2.2.1, .v (.int .i64) a0.2.2.2.2.1, .v .bool a0.2.2.2.2.2.1, .v (.sl (.int .i64)) a0.2.2.2.2.2.2] 90]⟩) (φ := True ∧ True ∧ True ∧ True ∧ True ∧ True ∧ True ∧ True ∧ True ∧ True) (by kernel_rfl) ⟨trivial, trivial, trivial, trivial, trivial, trivial, trivial, trivial, trivial, trivial⟩ ?_
      refine VO.splitB 16 (b := (a0.1 != (2 : Int))) (by kernel_rfl) (fun hb => ?_) (fun hb => ?_)
      · replace h := cond_t h hb; clear hb
        refine VO.seg T_ok .dp 7 [1, 23] [0] (s' := ⟨[(1, .lf (.ptr 0 0 0 0)), (23, B (decide ((a0.2.2.2.2.2.2.length : Int) > (0 : Int))))], [bx [.v (.int .i64) a0.1, .v .str a0.2.1, .v (.int .i64) a0.2.2.1, .v (.int .i64) a0.2.2.2.1, .v (.int .i64) a0.2.2.2.2.1, .v .bool a0.2.2.2.2.2.1, .v (.sl (.int .i64)) a0.2.2.2.2.2.2] 90]⟩) (φ := True ∧ True ∧ True ∧ True ∧ True ∧ True ∧ True ∧ True) (by kernel_rfl) ⟨trivial, trivial, trivial, trivial, trivial, trivial, trivial, trivial⟩ ?_
        refine VO.splitB 23 (b := (decide ((a0.2.2.2.2.2.2.length : Int) > (0 : Int)))) (by kernel_rfl) (fun hb => ?_) (fun hb => ?_)
        · replace h := cond_t h hb; clear hb
          refine VO.seg T_ok .dp 19 [1, 42] [0] (s' := ⟨[(1, .lf (.ptr 0 0 0 0)), (42, B true)], [bx [.v (.int .i64) a0.1, .v .str a0.2.1, .v (.int .i64) a0.2.2.1, .v (.int .i64) a0.2.2.2.1, .v (.int .i64) a0.2.2.2.2.1, .v .bool a0.2.2.2.2.2.1, .v (.sl (.int .i64)) a0.2.2.2.2.2.2] 90]⟩) (φ := True ∧ True ∧ True ∧ True ∧ True ∧ True ∧ True ∧ True ∧ True ∧ True ∧ True ∧ True ∧ True ∧ True ∧ True ∧ True ∧ True ∧ True ∧ True ∧ True) (by kernel_rfl) ⟨trivial, trivial, trivial, trivial, trivial, trivial, trivial, trivial, trivial, trivial, trivial, trivial, trivial, trivial, trivial, trivial, trivial, trivial, trivial, trivial⟩ ?_
          refine VO.nil ?_
          show VW _ _ _ _ _ _ _
          refine VW.cond (b := true) (by kernel_rfl) (fun _ => ?_) (fun h' => nomatch h')
          refine VW.seq ?_
          refine VW.region ?_
          refine VO.seg T_ok .dp 1 [2] [] (s' := ⟨[(2, B false)], []⟩) (φ := True ∧ True) (by kernel_rfl) ⟨trivial, trivial⟩ ?_
          refine VO.nil ?_
          show VW _ _ _ _ _ _ _
          refine VW.ret ?_
          replace h := Option.some.inj h
          subst h
          exact retR [] (by kernel_rfl) rfl
        · replace h := cond_f h hb; clear hb
          refine VO.seg T_ok .dp 4 [1, 23, 27] [0] (s' := ⟨[(1, .lf (.ptr 0 0 0 0)), (23, B false), (27, B (a0.1 != (1 : Int)))], [bx [.v (.int .i64) a0.1, .v .str a0.2.1, .v (.int .i64) a0.2.2.1, .v (.int .i64) a0.2.2.2.1, .v (.int .i64) a0.2.2.2.2.1, .v .bool a0.2.2.2.2.2.1, .v (.sl (.int .i64)) a0.2.2.2.2.2.2] 90]⟩) (φ := True ∧ True ∧ True ∧ True ∧ True) (by kernel_rfl) ⟨trivial, trivial, trivial, trivial, trivial⟩ ?_
          refine VO.splitB 27 (b := (a0.1 != (1 : Int))) (by kernel_rfl) (fun hb => ?_) (fun hb => ?_)
          · replace h := cond_t h hb; clear hb
            refine VO.seg T_ok .dp 6 [1, 33] [0] (s' := ⟨[(1, .lf (.ptr 0 0 0 0)), (33, B (a0.2.2.2.1 != (0 : Int)))], [bx [.v (.int .i64) a0.1, .v .str a0.2.1, .v (.int .i64) a0.2.2.1, .v (.int .i64) a0.2.2.2.1, .v (.int .i64) a0.2.2.2.2.1, .v .bool a0.2.2.2.2.2.1, .v (.sl (.int .i64)) a0.2.2.2.2.2.2] 90]⟩) (φ := True ∧ True ∧ True ∧ True ∧ True ∧ True ∧ True) (by kernel_rfl) ⟨trivial, trivial, trivial, trivial, trivial, trivial, trivial⟩ ?_
            refine VO.splitB 33 (b := (a0.2.2.2.1 != (0 : Int))) (by kernel_rfl) (fun hb => ?_) (fun hb => ?_)
            · replace h := cond_t h hb; clear hb
              refine VO.seg T_ok .dp 9 [1, 42] [0] (s' := ⟨[(1, .lf (.ptr 0 0 0 0)), (42, B true)], [bx [.v (.int .i64) a0.1, .v .str a0.2.1, .v (.int .i64) a0.2.2.1, .v (.int .i64) a0.2.2.2.1, .v (.int .i64) a0.2.2.2.2.1, .v .bool a0.2.2.2.2.2.1, .v (.sl (.int .i64)) a0.2.2.2.2.2.2] 90]⟩) (φ := True ∧ True ∧ True ∧ True ∧ True ∧ True ∧ True ∧ True ∧ True ∧ True) (by kernel_rfl) ⟨trivial, trivial, trivial, trivial, trivial, trivial, trivial, trivial, trivial, trivial⟩ ?_
              refine VO.nil ?_
              show VW _ _ _ _ _ _ _
              refine VW.cond (b := true) (by kernel_rfl) (fun _ => ?_) (fun h' => nomatch h')
              refine VW.seq ?_
              refine VW.region ?_
              refine VO.seg T_ok .dp 1 [2] [] (s' := ⟨[(2, B false)], []⟩) (φ := True ∧ True) (by kernel_rfl) ⟨trivial, trivial⟩ ?_
              refine VO.nil ?_
              show VW _ _ _ _ _ _ _
              refine VW.ret ?_
              replace h := Option.some.inj h
              subst h
              exact retR [] (by kernel_rfl) rfl
            · replace h := cond_f h hb; clear hb
              refine VO.seg T_ok .dp 3 [1, 33, 36] [0] (s' := ⟨[(1, .lf (.ptr 0 0 0 0)), (33, B false), (36, B a0.2.2.2.2.2.1)], [bx [.v (.int .i64) a0.1, .v .str a0.2.1, .v (.int .i64) a0.2.2.1, .v (.int .i64) a0.2.2.2.1, .v (.int .i64) a0.2.2.2.2.1, .v .bool a0.2.2.2.2.2.1, .v (.sl (.int .i64)) a0.2.2.2.2.2.2] 90]⟩) (φ := True ∧ True ∧ True ∧ True) (by kernel_rfl) ⟨trivial, trivial, trivial, trivial⟩ ?_
              refine VO.splitB 36 (b := a0.2.2.2.2.2.1) (by kernel_rfl) (fun hb => ?_) (fun hb => ?_)
              · replace h := cond_t h hb; clear hb
                refine VO.seg T_ok .dp 2 [1, 33, 36, 38] [0] (s' := ⟨[(1, .lf (.ptr 0 0 0 0)), (33, B false), (36, B true), (38, I a0.2.2.2.2.1)], [bx [.v (.int .i64) a0.1, .v .str a0.2.1, .v (.int .i64) a0.2.2.1, .v (.int .i64) a0.2.2.2.1, .v (.int .i64) a0.2.2.2.2.1, .v .bool a0.2.2.2.2.2.1, .v (.sl (.int .i64)) a0.2.2.2.2.2.2] 90]⟩) (φ := True ∧ True ∧ True) (by kernel_rfl) ⟨trivial, trivial, trivial⟩ ?_
                refine VO.on (j := 32) (want := true) (d := 36) (b := true) rfl rfl rfl (by kernel_rfl) rfl ?_
                obtain ⟨y102, hy, h⟩ := andO_some h
                refine VO.call false [.t (.int .i64), .t (.int .i64), .t (.int .i64)] [] T_ok (d := some 39) (by kernel_rfl) (ok53 N _ _ _ hy) rfl ?_
                refine VO.seg T_ok .dp 3 [1, 42] [0] (s' := ⟨[(1, .lf (.ptr 0 0 0 0)), (42, B (!y102))], [bx [.v (.int .i64) a0.1, .v .str a0.2.1, .v (.int .i64) a0.2.2.1, .v (.int .i64) a0.2.2.2.1, .v (.int .i64) a0.2.2.2.2.1, .v .bool a0.2.2.2.2.2.1, .v (.sl (.int .i64)) a0.2.2.2.2.2.2] 90]⟩) (φ := True ∧ True ∧ True ∧ True) (by kernel_rfl) ⟨trivial, trivial, trivial, trivial⟩ ?_
                refine VO.nil ?_
                show VW _ _ _ _ _ _ _
                refine VW.cond (b := (!y102)) (by kernel_rfl) (fun hb => ?_) (fun hb => ?_)
                · replace h := cond_t h hb; clear hb
                  refine VW.seq ?_
                  refine VW.region ?_
                  refine VO.seg T_ok .dp 1 [2] [] (s' := ⟨[(2, B false)], []⟩) (φ := True ∧ True) (by kernel_rfl) ⟨trivial, trivial⟩ ?_
                  refine VO.nil ?_
                  show VW _ _ _ _ _ _ _
                  refine VW.ret ?_
                  replace h := Option.some.inj h
                  subst h
                  exact retR [] (by kernel_rfl) rfl
                · replace h := cond_f h hb; clear hb
                  refine VW.skip ?_
                  exact arrive [.ren [1] [0]] (by kernel_rfl) ⟨a0.1, a0.2.1, a0.2.2.1, a0.2.2.2.1, a0.2.2.2.2.1, a0.2.2.2.2.2.1, a0.2.2.2.2.2.2, rfl, h⟩
              · replace h := cond_f h hb; clear hb
                refine VO.seg T_ok .dp 6 [1, 42] [0] (s' := ⟨[(1, .lf (.ptr 0 0 0 0)), (42, B false)], [bx [.v (.int .i64) a0.1, .v .str a0.2.1, .v (.int .i64) a0.2.2.1, .v (.int .i64) a0.2.2.2.1, .v (.int .i64) a0.2.2.2.2.1, .v .bool a0.2.2.2.2.2.1, .v (.sl (.int .i64)) a0.2.2.2.2.2.2] 90]⟩) (φ := True ∧ True ∧ True ∧ True ∧ True ∧ True ∧ True) (by kernel_rfl) ⟨trivial, trivial, trivial, trivial, trivial, trivial, trivial⟩ ?_
                refine VO.nil ?_
                show VW _ _ _ _ _ _ _
                refine VW.cond (b := false) (by kernel_rfl) (fun h' => nomatch h') (fun _ => ?_)
                refine VW.skip ?_
                exact arrive [.ren [1] [0]] (by kernel_rfl) ⟨a0.1, a0.2.1, a0.2.2.1, a0.2.2.2.1, a0.2.2.2.2.1, a0.2.2.2.2.2.1, a0.2.2.2.2.2.2, rfl, h⟩
          · replace h := cond_f h hb; clear hb
            refine VO.seg T_ok .dp 9 [1, 33, 36] [0] (s' := ⟨[(1, .lf (.ptr 0 0 0 0)), (33, B false), (36, B a0.2.2.2.2.2.1)], [bx [.v (.int .i64) a0.1, .v .str a0.2.1, .v (.int .i64) a0.2.2.1, .v (.int .i64) a0.2.2.2.1, .v (.int .i64) a0.2.2.2.2.1, .v .bool a0.2.2.2.2.2.1, .v (.sl (.int .i64)) a0.2.2.2.2.2.2] 90]⟩) (φ := True ∧ True ∧ True ∧ True ∧ True ∧ True ∧ True ∧ True ∧ True ∧ True) (by kernel_rfl) ⟨trivial, trivial, trivial, trivial, trivial, trivial, trivial, trivial, trivial, trivial⟩ ?_
            refine VO.splitB 36 (b := a0.2.2.2.2.2.1) (by kernel_rfl) (fun hb => ?_) (fun hb => ?_)
            · replace h := cond_t h hb; clear hb
              refine VO.seg T_ok .dp 2 [1, 33, 36, 38] [0] (s' := ⟨[(1, .lf (.ptr 0 0 0 0)), (33, B false), (36, B true), (38, I a0.2.2.2.2.1)], [bx [.v (.int .i64) a0.1, .v .str a0.2.1, .v (.int .i64) a0.2.2.1, .v (.int .i64) a0.2.2.2.1, .v (.int .i64) a0.2.2.2.2.1, .v .bool a0.2.2.2.2.2.1, .v (.sl (.int .i64)) a0.2.2.2.2.2.2] 90]⟩) (φ := True ∧ True ∧ True) (by kernel_rfl) ⟨trivial, trivial, trivial⟩ ?_
              refine VO.on (j := 32) (want := true) (d := 36) (b := true) rfl rfl rfl (by kernel_rfl) rfl ?_
              obtain ⟨y103, hy, h⟩ := andO_some h
              refine VO.call false [.t (.int .i64), .t (.int .i64), .t (.int .i64)] [] T_ok (d := some 39) (by kernel_rfl) (ok53 N _ _ _ hy) rfl ?_
              refine VO.seg T_ok .dp 3 [1, 42] [0] (s' := ⟨[(1, .lf (.ptr 0 0 0 0)), (42, B (!y103))], [bx [.v (.int .i64) a0.1, .v .str a0.2.1, .v (.int .i64) a0.2.2.1, .v (.int .i64) a0.2.2.2.1, .v (.int .i64) a0.2.2.2.2.1, .v .bool a0.2.2.2.2.2.1, .v (.sl (.int .i64)) a0.2.2.2.2.2.2] 90]⟩) (φ := True ∧ True ∧ True ∧ True) (by kernel_rfl) ⟨trivial, trivial, trivial, trivial⟩ ?_
              refine VO.nil ?_
              show VW _ _ _ _ _ _ _
              refine VW.cond (b := (!y103)) (by kernel_rfl) (fun hb => ?_) (fun hb => ?_)
              · replace h := cond_t h hb; clear hb
                refine VW.seq ?_
                refine VW.region ?_
                refine VO.seg T_ok .dp 1 [2] [] (s' := ⟨[(2, B false)], []⟩) (φ := True ∧ True) (by kernel_rfl) ⟨trivial, trivial⟩ ?_
                refine VO.nil ?_
                show VW _ _ _ _ _ _ _
                refine VW.ret ?_
                replace h := Option.some.inj h
                subst h
                exact retR [] (by kernel_rfl) rfl
              · replace h := cond_f h hb; clear hb
                refine VW.skip ?_
                exact arrive [.ren [1] [0]] (by kernel_rfl) ⟨a0.1, a0.2.1, a0.2.2.1, a0.2.2.2.1, a0.2.2.2.2.1, a0.2.2.2.2.2.1, a0.2.2.2.2.2.2, rfl, h⟩
            · replace h := cond_f h hb; clear hb
              refine VO.seg T_ok .dp 6 [1, 42] [0] (s' := ⟨[(1, .lf (.ptr 0 0 0 0)), (42, B false)], [bx [.v (.int .i64) a0.1, .v .str a0.2.1, .v (.int .i64) a0.2.2.1, .v (.int .i64) a0.2.2.2.1, .v (.int .i64) a0.2.2.2.2.1, .v .bool a0.2.2.2.2.2.1, .v (.sl (.int .i64)) a0.2.2.2.2.2.2] 90]⟩) (φ := True ∧ True ∧ True ∧ True ∧ True ∧ True ∧ True) (by kernel_rfl) ⟨trivial, trivial, trivial, trivial, trivial, trivial, trivial⟩ ?_
              refine VO.nil ?_
              show VW _ _ _ _ _ _ _
              refine VW.cond (b := false) (by kernel_rfl) (fun h' => nomatch h') (fun _ => ?_)
              refine VW.skip ?_
              exact arrive [.ren [1] [0]] (by kernel_rfl) ⟨a0.1, a0.2.1, a0.2.2.1, a0.2.2.2.1, a0.2.2.2.2.1, a0.2.2.2.2.2.1, a0.2.2.2.2.2.2, rfl, h⟩
      · replace h := cond_f h hb; clear hb
        refine VO.seg T_ok .dp 11 [1, 23, 27] [0] (s' := ⟨[(1, .lf (.ptr 0 0 0 0)), (23, B false), (27, B (a0.1 != (1 : Int)))], [bx [.v (.int .i64) a0.1, .v .str a0.2.1, .v (.int .i64) a0.2.2.1, .v (.int .i64) a0.2.2.2.1, .v (.int .i64) a0.2.2.2.2.1, .v .bool a0.2.2.2.2.2.1, .v (.sl (.int .i64)) a0.2.2.2.2.2.2] 90]⟩) (φ := True ∧ True ∧ True ∧ True ∧ True ∧ True ∧ True ∧ True ∧ True ∧ True ∧ True ∧ True) (by kernel_rfl) ⟨trivial, trivial, trivial, trivial, trivial, trivial, trivial, trivial, trivial, trivial, trivial, trivial⟩ ?_
        refine VO.splitB 27 (b := (a0.1 != (1 : Int))) (by kernel_rfl) (fun hb => ?_) (fun hb => ?_)
        · replace h := cond_t h hb; clear hb
          refine VO.seg T_ok .dp 6 [1, 33] [0] (s' := ⟨[(1, .lf (.ptr 0 0 0 0)), (33, B (a0.2.2.2.1 != (0 : Int)))], [bx [.v (.int .i64) a0.1, .v .str a0.2.1, .v (.int .i64) a0.2.2.1, .v (.int .i64) a0.2.2.2.1, .v (.int .i64) a0.2.2.2.2.1, .v .bool a0.2.2.2.2.2.1, .v (.sl (.int .i64)) a0.2.2.2.2.2.2] 90]⟩) (φ := True ∧ True ∧ True ∧ True ∧ True ∧ True ∧ True) (by kernel_rfl) ⟨trivial, trivial, trivial, trivial, trivial, trivial, trivial⟩ ?_
          refine VO.splitB 33 (b := (a0.2.2.2.1 != (0 : Int))) (by kernel_rfl) (fun hb => ?_) (fun hb => ?_)
          · replace h := cond_t h hb; clear hb
            refine VO.seg T_ok .dp 9 [1, 42] [0] (s' := ⟨[(1, .lf (.ptr 0 0 0 0)), (42, B true)], [bx [.v (.int .i64) a0.1, .v .str a0.2.1, .v (.int .i64) a0.2.2.1, .v (.int .i64) a0.2.2.2.1, .v (.int .i64) a0.2.2.2.2.1, .v .bool a0.2.2.2.2.2.1, .v (.sl (.int .i64)) a0.2.2.2.2.2.2] 90]⟩) (φ := True ∧ True ∧ True ∧ True ∧ True ∧ True ∧ True ∧ True ∧ True ∧ True) (by kernel_rfl) ⟨trivial, trivial, trivial, trivial, trivial, trivial, trivial, trivial, trivial, trivial⟩ ?_
            refine VO.nil ?_
            show VW _ _ _ _ _ _ _
            refine VW.cond (b := true) (by kernel_rfl) (fun _ => ?_) (fun h' => nomatch h')
            refine VW.seq ?_
            refine VW.region ?_
            refine VO.seg T_ok .dp 1 [2] [] (s' := ⟨[(2, B false)], []⟩) (φ := True ∧ True) (by kernel_rfl) ⟨trivial, trivial⟩ ?_
            refine VO.nil ?_
            show VW _ _ _ _ _ _ _
            refine VW.ret ?_
            replace h := Option.some.inj h
            subst h
            exact retR [] (by kernel_rfl) rfl
          · replace h := cond_f h hb; clear hb
            refine VO.seg T_ok .dp 3 [1, 33, 36] [0] (s' := ⟨[(1, .lf (.ptr 0 0 0 0)), (33, B false), (36, B a0.2.2.2.2.2.1)], [bx [.v (.int .i64) a0.1, .v .str a0.2.1, .v (.int .i64) a0.2.2.1, .v (.int .i64) a0.2.2.2.1, .v (.int .i64) a0.2.2.2.2.1, .v .bool a0.2.2.2.2.2.1, .v (.sl (.int .i64)) a0.2.2.2.2.2.2] 90]⟩) (φ := True ∧ True ∧ True ∧ True) (by kernel_rfl) ⟨trivial, trivial, trivial, trivial⟩ ?_
            refine VO.splitB 36 (b := a0.2.2.2.2.2.1) (by kernel_rfl) (fun hb => ?_) (fun hb => ?_)
            · replace h := cond_t h hb; clear hb
              refine VO.seg T_ok .dp 2 [1, 33, 36, 38] [0] (s' := ⟨[(1, .lf (.ptr 0 0 0 0)), (33, B false), (36, B true), (38, I a0.2.2.2.2.1)], [bx [.v (.int .i64) a0.1, .v .str a0.2.1, .v (.int .i64) a0.2.2.1, .v (.int .i64) a0.2.2.2.1, .v (.int .i64) a0.2.2.2.2.1, .v .bool a0.2.2.2.2.2.1, .v (.sl (.int .i64)) a0.2.2.2.2.2.2] 90]⟩) (φ := True ∧ True ∧ True) (by kernel_rfl) ⟨trivial, trivial, trivial⟩ ?_
              refine VO.on (j := 32) (want := true) (d := 36) (b := true) rfl rfl rfl (by kernel_rfl) rfl ?_
              obtain ⟨y104, hy, h⟩ := andO_some h
              refine VO.call false [.t (.int .i64), .t (.int .i64), .t (.int .i64)] [] T_ok (d := some 39) (by kernel_rfl) (ok53 N _ _ _ hy) rfl ?_
              refine VO.seg T_ok .dp 3 [1, 42] [0] (s' := ⟨[(1, .lf (.ptr 0 0 0 0)), (42, B (!y104))], [bx [.v (.int .i64) a0.1, .v .str a0.2.1, .v (.int .i64) a0.2.2.1, .v (.int .i64) a0.2.2.2.1, .v (.int .i64) a0.2.2.2.2.1, .v .bool a0.2.2.2.2.2.1, .v (.sl (.int .i64)) a0.2.2.2.2.2.2] 90]⟩) (φ := True ∧ True ∧ True ∧ True) (by kernel_rfl) ⟨trivial, trivial, trivial, trivial⟩ ?_
              refine VO.nil ?_
              show VW _ _ _ _ _ _ _
              refine VW.cond (b := (!y104)) (by kernel_rfl) (fun hb => ?_) (fun hb => ?_)
              · replace h := cond_t h hb; clear hb
                refine VW.seq ?_
                refine VW.region ?_
                refine VO.seg T_ok .dp 1 [2] [] (s' := ⟨[(2, B false)], []⟩) (φ := True ∧ True) (by kernel_rfl) ⟨trivial, trivial⟩ ?_
                refine VO.nil ?_
                show VW _ _ _ _ _ _ _
                refine VW.ret ?_
                replace h := Option.some.inj h
                subst h
                exact retR [] (by kernel_rfl) rfl
              · replace h := cond_f h hb; clear hb
                refine VW.skip ?_
                exact arrive [.ren [1] [0]] (by kernel_rfl) ⟨a0.1, a0.2.1, a0.2.2.1, a0.2.2.2.1, a0.2.2.2.2.1, a0.2.2.2.2.2.1, a0.2.2.2.2.2.2, rfl, h⟩
            · replace h := cond_f h hb; clear hb
              refine VO.seg T_ok .dp 6 [1, 42] [0] (s' := ⟨[(1, .lf (.ptr 0 0 0 0)), (42, B false)], [bx [.v (.int .i64) a0.1, .v .str a0.2.1, .v (.int .i64) a0.2.2.1, .v (.int .i64) a0.2.2.2.1, .v (.int .i64) a0.2.2.2.2.1, .v .bool a0.2.2.2.2.2.1, .v (.sl (.int .i64)) a0.2.2.2.2.2.2] 90]⟩) (φ := True ∧ True ∧ True ∧ True ∧ True ∧ True ∧ True) (by kernel_rfl) ⟨trivial, trivial, trivial, trivial, trivial, trivial, trivial⟩ ?_
              refine VO.nil ?_
              show VW _ _ _ _ _ _ _
              refine VW.cond (b := false) (by kernel_rfl) (fun h' => nomatch h') (fun _ => ?_)
              refine VW.skip ?_
              exact arrive [.ren [1] [0]] (by kernel_rfl) ⟨a0.1, a0.2.1, a0.2.2.1, a0.2.2.2.1, a0.2.2.2.2.1, a0.2.2.2.2.2.1, a0.2.2.2.2.2.2, rfl, h⟩
        · replace h := cond_f h hb; clear hb
          refine VO.seg T_ok .dp 9 [1, 33, 36] [0] (s' := ⟨[(1, .lf (.ptr 0 0 0 0)), (33, B false), (36, B a0.2.2.2.2.2.1)], [bx [.v (.int .i64) a0.1, .v .str a0.2.1, .v (.int .i64) a0.2.2.1, .v (.int .i64) a0.2.2.2.1, .v (.int .i64) a0.2.2.2.2.1, .v .bool a0.2.2.2.2.2.1, .v (.sl (.int .i64)) a0.2.2.2.2.2.2] 90]⟩) (φ := True ∧ True ∧ True ∧ True ∧ True ∧ True ∧ True ∧ True ∧ True ∧ True) (by kernel_rfl) ⟨trivial, trivial, trivial, trivial, trivial, trivial, trivial, trivial, trivial, trivial⟩ ?_
          refine VO.splitB 36 (b := a0.2.2.2.2.2.1) (by kernel_rfl) (fun hb => ?_) (fun hb => ?_)
          · replace h := cond_t h hb; clear hb
            refine VO.seg T_ok .dp 2 [1, 33, 36, 38] [0] (s' := ⟨[(1, .lf (.ptr 0 0 0 0)), (33, B false), (36, B true), (38, I a0.2.2.2.2.1)], [bx [.v (.int .i64) a0.1, .v .str a0.2.1, .v (.int .i64) a0.2.2.1, .v (.int .i64) a0.2.2.2.1, .v (.int .i64) a0.2.2.2.2.1, .v .bool a0.2.2.2.2.2.1, .v (.sl (.int .i64)) a0.2.2.2.2.2.2] 90]⟩) (φ := True ∧ True ∧ True) (by kernel_rfl) ⟨trivial, trivial, trivial⟩ ?_
            refine VO.on (j := 32) (want := true) (d := 36) (b := true) rfl rfl rfl (by kernel_rfl) rfl ?_
            obtain ⟨y105, hy, h⟩ := andO_some h
            refine VO.call false [.t (.int .i64), .t (.int .i64), .t (.int .i64)] [] T_ok (d := some 39) (by kernel_rfl) (ok53 N _ _ _ hy) rfl ?_
            refine VO.seg T_ok .dp 3 [1, 42] [0] (s' := ⟨[(1, .lf (.ptr 0 0 0 0)), (42, B (!y105))], [bx [.v (.int .i64) a0.1, .v .str a0.2.1, .v (.int .i64) a0.2.2.1, .v (.int .i64) a0.2.2.2.1, .v (.int .i64) a0.2.2.2.2.1, .v .bool a0.2.2.2.2.2.1, .v (.sl (.int .i64)) a0.2.2.2.2.2.2] 90]⟩) (φ := True ∧ True ∧ True ∧ True) (by kernel_rfl) ⟨trivial, trivial, trivial, trivial⟩ ?_
            refine VO.nil ?_
            show VW _ _ _ _ _ _ _
            refine VW.cond (b := (!y105)) (by kernel_rfl) (fun hb => ?_) (fun hb => ?_)
            · replace h := cond_t h hb; clear hb
              refine VW.seq ?_
              refine VW.region ?_
              refine VO.seg T_ok .dp 1 [2] [] (s' := ⟨[(2, B false)], []⟩) (φ := True ∧ True) (by kernel_rfl) ⟨trivial, trivial⟩ ?_
              refine VO.nil ?_
              show VW _ _ _ _ _ _ _
              refine VW.ret ?_
              replace h := Option.some.inj h
              subst h
              exact retR [] (by kernel_rfl) rfl
            · replace h := cond_f h hb; clear hb
              refine VW.skip ?_
              exact arrive [.ren [1] [0]] (by kernel_rfl) ⟨a0.1, a0.2.1, a0.2.2.1, a0.2.2.2.1, a0.2.2.2.2.1, a0.2.2.2.2.2.1, a0.2.2.2.2.2.2, rfl, h⟩
          · replace h := cond_f h hb; clear hb
            refine VO.seg T_ok .dp 6 [1, 42] [0] (s' := ⟨[(1, .lf (.ptr 0 0 0 0)), (42, B false)], [bx [.v (.int .i64) a0.1, .v .str a0.2.1, .v (.int .i64) a0.2.2.1, .v (.int .i64) a0.2.2.2.1, .v (.int .i64) a0.2.2.2.2.1, .v .bool a0.2.2.2.2.2.1, .v (.sl (.int .i64)) a0.2.2.2.2.2.2] 90]⟩) (φ := True ∧ True ∧ True ∧ True ∧ True ∧ True ∧ True) (by kernel_rfl) ⟨trivial, trivial, trivial, trivial, trivial, trivial, trivial⟩ ?_
            refine VO.nil ?_
            show VW _ _ _ _ _ _ _
            refine VW.cond (b := false) (by kernel_rfl) (fun h' => nomatch h') (fun _ => ?_)
            refine VW.skip ?_
            exact arrive [.ren [1] [0]] (by kernel_rfl) ⟨a0.1, a0.2.1, a0.2.2.1, a0.2.2.2.1, a0.2.2.2.2.1, a0.2.2.2.2.2.1, a0.2.2.2.2.2.2, rfl, h⟩
  · rintro s ⟨x9, x10, x11, x12, x13, x14, x15, rfl, h⟩
    unfold F102_j3 at h
    refine VW.join (fun s => s = ⟨[], []⟩ ∧ F102_j0 N = some r) ?_ ?_
    · refine VW.seq ?_
      refine VW.region ?_
      refine VO.seg T_ok .dp 2 [1, 44] [0] (s' := ⟨[(1, .lf (.ptr 0 0 0 0)), (44, I x9)], [bx [.v (.int .i64) x9, .v .str x10, .v (.int .i64) x11, .v (.int .i64) x12, .v (.int .i64) x13, .v .bool x14, .v (.sl (.int .i64)) x15] 90]⟩) (φ := True ∧ True ∧ True) (by kernel_rfl) ⟨trivial, trivial, trivial⟩ ?_
      refine VO.nil ?_
      show VW _ _ _ _ _ _ _
      refine VW.block ?_
      refine VW.seq ?_
      refine VW.region ?_
      refine VO.seg T_ok .dp 2 [1, 44, 45] [0] (s' := ⟨[(1, .lf (.ptr 0 0 0 0)), (44, I x9), (45, B (x9 == (0 : Int)))], [bx [.v (.int .i64) x9, .v .str x10, .v (.int .i64) x11, .v (.int .i64) x12, .v (.int .i64) x13, .v .bool x14, .v (.sl (.int .i64)) x15] 90]⟩) (φ := True ∧ True ∧ True) (by kernel_rfl) ⟨trivial, trivial, trivial⟩ ?_
      refine VO.nil ?_
      show VW _ _ _ _ _ _ _
      refine VW.cond (b := (x9 == (0 : Int))) (by kernel_rfl) (fun hb => ?_) (fun hb => ?_)
      · replace h := cond_t h hb; clear hb
        refine VW.seq ?_
        refine VW.region ?_
        refine VO.seg T_ok .dp 2 [1, 48] [0] (s' := ⟨[(1, .lf (.ptr 0 0 0 0)), (48, S x10)], [bx [.v (.int .i64) x9, .v .str x10, .v (.int .i64) x11, .v (.int .i64) x12, .v (.int .i64) x13, .v .bool x14, .v (.sl (.int .i64)) x15] 90]⟩) (φ := True ∧ True ∧ True) (by kernel_rfl) ⟨trivial, trivial, trivial⟩ ?_
        obtain ⟨y57, hy, h⟩ := andO_some h
        refine VO.call false [.t .str] [] T_ok (d := some 49) (by kernel_rfl) (ok134 N _ hy) rfl ?_
        refine VO.seg T_ok .dp 1 [1, 50] [0] (s' := ⟨[(1, .lf (.ptr 0 0 0 0)), (50, B y57)], [bx [.v (.int .i64) x9, .v .str x10, .v (.int .i64) x11, .v (.int .i64) x12, .v (.int .i64) x13, .v .bool x14, .v (.sl (.int .i64)) x15] 90]⟩) (φ := True ∧ True) (by kernel_rfl) ⟨trivial, trivial⟩ ?_
        refine VO.splitB 50 (b := y57) (by kernel_rfl) (fun hb => ?_) (fun hb => ?_)
        · replace h := cond_t h hb; clear hb
          refine VO.seg T_ok .dp 5 [1, 55] [0] (s' := ⟨[(1, .lf (.ptr 0 0 0 0)), (55, B (x11 == (0 : Int)))], [bx [.v (.int .i64) x9, .v .str x10, .v (.int .i64) x11, .v (.int .i64) x12, .v (.int .i64) x13, .v .bool x14, .v (.sl (.int .i64)) x15] 90]⟩) (φ := True ∧ True ∧ True ∧ True ∧ True ∧ True) (by kernel_rfl) ⟨trivial, trivial, trivial, trivial, trivial, trivial⟩ ?_
          refine VO.splitB 55 (b := (x11 == (0 : Int))) (by kernel_rfl) (fun hb => ?_) (fun hb => ?_)
          · replace h := cond_t h hb; clear hb
            refine VO.seg T_ok .dp 5 [1, 60] [0] (s' := ⟨[(1, .lf (.ptr 0 0 0 0)), (60, B (x13 == (0 : Int)))], [bx [.v (.int .i64) x9, .v .str x10, .v (.int .i64) x11, .v (.int .i64) x12, .v (.int .i64) x13, .v .bool x14, .v (.sl (.int .i64)) x15] 90]⟩) (φ := True ∧ True ∧ True ∧ True ∧ True ∧ True) (by kernel_rfl) ⟨trivial, trivial, trivial, trivial, trivial, trivial⟩ ?_
            refine VO.splitB 60 (b := (x13 == (0 : Int))) (by kernel_rfl) (fun hb => ?_) (fun hb => ?_)
            · replace h := cond_t h hb; clear hb
              refine VO.seg T_ok .dp 5 [2] [] (s' := ⟨[(2, B (!x14))], []⟩) (φ := True ∧ True ∧ True ∧ True ∧ True ∧ True) (by kernel_rfl) ⟨trivial, trivial, trivial, trivial, trivial, trivial⟩ ?_
              refine VO.nil ?_
              show VW _ _ _ _ _ _ _
              refine VW.ret ?_
              replace h := Option.some.inj h
              subst h
              exact retR [] (by kernel_rfl) rfl
            · replace h := cond_f h hb; clear hb
              refine VO.seg T_ok .dp 5 [2] [] (s' := ⟨[(2, B false)], []⟩) (φ := True ∧ True ∧ True ∧ True ∧ True ∧ True) (by kernel_rfl) ⟨trivial, trivial, trivial, trivial, trivial, trivial⟩ ?_
              refine VO.nil ?_
              show VW _ _ _ _ _ _ _
              refine VW.ret ?_
              replace h := Option.some.inj h
              subst h
              exact retR [] (by kernel_rfl) rfl
          · replace h := cond_f h hb; clear hb
            refine VO.seg T_ok .dp 10 [2] [] (s' := ⟨[(2, B false)], []⟩) (φ := True ∧ True ∧ True ∧ True ∧ True ∧ True ∧ True ∧ True ∧ True ∧ True ∧ True) (by kernel_rfl) ⟨trivial, trivial, trivial, trivial, trivial, trivial, trivial, trivial, trivial, trivial, trivial⟩ ?_
            refine VO.nil ?_
            show VW _ _ _ _ _ _ _
            refine VW.ret ?_
            replace h := Option.some.inj h
            subst h
            exact retR [] (by kernel_rfl) rfl
        · replace h := cond_f h hb; clear hb
          refine VO.seg T_ok .dp 15 [2] [] (s' := ⟨[(2, B false)], []⟩) (φ := True ∧ True ∧ True ∧ True ∧ True ∧ True ∧ True ∧ True ∧ True ∧ True ∧ True ∧ True ∧ True ∧ True ∧ True ∧ True) (by kernel_rfl) ⟨trivial, trivial, trivial, trivial, trivial, trivial, trivial, trivial, trivial, trivial, trivial, trivial, trivial, trivial, trivial, trivial⟩ ?_
          refine VO.nil ?_
          show VW _ _ _ _ _ _ _
          refine VW.ret ?_
          replace h := Option.some.inj h
          subst h
          exact retR [] (by kernel_rfl) rfl
      · replace h := cond_f h hb; clear hb
        refine VW.seq ?_
        refine VW.region ?_
        refine VO.seg T_ok .dp 2 [1, 44, 65] [0] (s' := ⟨[(1, .lf (.ptr 0 0 0 0)), (44, I x9), (65, B (x9 == (1 : Int)))], [bx [.v (.int .i64) x9, .v .str x10, .v (.int .i64) x11, .v (.int .i64) x12, .v (.int .i64) x13, .v .bool x14, .v (.sl (.int .i64)) x15] 90]⟩) (φ := True ∧ True ∧ True) (by kernel_rfl) ⟨trivial, trivial, trivial⟩ ?_
        refine VO.nil ?_
        show VW _ _ _ _ _ _ _
        refine VW.cond (b := (x9 == (1 : Int))) (by kernel_rfl) (fun hb => ?_) (fun hb => ?_)
        · replace h := cond_t h hb; clear hb
          refine VW.seq ?_
          refine VW.region ?_
          refine VO.seg T_ok .dp 2 [1, 68] [0] (s' := ⟨[(1, .lf (.ptr 0 0 0 0)), (68, I x11)], [bx [.v (.int .i64) x9, .v .str x10, .v (.int .i64) x11, .v (.int .i64) x12, .v (.int .i64) x13, .v .bool x14, .v (.sl (.int .i64)) x15] 90]⟩) (φ := True ∧ True ∧ True) (by kernel_rfl) ⟨trivial, trivial, trivial⟩ ?_
          obtain ⟨y58, hy, h⟩ := andO_some h
          refine VO.call false [.t (.int .i64)] [] T_ok (d := some 69) (by kernel_rfl) (ok142 N _ hy) rfl ?_
          refine VO.seg T_ok .dp 1 [1, 70] [0] (s' := ⟨[(1, .lf (.ptr 0 0 0 0)), (70, B y58)], [bx [.v (.int .i64) x9, .v .str x10, .v (.int .i64) x11, .v (.int .i64) x12, .v (.int .i64) x13, .v .bool x14, .v (.sl (.int .i64)) x15] 90]⟩) (φ := True ∧ True) (by kernel_rfl) ⟨trivial, trivial⟩ ?_
          refine VO.splitB 70 (b := y58) (by kernel_rfl) (fun hb => ?_) (fun hb => ?_)
          · replace h := cond_t h hb; clear hb
            refine VO.seg T_ok .dp 2 [1, 70, 72] [0] (s' := ⟨[(1, .lf (.ptr 0 0 0 0)), (70, B true), (72, I x12)], [bx [.v (.int .i64) x9, .v .str x10, .v (.int .i64) x11, .v (.int .i64) x12, .v (.int .i64) x13, .v .bool x14, .v (.sl (.int .i64)) x15] 90]⟩) (φ := True ∧ True ∧ True) (by kernel_rfl) ⟨trivial, trivial, trivial⟩ ?_
            refine VO.on (j := 3) (want := true) (d := 70) (b := true) rfl rfl rfl (by kernel_rfl) rfl ?_
            obtain ⟨y59, hy, h⟩ := andO_some h
            refine VO.call false [.t (.int .i64), .t (.int .i64), .t (.int .i64)] [] T_ok (d := some 73) (by kernel_rfl) (ok53 N _ _ _ hy) rfl ?_
            refine VO.seg T_ok .dp 2 [1, 75] [0] (s' := ⟨[(1, .lf (.ptr 0 0 0 0)), (75, B y59)], [bx [.v (.int .i64) x9, .v .str x10, .v (.int .i64) x11, .v (.int .i64) x12, .v (.int .i64) x13, .v .bool x14, .v (.sl (.int .i64)) x15] 90]⟩) (φ := True ∧ True ∧ True) (by kernel_rfl) ⟨trivial, trivial, trivial⟩ ?_
            refine VO.splitB 75 (b := y59) (by kernel_rfl) (fun hb => ?_) (fun hb => ?_)
            · replace h := cond_t h hb; clear hb
              refine VO.seg T_ok .dp 2 [1, 75, 77] [0] (s' := ⟨[(1, .lf (.ptr 0 0 0 0)), (75, B true), (77, I x13)], [bx [.v (.int .i64) x9, .v .str x10, .v (.int .i64) x11, .v (.int .i64) x12, .v (.int .i64) x13, .v .bool x14, .v (.sl (.int .i64)) x15] 90]⟩) (φ := True ∧ True ∧ True) (by kernel_rfl) ⟨trivial, trivial, trivial⟩ ?_
              refine VO.on (j := 8) (want := true) (d := 75) (b := true) rfl rfl rfl (by kernel_rfl) rfl ?_
              obtain ⟨y60, hy, h⟩ := andO_some h
              refine VO.call false [.t (.int .i64)] [] T_ok (d := some 78) (by kernel_rfl) (ok104 N _ hy) rfl ?_
              refine VO.seg T_ok .dp 2 [1, 80] [0] (s' := ⟨[(1, .lf (.ptr 0 0 0 0)), (80, B y60)], [bx [.v (.int .i64) x9, .v .str x10, .v (.int .i64) x11, .v (.int .i64) x12, .v (.int .i64) x13, .v .bool x14, .v (.sl (.int .i64)) x15] 90]⟩) (φ := True ∧ True ∧ True) (by kernel_rfl) ⟨trivial, trivial, trivial⟩ ?_
              refine VO.splitB 80 (b := y60) (by kernel_rfl) (fun hb => ?_) (fun hb => ?_)
              · replace h := cond_t h hb; clear hb
                refine VO.seg T_ok .dp 4 [1, 80, 84] [0] (s' := ⟨[(1, .lf (.ptr 0 0 0 0)), (80, B true), (84, B (x12 != (3 : Int)))], [bx [.v (.int .i64) x9, .v .str x10, .v (.int .i64) x11, .v (.int .i64) x12, .v (.int .i64) x13, .v .bool x14, .v (.sl (.int .i64)) x15] 90]⟩) (φ := True ∧ True ∧ True ∧ True ∧ True) (by kernel_rfl) ⟨trivial, trivial, trivial, trivial, trivial⟩ ?_
                refine VO.splitB 84 (b := (x12 != (3 : Int))) (by kernel_rfl) (fun hb => ?_) (fun hb => ?_)
                · replace h := cond_t h hb; clear hb
                  refine VO.seg T_ok .dp 11 [2] [] (s' := ⟨[(2, B true)], []⟩) (φ := True ∧ True ∧ True ∧ True ∧ True ∧ True ∧ True ∧ True ∧ True ∧ True ∧ True ∧ True) (by kernel_rfl) ⟨trivial, trivial, trivial, trivial, trivial, trivial, trivial, trivial, trivial, trivial, trivial, trivial⟩ ?_
                  refine VO.nil ?_
                  show VW _ _ _ _ _ _ _
                  refine VW.ret ?_
                  replace h := Option.some.inj h
                  subst h
                  exact retR [] (by kernel_rfl) rfl
                · replace h := cond_f h hb; clear hb
                  refine VO.seg T_ok .dp 4 [1, 80, 84, 88] [0] (s' := ⟨[(1, .lf (.ptr 0 0 0 0)), (80, B true), (84, B false), (88, B (x13 == (0 : Int)))], [bx [.v (.int .i64) x9, .v .str x10, .v (.int .i64) x11, .v (.int .i64) x12, .v (.int .i64) x13, .v .bool x14, .v (.sl (.int .i64)) x15] 90]⟩) (φ := True ∧ True ∧ True ∧ True ∧ True) (by kernel_rfl) ⟨trivial, trivial, trivial, trivial, trivial⟩ ?_
                  refine VO.splitB 88 (b := (x13 == (0 : Int))) (by kernel_rfl) (fun hb => ?_) (fun hb => ?_)
                  · replace h := cond_t h hb; clear hb
                    refine VO.seg T_ok .dp 7 [2] [] (s' := ⟨[(2, B (!x14))], []⟩) (φ := True ∧ True ∧ True ∧ True ∧ True ∧ True ∧ True ∧ True) (by kernel_rfl) ⟨trivial, trivial, trivial, trivial, trivial, trivial, trivial, trivial⟩ ?_
                    refine VO.nil ?_
                    show VW _ _ _ _ _ _ _
                    refine VW.ret ?_
                    replace h := Option.some.inj h
                    subst h
                    exact retR [] (by kernel_rfl) rfl
                  · replace h := cond_f h hb; clear hb
                    refine VO.seg T_ok .dp 7 [2] [] (s' := ⟨[(2, B false)], []⟩) (φ := True ∧ True ∧ True ∧ True ∧ True ∧ True ∧ True ∧ True) (by kernel_rfl) ⟨trivial, trivial, trivial, trivial, trivial, trivial, trivial, trivial⟩ ?_
                    refine VO.nil ?_
                    show VW _ _ _ _ _ _ _
                    refine VW.ret ?_
                    replace h := Option.some.inj h
                    subst h
                    exact retR [] (by kernel_rfl) rfl
              · replace h := cond_f h hb; clear hb
                refine VO.seg T_ok .dp 15 [2] [] (s' := ⟨[(2, B false)], []⟩) (φ := True ∧ True ∧ True ∧ True ∧ True ∧ True ∧ True ∧ True ∧ True ∧ True ∧ True ∧ True ∧ True ∧ True ∧ True ∧ True) (by kernel_rfl) ⟨trivial, trivial, trivial, trivial, trivial, trivial, trivial, trivial, trivial, trivial, trivial, trivial, trivial, trivial, trivial, trivial⟩ ?_
                refine VO.nil ?_
                show VW _ _ _ _ _ _ _
                refine VW.ret ?_
                replace h := Option.some.inj h
                subst h
                exact retR [] (by kernel_rfl) rfl
            · replace h := cond_f h hb; clear hb
              refine VO.seg T_ok .dp 20 [2] [] (s' := ⟨[(2, B false)], []⟩) (φ := True ∧ True ∧ True ∧ True ∧ True ∧ True ∧ True ∧ True ∧ True ∧ True ∧ True ∧ True ∧ True ∧ True ∧ True ∧ True ∧ True ∧ True ∧ True ∧ True ∧ True) (by kernel_rfl) ⟨trivial, trivial, trivial, trivial, trivial, trivial, trivial, trivial, trivial, trivial, trivial, trivial, trivial, trivial, trivial, trivial, trivial, trivial, trivial, trivial, trivial⟩ ?_
              refine VO.nil ?_
              show VW _ _ _ _ _ _ _
              refine VW.ret ?_
              replace h := Option.some.inj h
              subst h
              exact retR [] (by kernel_rfl) rfl
          · replace h := cond_f h hb; clear hb
            refine VO.seg T_ok .dp 25 [2] [] (s' := ⟨[(2, B false)], []⟩) (φ := True ∧ True ∧ True ∧ True ∧ True ∧ True ∧ True ∧ True ∧ True ∧ True ∧ True ∧ True ∧ True ∧ True ∧ True ∧ True ∧ True ∧ True ∧ True ∧ True ∧ True ∧ True ∧ True ∧ True ∧ True ∧ True) (by kernel_rfl) ⟨trivial, trivial, trivial, trivial, trivial, trivial, trivial, trivial, trivial, trivial, trivial, trivial, trivial, trivial, trivial, trivial, trivial, trivial, trivial, trivial, trivial, trivial, trivial, trivial, trivial, trivial⟩ ?_
            refine VO.nil ?_
            show VW _ _ _ _ _ _ _
            refine VW.ret ?_
            replace h := Option.some.inj h
            subst h
            exact retR [] (by kernel_rfl) rfl
        · replace h := cond_f h hb; clear hb
          refine VW.seq ?_
          refine VW.region ?_
          refine VO.seg T_ok .dp 2 [1, 44, 95] [0] (s' := ⟨[(1, .lf (.ptr 0 0 0 0)), (44, I x9), (95, B (x9 == (2 : Int)))], [bx [.v (.int .i64) x9, .v .str x10, .v (.int .i64) x11, .v (.int .i64) x12, .v (.int .i64) x13, .v .bool x14, .v (.sl (.int .i64)) x15] 90]⟩) (φ := True ∧ True ∧ True) (by kernel_rfl) ⟨trivial, trivial, trivial⟩ ?_
          refine VO.nil ?_
          show VW _ _ _ _ _ _ _
          refine VW.cond (b := (x9 == (2 : Int))) (by kernel_rfl) (fun hb => ?_) (fun hb => ?_)
          · replace h := cond_t h hb; clear hb
            refine VW.join (fun s => s = ⟨[(1, .lf (.ptr 0 0 0 0))], [bx [.v (.int .i64) x9, .v .str x10, .v (.int .i64) x11, .v (.int .i64) x12, .v (.int .i64) x13, .v .bool x14, .v (.sl (.int .i64)) x15] 90]⟩ ∧ F102_j1 N x11 x13 x14 x15 = some r) ?_ ?_
            · refine VW.seq ?_
              refine VW.region ?_
              refine VO.seg T_ok .dp 1 [1, 3] [0] (s' := ⟨[(1, .lf (.ptr 0 0 0 0)), (3, I (0 : Int))], [bx [.v (.int .i64) x9, .v .str x10, .v (.int .i64) x11, .v (.int .i64) x12, .v (.int .i64) x13, .v .bool x14, .v (.sl (.int .i64)) x15] 90]⟩) (φ := True ∧ True) (by kernel_rfl) ⟨trivial, trivial⟩ ?_
              refine VO.nil ?_
              show VW _ _ _ _ _ _ _
              refine VW.block ?_
              refine VW.loopL (fun k s => ∃ (x81 : Int), s = ⟨[(1, .lf (.ptr 0 0 0 0)), (3, I x81)], [bx [.v (.int .i64) x9, .v .str x10, .v (.int .i64) x11, .v (.int .i64) x12, .v (.int .i64) x13, .v .bool x14, .v (.sl (.int .i64)) x15] 90]⟩ ∧ F102_l0 N x11 x13 x14 x15 k x81 = some r) N [.ren [1, 3] [0]] (by kernel_rfl) ⟨(0 : Int), rfl, h⟩ ?_
              rintro k86 s ⟨x81, rfl, h⟩
              cases k86 with
              | zero => exact nomatch (show (none : Option (Bool)) = some r from h)
              | succ k86 =>
                replace h : F102_l0_b N x11 x13 x14 x15 (F102_l0 N x11 x13 x14 x15 k86) x81 = some r := h
                unfold F102_l0_b at h
                refine VW.seq ?_
                refine VW.seq ?_
                refine VW.region ?_
                refine VO.seg T_ok .dp 5 [1, 3, 101] [0] (s' := ⟨[(1, .lf (.ptr 0 0 0 0)), (3, I x81), (101, B (decide (x81 < (x15.length : Int))))], [bx [.v (.int .i64) x9, .v .str x10, .v (.int .i64) x11, .v (.int .i64) x12, .v (.int .i64) x13, .v .bool x14, .v (.sl (.int .i64)) x15] 90]⟩) (φ := True ∧ True ∧ True ∧ True ∧ True ∧ True) (by kernel_rfl) ⟨trivial, trivial, trivial, trivial, trivial, trivial⟩ ?_
                refine VO.nil ?_
                show VW _ _ _ _ _ _ _
                refine VW.cond (b := (decide (x81 < (x15.length : Int)))) (by kernel_rfl) (fun hb => ?_) (fun hb => ?_)
                · replace h := cond_t h hb; clear hb
                  refine VW.skip ?_
                  show VW _ _ _ _ _ _ _
                  refine VW.seq ?_
                  refine VW.block ?_
                  refine VW.seq ?_
                  refine VW.region ?_
                  obtain ⟨g89, h⟩ := gd_some h
                  refine VO.seg T_ok .dp 5 [1, 3, 108] [0] (s' := ⟨[(1, .lf (.ptr 0 0 0 0)), (3, I x81), (108, I (x15.getD x81.toNat (Ty.dflt (.int .i64))))], [bx [.v (.int .i64) x9, .v .str x10, .v (.int .i64) x11, .v (.int .i64) x12, .v (.int .i64) x13, .v .bool x14, .v (.sl (.int .i64)) x15] 90]⟩) (φ := True ∧ True ∧ True ∧ (InR x81 x15.length) ∧ True ∧ True) (by kernel_rfl) ⟨trivial, trivial, trivial, g89, trivial, trivial⟩ ?_
                  obtain ⟨y90, hy, h⟩ := andO_some h
                  refine VO.call false [.t (.int .i64)] [] T_ok (d := some 109) (by kernel_rfl) (ok142 N _ hy) rfl ?_
                  refine VO.seg T_ok .dp 1 [1, 3, 110] [0] (s' := ⟨[(1, .lf (.ptr 0 0 0 0)), (3, I x81), (110, B (!y90))], [bx [.v (.int .i64) x9, .v .str x10, .v (.int .i64) x11, .v (.int .i64) x12, .v (.int .i64) x13, .v .bool x14, .v (.sl (.int .i64)) x15] 90]⟩) (φ := True ∧ True) (by kernel_rfl) ⟨trivial, trivial⟩ ?_
                  refine VO.nil ?_
                  show VW _ _ _ _ _ _ _
                  refine VW.cond (b := (!y90)) (by kernel_rfl) (fun hb => ?_) (fun hb => ?_)
                  · replace h := cond_t h hb; clear hb
                    refine VW.seq ?_
                    refine VW.region ?_
                    refine VO.seg T_ok .dp 1 [2] [] (s' := ⟨[(2, B false)], []⟩) (φ := True ∧ True) (by kernel_rfl) ⟨trivial, trivial⟩ ?_
                    refine VO.nil ?_
                    show VW _ _ _ _ _ _ _
                    refine VW.ret ?_
                    replace h := Option.some.inj h
                    subst h
                    exact retR [] (by kernel_rfl) rfl
                  · replace h := cond_f h hb; clear hb
                    refine VW.skip ?_
                    show VW _ _ _ _ _ _ _
                    refine VW.region ?_
                    refine VO.seg T_ok .dp 3 [1, 3] [0] (s' := ⟨[(1, .lf (.ptr 0 0 0 0)), (3, I (IntKind.i64.wrap (x81 + (1 : Int))))], [bx [.v (.int .i64) x9, .v .str x10, .v (.int .i64) x11, .v (.int .i64) x12, .v (.int .i64) x13, .v .bool x14, .v (.sl (.int .i64)) x15] 90]⟩) (φ := True ∧ True ∧ True ∧ True) (by kernel_rfl) ⟨trivial, trivial, trivial, trivial⟩ ?_
                    refine VO.nil ?_
                    exact around [.ren [1, 3] [0]] (by kernel_rfl) ⟨(IntKind.i64.wrap (x81 + (1 : Int))), rfl, h⟩
                · replace h := cond_f h hb; clear hb
                  refine VW.exit ?_
                  exact arrive [.ren [1] [0]] (by kernel_rfl) ⟨rfl, h⟩
            · rintro s ⟨rfl, h⟩
              unfold F102_j1 at h
              refine VW.seq ?_
              refine VW.region ?_
              refine VO.seg T_ok .dp 3 [1, 113] [0] (s' := ⟨[(1, .lf (.ptr 0 0 0 0)), (113, I (x15.length : Int))], [bx [.v (.int .i64) x9, .v .str x10, .v (.int .i64) x11, .v (.int .i64) x12, .v (.int .i64) x13, .v .bool x14, .v (.sl (.int .i64)) x15] 90]⟩) (φ := True ∧ True ∧ True ∧ True) (by kernel_rfl) ⟨trivial, trivial, trivial, trivial⟩ ?_
              obtain ⟨y75, hy, h⟩ := andO_some h
              refine VO.call false [.t (.int .i64), .t (.int .i64), .t (.int .i64)] [] T_ok (d := some 114) (by kernel_rfl) (ok53 N _ _ _ hy) rfl ?_
              refine VO.seg T_ok .dp 1 [1, 115] [0] (s' := ⟨[(1, .lf (.ptr 0 0 0 0)), (115, B y75)], [bx [.v (.int .i64) x9, .v .str x10, .v (.int .i64) x11, .v (.int .i64) x12, .v (.int .i64) x13, .v .bool x14, .v (.sl (.int .i64)) x15] 90]⟩) (φ := True ∧ True) (by kernel_rfl) ⟨trivial, trivial⟩ ?_
              refine VO.splitB 115 (b := y75) (by kernel_rfl) (fun hb => ?_) (fun hb => ?_)
              · replace h := cond_t h hb; clear hb
                refine VO.seg T_ok .dp 5 [1, 120] [0] (s' := ⟨[(1, .lf (.ptr 0 0 0 0)), (120, B (x11 == (0 : Int)))], [bx [.v (.int .i64) x9, .v .str x10, .v (.int .i64) x11, .v (.int .i64) x12, .v (.int .i64) x13, .v .bool x14, .v (.sl (.int .i64)) x15] 90]⟩) (φ := True ∧ True ∧ True ∧ True ∧ True ∧ True) (by kernel_rfl) ⟨trivial, trivial, trivial, trivial, trivial, trivial⟩ ?_
                refine VO.splitB 120 (b := (x11 == (0 : Int))) (by kernel_rfl) (fun hb => ?_) (fun hb => ?_)
                · replace h := cond_t h hb; clear hb
                  refine VO.seg T_ok .dp 5 [1, 125] [0] (s' := ⟨[(1, .lf (.ptr 0 0 0 0)), (125, B (x13 == (0 : Int)))], [bx [.v (.int .i64) x9, .v .str x10, .v (.int .i64) x11, .v (.int .i64) x12, .v (.int .i64) x13, .v .bool x14, .v (.sl (.int .i64)) x15] 90]⟩) (φ := True ∧ True ∧ True ∧ True ∧ True ∧ True) (by kernel_rfl) ⟨trivial, trivial, trivial, trivial, trivial, trivial⟩ ?_
                  refine VO.splitB 125 (b := (x13 == (0 : Int))) (by kernel_rfl) (fun hb => ?_) (fun hb => ?_)
                  · replace h := cond_t h hb; clear hb
                    refine VO.seg T_ok .dp 5 [2] [] (s' := ⟨[(2, B (!x14))], []⟩) (φ := True ∧ True ∧ True ∧ True ∧ True ∧ True) (by kernel_rfl) ⟨trivial, trivial, trivial, trivial, trivial, trivial⟩ ?_
                    refine VO.nil ?_
                    show VW _ _ _ _ _ _ _
                    refine VW.ret ?_
                    replace h := Option.some.inj h
                    subst h
                    exact retR [] (by kernel_rfl) rfl
                  · replace h := cond_f h hb; clear hb
                    refine VO.seg T_ok .dp 5 [2] [] (s' := ⟨[(2, B false)], []⟩) (φ := True ∧ True ∧ True ∧ True ∧ True ∧ True) (by kernel_rfl) ⟨trivial, trivial, trivial, trivial, trivial, trivial⟩ ?_
                    refine VO.nil ?_
                    show VW _ _ _ _ _ _ _
                    refine VW.ret ?_
                    replace h := Option.some.inj h
                    subst h
                    exact retR [] (by kernel_rfl) rfl
                · replace h := cond_f h hb; clear hb
                  refine VO.seg T_ok .dp 10 [2] [] (s' := ⟨[(2, B false)], []⟩) (φ := True ∧ True ∧ True ∧ True ∧ True ∧ True ∧ True ∧ True ∧ True ∧ True ∧ True) (by kernel_rfl) ⟨trivial, trivial, trivial, trivial, trivial, trivial, trivial, trivial, trivial, trivial, trivial⟩ ?_
                  refine VO.nil ?_
                  show VW _ _ _ _ _ _ _
                  refine VW.ret ?_
                  replace h := Option.some.inj h
                  subst h
                  exact retR [] (by kernel_rfl) rfl
              · replace h := cond_f h hb; clear hb
                refine VO.seg T_ok .dp 15 [2] [] (s' := ⟨[(2, B false)], []⟩) (φ := True ∧ True ∧ True ∧ True ∧ True ∧ True ∧ True ∧ True ∧ True ∧ True ∧ True ∧ True ∧ True ∧ True ∧ True ∧ True) (by kernel_rfl) ⟨trivial, trivial, trivial, trivial, trivial, trivial, trivial, trivial, trivial, trivial, trivial, trivial, trivial, trivial, trivial, trivial⟩ ?_
                refine VO.nil ?_
                show VW _ _ _ _ _ _ _
                refine VW.ret ?_
                replace h := Option.some.inj h
                subst h
                exact retR [] (by kernel_rfl) rfl
          · replace h := cond_f h hb; clear hb
            refine VW.seq ?_
            refine VW.region ?_
            refine VO.seg T_ok .dp 2 [1, 44, 130] [0] (s' := ⟨[(1, .lf (.ptr 0 0 0 0)), (44, I x9), (130, B (x9 == (3 : Int)))], [bx [.v (.int .i64) x9, .v .str x10, .v (.int .i64) x11, .v (.int .i64) x12, .v (.int .i64) x13, .v .bool x14, .v (.sl (.int .i64)) x15] 90]⟩) (φ := True ∧ True ∧ True) (by kernel_rfl) ⟨trivial, trivial, trivial⟩ ?_
            refine VO.nil ?_
            show VW _ _ _ _ _ _ _
            refine VW.cond (b := (x9 == (3 : Int))) (by kernel_rfl) (fun hb => ?_) (fun hb => ?_)
            · replace h := cond_t h hb; clear hb
              refine VW.seq ?_
              refine VW.region ?_
              refine VO.seg T_ok .dp 2 [1, 133] [0] (s' := ⟨[(1, .lf (.ptr 0 0 0 0)), (133, I x11)], [bx [.v (.int .i64) x9, .v .str x10, .v (.int .i64) x11, .v (.int .i64) x12, .v (.int .i64) x13, .v .bool x14, .v (.sl (.int .i64)) x15] 90]⟩) (φ := True ∧ True ∧ True) (by kernel_rfl) ⟨trivial, trivial, trivial⟩ ?_
              obtain ⟨y91, hy, h⟩ := andO_some h
              refine VO.call false [.t (.int .i64)] [] T_ok (d := some 134) (by kernel_rfl) (ok142 N _ hy) rfl ?_
              refine VO.seg T_ok .dp 1 [1, 135] [0] (s' := ⟨[(1, .lf (.ptr 0 0 0 0)), (135, B y91)], [bx [.v (.int .i64) x9, .v .str x10, .v (.int .i64) x11, .v (.int .i64) x12, .v (.int .i64) x13, .v .bool x14, .v (.sl (.int .i64)) x15] 90]⟩) (φ := True ∧ True) (by kernel_rfl) ⟨trivial, trivial⟩ ?_
              refine VO.splitB 135 (b := y91) (by kernel_rfl) (fun hb => ?_) (fun hb => ?_)
              · replace h := cond_t h hb; clear hb
                refine VO.seg T_ok .dp 2 [1, 135, 137] [0] (s' := ⟨[(1, .lf (.ptr 0 0 0 0)), (135, B true), (137, I x13)], [bx [.v (.int .i64) x9, .v .str x10, .v (.int .i64) x11, .v (.int .i64) x12, .v (.int .i64) x13, .v .bool x14, .v (.sl (.int .i64)) x15] 90]⟩) (φ := True ∧ True ∧ True) (by kernel_rfl) ⟨trivial, trivial, trivial⟩ ?_
                refine VO.on (j := 3) (want := true) (d := 135) (b := true) rfl rfl rfl (by kernel_rfl) rfl ?_
                obtain ⟨y92, hy, h⟩ := andO_some h
                refine VO.call false [.t (.int .i64)] [] T_ok (d := some 138) (by kernel_rfl) (ok142 N _ hy) rfl ?_
                refine VO.seg T_ok .dp 2 [1, 140] [0] (s' := ⟨[(1, .lf (.ptr 0 0 0 0)), (140, B y92)], [bx [.v (.int .i64) x9, .v .str x10, .v (.int .i64) x11, .v (.int .i64) x12, .v (.int .i64) x13, .v .bool x14, .v (.sl (.int .i64)) x15] 90]⟩) (φ := True ∧ True ∧ True) (by kernel_rfl) ⟨trivial, trivial, trivial⟩ ?_
                refine VO.splitB 140 (b := y92) (by kernel_rfl) (fun hb => ?_) (fun hb => ?_)
                · replace h := cond_t h hb; clear hb
                  refine VO.seg T_ok .dp 5 [2] [] (s' := ⟨[(2, B (!x14))], []⟩) (φ := True ∧ True ∧ True ∧ True ∧ True ∧ True) (by kernel_rfl) ⟨trivial, trivial, trivial, trivial, trivial, trivial⟩ ?_
                  refine VO.nil ?_
                  show VW _ _ _ _ _ _ _
                  refine VW.ret ?_
                  replace h := Option.some.inj h
                  subst h
                  exact retR [] (by kernel_rfl) rfl
                · replace h := cond_f h hb; clear hb
                  refine VO.seg T_ok .dp 5 [2] [] (s' := ⟨[(2, B false)], []⟩) (φ := True ∧ True ∧ True ∧ True ∧ True ∧ True) (by kernel_rfl) ⟨trivial, trivial, trivial, trivial, trivial, trivial⟩ ?_
                  refine VO.nil ?_
                  show VW _ _ _ _ _ _ _
                  refine VW.ret ?_
                  replace h := Option.some.inj h
                  subst h
                  exact retR [] (by kernel_rfl) rfl
              · replace h := cond_f h hb; clear hb
                refine VO.seg T_ok .dp 10 [2] [] (s' := ⟨[(2, B false)], []⟩) (φ := True ∧ True ∧ True ∧ True ∧ True ∧ True ∧ True ∧ True ∧ True ∧ True ∧ True) (by kernel_rfl) ⟨trivial, trivial, trivial, trivial, trivial, trivial, trivial, trivial, trivial, trivial, trivial⟩ ?_
                refine VO.nil ?_
                show VW _ _ _ _ _ _ _
                refine VW.ret ?_
                replace h := Option.some.inj h
                subst h
                exact retR [] (by kernel_rfl) rfl
            · replace h := cond_f h hb; clear hb
              refine VW.seq ?_
              refine VW.region ?_
              refine VO.seg T_ok .dp 2 [1, 44, 145] [0] (s' := ⟨[(1, .lf (.ptr 0 0 0 0)), (44, I x9), (145, B (x9 == (5 : Int)))], [bx [.v (.int .i64) x9, .v .str x10, .v (.int .i64) x11, .v (.int .i64) x12, .v (.int .i64) x13, .v .bool x14, .v (.sl (.int .i64)) x15] 90]⟩) (φ := True ∧ True ∧ True) (by kernel_rfl) ⟨trivial, trivial, trivial⟩ ?_
              refine VO.nil ?_
              show VW _ _ _ _ _ _ _
              refine VW.cond (b := (x9 == (5 : Int))) (by kernel_rfl) (fun hb => ?_) (fun hb => ?_)
              · replace h := cond_t h hb; clear hb
                refine VW.seq ?_
                refine VW.region ?_
                refine VO.seg T_ok .dp 2 [1, 148] [0] (s' := ⟨[(1, .lf (.ptr 0 0 0 0)), (148, I x11)], [bx [.v (.int .i64) x9, .v .str x10, .v (.int .i64) x11, .v (.int .i64) x12, .v (.int .i64) x13, .v .bool x14, .v (.sl (.int .i64)) x15] 90]⟩) (φ := True ∧ True ∧ True) (by kernel_rfl) ⟨trivial, trivial, trivial⟩ ?_
                obtain ⟨y93, hy, h⟩ := andO_some h
                refine VO.call false [.t (.int .i64)] [] T_ok (d := some 149) (by kernel_rfl) (ok142 N _ hy) rfl ?_
                refine VO.seg T_ok .dp 1 [1, 150] [0] (s' := ⟨[(1, .lf (.ptr 0 0 0 0)), (150, B y93)], [bx [.v (.int .i64) x9, .v .str x10, .v (.int .i64) x11, .v (.int .i64) x12, .v (.int .i64) x13, .v .bool x14, .v (.sl (.int .i64)) x15] 90]⟩) (φ := True ∧ True) (by kernel_rfl) ⟨trivial, trivial⟩ ?_
                refine VO.splitB 150 (b := y93) (by kernel_rfl) (fun hb => ?_) (fun hb => ?_)
                · replace h := cond_t h hb; clear hb
                  refine VO.seg T_ok .dp 5 [1, 155] [0] (s' := ⟨[(1, .lf (.ptr 0 0 0 0)), (155, B (x13 == (0 : Int)))], [bx [.v (.int .i64) x9, .v .str x10, .v (.int .i64) x11, .v (.int .i64) x12, .v (.int .i64) x13, .v .bool x14, .v (.sl (.int .i64)) x15] 90]⟩) (φ := True ∧ True ∧ True ∧ True ∧ True ∧ True) (by kernel_rfl) ⟨trivial, trivial, trivial, trivial, trivial, trivial⟩ ?_
                  refine VO.splitB 155 (b := (x13 == (0 : Int))) (by kernel_rfl) (fun hb => ?_) (fun hb => ?_)
                  · replace h := cond_t h hb; clear hb
                    refine VO.seg T_ok .dp 5 [2] [] (s' := ⟨[(2, B (!x14))], []⟩) (φ := True ∧ True ∧ True ∧ True ∧ True ∧ True) (by kernel_rfl) ⟨trivial, trivial, trivial, trivial, trivial, trivial⟩ ?_
                    refine VO.nil ?_
                    show VW _ _ _ _ _ _ _
                    refine VW.ret ?_
                    replace h := Option.some.inj h
                    subst h
                    exact retR [] (by kernel_rfl) rfl
                  · replace h := cond_f h hb; clear hb
                    refine VO.seg T_ok .dp 5 [2] [] (s' := ⟨[(2, B false)], []⟩) (φ := True ∧ True ∧ True ∧ True ∧ True ∧ True) (by kernel_rfl) ⟨trivial, trivial, trivial, trivial, trivial, trivial⟩ ?_
                    refine VO.nil ?_
                    show VW _ _ _ _ _ _ _
                    refine VW.ret ?_
                    replace h := Option.some.inj h
                    subst h
                    exact retR [] (by kernel_rfl) rfl
                · replace h := cond_f h hb; clear hb
                  refine VO.seg T_ok .dp 10 [2] [] (s' := ⟨[(2, B false)], []⟩) (φ := True ∧ True ∧ True ∧ True ∧ True ∧ True ∧ True ∧ True ∧ True ∧ True ∧ True) (by kernel_rfl) ⟨trivial, trivial, trivial, trivial, trivial, trivial, trivial, trivial, trivial, trivial, trivial⟩ ?_
                  refine VO.nil ?_
                  show VW _ _ _ _ _ _ _
                  refine VW.ret ?_
                  replace h := Option.some.inj h
                  subst h
                  exact retR [] (by kernel_rfl) rfl
              · replace h := cond_f h hb; clear hb
                refine VW.seq ?_
                refine VW.region ?_
                refine VO.seg T_ok .dp 2 [1, 44, 160] [0] (s' := ⟨[(1, .lf (.ptr 0 0 0 0)), (44, I x9), (160, B (x9 == (6 : Int)))], [bx [.v (.int .i64) x9, .v .str x10, .v (.int .i64) x11, .v (.int .i64) x12, .v (.int .i64) x13, .v .bool x14, .v (.sl (.int .i64)) x15] 90]⟩) (φ := True ∧ True ∧ True) (by kernel_rfl) ⟨trivial, trivial, trivial⟩ ?_
                refine VO.nil ?_
                show VW _ _ _ _ _ _ _
                refine VW.cond (b := (x9 == (6 : Int))) (by kernel_rfl) (fun hb => ?_) (fun hb => ?_)
                · replace h := cond_t h hb; clear hb
                  refine VW.seq ?_
                  refine VW.region ?_
                  refine VO.seg T_ok .dp 4 [1, 165] [0] (s' := ⟨[(1, .lf (.ptr 0 0 0 0)), (165, B (x11 == (0 : Int)))], [bx [.v (.int .i64) x9, .v .str x10, .v (.int .i64) x11, .v (.int .i64) x12, .v (.int .i64) x13, .v .bool x14, .v (.sl (.int .i64)) x15] 90]⟩) (φ := True ∧ True ∧ True ∧ True ∧ True) (by kernel_rfl) ⟨trivial, trivial, trivial, trivial, trivial⟩ ?_
                  refine VO.splitB 165 (b := (x11 == (0 : Int))) (by kernel_rfl) (fun hb => ?_) (fun hb => ?_)
                  · replace h := cond_t h hb; clear hb
                    refine VO.seg T_ok .dp 2 [165, 167] [] (s' := ⟨[(165, B true), (167, I x13)], []⟩) (φ := True ∧ True ∧ True) (by kernel_rfl) ⟨trivial, trivial, trivial⟩ ?_
                    refine VO.on (j := 3) (want := true) (d := 165) (b := true) rfl rfl rfl (by kernel_rfl) rfl ?_
                    obtain ⟨y94, hy, h⟩ := andO_some h
                    refine VO.call false [.t (.int .i64), .t (.int .i64), .t (.int .i64)] [] T_ok (d := some 168) (by kernel_rfl) (ok53 N _ _ _ hy) rfl ?_
                    refine VO.seg T_ok .dp 2 [2] [] (s' := ⟨[(2, B y94)], []⟩) (φ := True ∧ True ∧ True) (by kernel_rfl) ⟨trivial, trivial, trivial⟩ ?_
                    refine VO.nil ?_
                    show VW _ _ _ _ _ _ _
                    refine VW.ret ?_
                    replace h := Option.some.inj h
                    subst h
                    exact retR [] (by kernel_rfl) rfl
                  · replace h := cond_f h hb; clear hb
                    refine VO.seg T_ok .dp 5 [2] [] (s' := ⟨[(2, B false)], []⟩) (φ := True ∧ True ∧ True ∧ True ∧ True ∧ True) (by kernel_rfl) ⟨trivial, trivial, trivial, trivial, trivial, trivial⟩ ?_
                    refine VO.nil ?_
                    show VW _ _ _ _ _ _ _
                    refine VW.ret ?_
                    replace h := Option.some.inj h
                    subst h
                    exact retR [] (by kernel_rfl) rfl
                · replace h := cond_f h hb; clear hb
                  refine VW.join (fun s => ∃ (x95 : Bool), s = ⟨[(1, .lf (.ptr 0 0 0 0)), (170, B x95)], [bx [.v (.int .i64) x9, .v .str x10, .v (.int .i64) x11, .v (.int .i64) x12, .v (.int .i64) x13, .v .bool x14, .v (.sl (.int .i64)) x15] 90]⟩ ∧ F102_j2 N x11 x13 x14 x95 = some r) ?_ ?_
                  · refine VW.seq ?_
                    refine VW.region ?_
                    refine VO.seg T_ok .dp 2 [1, 44, 170] [0] (s' := ⟨[(1, .lf (.ptr 0 0 0 0)), (44, I x9), (170, B (x9 == (4 : Int)))], [bx [.v (.int .i64) x9, .v .str x10, .v (.int .i64) x11, .v (.int .i64) x12, .v (.int .i64) x13, .v .bool x14, .v (.sl (.int .i64)) x15] 90]⟩) (φ := True ∧ True ∧ True) (by kernel_rfl) ⟨trivial, trivial, trivial⟩ ?_
                    refine VO.nil ?_
                    show VW _ _ _ _ _ _ _
                    refine VW.cond (b := (x9 == (4 : Int))) (by kernel_rfl) (fun hb => ?_) (fun hb => ?_)
                    · replace h := cond_t h hb; clear hb
                      refine VW.skip ?_
                      exact arrive [.ren [1, 170] [0]] (by kernel_rfl) ⟨(x9 == (4 : Int)), rfl, h⟩
                    · replace h := cond_f h hb; clear hb
                      refine VW.region ?_
                      refine VO.seg T_ok .dp 2 [1, 170] [0] (s' := ⟨[(1, .lf (.ptr 0 0 0 0)), (170, B (x9 == (7 : Int)))], [bx [.v (.int .i64) x9, .v .str x10, .v (.int .i64) x11, .v (.int .i64) x12, .v (.int .i64) x13, .v .bool x14, .v (.sl (.int .i64)) x15] 90]⟩) (φ := True ∧ True ∧ True) (by kernel_rfl) ⟨trivial, trivial, trivial⟩ ?_
                      refine VO.nil ?_
                      exact arrive [.ren [1, 170] [0]] (by kernel_rfl) ⟨(x9 == (7 : Int)), rfl, h⟩
                  · rintro s ⟨x95, rfl, h⟩
                    unfold F102_j2 at h
                    refine VW.cond (b := x95) (by kernel_rfl) (fun hb => ?_) (fun hb => ?_)
                    · replace h := cond_t h hb; clear hb
                      refine VW.seq ?_
                      refine VW.region ?_
                      refine VO.seg T_ok .dp 4 [1, 176] [0] (s' := ⟨[(1, .lf (.ptr 0 0 0 0)), (176, B (x11 == (0 : Int)))], [bx [.v (.int .i64) x9, .v .str x10, .v (.int .i64) x11, .v (.int .i64) x12, .v (.int .i64) x13, .v .bool x14, .v (.sl (.int .i64)) x15] 90]⟩) (φ := True ∧ True ∧ True ∧ True ∧ True) (by kernel_rfl) ⟨trivial, trivial, trivial, trivial, trivial⟩ ?_
                      refine VO.splitB 176 (b := (x11 == (0 : Int))) (by kernel_rfl) (fun hb => ?_) (fun hb => ?_)
                      · replace h := cond_t h hb; clear hb
                        refine VO.seg T_ok .dp 5 [1, 181] [0] (s' := ⟨[(1, .lf (.ptr 0 0 0 0)), (181, B (x13 == (0 : Int)))], [bx [.v (.int .i64) x9, .v .str x10, .v (.int .i64) x11, .v (.int .i64) x12, .v (.int .i64) x13, .v .bool x14, .v (.sl (.int .i64)) x15] 90]⟩) (φ := True ∧ True ∧ True ∧ True ∧ True ∧ True) (by kernel_rfl) ⟨trivial, trivial, trivial, trivial, trivial, trivial⟩ ?_
                        refine VO.splitB 181 (b := (x13 == (0 : Int))) (by kernel_rfl) (fun hb => ?_) (fun hb => ?_)
                        · replace h := cond_t h hb; clear hb
                          refine VO.seg T_ok .dp 5 [2] [] (s' := ⟨[(2, B (!x14))], []⟩) (φ := True ∧ True ∧ True ∧ True ∧ True ∧ True) (by kernel_rfl) ⟨trivial, trivial, trivial, trivial, trivial, trivial⟩ ?_
                          refine VO.nil ?_
                          show VW _ _ _ _ _ _ _
                          refine VW.ret ?_
                          replace h := Option.some.inj h
                          subst h
                          exact retR [] (by kernel_rfl) rfl
                        · replace h := cond_f h hb; clear hb
                          refine VO.seg T_ok .dp 5 [2] [] (s' := ⟨[(2, B false)], []⟩) (φ := True ∧ True ∧ True ∧ True ∧ True ∧ True) (by kernel_rfl) ⟨trivial, trivial, trivial, trivial, trivial, trivial⟩ ?_
                          refine VO.nil ?_
                          show VW _ _ _ _ _ _ _
                          refine VW.ret ?_
                          replace h := Option.some.inj h
                          subst h
                          exact retR [] (by kernel_rfl) rfl
                      · replace h := cond_f h hb; clear hb
                        refine VO.seg T_ok .dp 10 [2] [] (s' := ⟨[(2, B false)], []⟩) (φ := True ∧ True ∧ True ∧ True ∧ True ∧ True ∧ True ∧ True ∧ True ∧ True ∧ True) (by kernel_rfl) ⟨trivial, trivial, trivial, trivial, trivial, trivial, trivial, trivial, trivial, trivial, trivial⟩ ?_
                        refine VO.nil ?_
                        show VW _ _ _ _ _ _ _
                        refine VW.ret ?_
                        replace h := Option.some.inj h
                        subst h
                        exact retR [] (by kernel_rfl) rfl
                    · replace h := cond_f h hb; clear hb
                      refine VW.skip ?_
                      exact arrive [.ren [] []] (by kernel_rfl) ⟨rfl, h⟩
    · rintro s ⟨rfl, h⟩
      unfold F102_j0 at h
      refine VW.seq ?_
      refine VW.region ?_
      refine VO.seg T_ok .dp 1 [2] [] (s' := ⟨[(2, B false)], []⟩) (φ := True ∧ True) (by kernel_rfl) ⟨trivial, trivial⟩ ?_
      refine VO.nil ?_
      show VW _ _ _ _ _ _ _
      refine VW.ret ?_
      replace h := Option.some.inj h
      subst h
      exact retR [] (by kernel_rfl) rfl

/- loop.example/g00844/spec.ArityOf -/
def F143_j0 (N : Nat) (x6 : Bool) : Option (Int) :=
  cond x6 (some (1 : Int)) (some (-1 : Int))
def F143_j1 (N : Nat) (a0 : Int) (x5 : Bool) : Option (Int) :=
  cond x5 (some (2 : Int)) (cond (a0 == (1 : Int)) (F143_j0 N (a0 == (1 : Int))) (cond (a0 == (2 : Int)) (F143_j0 N (a0 == (2 : Int))) (cond (a0 == (5 : Int)) (F143_j0 N (a0 == (5 : Int))) (cond (a0 == (6 : Int)) (F143_j0 N (a0 == (6 : Int))) (F143_j0 N (a0 == (7 : Int)))))))
def F143 (N : Nat) (a0 : Int) : Option (Int) :=
  cond (a0 == (0 : Int)) (some (0 : Int)) (cond (a0 == (3 : Int)) (F143_j1 N a0 (a0 == (3 : Int))) (F143_j1 N a0 (a0 == (4 : Int))))
theorem ok143 (N : Nat) (a0 : Int) {r : Int} (h : F143 N a0 = some r) : Con Go.Proofs.Try.prog 143 [I a0] [.lf (.v (.int .i64) r)] := by
  refine ⟨enters_of Go.Proofs.Try.func143 rfl (by decide), HC.intro [.lf (.v (.int .i64))] T_ok Go.Proofs.Try.func143 rfl (Nat.le_of_ble_eq_true rfl) (Nat.le_of_ble_eq_true rfl) fun w0 E0 => ?_⟩
  unfold F143 at h
  show VW _ _ _ _ _ (retQ _ _ _ _) _
  refine VW.seq ?_
  refine VW.region ?_
  refine VO.seg T_ok .dp 1 [0] [] (s' := ⟨[(0, I a0)], []⟩) (φ := True ∧ True) (by kernel_rfl) ⟨trivial, trivial⟩ ?_
  refine VO.nil ?_
  show VW _ _ _ _ _ _ _
  refine VW.seq ?_
  refine VW.seq ?_
  refine VW.region ?_
  refine VO.seg T_ok .dp 1 [3] [] (s' := ⟨[(3, I a0)], []⟩) (φ := True ∧ True) (by kernel_rfl) ⟨trivial, trivial⟩ ?_
  refine VO.nil ?_
  show VW _ _ _ _ _ _ _
  refine VW.block ?_
  refine VW.seq ?_
  refine VW.region ?_
  refine VO.seg T_ok .dp 2 [3, 4] [] (s' := ⟨[(3, I a0), (4, B (a0 == (0 : Int)))], []⟩) (φ := True ∧ True ∧ True) (by kernel_rfl) ⟨trivial, trivial, trivial⟩ ?_
  refine VO.nil ?_
  show VW _ _ _ _ _ _ _
  refine VW.cond (b := (a0 == (0 : Int))) (by kernel_rfl) (fun hb => ?_) (fun hb => ?_)
  · replace h := cond_t h hb; clear hb
    refine VW.seq ?_
    refine VW.region ?_
    refine VO.seg T_ok .dp 1 [2] [] (s' := ⟨[(2, I (0 : Int))], []⟩) (φ := True ∧ True) (by kernel_rfl) ⟨trivial, trivial⟩ ?_
    refine VO.nil ?_
    show VW _ _ _ _ _ _ _
    refine VW.ret ?_
    replace h := Option.some.inj h
    subst h
    exact retR [] (by kernel_rfl) rfl
  · replace h := cond_f h hb; clear hb
    refine VW.join (fun s => ∃ (x5 : Bool), s = ⟨[(3, I a0), (6, B x5)], []⟩ ∧ F143_j1 N a0 x5 = some r) ?_ ?_
    · refine VW.seq ?_
      refine VW.region ?_
      refine VO.seg T_ok .dp 2 [3, 6] [] (s' := ⟨[(3, I a0), (6, B (a0 == (3 : Int)))], []⟩) (φ := True ∧ True ∧ True) (by kernel_rfl) ⟨trivial, trivial, trivial⟩ ?_
      refine VO.nil ?_
      show VW _ _ _ _ _ _ _
      refine VW.cond (b := (a0 == (3 : Int))) (by kernel_rfl) (fun hb => ?_) (fun hb => ?_)
      · replace h := cond_t h hb; clear hb
        refine VW.skip ?_
        exact arrive [.ren [3, 6] []] (by kernel_rfl) ⟨(a0 == (3 : Int)), rfl, h⟩
      · replace h := cond_f h hb; clear hb
        refine VW.region ?_
        refine VO.seg T_ok .dp 2 [3, 6] [] (s' := ⟨[(3, I a0), (6, B (a0 == (4 : Int)))], []⟩) (φ := True ∧ True ∧ True) (by kernel_rfl) ⟨trivial, trivial, trivial⟩ ?_
        refine VO.nil ?_
        exact arrive [.ren [3, 6] []] (by kernel_rfl) ⟨(a0 == (4 : Int)), rfl, h⟩
    · rintro s ⟨x5, rfl, h⟩
      unfold F143_j1 at h
      refine VW.cond (b := x5) (by kernel_rfl) (fun hb => ?_) (fun hb => ?_)
      · replace h := cond_t h hb; clear hb
        refine VW.seq ?_
        refine VW.region ?_
        refine VO.seg T_ok .dp 1 [2] [] (s' := ⟨[(2, I (2 : Int))], []⟩) (φ := True ∧ True) (by kernel_rfl) ⟨trivial, trivial⟩ ?_
        refine VO.nil ?_
        show VW _ _ _ _ _ _ _
        refine VW.ret ?_
        replace h := Option.some.inj h
        subst h
        exact retR [] (by kernel_rfl) rfl
      · replace h := cond_f h hb; clear hb
        refine VW.join (fun s => ∃ (x6 : Bool), s = ⟨[(9, B x6)], []⟩ ∧ F143_j0 N x6 = some r) ?_ ?_
        · refine VW.seq ?_
          refine VW.region ?_
          refine VO.seg T_ok .dp 2 [3, 9] [] (s' := ⟨[(3, I a0), (9, B (a0 == (1 : Int)))], []⟩) (φ := True ∧ True ∧ True) (by kernel_rfl) ⟨trivial, trivial, trivial⟩ ?_
          refine VO.nil ?_
          show VW _ _ _ _ _ _ _
          refine VW.cond (b := (a0 == (1 : Int))) (by kernel_rfl) (fun hb => ?_) (fun hb => ?_)
          · replace h := cond_t h hb; clear hb
            refine VW.skip ?_
            exact arrive [.ren [9] []] (by kernel_rfl) ⟨(a0 == (1 : Int)), rfl, h⟩
          · replace h := cond_f h hb; clear hb
            refine VW.seq ?_
            refine VW.region ?_
            refine VO.seg T_ok .dp 2 [3, 9] [] (s' := ⟨[(3, I a0), (9, B (a0 == (2 : Int)))], []⟩) (φ := True ∧ True ∧ True) (by kernel_rfl) ⟨trivial, trivial, trivial⟩ ?_
            refine VO.nil ?_
            show VW _ _ _ _ _ _ _
            refine VW.cond (b := (a0 == (2 : Int))) (by kernel_rfl) (fun hb => ?_) (fun hb => ?_)
            · replace h := cond_t h hb; clear hb
              refine VW.skip ?_
              exact arrive [.ren [9] []] (by kernel_rfl) ⟨(a0 == (2 : Int)), rfl, h⟩
            · replace h := cond_f h hb; clear hb
              refine VW.seq ?_
              refine VW.region ?_
              refine VO.seg T_ok .dp 2 [3, 9] [] (s' := ⟨[(3, I a0), (9, B (a0 == (5 : Int)))], []⟩) (φ := True ∧ True ∧ True) (by kernel_rfl) ⟨trivial, trivial, trivial⟩ ?_
              refine VO.nil ?_
              show VW _ _ _ _ _ _ _
              refine VW.cond (b := (a0 == (5 : Int))) (by kernel_rfl) (fun hb => ?_) (fun hb => ?_)
              · replace h := cond_t h hb; clear hb
                refine VW.skip ?_
                exact arrive [.ren [9] []] (by kernel_rfl) ⟨(a0 == (5 : Int)), rfl, h⟩
              · replace h := cond_f h hb; clear hb
                refine VW.seq ?_
                refine VW.region ?_
                refine VO.seg T_ok .dp 2 [3, 9] [] (s' := ⟨[(3, I a0), (9, B (a0 == (6 : Int)))], []⟩) (φ := True ∧ True ∧ True) (by kernel_rfl) ⟨trivial, trivial, trivial⟩ ?_
                refine VO.nil ?_
                show VW _ _ _ _ _ _ _
                refine VW.cond (b := (a0 == (6 : Int))) (by kernel_rfl) (fun hb => ?_) (fun hb => ?_)
                · replace h := cond_t h hb; clear hb
                  refine VW.skip ?_
                  exact arrive [.ren [9] []] (by kernel_rfl) ⟨(a0 == (6 : Int)), rfl, h⟩
                · replace h := cond_f h hb; clear hb
                  refine VW.region ?_
                  refine VO.seg T_ok .dp 2 [9] [] (s' := ⟨[(9, B (a0 == (7 : Int)))], []⟩) (φ := True ∧ True ∧ True) (by kernel_rfl) ⟨trivial, trivial, trivial⟩ ?_
                  refine VO.nil ?_
                  exact arrive [.ren [9] []] (by kernel_rfl) ⟨(a0 == (7 : Int)), rfl, h⟩
        · rintro s ⟨x6, rfl, h⟩
          unfold F143_j0 at h
          refine VW.cond (b := x6) (by kernel_rfl) (fun hb => ?_) (fun hb => ?_)
          · replace h := cond_t h hb; clear hb
            refine VW.seq ?_
            refine VW.region ?_
            refine VO.seg T_ok .dp 1 [2] [] (s' := ⟨[(2, I (1 : Int))], []⟩) (φ := True ∧ True) (by kernel_rfl) ⟨trivial, trivial⟩ ?_
            refine VO.nil ?_
            show VW _ _ _ _ _ _ _
            refine VW.ret ?_
            replace h := Option.some.inj h
            subst h
            exact retR [] (by kernel_rfl) rfl
          · replace h := cond_f h hb; clear hb
            refine VW.skip ?_
            show VW _ _ _ _ _ _ _
            refine VW.seq ?_
            refine VW.region ?_
            refine VO.seg T_ok .dp 1 [2] [] (s' := ⟨[(2, I (-1 : Int))], []⟩) (φ := True ∧ True) (by kernel_rfl) ⟨trivial, trivial⟩ ?_
            refine VO.nil ?_
            show VW _ _ _ _ _ _ _
            refine VW.ret ?_
            replace h := Option.some.inj h
            subst h
            exact retR [] (by kernel_rfl) rfl

/- loop.example/g00844/spec.l02End -/
def F103_j0 (N : Nat) (x33 : Int) (x34 : Int) : Option (Int × Int) :=
  some (x33, (IntKind.i64.wrap (x34 + (1 : Int))))
def F103_j1 (N : Nat) (nx58 : Int → Int → Int → Option (Int × Int)) (x48 : Int) (x64 : Int) (x65 : Int) : Option (Int × Int) :=
  nx58 x64 x65 (IntKind.i64.wrap (x48 + (1 : Int)))
def F103_l0_b (N : Nat) (a0 : (List (Int × (ByteArray × (Int × (Int × (Int × (Bool × (List Int))))))))) (a1 : Int) (a2 : Int) (self : (List (Int × (ByteArray × (Int × (Int × (Int × (Bool × (List Int)))))))) → Int → Int → Option (Int × Int)) (nx58 : Int → Int → Int → Option (Int × Int)) (x46 : Int) (x47 : Int) (x48 : Int) : Option (Int × Int) :=
  gd (InR a1 a0.length) (andO (F143 N ((a0.getD a1.toNat (Ty.dflt Y89)).1)) fun y62 => cond (decide (x48 < y62)) (andO (self a0 x46 (IntKind.i64.wrap (a2 - (1 : Int)))) fun y67 => cond (decide (y67.1 < (0 : Int))) (some ((-1 : Int), (0 : Int))) (cond (decide (y67.2 > x47)) (F103_j1 N nx58 x48 y67.1 y67.2) (F103_j1 N nx58 x48 y67.1 x47))) (F103_j0 N x46 x47))
def F103_l0 (N : Nat) (a0 : (List (Int × (ByteArray × (Int × (Int × (Int × (Bool × (List Int))))))))) (a1 : Int) (a2 : Int) (self : (List (Int × (ByteArray × (Int × (Int × (Int × (Bool × (List Int)))))))) → Int → Int → Option (Int × Int)) : Nat → Int → Int → Int → Option (Int × Int) := loopF (F103_l0_b N a0 a1 a2 self) (fun _ _ _ => none)
theorem F103_l0_s (N : Nat) (a0 : (List (Int × (ByteArray × (Int × (Int × (Int × (Bool × (List Int))))))))) (a1 : Int) (a2 : Int) (self : (List (Int × (ByteArray × (Int × (Int × (Int × (Bool × (List Int)))))))) → Int → Int → Option (Int × Int)) {k : Nat} (hk : 0 < k) (x46 : Int) (x47 : Int) (x48 : Int) : F103_l0 N a0 a1 a2 self k x46 x47 x48 = F103_l0_b N a0 a1 a2 self (F103_l0 N a0 a1 a2 self (k - 1)) x46 x47 x48 := by
  cases k with
  | zero => exact absurd hk (Nat.lt_irrefl 0)
  | succ m => rfl
def F103_b (N : Nat) (self : (List (Int × (ByteArray × (Int × (Int × (Int × (Bool × (List Int)))))))) → Int → Int → Option (Int × Int)) (a0 : (List (Int × (ByteArray × (Int × (Int × (Int × (Bool × (List Int))))))))) (a1 : Int) (a2 : Int) : Option (Int × Int) :=
  cond (decide (a1 ≥ (a0.length : Int))) (some ((-1 : Int), (0 : Int))) (cond (a2 == (0 : Int)) (some ((-1 : Int), (0 : Int))) (F103_l0 N a0 a1 a2 self N (IntKind.i64.wrap (a1 + (1 : Int))) (0 : Int) (0 : Int)))
theorem ok103_b (N : Nat) (self : (List (Int × (ByteArray × (Int × (Int × (Int × (Bool × (List Int)))))))) → Int → Int → Option (Int × Int)) (ih : ∀ (a0 : (List (Int × (ByteArray × (Int × (Int × (Int × (Bool × (List Int))))))))) (a1 : Int) (a2 : Int) (r : Int × Int), self a0 a1 a2 = some r → Con Go.Proofs.Try.prog 103 [.lf (.v (.sl Y89) a0), I a1, I a2] [.lf (.v (.int .i64) r.1), .lf (.v (.int .i64) r.2)]) (a0 : (List (Int × (ByteArray × (Int × (Int × (Int × (Bool × (List Int))))))))) (a1 : Int) (a2 : Int) {r : Int × Int} (h : F103_b N self a0 a1 a2 = some r) : Con Go.Proofs.Try.prog 103 [.lf (.v (.sl Y89) a0), I a1, I a2] [.lf (.v (.int .i64) r.1), .lf (.v (.int .i64) r.2)] := by
  refine ⟨enters_of Go.Proofs.Try.func103 rfl (by decide), HC.intro [.lf (.v (.int .i64)), .lf (.v (.int .i64))] T_ok Go.Proofs.Try.func103 rfl (Nat.le_of_ble_eq_true rfl) (Nat.le_of_ble_eq_true rfl) fun w0 E0 => ?_⟩
  unfold F103_b at h
  show VW _ _ _ _ _ (retQ _ _ _ _) _
  refine VW.seq ?_
  refine VW.region ?_
  refine VO.seg T_ok .dp 2 [0, 1, 2] [] (s' := ⟨[(0, .lf (.v (.sl Y89) a0)), (1, I a1), (2, I a2)], []⟩) (φ := True ∧ True ∧ True) (by kernel_rfl) ⟨trivial, trivial, trivial⟩ ?_
  refine VO.nil ?_
  show VW _ _ _ _ _ _ _
  refine VW.seq ?_
  refine VW.seq ?_
  refine VW.region ?_
  refine VO.seg T_ok .dp 5 [0, 1, 2, 17] [] (s' := ⟨[(0, .lf (.v (.sl Y89) a0)), (1, I a1), (2, I a2), (17, B (decide (a1 ≥ (a0.length : Int))))], []⟩) (φ := True ∧ True ∧ True ∧ True ∧ True ∧ True) (by kernel_rfl) ⟨trivial, trivial, trivial, trivial, trivial, trivial⟩ ?_
  refine VO.splitB 17 (b := (decide (a1 ≥ (a0.length : Int)))) (by kernel_rfl) (fun hb => ?_) (fun hb => ?_)
  · replace h := cond_t h hb; clear hb
    refine VO.seg T_ok .dp 3 [0, 1, 2, 20] [] (s' := ⟨[(0, .lf (.v (.sl Y89) a0)), (1, I a1), (2, I a2), (20, B true)], []⟩) (φ := True ∧ True ∧ True ∧ True) (by kernel_rfl) ⟨trivial, trivial, trivial, trivial⟩ ?_
    refine VO.nil ?_
    show VW _ _ _ _ _ _ _
    refine VW.cond (b := true) (by kernel_rfl) (fun _ => ?_) (fun h' => nomatch h')
    refine VW.seq ?_
    refine VW.region ?_
    refine VO.seg T_ok .dp 2 [6, 7] [] (s' := ⟨[(6, I (-1 : Int)), (7, I (0 : Int))], []⟩) (φ := True ∧ True ∧ True) (by kernel_rfl) ⟨trivial, trivial, trivial⟩ ?_
    refine VO.nil ?_
    show VW _ _ _ _ _ _ _
    refine VW.ret ?_
    replace h := Option.some.inj h
    subst h
    exact retR [] (by kernel_rfl) rfl
  · replace h := cond_f h hb; clear hb
    refine VO.seg T_ok .dp 3 [0, 1, 2, 20] [] (s' := ⟨[(0, .lf (.v (.sl Y89) a0)), (1, I a1), (2, I a2), (20, B (a2 == (0 : Int)))], []⟩) (φ := True ∧ True ∧ True ∧ True) (by kernel_rfl) ⟨trivial, trivial, trivial, trivial⟩ ?_
    refine VO.nil ?_
    show VW _ _ _ _ _ _ _
    refine VW.cond (b := (a2 == (0 : Int))) (by kernel_rfl) (fun hb => ?_) (fun hb => ?_)
    · replace h := cond_t h hb; clear hb
      refine VW.seq ?_
      refine VW.region ?_
      refine VO.seg T_ok .dp 2 [6, 7] [] (s' := ⟨[(6, I (-1 : Int)), (7, I (0 : Int))], []⟩) (φ := True ∧ True ∧ True) (by kernel_rfl) ⟨trivial, trivial, trivial⟩ ?_
      refine VO.nil ?_
      show VW _ _ _ _ _ _ _
      refine VW.ret ?_
      replace h := Option.some.inj h
      subst h
      exact retR [] (by kernel_rfl) rfl
    · replace h := cond_f h hb; clear hb
      refine VW.skip ?_
      show VW _ _ _ _ _ _ _
      refine VW.seq ?_
      refine VW.region ?_
      refine VO.seg T_ok .dp 3 [0, 1, 2, 8] [] (s' := ⟨[(0, .lf (.v (.sl Y89) a0)), (1, I a1), (2, I a2), (8, I (IntKind.i64.wrap (a1 + (1 : Int))))], []⟩) (φ := True ∧ True ∧ True ∧ True) (by kernel_rfl) ⟨trivial, trivial, trivial, trivial⟩ ?_
      refine VO.nil ?_
      show VW _ _ _ _ _ _ _
      refine VW.seq ?_
      refine VW.region ?_
      refine VO.seg T_ok .dp 1 [0, 1, 2, 8, 9] [] (s' := ⟨[(0, .lf (.v (.sl Y89) a0)), (1, I a1), (2, I a2), (8, I (IntKind.i64.wrap (a1 + (1 : Int)))), (9, I (0 : Int))], []⟩) (φ := True ∧ True) (by kernel_rfl) ⟨trivial, trivial⟩ ?_
      refine VO.nil ?_
      show VW _ _ _ _ _ _ _
      refine VW.join (fun s => ∃ (x33 : Int) (x34 : Int), s = ⟨[(8, I x33), (9, I x34)], []⟩ ∧ F103_j0 N x33 x34 = some r) ?_ ?_
      · refine VW.seq ?_
        refine VW.region ?_
        refine VO.seg T_ok .dp 1 [0, 1, 2, 8, 9, 10] [] (s' := ⟨[(0, .lf (.v (.sl Y89) a0)), (1, I a1), (2, I a2), (8, I (IntKind.i64.wrap (a1 + (1 : Int)))), (9, I (0 : Int)), (10, I (0 : Int))], []⟩) (φ := True ∧ True) (by kernel_rfl) ⟨trivial, trivial⟩ ?_
        refine VO.nil ?_
        show VW _ _ _ _ _ _ _
        refine VW.block ?_
        refine VW.loopL (fun k s => ∃ (x46 : Int) (x47 : Int) (x48 : Int), s = ⟨[(0, .lf (.v (.sl Y89) a0)), (1, I a1), (2, I a2), (8, I x46), (9, I x47), (10, I x48)], []⟩ ∧ F103_l0 N a0 a1 a2 self k x46 x47 x48 = some r) N [.ren [0, 1, 2, 8, 9, 10] []] (by kernel_rfl) ⟨(IntKind.i64.wrap (a1 + (1 : Int))), (0 : Int), (0 : Int), rfl, h⟩ ?_
        rintro k58 s ⟨x46, x47, x48, rfl, h⟩
        cases k58 with
        | zero => exact nomatch (show (none : Option (Int × Int)) = some r from h)
        | succ k58 =>
          replace h : F103_l0_b N a0 a1 a2 self (F103_l0 N a0 a1 a2 self k58) x46 x47 x48 = some r := h
          unfold F103_l0_b at h
          refine VW.seq ?_
          refine VW.seq ?_
          refine VW.region ?_
          obtain ⟨g61, h⟩ := gd_some h
          refine VO.seg T_ok .dp 6 [0, 1, 2, 8, 9, 10, 23, 28] [] (s' := ⟨[(0, .lf (.v (.sl Y89) a0)), (1, I a1), (2, I a2), (8, I x46), (9, I x47), (10, I x48), (23, I x48), (28, I ((a0.getD a1.toNat (Ty.dflt Y89)).1))], []⟩) (φ := True ∧ True ∧ True ∧ (InR a1 a0.length) ∧ True ∧ True ∧ True) (by kernel_rfl) ⟨trivial, trivial, trivial, g61, trivial, trivial, trivial⟩ ?_
          obtain ⟨y62, hy, h⟩ := andO_some h
          refine VO.call false [.t (.int .i64)] [] T_ok (d := some 29) (by kernel_rfl) (ok143 N _ hy) rfl ?_
          refine VO.seg T_ok .dp 1 [0, 1, 2, 8, 9, 10, 30] [] (s' := ⟨[(0, .lf (.v (.sl Y89) a0)), (1, I a1), (2, I a2), (8, I x46), (9, I x47), (10, I x48), (30, B (decide (x48 < y62)))], []⟩) (φ := True ∧ True) (by kernel_rfl) ⟨trivial, trivial⟩ ?_
          refine VO.nil ?_
          show VW _ _ _ _ _ _ _
          refine VW.cond (b := (decide (x48 < y62))) (by kernel_rfl) (fun hb => ?_) (fun hb => ?_)
          · replace h := cond_t h hb; clear hb
            refine VW.skip ?_
            show VW _ _ _ _ _ _ _
            refine VW.join (fun s => ∃ (x64 : Int) (x65 : Int), s = ⟨[(0, .lf (.v (.sl Y89) a0)), (1, I a1), (2, I a2), (8, I x64), (9, I x65), (10, I x48)], []⟩ ∧ F103_j1 N (F103_l0 N a0 a1 a2 self k58) x48 x64 x65 = some r) ?_ ?_
            · refine VW.block ?_
              refine VW.seq ?_
              refine VW.region ?_
              refine VO.seg T_ok .dp 4 [0, 1, 2, 9, 10, 34, 35, 37] [] (s' := ⟨[(0, .lf (.v (.sl Y89) a0)), (1, I a1), (2, I a2), (9, I x47), (10, I x48), (34, .lf (.v (.sl Y89) a0)), (35, I x46), (37, I (IntKind.i64.wrap (a2 - (1 : Int))))], []⟩) (φ := True ∧ True ∧ True ∧ True ∧ True) (by kernel_rfl) ⟨trivial, trivial, trivial, trivial, trivial⟩ ?_
              obtain ⟨y67, hy, h⟩ := andO_some h
              refine VO.call false [.t (.sl Y89), .t (.int .i64), .t (.int .i64)] [] T_ok (d := some 38) (by kernel_rfl) (ih _ _ _ _ hy) rfl ?_
              refine VO.seg T_ok .dp 5 [0, 1, 2, 9, 10, 11, 12] [] (s' := ⟨[(0, .lf (.v (.sl Y89) a0)), (1, I a1), (2, I a2), (9, I x47), (10, I x48), (11, I y67.1), (12, I y67.2)], []⟩) (φ := True ∧ True ∧ True ∧ True ∧ True ∧ True) (by kernel_rfl) ⟨trivial, trivial, trivial, trivial, trivial, trivial⟩ ?_
              refine VO.nil ?_
              show VW _ _ _ _ _ _ _
              refine VW.seq ?_
              refine VW.seq ?_
              refine VW.region ?_
              refine VO.seg T_ok .dp 2 [0, 1, 2, 9, 10, 11, 12, 42] [] (s' := ⟨[(0, .lf (.v (.sl Y89) a0)), (1, I a1), (2, I a2), (9, I x47), (10, I x48), (11, I y67.1), (12, I y67.2), (42, B (decide (y67.1 < (0 : Int))))], []⟩) (φ := True ∧ True ∧ True) (by kernel_rfl) ⟨trivial, trivial, trivial⟩ ?_
              refine VO.nil ?_
              show VW _ _ _ _ _ _ _
              refine VW.cond (b := (decide (y67.1 < (0 : Int)))) (by kernel_rfl) (fun hb => ?_) (fun hb => ?_)
              · replace h := cond_t h hb; clear hb
                refine VW.seq ?_
                refine VW.region ?_
                refine VO.seg T_ok .dp 2 [6, 7] [] (s' := ⟨[(6, I (-1 : Int)), (7, I (0 : Int))], []⟩) (φ := True ∧ True ∧ True) (by kernel_rfl) ⟨trivial, trivial, trivial⟩ ?_
                refine VO.nil ?_
                show VW _ _ _ _ _ _ _
                refine VW.ret ?_
                replace h := Option.some.inj h
                subst h
                exact retR [] (by kernel_rfl) rfl
              · replace h := cond_f h hb; clear hb
                refine VW.skip ?_
                show VW _ _ _ _ _ _ _
                refine VW.seq ?_
                refine VW.region ?_
                refine VO.seg T_ok .dp 2 [0, 1, 2, 8, 9, 10, 12] [] (s' := ⟨[(0, .lf (.v (.sl Y89) a0)), (1, I a1), (2, I a2), (8, I y67.1), (9, I x47), (10, I x48), (12, I y67.2)], []⟩) (φ := True ∧ True ∧ True) (by kernel_rfl) ⟨trivial, trivial, trivial⟩ ?_
                refine VO.nil ?_
                show VW _ _ _ _ _ _ _
                refine VW.seq ?_
                refine VW.region ?_
                refine VO.seg T_ok .dp 3 [0, 1, 2, 8, 9, 10, 12, 46] [] (s' := ⟨[(0, .lf (.v (.sl Y89) a0)), (1, I a1), (2, I a2), (8, I y67.1), (9, I x47), (10, I x48), (12, I y67.2), (46, B (decide (y67.2 > x47)))], []⟩) (φ := True ∧ True ∧ True ∧ True) (by kernel_rfl) ⟨trivial, trivial, trivial, trivial⟩ ?_
                refine VO.nil ?_
                show VW _ _ _ _ _ _ _
                refine VW.cond (b := (decide (y67.2 > x47))) (by kernel_rfl) (fun hb => ?_) (fun hb => ?_)
                · replace h := cond_t h hb; clear hb
                  refine VW.region ?_
                  refine VO.seg T_ok .dp 2 [0, 1, 2, 8, 9, 10] [] (s' := ⟨[(0, .lf (.v (.sl Y89) a0)), (1, I a1), (2, I a2), (8, I y67.1), (9, I y67.2), (10, I x48)], []⟩) (φ := True ∧ True ∧ True) (by kernel_rfl) ⟨trivial, trivial, trivial⟩ ?_
                  refine VO.nil ?_
                  exact arrive [.ren [0, 1, 2, 8, 9, 10] []] (by kernel_rfl) ⟨y67.1, y67.2, rfl, h⟩
                · replace h := cond_f h hb; clear hb
                  refine VW.skip ?_
                  exact arrive [.ren [0, 1, 2, 8, 9, 10] []] (by kernel_rfl) ⟨y67.1, x47, rfl, h⟩
            · rintro s ⟨x64, x65, rfl, h⟩
              unfold F103_j1 at h
              refine VW.region ?_
              refine VO.seg T_ok .dp 3 [0, 1, 2, 8, 9, 10] [] (s' := ⟨[(0, .lf (.v (.sl Y89) a0)), (1, I a1), (2, I a2), (8, I x64), (9, I x65), (10, I (IntKind.i64.wrap (x48 + (1 : Int))))], []⟩) (φ := True ∧ True ∧ True ∧ True) (by kernel_rfl) ⟨trivial, trivial, trivial, trivial⟩ ?_
              refine VO.nil ?_
              exact around [.ren [0, 1, 2, 8, 9, 10] []] (by kernel_rfl) ⟨x64, x65, (IntKind.i64.wrap (x48 + (1 : Int))), rfl, h⟩
          · replace h := cond_f h hb; clear hb
            refine VW.exit ?_
            exact arrive [.ren [8, 9] []] (by kernel_rfl) ⟨x46, x47, rfl, h⟩
      · rintro s ⟨x33, x34, rfl, h⟩
        unfold F103_j0 at h
        refine VW.seq ?_
        refine VW.region ?_
        refine VO.seg T_ok .dp 5 [6, 7] [] (s' := ⟨[(6, I x33), (7, I (IntKind.i64.wrap (x34 + (1 : Int))))], []⟩) (φ := True ∧ True ∧ True ∧ True ∧ True ∧ True) (by kernel_rfl) ⟨trivial, trivial, trivial, trivial, trivial, trivial⟩ ?_
        refine VO.nil ?_
        show VW _ _ _ _ _ _ _
        refine VW.ret ?_
        replace h := Option.some.inj h
        subst h
        exact retR [] (by kernel_rfl) rfl
def F103_r (N : Nat) : Nat → (List (Int × (ByteArray × (Int × (Int × (Int × (Bool × (List Int)))))))) → Int → Int → Option (Int × Int) := loopF (F103_b N) (fun _ _ _ => none)
theorem F103_s (N : Nat) {k : Nat} (hk : 0 < k) (a0 : (List (Int × (ByteArray × (Int × (Int × (Int × (Bool × (List Int))))))))) (a1 : Int) (a2 : Int) : F103_r N k a0 a1 a2 = F103_b N (F103_r N (k - 1)) a0 a1 a2 := by
  cases k with
  | zero => exact absurd hk (Nat.lt_irrefl 0)
  | succ m => rfl
def F103 (N : Nat) : (List (Int × (ByteArray × (Int × (Int × (Int × (Bool × (List Int)))))))) → Int → Int → Option (Int × Int) := F103_r N N
theorem ok103_k (N : Nat) : ∀ (k : Nat) (a0 : (List (Int × (ByteArray × (Int × (Int × (Int × (Bool × (List Int))))))))) (a1 : Int) (a2 : Int) (r : Int × Int), loopF (F103_b N) (fun _ _ _ => none) k a0 a1 a2 = some r → Con Go.Proofs.Try.prog 103 [.lf (.v (.sl Y89) a0), I a1, I a2] [.lf (.v (.int .i64) r.1), .lf (.v (.int .i64) r.2)]
  | 0, a0, a1, a2, r, h => nomatch (show (none : Option (Int × Int)) = some r from h)
  | k + 1, a0, a1, a2, r, h => ok103_b N _ (ok103_k N k) a0 a1 a2 h
theorem ok103 (N : Nat) (a0 : (List (Int × (ByteArray × (Int × (Int × (Int × (Bool × (List Int))))))))) (a1 : Int) (a2 : Int) {r : Int × Int} (h : F103 N a0 a1 a2 = some r) : Con Go.Proofs.Try.prog 103 [.lf (.v (.sl Y89) a0), I a1, I a2] [.lf (.v (.int .i64) r.1), .lf (.v (.int .i64) r.2)] := ok103_k N N a0 a1 a2 r h

/- loop.example/g00844/spec.PlanOk -/
def F62_j0 (N : Nat) (a0 : (List (Int × (ByteArray × (Int × (Int × (Int × (Bool × (List Int))))))))) : Option (Bool) :=
  andO (F103 N a0 (0 : Int) (10 : Int)) fun y17 => some (y17.1 == (a0.length : Int))
def F62_l0_b (N : Nat) (a0 : (List (Int × (ByteArray × (Int × (Int × (Int × (Bool × (List Int))))))))) (nx28 : Int → Option (Bool)) (x23 : Int) : Option (Bool) :=
  cond (decide (x23 < (a0.length : Int))) (gd (InR x23 a0.length) (andO (F102 N (a0.getD x23.toNat (Ty.dflt Y89))) fun y32 => cond (!y32) (some false) (nx28 (IntKind.i64.wrap (x23 + (1 : Int)))))) (F62_j0 N a0)
def F62_l0 (N : Nat) (a0 : (List (Int × (ByteArray × (Int × (Int × (Int × (Bool × (List Int))))))))) : Nat → Int → Option (Bool) := loopF (F62_l0_b N a0) (fun _ => none)
theorem F62_l0_s (N : Nat) (a0 : (List (Int × (ByteArray × (Int × (Int × (Int × (Bool × (List Int))))))))) {k : Nat} (hk : 0 < k) (x23 : Int) : F62_l0 N a0 k x23 = F62_l0_b N a0 (F62_l0 N a0 (k - 1)) x23 := by
  cases k with
  | zero => exact absurd hk (Nat.lt_irrefl 0)
  | succ m => rfl
def F62 (N : Nat) (a0 : (List (Int × (ByteArray × (Int × (Int × (Int × (Bool × (List Int))))))))) : Option (Bool) :=
  andO (F53 N (a0.length : Int) (1 : Int) (40 : Int)) fun y2 => cond (!y2) (some false) (F62_l0 N a0 N (0 : Int))
theorem ok62 (N : Nat) (a0 : (List (Int × (ByteArray × (Int × (Int × (Int × (Bool × (List Int))))))))) {r : Bool} (h : F62 N a0 = some r) : Con Go.Proofs.Try.prog 62 [.lf (.v (.sl Y89) a0)] [.lf (.v .bool r)] := by
  refine ⟨enters_of Go.Proofs.Try.func62 rfl (by decide), HC.intro [.lf (.v .bool)] T_ok Go.Proofs.Try.func62 rfl (Nat.le_of_ble_eq_true rfl) (Nat.le_of_ble_eq_true rfl) fun w0 E0 => ?_⟩
  unfold F62 at h
  show VW _ _ _ _ _ (retQ _ _ _ _) _
  refine VW.seq ?_
  refine VW.region ?_
  refine VO.seg T_ok .dp 1 [0] [] (s' := ⟨[(0, .lf (.v (.sl Y89) a0))], []⟩) (φ := True ∧ True) (by kernel_rfl) ⟨trivial, trivial⟩ ?_
  refine VO.nil ?_
  show VW _ _ _ _ _ _ _
  refine VW.seq ?_
  refine VW.seq ?_
  refine VW.region ?_
  refine VO.seg T_ok .dp 2 [0, 7] [] (s' := ⟨[(0, .lf (.v (.sl Y89) a0)), (7, I (a0.length : Int))], []⟩) (φ := True ∧ True ∧ True) (by kernel_rfl) ⟨trivial, trivial, trivial⟩ ?_
  obtain ⟨y2, hy, h⟩ := andO_some h
  refine VO.call false [.t (.int .i64), .t (.int .i64), .t (.int .i64)] [] T_ok (d := some 8) (by kernel_rfl) (ok53 N _ _ _ hy) rfl ?_
  refine VO.seg T_ok .dp 1 [0, 9] [] (s' := ⟨[(0, .lf (.v (.sl Y89) a0)), (9, B (!y2))], []⟩) (φ := True ∧ True) (by kernel_rfl) ⟨trivial, trivial⟩ ?_
  refine VO.nil ?_
  show VW _ _ _ _ _ _ _
  refine VW.cond (b := (!y2)) (by kernel_rfl) (fun hb => ?_) (fun hb => ?_)
  · replace h := cond_t h hb; clear hb
    refine VW.seq ?_
    refine VW.region ?_
    refine VO.seg T_ok .dp 1 [2] [] (s' := ⟨[(2, B false)], []⟩) (φ := True ∧ True) (by kernel_rfl) ⟨trivial, trivial⟩ ?_
    refine VO.nil ?_
    show VW _ _ _ _ _ _ _
    refine VW.ret ?_
    replace h := Option.some.inj h
    subst h
    exact retR [] (by kernel_rfl) rfl
  · replace h := cond_f h hb; clear hb
    refine VW.skip ?_
    show VW _ _ _ _ _ _ _
    refine VW.join (fun s => s = ⟨[(0, .lf (.v (.sl Y89) a0))], []⟩ ∧ F62_j0 N a0 = some r) ?_ ?_
    · refine VW.seq ?_
      refine VW.region ?_
      refine VO.seg T_ok .dp 1 [0, 3] [] (s' := ⟨[(0, .lf (.v (.sl Y89) a0)), (3, I (0 : Int))], []⟩) (φ := True ∧ True) (by kernel_rfl) ⟨trivial, trivial⟩ ?_
      refine VO.nil ?_
      show VW _ _ _ _ _ _ _
      refine VW.block ?_
      refine VW.loopL (fun k s => ∃ (x23 : Int), s = ⟨[(0, .lf (.v (.sl Y89) a0)), (3, I x23)], []⟩ ∧ F62_l0 N a0 k x23 = some r) N [.ren [0, 3] []] (by kernel_rfl) ⟨(0 : Int), rfl, h⟩ ?_
      rintro k28 s ⟨x23, rfl, h⟩
      cases k28 with
      | zero => exact nomatch (show (none : Option (Bool)) = some r from h)
      | succ k28 =>
        replace h : F62_l0_b N a0 (F62_l0 N a0 k28) x23 = some r := h
        unfold F62_l0_b at h
        refine VW.seq ?_
        refine VW.seq ?_
        refine VW.region ?_
        refine VO.seg T_ok .dp 4 [0, 3, 13] [] (s' := ⟨[(0, .lf (.v (.sl Y89) a0)), (3, I x23), (13, B (decide (x23 < (a0.length : Int))))], []⟩) (φ := True ∧ True ∧ True ∧ True ∧ True) (by kernel_rfl) ⟨trivial, trivial, trivial, trivial, trivial⟩ ?_
        refine VO.nil ?_
        show VW _ _ _ _ _ _ _
        refine VW.cond (b := (decide (x23 < (a0.length : Int)))) (by kernel_rfl) (fun hb => ?_) (fun hb => ?_)
        · replace h := cond_t h hb; clear hb
          refine VW.skip ?_
          show VW _ _ _ _ _ _ _
          refine VW.seq ?_
          refine VW.block ?_
          refine VW.seq ?_
          refine VW.region ?_
          obtain ⟨g31, h⟩ := gd_some h
          refine VO.seg T_ok .dp 4 [0, 3, 19] [] (s' := ⟨[(0, .lf (.v (.sl Y89) a0)), (3, I x23), (19, .agg [.v (.int .i64) ((a0.getD x23.toNat (Ty.dflt Y89)).1), .v .str ((a0.getD x23.toNat (Ty.dflt Y89)).2.1), .v (.int .i64) ((a0.getD x23.toNat (Ty.dflt Y89)).2.2.1), .v (.int .i64) ((a0.getD x23.toNat (Ty.dflt Y89)).2.2.2.1), .v (.int .i64) ((a0.getD x23.toNat (Ty.dflt Y89)).2.2.2.2.1), .v .bool ((a0.getD x23.toNat (Ty.dflt Y89)).2.2.2.2.2.1), .v (.sl (.int .i64)) ((a0.getD x23.toNat (Ty.dflt Y89)).2.2.2.2.2.2)])], []⟩) (φ := True ∧ True ∧ (InR x23 a0.length) ∧ True ∧ True) (by kernel_rfl) ⟨trivial, trivial, g31, trivial, trivial⟩ ?_
          obtain ⟨y32, hy, h⟩ := andO_some h
          refine VO.call false [.t Y89] [] T_ok (d := some 20) (by kernel_rfl) (ok102 N _ hy) rfl ?_
          refine VO.seg T_ok .dp 1 [0, 3, 21] [] (s' := ⟨[(0, .lf (.v (.sl Y89) a0)), (3, I x23), (21, B (!y32))], []⟩) (φ := True ∧ True) (by kernel_rfl) ⟨trivial, trivial⟩ ?_
          refine VO.nil ?_
          show VW _ _ _ _ _ _ _
          refine VW.cond (b := (!y32)) (by kernel_rfl) (fun hb => ?_) (fun hb => ?_)
          · replace h := cond_t h hb; clear hb
            refine VW.seq ?_
            refine VW.region ?_
            refine VO.seg T_ok .dp 1 [2] [] (s' := ⟨[(2, B false)], []⟩) (φ := True ∧ True) (by kernel_rfl) ⟨trivial, trivial⟩ ?_
            refine VO.nil ?_
            show VW _ _ _ _ _ _ _
            refine VW.ret ?_
            replace h := Option.some.inj h
            subst h
            exact retR [] (by kernel_rfl) rfl
          · replace h := cond_f h hb; clear hb
            refine VW.skip ?_
            show VW _ _ _ _ _ _ _
            refine VW.region ?_
            refine VO.seg T_ok .dp 3 [0, 3] [] (s' := ⟨[(0, .lf (.v (.sl Y89) a0)), (3, I (IntKind.i64.wrap (x23 + (1 : Int))))], []⟩) (φ := True ∧ True ∧ True ∧ True) (by kernel_rfl) ⟨trivial, trivial, trivial, trivial⟩ ?_
            refine VO.nil ?_
            exact around [.ren [0, 3] []] (by kernel_rfl) ⟨(IntKind.i64.wrap (x23 + (1 : Int))), rfl, h⟩
        · replace h := cond_f h hb; clear hb
          refine VW.exit ?_
          exact arrive [.ren [0] []] (by kernel_rfl) ⟨rfl, h⟩
    · rintro s ⟨rfl, h⟩
      unfold F62_j0 at h
      refine VW.seq ?_
      refine VW.region ?_
      refine VO.seg T_ok .dp 1 [0, 23] [] (s' := ⟨[(0, .lf (.v (.sl Y89) a0)), (23, .lf (.v (.sl Y89) a0))], []⟩) (φ := True ∧ True) (by kernel_rfl) ⟨trivial, trivial⟩ ?_
      obtain ⟨y17, hy, h⟩ := andO_some h
      refine VO.call false [.t (.sl Y89), .t (.int .i64), .t (.int .i64)] [] T_ok (d := some 24) (by kernel_rfl) (ok103 N _ _ _ hy) rfl ?_
      refine VO.seg T_ok .dp 5 [0, 4] [] (s' := ⟨[(0, .lf (.v (.sl Y89) a0)), (4, I y17.1)], []⟩) (φ := True ∧ True ∧ True ∧ True ∧ True ∧ True) (by kernel_rfl) ⟨trivial, trivial, trivial, trivial, trivial, trivial⟩ ?_
      refine VO.nil ?_
      show VW _ _ _ _ _ _ _
      refine VW.seq ?_
      refine VW.region ?_
      refine VO.seg T_ok .dp 5 [2] [] (s' := ⟨[(2, B (y17.1 == (a0.length : Int)))], []⟩) (φ := True ∧ True ∧ True ∧ True ∧ True ∧ True) (by kernel_rfl) ⟨trivial, trivial, trivial, trivial, trivial, trivial⟩ ?_
      refine VO.nil ?_
      show VW _ _ _ _ _ _ _
      refine VW.ret ?_
      replace h := Option.some.inj h
      subst h
      exact retR [] (by kernel_rfl) rfl

/- slices.IndexFunc[[]loop.example/g00844/impl.Node,loop.example/g00844/impl.Node] -/
def F144_j0 (N : Nat) : Option (Int) :=
  some (-1 : Int)
def F144_l0_b (N : Nat) (a0 : (List (Int × (ByteArray × (Int × (Int × (Int × (Bool × (List Int))))))))) (p1 : (Int × (ByteArray × (Int × (Int × (Int × (Bool × (List Int))))))) → Option (Bool)) (nx29 : Int → Int → Option (Int)) (x23 : Int) (x24 : Int) : Option (Int) :=
  cond (decide (x24 < x23)) (gd (InR x24 a0.length) (andO (p1 (a0.getD x24.toNat (Ty.dflt Y89))) fun y33 => cond y33 (some x24) (nx29 x23 (IntKind.i64.wrap (x24 + (1 : Int)))))) (F144_j0 N)
def F144_l0 (N : Nat) (a0 : (List (Int × (ByteArray × (Int × (Int × (Int × (Bool × (List Int))))))))) (p1 : (Int × (ByteArray × (Int × (Int × (Int × (Bool × (List Int))))))) → Option (Bool)) : Nat → Int → Int → Option (Int) := loopF (F144_l0_b N a0 p1) (fun _ _ => none)
theorem F144_l0_s (N : Nat) (a0 : (List (Int × (ByteArray × (Int × (Int × (Int × (Bool × (List Int))))))))) (p1 : (Int × (ByteArray × (Int × (Int × (Int × (Bool × (List Int))))))) → Option (Bool)) {k : Nat} (hk : 0 < k) (x23 : Int) (x24 : Int) : F144_l0 N a0 p1 k x23 x24 = F144_l0_b N a0 p1 (F144_l0 N a0 p1 (k - 1)) x23 x24 := by
  cases k with
  | zero => exact absurd hk (Nat.lt_irrefl 0)
  | succ m => rfl
def F144 (N : Nat) (a0 : (List (Int × (ByteArray × (Int × (Int × (Int × (Bool × (List Int))))))))) (p1 : (Int × (ByteArray × (Int × (Int × (Int × (Bool × (List Int))))))) → Option (Bool)) : Option (Int) :=
  F144_l0 N a0 p1 N (a0.length : Int) (0 : Int)
theorem ok144 (N : Nat) (a0 : (List (Int × (ByteArray × (Int × (Int × (Int × (Bool × (List Int))))))))) (g1 : FuncId) (p1 : (Int × (ByteArray × (Int × (Int × (Int × (Bool × (List Int))))))) → Option (Bool)) (hp1 : ∀ (z0 : (Int × (ByteArray × (Int × (Int × (Int × (Bool × (List Int)))))))) (r : Bool), p1 z0 = some r → Con Go.Proofs.Try.prog g1 [.agg [.v (.int .i64) z0.1, .v .str z0.2.1, .v (.int .i64) z0.2.2.1, .v (.int .i64) z0.2.2.2.1, .v (.int .i64) z0.2.2.2.2.1, .v .bool z0.2.2.2.2.2.1, .v (.sl (.int .i64)) z0.2.2.2.2.2.2]] [.lf (.v .bool r)]) {r : Int} (h : F144 N a0 p1 = some r) : Con Go.Proofs.Try.prog 144 [.lf (.v (.sl Y89) a0), .clo g1 []] [.lf (.v (.int .i64) r)] := by
  refine ⟨enters_of Go.Proofs.Try.func144 rfl (by decide), HC.intro [.lf (.v (.int .i64))] T_ok Go.Proofs.Try.func144 rfl (Nat.le_of_ble_eq_true rfl) (Nat.le_of_ble_eq_true rfl) fun w0 E0 => ?_⟩
  unfold F144 at h
  show VW _ _ _ _ _ (retQ _ _ _ _) _
  refine VW.seq ?_
  refine VW.region ?_
  refine VO.seg T_ok .dp 1 [0, 1] [] (s' := ⟨[(0, .lf (.v (.sl Y89) a0)), (1, .clo g1 [])], []⟩) (φ := True ∧ True) (by kernel_rfl) ⟨trivial, trivial⟩ ?_
  refine VO.nil ?_
  show VW _ _ _ _ _ _ _
  refine VW.join (fun s => s = ⟨[], []⟩ ∧ F144_j0 N = some r) ?_ ?_
  · refine VW.seq ?_
    refine VW.region ?_
    refine VO.seg T_ok .dp 3 [0, 1, 7, 8] [] (s' := ⟨[(0, .lf (.v (.sl Y89) a0)), (1, .clo g1 []), (7, I (a0.length : Int)), (8, I (0 : Int))], []⟩) (φ := True ∧ True ∧ True ∧ True) (by kernel_rfl) ⟨trivial, trivial, trivial, trivial⟩ ?_
    refine VO.nil ?_
    show VW _ _ _ _ _ _ _
    refine VW.block ?_
    refine VW.loopL (fun k s => ∃ (x23 : Int) (x24 : Int), s = ⟨[(0, .lf (.v (.sl Y89) a0)), (1, .clo g1 []), (7, I x23), (8, I x24)], []⟩ ∧ F144_l0 N a0 p1 k x23 x24 = some r) N [.ren [0, 1, 7, 8] []] (by kernel_rfl) ⟨(a0.length : Int), (0 : Int), rfl, h⟩ ?_
    rintro k29 s ⟨x23, x24, rfl, h⟩
    cases k29 with
    | zero => exact nomatch (show (none : Option (Int)) = some r from h)
    | succ k29 =>
      replace h : F144_l0_b N a0 p1 (F144_l0 N a0 p1 k29) x23 x24 = some r := h
      unfold F144_l0_b at h
      refine VW.seq ?_
      refine VW.region ?_
      refine VO.seg T_ok .dp 1 [0, 1, 7, 8, 9] [] (s' := ⟨[(0, .lf (.v (.sl Y89) a0)), (1, .clo g1 []), (7, I x23), (8, I x24), (9, B (decide (x24 < x23)))], []⟩) (φ := True ∧ True) (by kernel_rfl) ⟨trivial, trivial⟩ ?_
      refine VO.nil ?_
      show VW _ _ _ _ _ _ _
      refine VW.seq ?_
      refine VW.cond (b := (decide (x24 < x23))) (by kernel_rfl) (fun hb => ?_) (fun hb => ?_)
      · replace h := cond_t h hb; clear hb
        refine VW.skip ?_
        show VW _ _ _ _ _ _ _
        refine VW.seq ?_
        refine VW.block ?_
        refine VW.seq ?_
        refine VW.region ?_
        refine VO.seg T_ok .dp 2 [0, 1, 5, 7, 8] [] (s' := ⟨[(0, .lf (.v (.sl Y89) a0)), (1, .clo g1 []), (5, I x24), (7, I x23), (8, I x24)], []⟩) (φ := True ∧ True ∧ True) (by kernel_rfl) ⟨trivial, trivial, trivial⟩ ?_
        refine VO.nil ?_
        show VW _ _ _ _ _ _ _
        refine VW.seq ?_
        refine VW.region ?_
        obtain ⟨g32, h⟩ := gd_some h
        refine VO.seg T_ok .dp 5 [0, 1, 5, 7, 8, 11, 15] [] (s' := ⟨[(0, .lf (.v (.sl Y89) a0)), (1, .clo g1 []), (5, I x24), (7, I x23), (8, I x24), (11, .clo g1 []), (15, .agg [.v (.int .i64) ((a0.getD x24.toNat (Ty.dflt Y89)).1), .v .str ((a0.getD x24.toNat (Ty.dflt Y89)).2.1), .v (.int .i64) ((a0.getD x24.toNat (Ty.dflt Y89)).2.2.1), .v (.int .i64) ((a0.getD x24.toNat (Ty.dflt Y89)).2.2.2.1), .v (.int .i64) ((a0.getD x24.toNat (Ty.dflt Y89)).2.2.2.2.1), .v .bool ((a0.getD x24.toNat (Ty.dflt Y89)).2.2.2.2.2.1), .v (.sl (.int .i64)) ((a0.getD x24.toNat (Ty.dflt Y89)).2.2.2.2.2.2)])], []⟩) (φ := True ∧ True ∧ True ∧ (InR x24 a0.length) ∧ True ∧ True) (by kernel_rfl) ⟨trivial, trivial, trivial, g32, trivial, trivial⟩ ?_
        obtain ⟨y33, hy, h⟩ := andO_some h
        refine VO.call false [.t Y89] [] T_ok (d := some 16) (by kernel_rfl) (hp1 _ _ hy) rfl ?_
        refine VO.seg T_ok .dp 0 [0, 1, 5, 7, 8, 16] [] (s' := ⟨[(0, .lf (.v (.sl Y89) a0)), (1, .clo g1 []), (5, I x24), (7, I x23), (8, I x24), (16, B y33)], []⟩) (φ := True) (by kernel_rfl) trivial ?_
        refine VO.nil ?_
        show VW _ _ _ _ _ _ _
        refine VW.cond (b := y33) (by kernel_rfl) (fun hb => ?_) (fun hb => ?_)
        · replace h := cond_t h hb; clear hb
          refine VW.seq ?_
          refine VW.region ?_
          refine VO.seg T_ok .dp 2 [4] [] (s' := ⟨[(4, I x24)], []⟩) (φ := True ∧ True ∧ True) (by kernel_rfl) ⟨trivial, trivial, trivial⟩ ?_
          refine VO.nil ?_
          show VW _ _ _ _ _ _ _
          refine VW.ret ?_
          replace h := Option.some.inj h
          subst h
          exact retR [] (by kernel_rfl) rfl
        · replace h := cond_f h hb; clear hb
          refine VW.skip ?_
          show VW _ _ _ _ _ _ _
          refine VW.region ?_
          refine VO.seg T_ok .dp 2 [0, 1, 7, 8] [] (s' := ⟨[(0, .lf (.v (.sl Y89) a0)), (1, .clo g1 []), (7, I x23), (8, I (IntKind.i64.wrap (x24 + (1 : Int))))], []⟩) (φ := True ∧ True ∧ True) (by kernel_rfl) ⟨trivial, trivial, trivial⟩ ?_
          refine VO.nil ?_
          exact around [.ren [0, 1, 7, 8] []] (by kernel_rfl) ⟨x23, (IntKind.i64.wrap (x24 + (1 : Int))), rfl, h⟩
      · replace h := cond_f h hb; clear hb
        refine VW.exit ?_
        exact arrive [.ren [] []] (by kernel_rfl) ⟨rfl, h⟩
  · rintro s ⟨rfl, h⟩
    unfold F144_j0 at h
    refine VW.seq ?_
    refine VW.region ?_
    refine VO.seg T_ok .dp 1 [4] [] (s' := ⟨[(4, I (-1 : Int))], []⟩) (φ := True ∧ True) (by kernel_rfl) ⟨trivial, trivial⟩ ?_
    refine VO.nil ?_
    show VW _ _ _ _ _ _ _
    refine VW.ret ?_
    replace h := Option.some.inj h
    subst h
    exact retR [] (by kernel_rfl) rfl

/- slices.ContainsFunc[[]loop.example/g00844/impl.Node,loop.example/g00844/impl.Node] -/
def F110 (N : Nat) (a0 : (List (Int × (ByteArray × (Int × (Int × (Int × (Bool × (List Int))))))))) (p1 : (Int × (ByteArray × (Int × (Int × (Int × (Bool × (List Int))))))) → Option (Bool)) : Option (Bool) :=
  andO (F144 N a0 p1) fun y1 => some (decide (y1 ≥ (0 : Int)))
theorem ok110 (N : Nat) (a0 : (List (Int × (ByteArray × (Int × (Int × (Int × (Bool × (List Int))))))))) (g1 : FuncId) (p1 : (Int × (ByteArray × (Int × (Int × (Int × (Bool × (List Int))))))) → Option (Bool)) (hp1 : ∀ (z0 : (Int × (ByteArray × (Int × (Int × (Int × (Bool × (List Int)))))))) (r : Bool), p1 z0 = some r → Con Go.Proofs.Try.prog g1 [.agg [.v (.int .i64) z0.1, .v .str z0.2.1, .v (.int .i64) z0.2.2.1, .v (.int .i64) z0.2.2.2.1, .v (.int .i64) z0.2.2.2.2.1, .v .bool z0.2.2.2.2.2.1, .v (.sl (.int .i64)) z0.2.2.2.2.2.2]] [.lf (.v .bool r)]) {r : Bool} (h : F110 N a0 p1 = some r) : Con Go.Proofs.Try.prog 110 [.lf (.v (.sl Y89) a0), .clo g1 []] [.lf (.v .bool r)] := by
  refine ⟨enters_of Go.Proofs.Try.func110 rfl (by decide), HC.intro [.lf (.v .bool)] T_ok Go.Proofs.Try.func110 rfl (Nat.le_of_ble_eq_true rfl) (Nat.le_of_ble_eq_true rfl) fun w0 E0 => ?_⟩
  unfold F110 at h
  show VW _ _ _ _ _ (retQ _ _ _ _) _
  refine VW.seq ?_
  refine VW.region ?_
  refine VO.seg T_ok .dp 1 [0, 1] [] (s' := ⟨[(0, .lf (.v (.sl Y89) a0)), (1, .clo g1 [])], []⟩) (φ := True ∧ True) (by kernel_rfl) ⟨trivial, trivial⟩ ?_
  refine VO.nil ?_
  show VW _ _ _ _ _ _ _
  refine VW.seq ?_
  refine VW.region ?_
  refine VO.seg T_ok .dp 2 [5, 6] [] (s' := ⟨[(5, .lf (.v (.sl Y89) a0)), (6, .clo g1 [])], []⟩) (φ := True ∧ True ∧ True) (by kernel_rfl) ⟨trivial, trivial, trivial⟩ ?_
  obtain ⟨y1, hy, h⟩ := andO_some h
  refine VO.call false [.t (.sl Y89), .clo []] [] T_ok (d := some 7) (by kernel_rfl) (ok144 N _ g1  p1 hp1 hy) rfl ?_
  refine VO.seg T_ok .dp 2 [4] [] (s' := ⟨[(4, B (decide (y1 ≥ (0 : Int))))], []⟩) (φ := True ∧ True ∧ True) (by kernel_rfl) ⟨trivial, trivial, trivial⟩ ?_
  refine VO.nil ?_
  show VW _ _ _ _ _ _ _
  refine VW.ret ?_
  replace h := Option.some.inj h
  subst h
  exact retR [] (by kernel_rfl) rfl

/- slices.Equal[[]int,int] -/
def F126_j0 (N : Nat) : Option (Bool) :=
  some true
def F126_l0_b (N : Nat) (a0 : (List Int)) (a1 : (List Int)) (nx29 : Int → Int → Option (Bool)) (x23 : Int) (x24 : Int) : Option (Bool) :=
  cond (decide (x24 < x23)) (gd (InR x24 a0.length) (gd (InR x24 a1.length) (cond ((a0.getD x24.toNat (Ty.dflt (.int .i64))) != (a1.getD x24.toNat (Ty.dflt (.int .i64)))) (some false) (nx29 x23 (IntKind.i64.wrap (x24 + (1 : Int))))))) (F126_j0 N)
def F126_l0 (N : Nat) (a0 : (List Int)) (a1 : (List Int)) : Nat → Int → Int → Option (Bool) := loopF (F126_l0_b N a0 a1) (fun _ _ => none)
theorem F126_l0_s (N : Nat) (a0 : (List Int)) (a1 : (List Int)) {k : Nat} (hk : 0 < k) (x23 : Int) (x24 : Int) : F126_l0 N a0 a1 k x23 x24 = F126_l0_b N a0 a1 (F126_l0 N a0 a1 (k - 1)) x23 x24 := by
  cases k with
  | zero => exact absurd hk (Nat.lt_irrefl 0)
  | succ m => rfl
def F126 (N : Nat) (a0 : (List Int)) (a1 : (List Int)) : Option (Bool) :=
  cond ((a0.length : Int) != (a1.length : Int)) (some false) (F126_l0 N a0 a1 N (a0.length : Int) (0 : Int))
theorem ok126 (N : Nat) (a0 : (List Int)) (a1 : (List Int)) {r : Bool} (h : F126 N a0 a1 = some r) : Con Go.Proofs.Try.prog 126 [.lf (.v (.sl (.int .i64)) a0), .lf (.v (.sl (.int .i64)) a1)] [.lf (.v .bool r)] := by
  refine ⟨enters_of Go.Proofs.Try.func126 rfl (by decide), HC.intro [.lf (.v .bool)] T_ok Go.Proofs.Try.func126 rfl (Nat.le_of_ble_eq_true rfl) (Nat.le_of_ble_eq_true rfl) fun w0 E0 => ?_⟩
  unfold F126 at h
  show VW _ _ _ _ _ (retQ _ _ _ _) _
  refine VW.seq ?_
  refine VW.region ?_
  refine VO.seg T_ok .dp 1 [0, 1] [] (s' := ⟨[(0, .lf (.v (.sl (.int .i64)) a0)), (1, .lf (.v (.sl (.int .i64)) a1))], []⟩) (φ := True ∧ True) (by kernel_rfl) ⟨trivial, trivial⟩ ?_
  refine VO.nil ?_
  show VW _ _ _ _ _ _ _
  refine VW.seq ?_
  refine VW.seq ?_
  refine VW.region ?_
  refine VO.seg T_ok .dp 5 [0, 1, 10] [] (s' := ⟨[(0, .lf (.v (.sl (.int .i64)) a0)), (1, .lf (.v (.sl (.int .i64)) a1)), (10, B ((a0.length : Int) != (a1.length : Int)))], []⟩) (φ := True ∧ True ∧ True ∧ True ∧ True ∧ True) (by kernel_rfl) ⟨trivial, trivial, trivial, trivial, trivial, trivial⟩ ?_
  refine VO.nil ?_
  show VW _ _ _ _ _ _ _
  refine VW.cond (b := ((a0.length : Int) != (a1.length : Int))) (by kernel_rfl) (fun hb => ?_) (fun hb => ?_)
  · replace h := cond_t h hb; clear hb
    refine VW.seq ?_
    refine VW.region ?_
    refine VO.seg T_ok .dp 1 [4] [] (s' := ⟨[(4, B false)], []⟩) (φ := True ∧ True) (by kernel_rfl) ⟨trivial, trivial⟩ ?_
    refine VO.nil ?_
    show VW _ _ _ _ _ _ _
    refine VW.ret ?_
    replace h := Option.some.inj h
    subst h
    exact retR [] (by kernel_rfl) rfl
  · replace h := cond_f h hb; clear hb
    refine VW.skip ?_
    show VW _ _ _ _ _ _ _
    refine VW.join (fun s => s = ⟨[], []⟩ ∧ F126_j0 N = some r) ?_ ?_
    · refine VW.seq ?_
      refine VW.region ?_
      refine VO.seg T_ok .dp 3 [0, 1, 12, 13] [] (s' := ⟨[(0, .lf (.v (.sl (.int .i64)) a0)), (1, .lf (.v (.sl (.int .i64)) a1)), (12, I (a0.length : Int)), (13, I (0 : Int))], []⟩) (φ := True ∧ True ∧ True ∧ True) (by kernel_rfl) ⟨trivial, trivial, trivial, trivial⟩ ?_
      refine VO.nil ?_
      show VW _ _ _ _ _ _ _
      refine VW.block ?_
      refine VW.loopL (fun k s => ∃ (x23 : Int) (x24 : Int), s = ⟨[(0, .lf (.v (.sl (.int .i64)) a0)), (1, .lf (.v (.sl (.int .i64)) a1)), (12, I x23), (13, I x24)], []⟩ ∧ F126_l0 N a0 a1 k x23 x24 = some r) N [.ren [0, 1, 12, 13] []] (by kernel_rfl) ⟨(a0.length : Int), (0 : Int), rfl, h⟩ ?_
      rintro k29 s ⟨x23, x24, rfl, h⟩
      cases k29 with
      | zero => exact nomatch (show (none : Option (Bool)) = some r from h)
      | succ k29 =>
        replace h : F126_l0_b N a0 a1 (F126_l0 N a0 a1 k29) x23 x24 = some r := h
        unfold F126_l0_b at h
        refine VW.seq ?_
        refine VW.region ?_
        refine VO.seg T_ok .dp 1 [0, 1, 12, 13, 14] [] (s' := ⟨[(0, .lf (.v (.sl (.int .i64)) a0)), (1, .lf (.v (.sl (.int .i64)) a1)), (12, I x23), (13, I x24), (14, B (decide (x24 < x23)))], []⟩) (φ := True ∧ True) (by kernel_rfl) ⟨trivial, trivial⟩ ?_
        refine VO.nil ?_
        show VW _ _ _ _ _ _ _
        refine VW.seq ?_
        refine VW.cond (b := (decide (x24 < x23))) (by kernel_rfl) (fun hb => ?_) (fun hb => ?_)
        · replace h := cond_t h hb; clear hb
          refine VW.skip ?_
          show VW _ _ _ _ _ _ _
          refine VW.seq ?_
          refine VW.block ?_
          refine VW.seq ?_
          refine VW.region ?_
          refine VO.seg T_ok .dp 2 [0, 1, 5, 12, 13] [] (s' := ⟨[(0, .lf (.v (.sl (.int .i64)) a0)), (1, .lf (.v (.sl (.int .i64)) a1)), (5, I x24), (12, I x23), (13, I x24)], []⟩) (φ := True ∧ True ∧ True) (by kernel_rfl) ⟨trivial, trivial, trivial⟩ ?_
          refine VO.nil ?_
          show VW _ _ _ _ _ _ _
          refine VW.seq ?_
          obtain ⟨g32, h⟩ := gd_some h
          obtain ⟨g33, h⟩ := gd_some h
          refine VW.drawn (by kernel_rfl) [some (16, .lf (.v (.sl (.int .i64)) a0)), some (17, I x24), some (18, .lf (.fp (.int .i64) (a0.getD x24.toNat (Ty.dflt (.int .i64))) 0)), some (19, I (a0.getD x24.toNat (Ty.dflt (.int .i64)))), some (20, .lf (.v (.sl (.int .i64)) a1)), some (21, I x24), some (22, .lf (.fp (.int .i64) (a1.getD x24.toNat (Ty.dflt (.int .i64))) 0)), some (23, I (a1.getD x24.toNat (Ty.dflt (.int .i64)))), some (24, B ((a0.getD x24.toNat (Ty.dflt (.int .i64))) != (a1.getD x24.toNat (Ty.dflt (.int .i64)))))] [] [[]] [(0, 0), (1, 0), (2, 0), (3, 0), (4, 0), (5, 0), (6, 0), (7, 0), (8, 0)] [0, 1, 12, 13, 24] [] (s' := ⟨[(0, .lf (.v (.sl (.int .i64)) a0)), (1, .lf (.v (.sl (.int .i64)) a1)), (12, I x23), (13, I x24), (24, B ((a0.getD x24.toNat (Ty.dflt (.int .i64))) != (a1.getD x24.toNat (Ty.dflt (.int .i64)))))], []⟩) (by kernel_rfl) (by kernel_rfl) ⟨⟨_, rfl, Stp.ev T_ok (m := .dp) (φ := True) (by kernel_rfl) trivial⟩,
    ⟨_, rfl, Stp.ev T_ok (m := .dp) (φ := True) (by kernel_rfl) trivial⟩,
    ⟨_, rfl, Stp.ev T_ok (m := .dp) (φ := InR x24 a0.length) (by kernel_rfl) g32⟩,
    ⟨_, rfl, Stp.ev T_ok (m := .dp) (φ := True) (by kernel_rfl) trivial⟩,
    ⟨_, rfl, Stp.ev T_ok (m := .dp) (φ := True) (by kernel_rfl) trivial⟩,
    ⟨_, rfl, Stp.ev T_ok (m := .dp) (φ := True) (by kernel_rfl) trivial⟩,
    ⟨_, rfl, Stp.ev T_ok (m := .dp) (φ := InR x24 a1.length) (by kernel_rfl) g33⟩,
    ⟨_, rfl, Stp.ev T_ok (m := .dp) (φ := True) (by kernel_rfl) trivial⟩,
    ⟨_, rfl, Stp.ev T_ok (m := .dp) (φ := True) (by kernel_rfl) trivial⟩, trivial⟩ (by kernel_rfl) ?_
          show VW _ _ _ _ _ _ _
          refine VW.cond (b := ((a0.getD x24.toNat (Ty.dflt (.int .i64))) != (a1.getD x24.toNat (Ty.dflt (.int .i64))))) (by kernel_rfl) (fun hb => ?_) (fun hb => ?_)
          · replace h := cond_t h hb; clear hb
            refine VW.seq ?_
            refine VW.region ?_
            refine VO.seg T_ok .dp 1 [4] [] (s' := ⟨[(4, B false)], []⟩) (φ := True ∧ True) (by kernel_rfl) ⟨trivial, trivial⟩ ?_
            refine VO.nil ?_
            show VW _ _ _ _ _ _ _
            refine VW.ret ?_
            replace h := Option.some.inj h
            subst h
            exact retR [] (by kernel_rfl) rfl
          · replace h := cond_f h hb; clear hb
            refine VW.skip ?_
            show VW _ _ _ _ _ _ _
            refine VW.region ?_
            refine VO.seg T_ok .dp 2 [0, 1, 12, 13] [] (s' := ⟨[(0, .lf (.v (.sl (.int .i64)) a0)), (1, .lf (.v (.sl (.int .i64)) a1)), (12, I x23), (13, I (IntKind.i64.wrap (x24 + (1 : Int))))], []⟩) (φ := True ∧ True ∧ True) (by kernel_rfl) ⟨trivial, trivial, trivial⟩ ?_
            refine VO.nil ?_
            exact around [.ren [0, 1, 12, 13] []] (by kernel_rfl) ⟨x23, (IntKind.i64.wrap (x24 + (1 : Int))), rfl, h⟩
        · replace h := cond_f h hb; clear hb
          refine VW.exit ?_
          exact arrive [.ren [] []] (by kernel_rfl) ⟨rfl, h⟩
    · rintro s ⟨rfl, h⟩
      unfold F126_j0 at h
      refine VW.seq ?_
      refine VW.region ?_
      refine VO.seg T_ok .dp 1 [4] [] (s' := ⟨[(4, B true)], []⟩) (φ := True ∧ True) (by kernel_rfl) ⟨trivial, trivial⟩ ?_
      refine VO.nil ?_
      show VW _ _ _ _ _ _ _
      refine VW.ret ?_
      replace h := Option.some.inj h
      subst h
      exact retR [] (by kernel_rfl) rfl

/- loop.example/g00844/impl.sameNode -/
def F77 (N : Nat) (a0 : (Int × (ByteArray × (Int × (Int × (Int × (Bool × (List Int)))))))) (a1 : (Int × (ByteArray × (Int × (Int × (Int × (Bool × (List Int)))))))) : Option (Bool) :=
  cond (a0.1 == a1.1) (cond (a0.2.1.toList == a1.2.1.toList) (cond (a0.2.2.1 == a1.2.2.1) (cond (a0.2.2.2.1 == a1.2.2.2.1) (cond (a0.2.2.2.2.1 == a1.2.2.2.2.1) (cond (a0.2.2.2.2.2.1 == a1.2.2.2.2.2.1) (andO (F126 N a0.2.2.2.2.2.2 a1.2.2.2.2.2.2) fun y1 => some y1) (some false)) (some false)) (some false)) (some false)) (some false)) (some false)
theorem ok77 (N : Nat) (a0 : (Int × (ByteArray × (Int × (Int × (Int × (Bool × (List Int)))))))) (a1 : (Int × (ByteArray × (Int × (Int × (Int × (Bool × (List Int)))))))) {r : Bool} (h : F77 N a0 a1 = some r) : Con Go.Proofs.Try.prog 77 [.agg [.v (.int .i64) a0.1, .v .str a0.2.1, .v (.int .i64) a0.2.2.1, .v (.int .i64) a0.2.2.2.1, .v (.int .i64) a0.2.2.2.2.1, .v .bool a0.2.2.2.2.2.1, .v (.sl (.int .i64)) a0.2.2.2.2.2.2], .agg [.v (.int .i64) a1.1, .v .str a1.2.1, .v (.int .i64) a1.2.2.1, .v (.int .i64) a1.2.2.2.1, .v (.int .i64) a1.2.2.2.2.1, .v .bool a1.2.2.2.2.2.1, .v (.sl (.int .i64)) a1.2.2.2.2.2.2]] [.lf (.v .bool r)] := by
  refine ⟨enters_of Go.Proofs.Try.func77 rfl (by decide), HC.intro [.lf (.v .bool)] T_ok Go.Proofs.Try.func77 rfl (Nat.le_of_ble_eq_true rfl) (Nat.le_of_ble_eq_true rfl) fun w0 E0 => ?_⟩
  unfold F77 at h
  show VW _ _ _ _ _ (retQ _ _ _ _) _
  refine VW.seq ?_
  refine VW.region ?_
  refine VO.seg T_ok .dp 3 [2, 3] [0, 1] (s' := ⟨[(2, .lf (.ptr 0 0 0 0)), (3, .lf (.ptr 1 0 0 0))], [bx [.v (.int .i64) a0.1, .v .str a0.2.1, .v (.int .i64) a0.2.2.1, .v (.int .i64) a0.2.2.2.1, .v (.int .i64) a0.2.2.2.2.1, .v .bool a0.2.2.2.2.2.1, .v (.sl (.int .i64)) a0.2.2.2.2.2.2] 90, bx [.v (.int .i64) a1.1, .v .str a1.2.1, .v (.int .i64) a1.2.2.1, .v (.int .i64) a1.2.2.2.1, .v (.int .i64) a1.2.2.2.2.1, .v .bool a1.2.2.2.2.2.1, .v (.sl (.int .i64)) a1.2.2.2.2.2.2] 90]⟩) (φ := True ∧ True ∧ True ∧ True) (by kernel_rfl) ⟨trivial, trivial, trivial, trivial⟩ ?_
  refine VO.nil ?_
  show VW _ _ _ _ _ _ _
  refine VW.seq ?_
  refine VW.region ?_
  refine VO.seg T_ok .dp 6 [2, 3, 10] [0, 1] (s' := ⟨[(2, .lf (.ptr 0 0 0 0)), (3, .lf (.ptr 1 0 0 0)), (10, B (a0.1 == a1.1))], [bx [.v (.int .i64) a0.1, .v .str a0.2.1, .v (.int .i64) a0.2.2.1, .v (.int .i64) a0.2.2.2.1, .v (.int .i64) a0.2.2.2.2.1, .v .bool a0.2.2.2.2.2.1, .v (.sl (.int .i64)) a0.2.2.2.2.2.2] 90, bx [.v (.int .i64) a1.1, .v .str a1.2.1, .v (.int .i64) a1.2.2.1, .v (.int .i64) a1.2.2.2.1, .v (.int .i64) a1.2.2.2.2.1, .v .bool a1.2.2.2.2.2.1, .v (.sl (.int .i64)) a1.2.2.2.2.2.2] 90]⟩) (φ := True ∧ True ∧ True ∧ True ∧ True ∧ True ∧ True) (by kernel_rfl) ⟨trivial, trivial, trivial, trivial, trivial, trivial, trivial⟩ ?_
  refine VO.splitB 10 (b := (a0.1 == a1.1)) (by kernel_rfl) (fun hb => ?_) (fun hb => ?_)
  · replace h := cond_t h hb; clear hb
    refine VO.seg T_ok .dp 7 [2, 3, 17] [0, 1] (s' := ⟨[(2, .lf (.ptr 0 0 0 0)), (3, .lf (.ptr 1 0 0 0)), (17, B (a0.2.1.toList == a1.2.1.toList))], [bx [.v (.int .i64) a0.1, .v .str a0.2.1, .v (.int .i64) a0.2.2.1, .v (.int .i64) a0.2.2.2.1, .v (.int .i64) a0.2.2.2.2.1, .v .bool a0.2.2.2.2.2.1, .v (.sl (.int .i64)) a0.2.2.2.2.2.2] 90, bx [.v (.int .i64) a1.1, .v .str a1.2.1, .v (.int .i64) a1.2.2.1, .v (.int .i64) a1.2.2.2.1, .v (.int .i64) a1.2.2.2.2.1, .v .bool a1.2.2.2.2.2.1, .v (.sl (.int .i64)) a1.2.2.2.2.2.2] 90]⟩) (φ := True ∧ True ∧ True ∧ True ∧ True ∧ True ∧ True ∧ True) (by kernel_rfl) ⟨trivial, trivial, trivial, trivial, trivial, trivial, trivial, trivial⟩ ?_
    refine VO.splitB 17 (b := (a0.2.1.toList == a1.2.1.toList)) (by kernel_rfl) (fun hb => ?_) (fun hb => ?_)
    · replace h := cond_t h hb; clear hb
      refine VO.seg T_ok .dp 7 [2, 3, 24] [0, 1] (s' := ⟨[(2, .lf (.ptr 0 0 0 0)), (3, .lf (.ptr 1 0 0 0)), (24, B (a0.2.2.1 == a1.2.2.1))], [bx [.v (.int .i64) a0.1, .v .str a0.2.1, .v (.int .i64) a0.2.2.1, .v (.int .i64) a0.2.2.2.1, .v (.int .i64) a0.2.2.2.2.1, .v .bool a0.2.2.2.2.2.1, .v (.sl (.int .i64)) a0.2.2.2.2.2.2] 90, bx [.v (.int .i64) a1.1, .v .str a1.2.1, .v (.int .i64) a1.2.2.1, .v (.int .i64) a1.2.2.2.1, .v (.int .i64) a1.2.2.2.2.1, .v .bool a1.2.2.2.2.2.1, .v (.sl (.int .i64)) a1.2.2.2.2.2.2] 90]⟩) (φ := True ∧ True ∧ True ∧ True ∧ True ∧ True ∧ True ∧ True) (by kernel_rfl) ⟨trivial, trivial, trivial, trivial, trivial, trivial, trivial, trivial⟩ ?_
      refine VO.splitB 24 (b := (a0.2.2.1 == a1.2.2.1)) (by kernel_rfl) (fun hb => ?_) (fun hb => ?_)
      · replace h := cond_t h hb; clear hb
        refine VO.seg T_ok .dp 7 [2, 3, 31] [0, 1] (s' := ⟨[(2, .lf (.ptr 0 0 0 0)), (3, .lf (.ptr 1 0 0 0)), (31, B (a0.2.2.2.1 == a1.2.2.2.1))], [bx [.v (.int .i64) a0.1, .v .str a0.2.1, .v (.int .i64) a0.2.2.1, .v (.int .i64) a0.2.2.2.1, .v (.int .i64) a0.2.2.2.2.1, .v .bool a0.2.2.2.2.2.1, .v (.sl (.int .i64)) a0.2.2.2.2.2.2] 90, bx [.v (.int .i64) a1.1, .v .str a1.2.1, .v (.int .i64) a1.2.2.1, .v (.int .i64) a1.2.2.2.1, .v (.int .i64) a1.2.2.2.2.1, .v .bool a1.2.2.2.2.2.1, .v (.sl (.int .i64)) a1.2.2.2.2.2.2] 90]⟩) (φ := True ∧ True ∧ True ∧ True ∧ True ∧ True ∧ True ∧ True) (by kernel_rfl) ⟨trivial, trivial, trivial, trivial, trivial, trivial, trivial, trivial⟩ ?_
        refine VO.splitB 31 (b := (a0.2.2.2.1 == a1.2.2.2.1)) (by kernel_rfl) (fun hb => ?_) (fun hb => ?_)
        · replace h := cond_t h hb; clear hb
          refine VO.seg T_ok .dp 7 [2, 3, 38] [0, 1] (s' := ⟨[(2, .lf (.ptr 0 0 0 0)), (3, .lf (.ptr 1 0 0 0)), (38, B (a0.2.2.2.2.1 == a1.2.2.2.2.1))], [bx [.v (.int .i64) a0.1, .v .str a0.2.1, .v (.int .i64) a0.2.2.1, .v (.int .i64) a0.2.2.2.1, .v (.int .i64) a0.2.2.2.2.1, .v .bool a0.2.2.2.2.2.1, .v (.sl (.int .i64)) a0.2.2.2.2.2.2] 90, bx [.v (.int .i64) a1.1, .v .str a1.2.1, .v (.int .i64) a1.2.2.1, .v (.int .i64) a1.2.2.2.1, .v (.int .i64) a1.2.2.2.2.1, .v .bool a1.2.2.2.2.2.1, .v (.sl (.int .i64)) a1.2.2.2.2.2.2] 90]⟩) (φ := True ∧ True ∧ True ∧ True ∧ True ∧ True ∧ True ∧ True) (by kernel_rfl) ⟨trivial, trivial, trivial, trivial, trivial, trivial, trivial, trivial⟩ ?_
          refine VO.splitB 38 (b := (a0.2.2.2.2.1 == a1.2.2.2.2.1)) (by kernel_rfl) (fun hb => ?_) (fun hb => ?_)
          · replace h := cond_t h hb; clear hb
            refine VO.seg T_ok .dp 7 [2, 3, 45] [0, 1] (s' := ⟨[(2, .lf (.ptr 0 0 0 0)), (3, .lf (.ptr 1 0 0 0)), (45, B (a0.2.2.2.2.2.1 == a1.2.2.2.2.2.1))], [bx [.v (.int .i64) a0.1, .v .str a0.2.1, .v (.int .i64) a0.2.2.1, .v (.int .i64) a0.2.2.2.1, .v (.int .i64) a0.2.2.2.2.1, .v .bool a0.2.2.2.2.2.1, .v (.sl (.int .i64)) a0.2.2.2.2.2.2] 90, bx [.v (.int .i64) a1.1, .v .str a1.2.1, .v (.int .i64) a1.2.2.1, .v (.int .i64) a1.2.2.2.1, .v (.int .i64) a1.2.2.2.2.1, .v .bool a1.2.2.2.2.2.1, .v (.sl (.int .i64)) a1.2.2.2.2.2.2] 90]⟩) (φ := True ∧ True ∧ True ∧ True ∧ True ∧ True ∧ True ∧ True) (by kernel_rfl) ⟨trivial, trivial, trivial, trivial, trivial, trivial, trivial, trivial⟩ ?_
            refine VO.splitB 45 (b := (a0.2.2.2.2.2.1 == a1.2.2.2.2.2.1)) (by kernel_rfl) (fun hb => ?_) (fun hb => ?_)
            · replace h := cond_t h hb; clear hb
              refine VO.seg T_ok .dp 4 [45, 47, 49] [] (s' := ⟨[(45, B true), (47, .lf (.v (.sl (.int .i64)) a0.2.2.2.2.2.2)), (49, .lf (.v (.sl (.int .i64)) a1.2.2.2.2.2.2))], []⟩) (φ := True ∧ True ∧ True ∧ True ∧ True) (by kernel_rfl) ⟨trivial, trivial, trivial, trivial, trivial⟩ ?_
              refine VO.on (j := 40) (want := true) (d := 45) (b := true) rfl rfl rfl (by kernel_rfl) rfl ?_
              obtain ⟨y1, hy, h⟩ := andO_some h
              refine VO.call false [.t (.sl (.int .i64)), .t (.sl (.int .i64))] [] T_ok (d := some 50) (by kernel_rfl) (ok126 N _ _ hy) rfl ?_
              refine VO.seg T_ok .dp 2 [4] [] (s' := ⟨[(4, B y1)], []⟩) (φ := True ∧ True ∧ True) (by kernel_rfl) ⟨trivial, trivial, trivial⟩ ?_
              refine VO.nil ?_
              show VW _ _ _ _ _ _ _
              refine VW.ret ?_
              replace h := Option.some.inj h
              subst h
              exact retR [] (by kernel_rfl) rfl
            · replace h := cond_f h hb; clear hb
              refine VO.seg T_ok .dp 7 [4] [] (s' := ⟨[(4, B false)], []⟩) (φ := True ∧ True ∧ True ∧ True ∧ True ∧ True ∧ True ∧ True) (by kernel_rfl) ⟨trivial, trivial, trivial, trivial, trivial, trivial, trivial, trivial⟩ ?_
              refine VO.nil ?_
              show VW _ _ _ _ _ _ _
              refine VW.ret ?_
              replace h := Option.some.inj h
              subst h
              exact retR [] (by kernel_rfl) rfl
          · replace h := cond_f h hb; clear hb
            refine VO.seg T_ok .dp 14 [4] [] (s' := ⟨[(4, B false)], []⟩) (φ := True ∧ True ∧ True ∧ True ∧ True ∧ True ∧ True ∧ True ∧ True ∧ True ∧ True ∧ True ∧ True ∧ True ∧ True) (by kernel_rfl) ⟨trivial, trivial, trivial, trivial, trivial, trivial, trivial, trivial, trivial, trivial, trivial, trivial, trivial, trivial, trivial⟩ ?_
            refine VO.nil ?_
            show VW _ _ _ _ _ _ _
            refine VW.ret ?_
            replace h := Option.some.inj h
            subst h
            exact retR [] (by kernel_rfl) rfl
        · replace h := cond_f h hb; clear hb
          refine VO.seg T_ok .dp 21 [4] [] (s' := ⟨[(4, B false)], []⟩) (φ := True ∧ True ∧ True ∧ True ∧ True ∧ True ∧ True ∧ True ∧ True ∧ True ∧ True ∧ True ∧ True ∧ True ∧ True ∧ True ∧ True ∧ True ∧ True ∧ True ∧ True ∧ True) (by kernel_rfl) ⟨trivial, trivial, trivial, trivial, trivial, trivial, trivial, trivial, trivial, trivial, trivial, trivial, trivial, trivial, trivial, trivial, trivial, trivial, trivial, trivial, trivial, trivial⟩ ?_
          refine VO.nil ?_
          show VW _ _ _ _ _ _ _
          refine VW.ret ?_
          replace h := Option.some.inj h
          subst h
          exact retR [] (by kernel_rfl) rfl
      · replace h := cond_f h hb; clear hb
        refine VO.seg T_ok .dp 28 [4] [] (s' := ⟨[(4, B false)], []⟩) (φ := True ∧ True ∧ True ∧ True ∧ True ∧ True ∧ True ∧ True ∧ True ∧ True ∧ True ∧ True ∧ True ∧ True ∧ True ∧ True ∧ True ∧ True ∧ True ∧ True ∧ True ∧ True ∧ True ∧ True ∧ True ∧ True ∧ True ∧ True ∧ True) (by kernel_rfl) ⟨trivial, trivial, trivial, trivial, trivial, trivial, trivial, trivial, trivial, trivial, trivial, trivial, trivial, trivial, trivial, trivial, trivial, trivial, trivial, trivial, trivial, trivial, trivial, trivial, trivial, trivial, trivial, trivial, trivial⟩ ?_
        refine VO.nil ?_
        show VW _ _ _ _ _ _ _
        refine VW.ret ?_
        replace h := Option.some.inj h
        subst h
        exact retR [] (by kernel_rfl) rfl
    · replace h := cond_f h hb; clear hb
      refine VO.seg T_ok .dp 35 [4] [] (s' := ⟨[(4, B false)], []⟩) (φ := True ∧ True ∧ True ∧ True ∧ True ∧ True ∧ True ∧ True ∧ True ∧ True ∧ True ∧ True ∧ True ∧ True ∧ True ∧ True ∧ True ∧ True ∧ True ∧ True ∧ True ∧ True ∧ True ∧ True ∧ True ∧ True ∧ True ∧ True ∧ True ∧ True ∧ True ∧ True ∧ True ∧ True ∧ True ∧ True) (by kernel_rfl) ⟨trivial, trivial, trivial, trivial, trivial, trivial, trivial, trivial, trivial, trivial, trivial, trivial, trivial, trivial, trivial, trivial, trivial, trivial, trivial, trivial, trivial, trivial, trivial, trivial, trivial, trivial, trivial, trivial, trivial, trivial, trivial, trivial, trivial, trivial, trivial, trivial⟩ ?_
      refine VO.nil ?_
      show VW _ _ _ _ _ _ _
      refine VW.ret ?_
      replace h := Option.some.inj h
      subst h
      exact retR [] (by kernel_rfl) rfl
  · replace h := cond_f h hb; clear hb
    refine VO.seg T_ok .dp 42 [4] [] (s' := ⟨[(4, B false)], []⟩) (φ := True ∧ True ∧ True ∧ True ∧ True ∧ True ∧ True ∧ True ∧ True ∧ True ∧ True ∧ True ∧ True ∧ True ∧ True ∧ True ∧ True ∧ True ∧ True ∧ True ∧ True ∧ True ∧ True ∧ True ∧ True ∧ True ∧ True ∧ True ∧ True ∧ True ∧ True ∧ True ∧ True ∧ True ∧ True ∧ True ∧ True ∧ True ∧ True ∧ True ∧ True ∧ True ∧ True) (by kernel_rfl) ⟨trivial, trivial, trivial, trivial, trivial, trivial, trivial, trivial, trivial, trivial, trivial, trivial, trivial, trivial, trivial, trivial, trivial, trivial, trivial, trivial, trivial, trivial, trivial, trivial, trivial, trivial, trivial, trivial, trivial, trivial, trivial, trivial, trivial, trivial, trivial, trivial, trivial, trivial, trivial, trivial, trivial, trivial, trivial⟩ ?_
    refine VO.nil ?_
    show VW _ _ _ _ _ _ _
    refine VW.ret ?_
    replace h := Option.some.inj h
    subst h
    exact retR [] (by kernel_rfl) rfl

/- loop.example/g00844/impl.isNum -/
def F114 (N : Nat) (a0 : Int) : Option (Bool) :=
  andO (F54 N a0 (-1000000 : Int) (1000000 : Int)) fun y1 => some y1
theorem ok114 (N : Nat) (a0 : Int) {r : Bool} (h : F114 N a0 = some r) : Con Go.Proofs.Try.prog 114 [I a0] [.lf (.v .bool r)] := by
  refine ⟨enters_of Go.Proofs.Try.func114 rfl (by decide), HC.intro [.lf (.v .bool)] T_ok Go.Proofs.Try.func114 rfl (Nat.le_of_ble_eq_true rfl) (Nat.le_of_ble_eq_true rfl) fun w0 E0 => ?_⟩
  unfold F114 at h
  show VW _ _ _ _ _ (retQ _ _ _ _) _
  refine VW.seq ?_
  refine VW.region ?_
  refine VO.seg T_ok .dp 1 [0] [] (s' := ⟨[(0, I a0)], []⟩) (φ := True ∧ True) (by kernel_rfl) ⟨trivial, trivial⟩ ?_
  refine VO.nil ?_
  show VW _ _ _ _ _ _ _
  refine VW.seq ?_
  refine VW.region ?_
  refine VO.seg T_ok .dp 1 [3] [] (s' := ⟨[(3, I a0)], []⟩) (φ := True ∧ True) (by kernel_rfl) ⟨trivial, trivial⟩ ?_
  obtain ⟨y1, hy, h⟩ := andO_some h
  refine VO.call false [.t (.int .i64), .t (.int .i64), .t (.int .i64)] [] T_ok (d := some 4) (by kernel_rfl) (ok54 N _ _ _ hy) rfl ?_
  refine VO.seg T_ok .dp 1 [2] [] (s' := ⟨[(2, B y1)], []⟩) (φ := True ∧ True) (by kernel_rfl) ⟨trivial, trivial⟩ ?_
  refine VO.nil ?_
  show VW _ _ _ _ _ _ _
  refine VW.ret ?_
  replace h := Option.some.inj h
  subst h
  exact retR [] (by kernel_rfl) rfl

/- loop.example/g00844/impl.WordOk -/
def F136_j0 (N : Nat) (a0 : ByteArray) : Option (Bool) :=
  andO (F54 N (a0.size : Int) (1 : Int) (12 : Int)) fun y14 => some y14
def F136_j1 (N : Nat) (nx25 : Int → Int → Option (Bool)) (x20 : Int) (x21 : Int) : Option (Bool) :=
  nx25 x20 (IntKind.i64.wrap (x21 + (1 : Int)))
def F136_l0_b (N : Nat) (a0 : ByteArray) (nx25 : Int → Int → Option (Bool)) (x20 : Int) (x21 : Int) : Option (Bool) :=
  cond (decide (x21 < x20)) (gd (InR x21 a0.size) (cond (decide (((a0.data.getD x21.toNat 0).toNat : Int) ≥ (97 : Int))) (cond (!(decide (((a0.data.getD x21.toNat 0).toNat : Int) ≤ (122 : Int)))) (cond (x21 == (0 : Int)) (some false) (cond (decide (((a0.data.getD x21.toNat 0).toNat : Int) < (48 : Int))) (some false) (cond (decide (((a0.data.getD x21.toNat 0).toNat : Int) > (57 : Int))) (some false) (F136_j1 N nx25 x20 x21)))) (F136_j1 N nx25 x20 x21)) (cond (x21 == (0 : Int)) (some false) (cond (decide (((a0.data.getD x21.toNat 0).toNat : Int) < (48 : Int))) (some false) (cond (decide (((a0.data.getD x21.toNat 0).toNat : Int) > (57 : Int))) (some false) (F136_j1 N nx25 x20 x21)))))) (F136_j0 N a0)
def F136_l0 (N : Nat) (a0 : ByteArray) : Nat → Int → Int → Option (Bool) := loopF (F136_l0_b N a0) (fun _ _ => none)
theorem F136_l0_s (N : Nat) (a0 : ByteArray) {k : Nat} (hk : 0 < k) (x20 : Int) (x21 : Int) : F136_l0 N a0 k x20 x21 = F136_l0_b N a0 (F136_l0 N a0 (k - 1)) x20 x21 := by
  cases k with
  | zero => exact absurd hk (Nat.lt_irrefl 0)
  | succ m => rfl
def F136 (N : Nat) (a0 : ByteArray) : Option (Bool) :=
  F136_l0 N a0 N (a0.size : Int) (0 : Int)
theorem ok136 (N : Nat) (a0 : ByteArray) {r : Bool} (h : F136 N a0 = some r) : Con Go.Proofs.Try.prog 136 [S a0] [.lf (.v .bool r)] := by
  refine ⟨enters_of Go.Proofs.Try.func136 rfl (by decide), HC.intro [.lf (.v .bool)] T_ok Go.Proofs.Try.func136 rfl (Nat.le_of_ble_eq_true rfl) (Nat.le_of_ble_eq_true rfl) fun w0 E0 => ?_⟩
  unfold F136 at h
  show VW _ _ _ _ _ (retQ _ _ _ _) _
  refine VW.seq ?_
  refine VW.region ?_
  refine VO.seg T_ok .dp 1 [0] [] (s' := ⟨[(0, S a0)], []⟩) (φ := True ∧ True) (by kernel_rfl) ⟨trivial, trivial⟩ ?_
  refine VO.nil ?_
  show VW _ _ _ _ _ _ _
  refine VW.join (fun s => s = ⟨[(0, S a0)], []⟩ ∧ F136_j0 N a0 = some r) ?_ ?_
  · refine VW.seq ?_
    refine VW.region ?_
    refine VO.seg T_ok .dp 3 [0, 7, 8] [] (s' := ⟨[(0, S a0), (7, I (a0.size : Int)), (8, I (0 : Int))], []⟩) (φ := True ∧ True ∧ True ∧ True) (by kernel_rfl) ⟨trivial, trivial, trivial, trivial⟩ ?_
    refine VO.nil ?_
    show VW _ _ _ _ _ _ _
    refine VW.block ?_
    refine VW.loopL (fun k s => ∃ (x20 : Int) (x21 : Int), s = ⟨[(0, S a0), (7, I x20), (8, I x21)], []⟩ ∧ F136_l0 N a0 k x20 x21 = some r) N [.ren [0, 7, 8] []] (by kernel_rfl) ⟨(a0.size : Int), (0 : Int), rfl, h⟩ ?_
    rintro k25 s ⟨x20, x21, rfl, h⟩
    cases k25 with
    | zero => exact nomatch (show (none : Option (Bool)) = some r from h)
    | succ k25 =>
      replace h : F136_l0_b N a0 (F136_l0 N a0 k25) x20 x21 = some r := h
      unfold F136_l0_b at h
      refine VW.seq ?_
      refine VW.region ?_
      refine VO.seg T_ok .dp 1 [0, 7, 8, 9] [] (s' := ⟨[(0, S a0), (7, I x20), (8, I x21), (9, B (decide (x21 < x20)))], []⟩) (φ := True ∧ True) (by kernel_rfl) ⟨trivial, trivial⟩ ?_
      refine VO.nil ?_
      show VW _ _ _ _ _ _ _
      refine VW.seq ?_
      refine VW.cond (b := (decide (x21 < x20))) (by kernel_rfl) (fun hb => ?_) (fun hb => ?_)
      · replace h := cond_t h hb; clear hb
        refine VW.skip ?_
        show VW _ _ _ _ _ _ _
        refine VW.join (fun s => s = ⟨[(0, S a0), (7, I x20), (8, I x21)], []⟩ ∧ F136_j1 N (F136_l0 N a0 k25) x20 x21 = some r) ?_ ?_
        · refine VW.block ?_
          refine VW.seq ?_
          refine VW.region ?_
          refine VO.seg T_ok .dp 2 [0, 3, 7, 8] [] (s' := ⟨[(0, S a0), (3, I x21), (7, I x20), (8, I x21)], []⟩) (φ := True ∧ True ∧ True) (by kernel_rfl) ⟨trivial, trivial, trivial⟩ ?_
          refine VO.nil ?_
          show VW _ _ _ _ _ _ _
          refine VW.seq ?_
          refine VW.region ?_
          obtain ⟨g28, h⟩ := gd_some h
          refine VO.seg T_ok .dp 4 [0, 3, 4, 7, 8] [] (s' := ⟨[(0, S a0), (3, I x21), (4, U ((a0.data.getD x21.toNat 0).toNat : Int)), (7, I x20), (8, I x21)], []⟩) (φ := True ∧ True ∧ (InR x21 a0.size) ∧ True ∧ True) (by kernel_rfl) ⟨trivial, trivial, g28, trivial, trivial⟩ ?_
          refine VO.nil ?_
          show VW _ _ _ _ _ _ _
          refine VW.seq ?_
          refine VW.region ?_
          refine VO.seg T_ok .dp 3 [0, 3, 4, 7, 8, 16] [] (s' := ⟨[(0, S a0), (3, I x21), (4, U ((a0.data.getD x21.toNat 0).toNat : Int)), (7, I x20), (8, I x21), (16, B (decide (((a0.data.getD x21.toNat 0).toNat : Int) ≥ (97 : Int))))], []⟩) (φ := True ∧ True ∧ True ∧ True) (by kernel_rfl) ⟨trivial, trivial, trivial, trivial⟩ ?_
          refine VO.splitB 16 (b := (decide (((a0.data.getD x21.toNat 0).toNat : Int) ≥ (97 : Int)))) (by kernel_rfl) (fun hb => ?_) (fun hb => ?_)
          · replace h := cond_t h hb; clear hb
            refine VO.seg T_ok .dp 4 [0, 3, 4, 5, 7, 8] [] (s' := ⟨[(0, S a0), (3, I x21), (4, U ((a0.data.getD x21.toNat 0).toNat : Int)), (5, B (decide (((a0.data.getD x21.toNat 0).toNat : Int) ≤ (122 : Int)))), (7, I x20), (8, I x21)], []⟩) (φ := True ∧ True ∧ True ∧ True ∧ True) (by kernel_rfl) ⟨trivial, trivial, trivial, trivial, trivial⟩ ?_
            refine VO.nil ?_
            show VW _ _ _ _ _ _ _
            refine VW.seq ?_
            refine VW.region ?_
            refine VO.seg T_ok .dp 3 [0, 3, 4, 7, 8, 22] [] (s' := ⟨[(0, S a0), (3, I x21), (4, U ((a0.data.getD x21.toNat 0).toNat : Int)), (7, I x20), (8, I x21), (22, B (!(decide (((a0.data.getD x21.toNat 0).toNat : Int) ≤ (122 : Int)))))], []⟩) (φ := True ∧ True ∧ True ∧ True) (by kernel_rfl) ⟨trivial, trivial, trivial, trivial⟩ ?_
            refine VO.splitB 22 (b := (!(decide (((a0.data.getD x21.toNat 0).toNat : Int) ≤ (122 : Int))))) (by kernel_rfl) (fun hb => ?_) (fun hb => ?_)
            · replace h := cond_t h hb; clear hb
              refine VO.seg T_ok .dp 3 [0, 4, 7, 8, 22, 25] [] (s' := ⟨[(0, S a0), (4, U ((a0.data.getD x21.toNat 0).toNat : Int)), (7, I x20), (8, I x21), (22, B true), (25, B (x21 == (0 : Int)))], []⟩) (φ := True ∧ True ∧ True ∧ True) (by kernel_rfl) ⟨trivial, trivial, trivial, trivial⟩ ?_
              refine VO.splitB 25 (b := (x21 == (0 : Int))) (by kernel_rfl) (fun hb => ?_) (fun hb => ?_)
              · replace h := cond_t h hb; clear hb
                refine VO.seg T_ok .dp 8 [0, 7, 8, 33] [] (s' := ⟨[(0, S a0), (7, I x20), (8, I x21), (33, B true)], []⟩) (φ := True ∧ True ∧ True ∧ True ∧ True ∧ True ∧ True ∧ True ∧ True) (by kernel_rfl) ⟨trivial, trivial, trivial, trivial, trivial, trivial, trivial, trivial, trivial⟩ ?_
                refine VO.nil ?_
                show VW _ _ _ _ _ _ _
                refine VW.cond (b := true) (by kernel_rfl) (fun _ => ?_) (fun h' => nomatch h')
                refine VW.seq ?_
                refine VW.region ?_
                refine VO.seg T_ok .dp 1 [2] [] (s' := ⟨[(2, B false)], []⟩) (φ := True ∧ True) (by kernel_rfl) ⟨trivial, trivial⟩ ?_
                refine VO.nil ?_
                show VW _ _ _ _ _ _ _
                refine VW.ret ?_
                replace h := Option.some.inj h
                subst h
                exact retR [] (by kernel_rfl) rfl
              · replace h := cond_f h hb; clear hb
                refine VO.seg T_ok .dp 4 [0, 4, 7, 8, 22, 29] [] (s' := ⟨[(0, S a0), (4, U ((a0.data.getD x21.toNat 0).toNat : Int)), (7, I x20), (8, I x21), (22, B true), (29, B (decide (((a0.data.getD x21.toNat 0).toNat : Int) < (48 : Int))))], []⟩) (φ := True ∧ True ∧ True ∧ True ∧ True) (by kernel_rfl) ⟨trivial, trivial, trivial, trivial, trivial⟩ ?_
                refine VO.splitB 29 (b := (decide (((a0.data.getD x21.toNat 0).toNat : Int) < (48 : Int)))) (by kernel_rfl) (fun hb => ?_) (fun hb => ?_)
                · replace h := cond_t h hb; clear hb
                  refine VO.seg T_ok .dp 4 [0, 7, 8, 33] [] (s' := ⟨[(0, S a0), (7, I x20), (8, I x21), (33, B true)], []⟩) (φ := True ∧ True ∧ True ∧ True ∧ True) (by kernel_rfl) ⟨trivial, trivial, trivial, trivial, trivial⟩ ?_
                  refine VO.nil ?_
                  show VW _ _ _ _ _ _ _
                  refine VW.cond (b := true) (by kernel_rfl) (fun _ => ?_) (fun h' => nomatch h')
                  refine VW.seq ?_
                  refine VW.region ?_
                  refine VO.seg T_ok .dp 1 [2] [] (s' := ⟨[(2, B false)], []⟩) (φ := True ∧ True) (by kernel_rfl) ⟨trivial, trivial⟩ ?_
                  refine VO.nil ?_
                  show VW _ _ _ _ _ _ _
                  refine VW.ret ?_
                  replace h := Option.some.inj h
                  subst h
                  exact retR [] (by kernel_rfl) rfl
                · replace h := cond_f h hb; clear hb
                  refine VO.seg T_ok .dp 4 [0, 7, 8, 33] [] (s' := ⟨[(0, S a0), (7, I x20), (8, I x21), (33, B (decide (((a0.data.getD x21.toNat 0).toNat : Int) > (57 : Int))))], []⟩) (φ := True ∧ True ∧ True ∧ True ∧ True) (by kernel_rfl) ⟨trivial, trivial, trivial, trivial, trivial⟩ ?_
                  refine VO.nil ?_
                  show VW _ _ _ _ _ _ _
                  refine VW.cond (b := (decide (((a0.data.getD x21.toNat 0).toNat : Int) > (57 : Int)))) (by kernel_rfl) (fun hb => ?_) (fun hb => ?_)
                  · replace h := cond_t h hb; clear hb
                    refine VW.seq ?_
                    refine VW.region ?_
                    refine VO.seg T_ok .dp 1 [2] [] (s' := ⟨[(2, B false)], []⟩) (φ := True ∧ True) (by kernel_rfl) ⟨trivial, trivial⟩ ?_
                    refine VO.nil ?_
                    show VW _ _ _ _ _ _ _
                    refine VW.ret ?_
                    replace h := Option.some.inj h
                    subst h
                    exact retR [] (by kernel_rfl) rfl
                  · replace h := cond_f h hb; clear hb
                    refine VW.skip ?_
                    exact arrive [.ren [0, 7, 8] []] (by kernel_rfl) ⟨rfl, h⟩
            · replace h := cond_f h hb; clear hb
              refine VO.seg T_ok .dp 11 [0, 7, 8, 33] [] (s' := ⟨[(0, S a0), (7, I x20), (8, I x21), (33, B false)], []⟩) (φ := True ∧ True ∧ True ∧ True ∧ True ∧ True ∧ True ∧ True ∧ True ∧ True ∧ True ∧ True) (by kernel_rfl) ⟨trivial, trivial, trivial, trivial, trivial, trivial, trivial, trivial, trivial, trivial, trivial, trivial⟩ ?_
              refine VO.nil ?_
              show VW _ _ _ _ _ _ _
              refine VW.cond (b := false) (by kernel_rfl) (fun h' => nomatch h') (fun _ => ?_)
              refine VW.skip ?_
              exact arrive [.ren [0, 7, 8] []] (by kernel_rfl) ⟨rfl, h⟩
          · replace h := cond_f h hb; clear hb
            refine VO.seg T_ok .dp 4 [0, 3, 4, 5, 7, 8] [] (s' := ⟨[(0, S a0), (3, I x21), (4, U ((a0.data.getD x21.toNat 0).toNat : Int)), (5, B false), (7, I x20), (8, I x21)], []⟩) (φ := True ∧ True ∧ True ∧ True ∧ True) (by kernel_rfl) ⟨trivial, trivial, trivial, trivial, trivial⟩ ?_
            refine VO.nil ?_
            show VW _ _ _ _ _ _ _
            refine VW.seq ?_
            refine VW.region ?_
            refine VO.seg T_ok .dp 6 [0, 4, 7, 8, 22, 25] [] (s' := ⟨[(0, S a0), (4, U ((a0.data.getD x21.toNat 0).toNat : Int)), (7, I x20), (8, I x21), (22, B true), (25, B (x21 == (0 : Int)))], []⟩) (φ := True ∧ True ∧ True ∧ True ∧ True ∧ True ∧ True) (by kernel_rfl) ⟨trivial, trivial, trivial, trivial, trivial, trivial, trivial⟩ ?_
            refine VO.splitB 25 (b := (x21 == (0 : Int))) (by kernel_rfl) (fun hb => ?_) (fun hb => ?_)
            · replace h := cond_t h hb; clear hb
              refine VO.seg T_ok .dp 8 [0, 7, 8, 33] [] (s' := ⟨[(0, S a0), (7, I x20), (8, I x21), (33, B true)], []⟩) (φ := True ∧ True ∧ True ∧ True ∧ True ∧ True ∧ True ∧ True ∧ True) (by kernel_rfl) ⟨trivial, trivial, trivial, trivial, trivial, trivial, trivial, trivial, trivial⟩ ?_
              refine VO.nil ?_
              show VW _ _ _ _ _ _ _
              refine VW.cond (b := true) (by kernel_rfl) (fun _ => ?_) (fun h' => nomatch h')
              refine VW.seq ?_
              refine VW.region ?_
              refine VO.seg T_ok .dp 1 [2] [] (s' := ⟨[(2, B false)], []⟩) (φ := True ∧ True) (by kernel_rfl) ⟨trivial, trivial⟩ ?_
              refine VO.nil ?_
              show VW _ _ _ _ _ _ _
              refine VW.ret ?_
              replace h := Option.some.inj h
              subst h
              exact retR [] (by kernel_rfl) rfl
            · replace h := cond_f h hb; clear hb
              refine VO.seg T_ok .dp 4 [0, 4, 7, 8, 22, 29] [] (s' := ⟨[(0, S a0), (4, U ((a0.data.getD x21.toNat 0).toNat : Int)), (7, I x20), (8, I x21), (22, B true), (29, B (decide (((a0.data.getD x21.toNat 0).toNat : Int) < (48 : Int))))], []⟩) (φ := True ∧ True ∧ True ∧ True ∧ True) (by kernel_rfl) ⟨trivial, trivial, trivial, trivial, trivial⟩ ?_
              refine VO.splitB 29 (b := (decide (((a0.data.getD x21.toNat 0).toNat : Int) < (48 : Int)))) (by kernel_rfl) (fun hb => ?_) (fun hb => ?_)
              · replace h := cond_t h hb; clear hb
                refine VO.seg T_ok .dp 4 [0, 7, 8, 33] [] (s' := ⟨[(0, S a0), (7, I x20), (8, I x21), (33, B true)], []⟩) (φ := True ∧ True ∧ True ∧ True ∧ True) (by kernel_rfl) ⟨trivial, trivial, trivial, trivial, trivial⟩ ?_
                refine VO.nil ?_
                show VW _ _ _ _ _ _ _
                refine VW.cond (b := true) (by kernel_rfl) (fun _ => ?_) (fun h' => nomatch h')
                refine VW.seq ?_
                refine VW.region ?_
                refine VO.seg T_ok .dp 1 [2] [] (s' := ⟨[(2, B false)], []⟩) (φ := True ∧ True) (by kernel_rfl) ⟨trivial, trivial⟩ ?_
                refine VO.nil ?_
                show VW _ _ _ _ _ _ _
                refine VW.ret ?_
                replace h := Option.some.inj h
                subst h
                exact retR [] (by kernel_rfl) rfl
              · replace h := cond_f h hb; clear hb
                refine VO.seg T_ok .dp 4 [0, 7, 8, 33] [] (s' := ⟨[(0, S a0), (7, I x20), (8, I x21), (33, B (decide (((a0.data.getD x21.toNat 0).toNat : Int) > (57 : Int))))], []⟩) (φ := True ∧ True ∧ True ∧ True ∧ True) (by kernel_rfl) ⟨trivial, trivial, trivial, trivial, trivial⟩ ?_
                refine VO.nil ?_
                show VW _ _ _ _ _ _ _
                refine VW.cond (b := (decide (((a0.data.getD x21.toNat 0).toNat : Int) > (57 : Int)))) (by kernel_rfl) (fun hb => ?_) (fun hb => ?_)
                · replace h := cond_t h hb; clear hb
                  refine VW.seq ?_
                  refine VW.region ?_
                  refine VO.seg T_ok .dp 1 [2] [] (s' := ⟨[(2, B false)], []⟩) (φ := True ∧ True) (by kernel_rfl) ⟨trivial, trivial⟩ ?_
                  refine VO.nil ?_
                  show VW _ _ _ _ _ _ _
                  refine VW.ret ?_
                  replace h := Option.some.inj h
                  subst h
                  exact retR [] (by kernel_rfl) rfl
                · replace h := cond_f h hb; clear hb
                  refine VW.skip ?_
                  exact arrive [.ren [0, 7, 8] []] (by kernel_rfl) ⟨rfl, h⟩
        · rintro s ⟨rfl, h⟩
          unfold F136_j1 at h
          refine VW.region ?_
          refine VO.seg T_ok .dp 2 [0, 7, 8] [] (s' := ⟨[(0, S a0), (7, I x20), (8, I (IntKind.i64.wrap (x21 + (1 : Int))))], []⟩) (φ := True ∧ True ∧ True) (by kernel_rfl) ⟨trivial, trivial, trivial⟩ ?_
          refine VO.nil ?_
          exact around [.ren [0, 7, 8] []] (by kernel_rfl) ⟨x20, (IntKind.i64.wrap (x21 + (1 : Int))), rfl, h⟩
      · replace h := cond_f h hb; clear hb
        refine VW.exit ?_
        exact arrive [.ren [0] []] (by kernel_rfl) ⟨rfl, h⟩
  · rintro s ⟨rfl, h⟩
    unfold F136_j0 at h
    refine VW.seq ?_
    refine VW.region ?_
    refine VO.seg T_ok .dp 2 [36] [] (s' := ⟨[(36, I (a0.size : Int))], []⟩) (φ := True ∧ True ∧ True) (by kernel_rfl) ⟨trivial, trivial, trivial⟩ ?_
    obtain ⟨y14, hy, h⟩ := andO_some h
    refine VO.call false [.t (.int .i64), .t (.int .i64), .t (.int .i64)] [] T_ok (d := some 37) (by kernel_rfl) (ok54 N _ _ _ hy) rfl ?_
    refine VO.seg T_ok .dp 1 [2] [] (s' := ⟨[(2, B y14)], []⟩) (φ := True ∧ True) (by kernel_rfl) ⟨trivial, trivial⟩ ?_
    refine VO.nil ?_
    show VW _ _ _ _ _ _ _
    refine VW.ret ?_
    replace h := Option.some.inj h
    subst h
    exact retR [] (by kernel_rfl) rfl

/- loop.example/g00844/impl.isCol -/
def F145 (N : Nat) (a0 : Int) : Option (Bool) :=
  andO (F54 N a0 (0 : Int) (63 : Int)) fun y1 => some y1
theorem ok145 (N : Nat) (a0 : Int) {r : Bool} (h : F145 N a0 = some r) : Con Go.Proofs.Try.prog 145 [I a0] [.lf (.v .bool r)] := by
  refine ⟨enters_of Go.Proofs.Try.func145 rfl (by decide), HC.intro [.lf (.v .bool)] T_ok Go.Proofs.Try.func145 rfl (Nat.le_of_ble_eq_true rfl) (Nat.le_of_ble_eq_true rfl) fun w0 E0 => ?_⟩
  unfold F145 at h
  show VW _ _ _ _ _ (retQ _ _ _ _) _
  refine VW.seq ?_
  refine VW.region ?_
  refine VO.seg T_ok .dp 1 [0] [] (s' := ⟨[(0, I a0)], []⟩) (φ := True ∧ True) (by kernel_rfl) ⟨trivial, trivial⟩ ?_
  refine VO.nil ?_
  show VW _ _ _ _ _ _ _
  refine VW.seq ?_
  refine VW.region ?_
  refine VO.seg T_ok .dp 1 [3] [] (s' := ⟨[(3, I a0)], []⟩) (φ := True ∧ True) (by kernel_rfl) ⟨trivial, trivial⟩ ?_
  obtain ⟨y1, hy, h⟩ := andO_some h
  refine VO.call false [.t (.int .i64), .t (.int .i64), .t (.int .i64)] [] T_ok (d := some 4) (by kernel_rfl) (ok54 N _ _ _ hy) rfl ?_
  refine VO.seg T_ok .dp 1 [2] [] (s' := ⟨[(2, B y1)], []⟩) (φ := True ∧ True) (by kernel_rfl) ⟨trivial, trivial⟩ ?_
  refine VO.nil ?_
  show VW _ _ _ _ _ _ _
  refine VW.ret ?_
  replace h := Option.some.inj h
  subst h
  exact retR [] (by kernel_rfl) rfl

end Go.Proofs.Ytdihadbgbjhebaa.Vc
