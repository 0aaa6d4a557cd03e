/- What functions of the program compute, and that they do. -/
import Derived.Test.YtckcbjaldmlomaaProg
import Derived.Test.YtckcbjaldmlomaaVc33
namespace Go.Proofs.Ytckcbjaldmlomaa.Vc
open Go Go.RowKit
set_option linter.unusedVariables false
set_option maxRecDepth 100000
set_option maxHeartbeats 4000000
abbrev Y7 : Ty := .pair (.int .i64) (.pair (.int .i64) (.pair .bool (.int .u8)))
abbrev Y13 : Ty := .pair .str (.int .u64)
abbrev Y40 : Ty := .pair (.int .i64) (.pair .str (.pair (.int .i64) (.pair (.int .i64) (.pair (.int .i64) (.pair .bool (.sl (.int .i64)))))))
def TL : List (Nat × TI) := [(2, { ty := (.int .i64) }),
  (3, { ty := (.int .i64) }),
  (4, { ty := .bool }),
  (5, { ty := (.int .u8) }),
  (6, { ty := (.int .u8) }),
  (7, { ty := Y7, offs := [0, 1, 2, 3], szs := [1, 1, 1, 1] }),
  (8, { ty := Y7, offs := [0, 1, 2, 3], szs := [1, 1, 1, 1] }),
  (9, { ty := .str }),
  (10, { ty := .str }),
  (11, { ty := .str }),
  (12, { ty := (.int .u64) }),
  (13, { ty := Y13, offs := [0, 1], szs := [1, 1] }),
  (14, { ty := Y13, offs := [0, 1], szs := [1, 1] }),
  (21, { ty := (.int .i32) }),
  (22, { ty := (.sl Y40), elem := 41 }),
  (23, { ty := (.sl (.int .i64)), elem := 3 }),
  (25, { ty := (.sl Y40), elem := 44 }),
  (40, { ty := Y40, offs := [0, 1, 2, 3, 4, 5, 6], szs := [1, 1, 1, 1, 1, 1, 1] }),
  (41, { ty := Y40, offs := [0, 1, 2, 3, 4, 5, 6], szs := [1, 1, 1, 1, 1, 1, 1] }),
  (44, { ty := Y40, offs := [0, 1, 2, 3, 4, 5, 6], szs := [1, 1, 1, 1, 1, 1, 1] }),
  (57, { ty := (.sl (.int .u8)), elem := 5 }),
  (72, { ty := (.int .u32) }),
  (73, { ty := (.int .u8) }),
  (74, { ty := (.int .u8) }),
  (77, { ty := (.int .i32) }),
  (78, { ty := (.int .i32) })]
abbrev T : Tab := lookT TL
theorem T_ok : TabOk Go.Proofs.Try.prog T := tabOk_of TL (by kernel_rfl)
theorem T_rec : RecOk Go.Proofs.Try.prog T := recOk_of TL (by kernel_rfl)
/- loop.example/g00844/laws.szIntS -/
def F35 (N : Nat) (a0 : (List Int)) (a1 : Int) : Option (Int) :=
  cond (decide ((IntKind.i64.wrap (a1 - (a0.length : Int))) < (0 : Int))) (some (-1 : Int)) (some (IntKind.i64.wrap (a1 - (a0.length : Int))))
theorem ok35 (N : Nat) (a0 : (List Int)) (a1 : Int) {r : Int} (h : F35 N a0 a1 = some r) : Con Go.Proofs.Try.prog 35 [.lf (.v (.sl (.int .i64)) a0), I a1] [.lf (.v (.int .i64) r)] := by
  refine ⟨enters_of Go.Proofs.Try.func35 rfl (by decide), HC.intro [.lf (.v (.int .i64))] T_ok Go.Proofs.Try.func35 rfl (Nat.le_of_ble_eq_true rfl) (Nat.le_of_ble_eq_true rfl) fun w0 E0 => ?_⟩
  unfold F35 at h
  show VW _ _ _ _ _ (retQ _ _ _ _) _
  refine VW.seq ?_
  refine VW.region ?_
  refine VO.seg T_ok .dp 1 [0, 1] [] (s' := ⟨[(0, .lf (.v (.sl (.int .i64)) a0)), (1, I a1)], []⟩) (φ := True ∧ True) (by kernel_rfl) ⟨trivial, trivial⟩ ?_
  refine VO.nil ?_
  show VW _ _ _ _ _ _ _
  refine VW.seq ?_
  refine VW.region ?_
  refine VO.seg T_ok .dp 5 [1] [] (s' := ⟨[(1, I (IntKind.i64.wrap (a1 - (a0.length : Int))))], []⟩) (φ := True ∧ True ∧ True ∧ True ∧ True ∧ True) (by kernel_rfl) ⟨trivial, trivial, trivial, trivial, trivial, trivial⟩ ?_
  refine VO.nil ?_
  show VW _ _ _ _ _ _ _
  refine VW.seq ?_
  refine VW.seq ?_
  refine VW.region ?_
  refine VO.seg T_ok .dp 2 [1, 10] [] (s' := ⟨[(1, I (IntKind.i64.wrap (a1 - (a0.length : Int)))), (10, B (decide ((IntKind.i64.wrap (a1 - (a0.length : Int))) < (0 : Int))))], []⟩) (φ := True ∧ True ∧ True) (by kernel_rfl) ⟨trivial, trivial, trivial⟩ ?_
  refine VO.nil ?_
  show VW _ _ _ _ _ _ _
  refine VW.cond (b := (decide ((IntKind.i64.wrap (a1 - (a0.length : Int))) < (0 : Int)))) (by kernel_rfl) (fun hb => ?_) (fun hb => ?_)
  · replace h := cond_t h hb; clear hb
    refine VW.seq ?_
    refine VW.region ?_
    refine VO.seg T_ok .dp 1 [4] [] (s' := ⟨[(4, I (-1 : Int))], []⟩) (φ := True ∧ True) (by kernel_rfl) ⟨trivial, trivial⟩ ?_
    refine VO.nil ?_
    show VW _ _ _ _ _ _ _
    refine VW.ret ?_
    replace h := Option.some.inj h
    subst h
    exact retR [] (by kernel_rfl) rfl
  · replace h := cond_f h hb; clear hb
    refine VW.skip ?_
    show VW _ _ _ _ _ _ _
    refine VW.seq ?_
    refine VW.region ?_
    refine VO.seg T_ok .dp 2 [4] [] (s' := ⟨[(4, I (IntKind.i64.wrap (a1 - (a0.length : Int))))], []⟩) (φ := True ∧ True ∧ True) (by kernel_rfl) ⟨trivial, trivial, trivial⟩ ?_
    refine VO.nil ?_
    show VW _ _ _ _ _ _ _
    refine VW.ret ?_
    replace h := Option.some.inj h
    subst h
    exact retR [] (by kernel_rfl) rfl

/- loop.example/g00844/laws.szNode -/
def F21 (N : Nat) (a0 : (Int × (ByteArray × (Int × (Int × (Int × (Bool × (List Int)))))))) (a1 : Int) : Option (Int) :=
  cond (decide ((IntKind.i64.wrap (a1 - (a0.2.1.size : Int))) < (0 : Int))) (some (-1 : Int)) (andO (F35 N a0.2.2.2.2.2.2 (IntKind.i64.wrap (a1 - (a0.2.1.size : Int)))) fun y1 => cond (decide (y1 < (0 : Int))) (some (-1 : Int)) (some y1))
theorem ok21 (N : Nat) (a0 : (Int × (ByteArray × (Int × (Int × (Int × (Bool × (List Int)))))))) (a1 : Int) {r : Int} (h : F21 N a0 a1 = some r) : Con Go.Proofs.Try.prog 21 [.agg [.v (.int .i64) a0.1, .v .str a0.2.1, .v (.int .i64) a0.2.2.1, .v (.int .i64) a0.2.2.2.1, .v (.int .i64) a0.2.2.2.2.1, .v .bool a0.2.2.2.2.2.1, .v (.sl (.int .i64)) a0.2.2.2.2.2.2], I a1] [.lf (.v (.int .i64) r)] := by
  refine ⟨enters_of Go.Proofs.Try.func21 rfl (by decide), HC.intro [.lf (.v (.int .i64))] T_ok Go.Proofs.Try.func21 rfl (Nat.le_of_ble_eq_true rfl) (Nat.le_of_ble_eq_true rfl) fun w0 E0 => ?_⟩
  unfold F21 at h
  show VW _ _ _ _ _ (retQ _ _ _ _) _
  refine VW.seq ?_
  refine VW.region ?_
  refine VO.seg T_ok .dp 2 [1, 2] [0] (s' := ⟨[(1, I a1), (2, .lf (.ptr 0 0 0 0))], [bx [.v (.int .i64) a0.1, .v .str a0.2.1, .v (.int .i64) a0.2.2.1, .v (.int .i64) a0.2.2.2.1, .v (.int .i64) a0.2.2.2.2.1, .v .bool a0.2.2.2.2.2.1, .v (.sl (.int .i64)) a0.2.2.2.2.2.2] 41]⟩) (φ := True ∧ True ∧ True) (by kernel_rfl) ⟨trivial, trivial, trivial⟩ ?_
  refine VO.nil ?_
  show VW _ _ _ _ _ _ _
  refine VW.seq ?_
  refine VW.region ?_
  refine VO.seg T_ok .dp 6 [1, 2] [0] (s' := ⟨[(1, I (IntKind.i64.wrap (a1 - (a0.2.1.size : Int)))), (2, .lf (.ptr 0 0 0 0))], [bx [.v (.int .i64) a0.1, .v .str a0.2.1, .v (.int .i64) a0.2.2.1, .v (.int .i64) a0.2.2.2.1, .v (.int .i64) a0.2.2.2.2.1, .v .bool a0.2.2.2.2.2.1, .v (.sl (.int .i64)) a0.2.2.2.2.2.2] 41]⟩) (φ := True ∧ True ∧ True ∧ True ∧ True ∧ True ∧ True) (by kernel_rfl) ⟨trivial, trivial, trivial, trivial, trivial, trivial, trivial⟩ ?_
  refine VO.nil ?_
  show VW _ _ _ _ _ _ _
  refine VW.seq ?_
  refine VW.seq ?_
  refine VW.region ?_
  refine VO.seg T_ok .dp 2 [1, 2, 11] [0] (s' := ⟨[(1, I (IntKind.i64.wrap (a1 - (a0.2.1.size : Int)))), (2, .lf (.ptr 0 0 0 0)), (11, B (decide ((IntKind.i64.wrap (a1 - (a0.2.1.size : Int))) < (0 : Int))))], [bx [.v (.int .i64) a0.1, .v .str a0.2.1, .v (.int .i64) a0.2.2.1, .v (.int .i64) a0.2.2.2.1, .v (.int .i64) a0.2.2.2.2.1, .v .bool a0.2.2.2.2.2.1, .v (.sl (.int .i64)) a0.2.2.2.2.2.2] 41]⟩) (φ := True ∧ True ∧ True) (by kernel_rfl) ⟨trivial, trivial, trivial⟩ ?_
  refine VO.nil ?_
  show VW _ _ _ _ _ _ _
  refine VW.cond (b := (decide ((IntKind.i64.wrap (a1 - (a0.2.1.size : Int))) < (0 : Int)))) (by kernel_rfl) (fun hb => ?_) (fun hb => ?_)
  · replace h := cond_t h hb; clear hb
    refine VW.seq ?_
    refine VW.region ?_
    refine VO.seg T_ok .dp 1 [4] [] (s' := ⟨[(4, I (-1 : Int))], []⟩) (φ := True ∧ True) (by kernel_rfl) ⟨trivial, trivial⟩ ?_
    refine VO.nil ?_
    show VW _ _ _ _ _ _ _
    refine VW.ret ?_
    replace h := Option.some.inj h
    subst h
    exact retR [] (by kernel_rfl) rfl
  · replace h := cond_f h hb; clear hb
    refine VW.skip ?_
    show VW _ _ _ _ _ _ _
    refine VW.seq ?_
    refine VW.region ?_
    refine VO.seg T_ok .dp 3 [13, 14] [] (s' := ⟨[(13, .lf (.v (.sl (.int .i64)) a0.2.2.2.2.2.2)), (14, I (IntKind.i64.wrap (a1 - (a0.2.1.size : Int))))], []⟩) (φ := True ∧ True ∧ True ∧ True) (by kernel_rfl) ⟨trivial, trivial, trivial, trivial⟩ ?_
    obtain ⟨y1, hy, h⟩ := andO_some h
    refine VO.call false [.t (.sl (.int .i64)), .t (.int .i64)] [] T_ok (d := some 15) (by kernel_rfl) (ok35 N _ _ hy) rfl ?_
    refine VO.seg T_ok .dp 1 [1] [] (s' := ⟨[(1, I y1)], []⟩) (φ := True ∧ True) (by kernel_rfl) ⟨trivial, trivial⟩ ?_
    refine VO.nil ?_
    show VW _ _ _ _ _ _ _
    refine VW.seq ?_
    refine VW.seq ?_
    refine VW.region ?_
    refine VO.seg T_ok .dp 2 [1, 17] [] (s' := ⟨[(1, I y1), (17, B (decide (y1 < (0 : Int))))], []⟩) (φ := True ∧ True ∧ True) (by kernel_rfl) ⟨trivial, trivial, trivial⟩ ?_
    refine VO.nil ?_
    show VW _ _ _ _ _ _ _
    refine VW.cond (b := (decide (y1 < (0 : Int)))) (by kernel_rfl) (fun hb => ?_) (fun hb => ?_)
    · replace h := cond_t h hb; clear hb
      refine VW.seq ?_
      refine VW.region ?_
      refine VO.seg T_ok .dp 1 [4] [] (s' := ⟨[(4, I (-1 : Int))], []⟩) (φ := True ∧ True) (by kernel_rfl) ⟨trivial, trivial⟩ ?_
      refine VO.nil ?_
      show VW _ _ _ _ _ _ _
      refine VW.ret ?_
      replace h := Option.some.inj h
      subst h
      exact retR [] (by kernel_rfl) rfl
    · replace h := cond_f h hb; clear hb
      refine VW.skip ?_
      show VW _ _ _ _ _ _ _
      refine VW.seq ?_
      refine VW.region ?_
      refine VO.seg T_ok .dp 2 [4] [] (s' := ⟨[(4, I y1)], []⟩) (φ := True ∧ True ∧ True) (by kernel_rfl) ⟨trivial, trivial, trivial⟩ ?_
      refine VO.nil ?_
      show VW _ _ _ _ _ _ _
      refine VW.ret ?_
      replace h := Option.some.inj h
      subst h
      exact retR [] (by kernel_rfl) rfl

/- loop.example/g00844/laws.szNodeS -/
def F6_j0 (N : Nat) (x17 : Int) : Option (Int) :=
  some x17
def F6_l0_b (N : Nat) (a0 : (List (Int × (ByteArray × (Int × (Int × (Int × (Bool × (List Int))))))))) (nx30 : Int → Int → Option (Int)) (x24 : Int) (x25 : Int) : Option (Int) :=
  cond (decide (x25 < (a0.length : Int))) (gd (InR x25 a0.length) (andO (F21 N (a0.getD x25.toNat (Ty.dflt Y40)) x24) fun y34 => cond (decide (y34 < (0 : Int))) (some (-1 : Int)) (nx30 y34 (IntKind.i64.wrap (x25 + (1 : Int)))))) (F6_j0 N x24)
def F6_l0 (N : Nat) (a0 : (List (Int × (ByteArray × (Int × (Int × (Int × (Bool × (List Int))))))))) : Nat → Int → Int → Option (Int) := loopF (F6_l0_b N a0) (fun _ _ => none)
theorem F6_l0_s (N : Nat) (a0 : (List (Int × (ByteArray × (Int × (Int × (Int × (Bool × (List Int))))))))) {k : Nat} (hk : 0 < k) (x24 : Int) (x25 : Int) : F6_l0 N a0 k x24 x25 = F6_l0_b N a0 (F6_l0 N a0 (k - 1)) x24 x25 := by
  cases k with
  | zero => exact absurd hk (Nat.lt_irrefl 0)
  | succ m => rfl
def F6 (N : Nat) (a0 : (List (Int × (ByteArray × (Int × (Int × (Int × (Bool × (List Int))))))))) (a1 : Int) : Option (Int) :=
  cond (decide ((IntKind.i64.wrap (a1 - (a0.length : Int))) < (0 : Int))) (some (-1 : Int)) (F6_l0 N a0 N (IntKind.i64.wrap (a1 - (a0.length : Int))) (0 : Int))
theorem ok6 (N : Nat) (a0 : (List (Int × (ByteArray × (Int × (Int × (Int × (Bool × (List Int))))))))) (a1 : Int) {r : Int} (h : F6 N a0 a1 = some r) : Con Go.Proofs.Try.prog 6 [.lf (.v (.sl Y40) a0), I a1] [.lf (.v (.int .i64) r)] := by
  refine ⟨enters_of Go.Proofs.Try.func6 rfl (by decide), HC.intro [.lf (.v (.int .i64))] T_ok Go.Proofs.Try.func6 rfl (Nat.le_of_ble_eq_true rfl) (Nat.le_of_ble_eq_true rfl) fun w0 E0 => ?_⟩
  unfold F6 at h
  show VW _ _ _ _ _ (retQ _ _ _ _) _
  refine VW.seq ?_
  refine VW.region ?_
  refine VO.seg T_ok .dp 1 [0, 1] [] (s' := ⟨[(0, .lf (.v (.sl Y40) a0)), (1, I a1)], []⟩) (φ := True ∧ True) (by kernel_rfl) ⟨trivial, trivial⟩ ?_
  refine VO.nil ?_
  show VW _ _ _ _ _ _ _
  refine VW.seq ?_
  refine VW.region ?_
  refine VO.seg T_ok .dp 5 [0, 1] [] (s' := ⟨[(0, .lf (.v (.sl Y40) a0)), (1, I (IntKind.i64.wrap (a1 - (a0.length : Int))))], []⟩) (φ := True ∧ True ∧ True ∧ True ∧ True ∧ True) (by kernel_rfl) ⟨trivial, trivial, trivial, trivial, trivial, trivial⟩ ?_
  refine VO.nil ?_
  show VW _ _ _ _ _ _ _
  refine VW.seq ?_
  refine VW.seq ?_
  refine VW.region ?_
  refine VO.seg T_ok .dp 2 [0, 1, 11] [] (s' := ⟨[(0, .lf (.v (.sl Y40) a0)), (1, I (IntKind.i64.wrap (a1 - (a0.length : Int)))), (11, B (decide ((IntKind.i64.wrap (a1 - (a0.length : Int))) < (0 : Int))))], []⟩) (φ := True ∧ True ∧ True) (by kernel_rfl) ⟨trivial, trivial, trivial⟩ ?_
  refine VO.nil ?_
  show VW _ _ _ _ _ _ _
  refine VW.cond (b := (decide ((IntKind.i64.wrap (a1 - (a0.length : Int))) < (0 : Int)))) (by kernel_rfl) (fun hb => ?_) (fun hb => ?_)
  · replace h := cond_t h hb; clear hb
    refine VW.seq ?_
    refine VW.region ?_
    refine VO.seg T_ok .dp 1 [4] [] (s' := ⟨[(4, I (-1 : Int))], []⟩) (φ := True ∧ True) (by kernel_rfl) ⟨trivial, trivial⟩ ?_
    refine VO.nil ?_
    show VW _ _ _ _ _ _ _
    refine VW.ret ?_
    replace h := Option.some.inj h
    subst h
    exact retR [] (by kernel_rfl) rfl
  · replace h := cond_f h hb; clear hb
    refine VW.skip ?_
    show VW _ _ _ _ _ _ _
    refine VW.join (fun s => ∃ (x17 : Int), s = ⟨[(1, I x17)], []⟩ ∧ F6_j0 N x17 = some r) ?_ ?_
    · refine VW.seq ?_
      refine VW.region ?_
      refine VO.seg T_ok .dp 1 [0, 1, 5] [] (s' := ⟨[(0, .lf (.v (.sl Y40) a0)), (1, I (IntKind.i64.wrap (a1 - (a0.length : Int)))), (5, I (0 : Int))], []⟩) (φ := True ∧ True) (by kernel_rfl) ⟨trivial, trivial⟩ ?_
      refine VO.nil ?_
      show VW _ _ _ _ _ _ _
      refine VW.block ?_
      refine VW.loopL (fun k s => ∃ (x24 : Int) (x25 : Int), s = ⟨[(0, .lf (.v (.sl Y40) a0)), (1, I x24), (5, I x25)], []⟩ ∧ F6_l0 N a0 k x24 x25 = some r) N [.ren [0, 1, 5] []] (by kernel_rfl) ⟨(IntKind.i64.wrap (a1 - (a0.length : Int))), (0 : Int), rfl, h⟩ ?_
      rintro k30 s ⟨x24, x25, rfl, h⟩
      cases k30 with
      | zero => exact nomatch (show (none : Option (Int)) = some r from h)
      | succ k30 =>
        replace h : F6_l0_b N a0 (F6_l0 N a0 k30) x24 x25 = some r := h
        unfold F6_l0_b at h
        refine VW.seq ?_
        refine VW.seq ?_
        refine VW.region ?_
        refine VO.seg T_ok .dp 4 [0, 1, 5, 15] [] (s' := ⟨[(0, .lf (.v (.sl Y40) a0)), (1, I x24), (5, I x25), (15, B (decide (x25 < (a0.length : Int))))], []⟩) (φ := True ∧ True ∧ True ∧ True ∧ True) (by kernel_rfl) ⟨trivial, trivial, trivial, trivial, trivial⟩ ?_
        refine VO.nil ?_
        show VW _ _ _ _ _ _ _
        refine VW.cond (b := (decide (x25 < (a0.length : Int)))) (by kernel_rfl) (fun hb => ?_) (fun hb => ?_)
        · replace h := cond_t h hb; clear hb
          refine VW.skip ?_
          show VW _ _ _ _ _ _ _
          refine VW.seq ?_
          refine VW.block ?_
          refine VW.seq ?_
          refine VW.region ?_
          obtain ⟨g33, h⟩ := gd_some h
          refine VO.seg T_ok .dp 5 [0, 5, 21, 22] [] (s' := ⟨[(0, .lf (.v (.sl Y40) a0)), (5, I x25), (21, .agg [.v (.int .i64) ((a0.getD x25.toNat (Ty.dflt Y40)).1), .v .str ((a0.getD x25.toNat (Ty.dflt Y40)).2.1), .v (.int .i64) ((a0.getD x25.toNat (Ty.dflt Y40)).2.2.1), .v (.int .i64) ((a0.getD x25.toNat (Ty.dflt Y40)).2.2.2.1), .v (.int .i64) ((a0.getD x25.toNat (Ty.dflt Y40)).2.2.2.2.1), .v .bool ((a0.getD x25.toNat (Ty.dflt Y40)).2.2.2.2.2.1), .v (.sl (.int .i64)) ((a0.getD x25.toNat (Ty.dflt Y40)).2.2.2.2.2.2)]), (22, I x24)], []⟩) (φ := True ∧ True ∧ (InR x25 a0.length) ∧ True ∧ True ∧ True) (by kernel_rfl) ⟨trivial, trivial, g33, trivial, trivial, trivial⟩ ?_
          obtain ⟨y34, hy, h⟩ := andO_some h
          refine VO.call false [.t Y40, .t (.int .i64)] [] T_ok (d := some 23) (by kernel_rfl) (ok21 N _ _ hy) rfl ?_
          refine VO.seg T_ok .dp 1 [0, 1, 5] [] (s' := ⟨[(0, .lf (.v (.sl Y40) a0)), (1, I y34), (5, I x25)], []⟩) (φ := True ∧ True) (by kernel_rfl) ⟨trivial, trivial⟩ ?_
          refine VO.nil ?_
          show VW _ _ _ _ _ _ _
          refine VW.seq ?_
          refine VW.region ?_
          refine VO.seg T_ok .dp 2 [0, 1, 5, 25] [] (s' := ⟨[(0, .lf (.v (.sl Y40) a0)), (1, I y34), (5, I x25), (25, B (decide (y34 < (0 : Int))))], []⟩) (φ := True ∧ True ∧ True) (by kernel_rfl) ⟨trivial, trivial, trivial⟩ ?_
          refine VO.nil ?_
          show VW _ _ _ _ _ _ _
          refine VW.cond (b := (decide (y34 < (0 : Int)))) (by kernel_rfl) (fun hb => ?_) (fun hb => ?_)
          · replace h := cond_t h hb; clear hb
            refine VW.seq ?_
            refine VW.region ?_
            refine VO.seg T_ok .dp 1 [4] [] (s' := ⟨[(4, I (-1 : Int))], []⟩) (φ := True ∧ True) (by kernel_rfl) ⟨trivial, trivial⟩ ?_
            refine VO.nil ?_
            show VW _ _ _ _ _ _ _
            refine VW.ret ?_
            replace h := Option.some.inj h
            subst h
            exact retR [] (by kernel_rfl) rfl
          · replace h := cond_f h hb; clear hb
            refine VW.skip ?_
            show VW _ _ _ _ _ _ _
            refine VW.region ?_
            refine VO.seg T_ok .dp 3 [0, 1, 5] [] (s' := ⟨[(0, .lf (.v (.sl Y40) a0)), (1, I y34), (5, I (IntKind.i64.wrap (x25 + (1 : Int))))], []⟩) (φ := True ∧ True ∧ True ∧ True) (by kernel_rfl) ⟨trivial, trivial, trivial, trivial⟩ ?_
            refine VO.nil ?_
            exact around [.ren [0, 1, 5] []] (by kernel_rfl) ⟨y34, (IntKind.i64.wrap (x25 + (1 : Int))), rfl, h⟩
        · replace h := cond_f h hb; clear hb
          refine VW.exit ?_
          exact arrive [.ren [1] []] (by kernel_rfl) ⟨x24, rfl, h⟩
    · rintro s ⟨x17, rfl, h⟩
      unfold F6_j0 at h
      refine VW.seq ?_
      refine VW.region ?_
      refine VO.seg T_ok .dp 2 [4] [] (s' := ⟨[(4, I x17)], []⟩) (φ := True ∧ True ∧ True) (by kernel_rfl) ⟨trivial, trivial, trivial⟩ ?_
      refine VO.nil ?_
      show VW _ _ _ _ _ _ _
      refine VW.ret ?_
      replace h := Option.some.inj h
      subst h
      exact retR [] (by kernel_rfl) rfl

/- loop.example/g00844/spec.l01In -/
def F36 (N : Nat) (a0 : Int) (a1 : Int) (a2 : Int) : Option (Bool) :=
  cond (decide (a1 ≤ a0)) (some (decide (a0 ≤ a2))) (some false)
theorem ok36 (N : Nat) (a0 : Int) (a1 : Int) (a2 : Int) {r : Bool} (h : F36 N a0 a1 a2 = some r) : Con Go.Proofs.Try.prog 36 [I a0, I a1, I a2] [.lf (.v .bool r)] := by
  refine ⟨enters_of Go.Proofs.Try.func36 rfl (by decide), HC.intro [.lf (.v .bool)] T_ok Go.Proofs.Try.func36 rfl (Nat.le_of_ble_eq_true rfl) (Nat.le_of_ble_eq_true rfl) fun w0 E0 => ?_⟩
  unfold F36 at h
  show VW _ _ _ _ _ (retQ _ _ _ _) _
  refine VW.seq ?_
  refine VW.region ?_
  refine VO.seg T_ok .dp 1 [0, 1, 2] [] (s' := ⟨[(0, I a0), (1, I a1), (2, I a2)], []⟩) (φ := True ∧ True) (by kernel_rfl) ⟨trivial, trivial⟩ ?_
  refine VO.nil ?_
  show VW _ _ _ _ _ _ _
  refine VW.seq ?_
  refine VW.region ?_
  refine VO.seg T_ok .dp 4 [0, 2, 10] [] (s' := ⟨[(0, I a0), (2, I a2), (10, B (decide (a1 ≤ a0)))], []⟩) (φ := True ∧ True ∧ True ∧ True ∧ True) (by kernel_rfl) ⟨trivial, trivial, trivial, trivial, trivial⟩ ?_
  refine VO.splitB 10 (b := (decide (a1 ≤ a0))) (by kernel_rfl) (fun hb => ?_) (fun hb => ?_)
  · replace h := cond_t h hb; clear hb
    refine VO.seg T_ok .dp 5 [6] [] (s' := ⟨[(6, B (decide (a0 ≤ a2)))], []⟩) (φ := True ∧ True ∧ True ∧ True ∧ True ∧ True) (by kernel_rfl) ⟨trivial, trivial, trivial, trivial, trivial, trivial⟩ ?_
    refine VO.nil ?_
    show VW _ _ _ _ _ _ _
    refine VW.ret ?_
    replace h := Option.some.inj h
    subst h
    exact retR [] (by kernel_rfl) rfl
  · replace h := cond_f h hb; clear hb
    refine VO.seg T_ok .dp 5 [6] [] (s' := ⟨[(6, B false)], []⟩) (φ := True ∧ True ∧ True ∧ True ∧ True ∧ True) (by kernel_rfl) ⟨trivial, trivial, trivial, trivial, trivial, trivial⟩ ?_
    refine VO.nil ?_
    show VW _ _ _ _ _ _ _
    refine VW.ret ?_
    replace h := Option.some.inj h
    subst h
    exact retR [] (by kernel_rfl) rfl

/- loop.example/g00844/spec.WordOk -/
def F48_j0 (N : Nat) : Option (Bool) :=
  some true
def F48_j1 (N : Nat) (nx74 : Int → Option (Bool)) (x60 : Int) : Option (Bool) :=
  nx74 (IntKind.i64.wrap (x60 + (1 : Int)))
def F48_l0_b (N : Nat) (a0 : ByteArray) (nx74 : Int → Option (Bool)) (x60 : Int) : Option (Bool) :=
  cond (decide (x60 < (a0.size : Int))) (gd (InR x60 a0.size) (cond (decide (((a0.data.getD x60.toNat 0).toNat : Int) < (97 : Int))) (gd (InR x60 a0.size) (cond (decide (((a0.data.getD x60.toNat 0).toNat : Int) < (48 : Int))) (some false) (gd (InR x60 a0.size) (cond (decide (((a0.data.getD x60.toNat 0).toNat : Int) > (57 : Int))) (some false) (F48_j1 N nx74 x60))))) (gd (InR x60 a0.size) (cond (decide (((a0.data.getD x60.toNat 0).toNat : Int) > (122 : Int))) (gd (InR x60 a0.size) (cond (decide (((a0.data.getD x60.toNat 0).toNat : Int) < (48 : Int))) (some false) (gd (InR x60 a0.size) (cond (decide (((a0.data.getD x60.toNat 0).toNat : Int) > (57 : Int))) (some false) (F48_j1 N nx74 x60))))) (F48_j1 N nx74 x60))))) (F48_j0 N)
def F48_l0 (N : Nat) (a0 : ByteArray) : Nat → Int → Option (Bool) := loopF (F48_l0_b N a0) (fun _ => none)
theorem F48_l0_s (N : Nat) (a0 : ByteArray) {k : Nat} (hk : 0 < k) (x60 : Int) : F48_l0 N a0 k x60 = F48_l0_b N a0 (F48_l0 N a0 (k - 1)) x60 := by
  cases k with
  | zero => exact absurd hk (Nat.lt_irrefl 0)
  | succ m => rfl
def F48 (N : Nat) (a0 : ByteArray) : Option (Bool) :=
  andO (F36 N (a0.size : Int) (1 : Int) (12 : Int)) fun y3 => cond (!y3) (some false) (gd (InR (0 : Int) a0.size) (cond (decide (((a0.data.getD (0 : Int).toNat 0).toNat : Int) < (97 : Int))) (some false) (F48_l0 N a0 N (0 : Int))))
theorem ok48 (N : Nat) (a0 : ByteArray) {r : Bool} (h : F48 N a0 = some r) : Con Go.Proofs.Try.prog 48 [S a0] [.lf (.v .bool r)] := by
  refine ⟨enters_of Go.Proofs.Try.func48 rfl (by decide), HC.intro [.lf (.v .bool)] T_ok Go.Proofs.Try.func48 rfl (Nat.le_of_ble_eq_true rfl) (Nat.le_of_ble_eq_true rfl) fun w0 E0 => ?_⟩
  unfold F48 at h
  show VW _ _ _ _ _ (retQ _ _ _ _) _
  refine VW.seq ?_
  refine VW.region ?_
  refine VO.seg T_ok .dp 1 [0] [] (s' := ⟨[(0, S a0)], []⟩) (φ := True ∧ True) (by kernel_rfl) ⟨trivial, trivial⟩ ?_
  refine VO.nil ?_
  show VW _ _ _ _ _ _ _
  refine VW.seq ?_
  refine VW.seq ?_
  refine VW.region ?_
  refine VO.seg T_ok .dp 2 [0, 5] [] (s' := ⟨[(0, S a0), (5, I (a0.size : Int))], []⟩) (φ := True ∧ True ∧ True) (by kernel_rfl) ⟨trivial, trivial, trivial⟩ ?_
  obtain ⟨y3, hy, h⟩ := andO_some h
  refine VO.call false [.t (.int .i64), .t (.int .i64), .t (.int .i64)] [] T_ok (d := some 6) (by kernel_rfl) (ok36 N _ _ _ hy) rfl ?_
  refine VO.seg T_ok .dp 2 [0, 8] [] (s' := ⟨[(0, S a0), (8, B (!y3))], []⟩) (φ := True ∧ True ∧ True) (by kernel_rfl) ⟨trivial, trivial, trivial⟩ ?_
  refine VO.splitB 8 (b := (!y3)) (by kernel_rfl) (fun hb => ?_) (fun hb => ?_)
  · replace h := cond_t h hb; clear hb
    refine VO.seg T_ok .dp 4 [0, 12] [] (s' := ⟨[(0, S a0), (12, B true)], []⟩) (φ := True ∧ True ∧ True ∧ True ∧ True) (by kernel_rfl) ⟨trivial, trivial, trivial, trivial, trivial⟩ ?_
    refine VO.nil ?_
    show VW _ _ _ _ _ _ _
    refine VW.cond (b := true) (by kernel_rfl) (fun _ => ?_) (fun h' => nomatch h')
    refine VW.seq ?_
    refine VW.region ?_
    refine VO.seg T_ok .dp 1 [2] [] (s' := ⟨[(2, B false)], []⟩) (φ := True ∧ True) (by kernel_rfl) ⟨trivial, trivial⟩ ?_
    refine VO.nil ?_
    show VW _ _ _ _ _ _ _
    refine VW.ret ?_
    replace h := Option.some.inj h
    subst h
    exact retR [] (by kernel_rfl) rfl
  · replace h := cond_f h hb; clear hb
    obtain ⟨g4, h⟩ := gd_some h
    refine VO.seg T_ok .dp 4 [0, 12] [] (s' := ⟨[(0, S a0), (12, B (decide (((a0.data.getD (0 : Int).toNat 0).toNat : Int) < (97 : Int))))], []⟩) (φ := True ∧ (InR (0 : Int) a0.size) ∧ True ∧ True ∧ True) (by kernel_rfl) ⟨trivial, g4, trivial, trivial, trivial⟩ ?_
    refine VO.nil ?_
    show VW _ _ _ _ _ _ _
    refine VW.cond (b := (decide (((a0.data.getD (0 : Int).toNat 0).toNat : Int) < (97 : Int)))) (by kernel_rfl) (fun hb => ?_) (fun hb => ?_)
    · replace h := cond_t h hb; clear hb
      refine VW.seq ?_
      refine VW.region ?_
      refine VO.seg T_ok .dp 1 [2] [] (s' := ⟨[(2, B false)], []⟩) (φ := True ∧ True) (by kernel_rfl) ⟨trivial, trivial⟩ ?_
      refine VO.nil ?_
      show VW _ _ _ _ _ _ _
      refine VW.ret ?_
      replace h := Option.some.inj h
      subst h
      exact retR [] (by kernel_rfl) rfl
    · replace h := cond_f h hb; clear hb
      refine VW.skip ?_
      show VW _ _ _ _ _ _ _
      refine VW.join (fun s => s = ⟨[], []⟩ ∧ F48_j0 N = some r) ?_ ?_
      · refine VW.seq ?_
        refine VW.region ?_
        refine VO.seg T_ok .dp 1 [0, 3] [] (s' := ⟨[(0, S a0), (3, I (0 : Int))], []⟩) (φ := True ∧ True) (by kernel_rfl) ⟨trivial, trivial⟩ ?_
        refine VO.nil ?_
        show VW _ _ _ _ _ _ _
        refine VW.block ?_
        refine VW.loopL (fun k s => ∃ (x60 : Int), s = ⟨[(0, S a0), (3, I x60)], []⟩ ∧ F48_l0 N a0 k x60 = some r) N [.ren [0, 3] []] (by kernel_rfl) ⟨(0 : Int), rfl, h⟩ ?_
        rintro k74 s ⟨x60, rfl, h⟩
        cases k74 with
        | zero => exact nomatch (show (none : Option (Bool)) = some r from h)
        | succ k74 =>
          replace h : F48_l0_b N a0 (F48_l0 N a0 k74) x60 = some r := h
          unfold F48_l0_b at h
          refine VW.seq ?_
          refine VW.seq ?_
          refine VW.region ?_
          refine VO.seg T_ok .dp 4 [0, 3, 16] [] (s' := ⟨[(0, S a0), (3, I x60), (16, B (decide (x60 < (a0.size : Int))))], []⟩) (φ := True ∧ True ∧ True ∧ True ∧ True) (by kernel_rfl) ⟨trivial, trivial, trivial, trivial, trivial⟩ ?_
          refine VO.nil ?_
          show VW _ _ _ _ _ _ _
          refine VW.cond (b := (decide (x60 < (a0.size : Int)))) (by kernel_rfl) (fun hb => ?_) (fun hb => ?_)
          · replace h := cond_t h hb; clear hb
            refine VW.skip ?_
            show VW _ _ _ _ _ _ _
            refine VW.join (fun s => s = ⟨[(0, S a0), (3, I x60)], []⟩ ∧ F48_j1 N (F48_l0 N a0 k74) x60 = some r) ?_ ?_
            · refine VW.block ?_
              refine VW.seq ?_
              refine VW.region ?_
              obtain ⟨g82, h⟩ := gd_some h
              refine VO.seg T_ok .dp 5 [0, 3, 23] [] (s' := ⟨[(0, S a0), (3, I x60), (23, B (decide (((a0.data.getD x60.toNat 0).toNat : Int) < (97 : Int))))], []⟩) (φ := True ∧ True ∧ (InR x60 a0.size) ∧ True ∧ True ∧ True) (by kernel_rfl) ⟨trivial, trivial, g82, trivial, trivial, trivial⟩ ?_
              refine VO.splitB 23 (b := (decide (((a0.data.getD x60.toNat 0).toNat : Int) < (97 : Int)))) (by kernel_rfl) (fun hb => ?_) (fun hb => ?_)
              · replace h := cond_t h hb; clear hb
                obtain ⟨g83, h⟩ := gd_some h
                refine VO.seg T_ok .dp 11 [0, 3, 29, 34] [] (s' := ⟨[(0, S a0), (3, I x60), (29, B true), (34, B (decide (((a0.data.getD x60.toNat 0).toNat : Int) < (48 : Int))))], []⟩) (φ := True ∧ True ∧ True ∧ True ∧ True ∧ True ∧ True ∧ True ∧ (InR x60 a0.size) ∧ True ∧ True ∧ True) (by kernel_rfl) ⟨trivial, trivial, trivial, trivial, trivial, trivial, trivial, trivial, g83, trivial, trivial, trivial⟩ ?_
                refine VO.splitB 34 (b := (decide (((a0.data.getD x60.toNat 0).toNat : Int) < (48 : Int)))) (by kernel_rfl) (fun hb => ?_) (fun hb => ?_)
                · replace h := cond_t h hb; clear hb
                  refine VO.seg T_ok .dp 6 [0, 3, 40] [] (s' := ⟨[(0, S a0), (3, I x60), (40, B true)], []⟩) (φ := True ∧ True ∧ True ∧ True ∧ True ∧ True ∧ True) (by kernel_rfl) ⟨trivial, trivial, trivial, trivial, trivial, trivial, trivial⟩ ?_
                  refine VO.nil ?_
                  show VW _ _ _ _ _ _ _
                  refine VW.cond (b := true) (by kernel_rfl) (fun _ => ?_) (fun h' => nomatch h')
                  refine VW.seq ?_
                  refine VW.region ?_
                  refine VO.seg T_ok .dp 1 [2] [] (s' := ⟨[(2, B false)], []⟩) (φ := True ∧ True) (by kernel_rfl) ⟨trivial, trivial⟩ ?_
                  refine VO.nil ?_
                  show VW _ _ _ _ _ _ _
                  refine VW.ret ?_
                  replace h := Option.some.inj h
                  subst h
                  exact retR [] (by kernel_rfl) rfl
                · replace h := cond_f h hb; clear hb
                  obtain ⟨g84, h⟩ := gd_some h
                  refine VO.seg T_ok .dp 6 [0, 3, 40] [] (s' := ⟨[(0, S a0), (3, I x60), (40, B (decide (((a0.data.getD x60.toNat 0).toNat : Int) > (57 : Int))))], []⟩) (φ := True ∧ True ∧ (InR x60 a0.size) ∧ True ∧ True ∧ True ∧ True) (by kernel_rfl) ⟨trivial, trivial, g84, trivial, trivial, trivial, trivial⟩ ?_
                  refine VO.nil ?_
                  show VW _ _ _ _ _ _ _
                  refine VW.cond (b := (decide (((a0.data.getD x60.toNat 0).toNat : Int) > (57 : Int)))) (by kernel_rfl) (fun hb => ?_) (fun hb => ?_)
                  · replace h := cond_t h hb; clear hb
                    refine VW.seq ?_
                    refine VW.region ?_
                    refine VO.seg T_ok .dp 1 [2] [] (s' := ⟨[(2, B false)], []⟩) (φ := True ∧ True) (by kernel_rfl) ⟨trivial, trivial⟩ ?_
                    refine VO.nil ?_
                    show VW _ _ _ _ _ _ _
                    refine VW.ret ?_
                    replace h := Option.some.inj h
                    subst h
                    exact retR [] (by kernel_rfl) rfl
                  · replace h := cond_f h hb; clear hb
                    refine VW.skip ?_
                    exact arrive [.ren [0, 3] []] (by kernel_rfl) ⟨rfl, h⟩
              · replace h := cond_f h hb; clear hb
                obtain ⟨g85, h⟩ := gd_some h
                refine VO.seg T_ok .dp 6 [0, 3, 29] [] (s' := ⟨[(0, S a0), (3, I x60), (29, B (decide (((a0.data.getD x60.toNat 0).toNat : Int) > (122 : Int))))], []⟩) (φ := True ∧ True ∧ (InR x60 a0.size) ∧ True ∧ True ∧ True ∧ True) (by kernel_rfl) ⟨trivial, trivial, g85, trivial, trivial, trivial, trivial⟩ ?_
                refine VO.splitB 29 (b := (decide (((a0.data.getD x60.toNat 0).toNat : Int) > (122 : Int)))) (by kernel_rfl) (fun hb => ?_) (fun hb => ?_)
                · replace h := cond_t h hb; clear hb
                  obtain ⟨g86, h⟩ := gd_some h
                  refine VO.seg T_ok .dp 5 [0, 3, 29, 34] [] (s' := ⟨[(0, S a0), (3, I x60), (29, B true), (34, B (decide (((a0.data.getD x60.toNat 0).toNat : Int) < (48 : Int))))], []⟩) (φ := True ∧ True ∧ (InR x60 a0.size) ∧ True ∧ True ∧ True) (by kernel_rfl) ⟨trivial, trivial, g86, trivial, trivial, trivial⟩ ?_
                  refine VO.splitB 34 (b := (decide (((a0.data.getD x60.toNat 0).toNat : Int) < (48 : Int)))) (by kernel_rfl) (fun hb => ?_) (fun hb => ?_)
                  · replace h := cond_t h hb; clear hb
                    refine VO.seg T_ok .dp 6 [0, 3, 40] [] (s' := ⟨[(0, S a0), (3, I x60), (40, B true)], []⟩) (φ := True ∧ True ∧ True ∧ True ∧ True ∧ True ∧ True) (by kernel_rfl) ⟨trivial, trivial, trivial, trivial, trivial, trivial, trivial⟩ ?_
                    refine VO.nil ?_
                    show VW _ _ _ _ _ _ _
                    refine VW.cond (b := true) (by kernel_rfl) (fun _ => ?_) (fun h' => nomatch h')
                    refine VW.seq ?_
                    refine VW.region ?_
                    refine VO.seg T_ok .dp 1 [2] [] (s' := ⟨[(2, B false)], []⟩) (φ := True ∧ True) (by kernel_rfl) ⟨trivial, trivial⟩ ?_
                    refine VO.nil ?_
                    show VW _ _ _ _ _ _ _
                    refine VW.ret ?_
                    replace h := Option.some.inj h
                    subst h
                    exact retR [] (by kernel_rfl) rfl
                  · replace h := cond_f h hb; clear hb
                    obtain ⟨g87, h⟩ := gd_some h
                    refine VO.seg T_ok .dp 6 [0, 3, 40] [] (s' := ⟨[(0, S a0), (3, I x60), (40, B (decide (((a0.data.getD x60.toNat 0).toNat : Int) > (57 : Int))))], []⟩) (φ := True ∧ True ∧ (InR x60 a0.size) ∧ True ∧ True ∧ True ∧ True) (by kernel_rfl) ⟨trivial, trivial, g87, trivial, trivial, trivial, trivial⟩ ?_
                    refine VO.nil ?_
                    show VW _ _ _ _ _ _ _
                    refine VW.cond (b := (decide (((a0.data.getD x60.toNat 0).toNat : Int) > (57 : Int)))) (by kernel_rfl) (fun hb => ?_) (fun hb => ?_)
                    · replace h := cond_t h hb; clear hb
                      refine VW.seq ?_
                      refine VW.region ?_
                      refine VO.seg T_ok .dp 1 [2] [] (s' := ⟨[(2, B false)], []⟩) (φ := True ∧ True) (by kernel_rfl) ⟨trivial, trivial⟩ ?_
                      refine VO.nil ?_
                      show VW _ _ _ _ _ _ _
                      refine VW.ret ?_
                      replace h := Option.some.inj h
                      subst h
                      exact retR [] (by kernel_rfl) rfl
                    · replace h := cond_f h hb; clear hb
                      refine VW.skip ?_
                      exact arrive [.ren [0, 3] []] (by kernel_rfl) ⟨rfl, h⟩
                · replace h := cond_f h hb; clear hb
                  refine VO.seg T_ok .dp 11 [0, 3, 40] [] (s' := ⟨[(0, S a0), (3, I x60), (40, B false)], []⟩) (φ := True ∧ True ∧ True ∧ True ∧ True ∧ True ∧ True ∧ True ∧ True ∧ True ∧ True ∧ True) (by kernel_rfl) ⟨trivial, trivial, trivial, trivial, trivial, trivial, trivial, trivial, trivial, trivial, trivial, trivial⟩ ?_
                  refine VO.nil ?_
                  show VW _ _ _ _ _ _ _
                  refine VW.cond (b := false) (by kernel_rfl) (fun h' => nomatch h') (fun _ => ?_)
                  refine VW.skip ?_
                  exact arrive [.ren [0, 3] []] (by kernel_rfl) ⟨rfl, h⟩
            · rintro s ⟨rfl, h⟩
              unfold F48_j1 at h
              refine VW.region ?_
              refine VO.seg T_ok .dp 3 [0, 3] [] (s' := ⟨[(0, S a0), (3, I (IntKind.i64.wrap (x60 + (1 : Int))))], []⟩) (φ := True ∧ True ∧ True ∧ True) (by kernel_rfl) ⟨trivial, trivial, trivial, trivial⟩ ?_
              refine VO.nil ?_
              exact around [.ren [0, 3] []] (by kernel_rfl) ⟨(IntKind.i64.wrap (x60 + (1 : Int))), rfl, h⟩
          · replace h := cond_f h hb; clear hb
            refine VW.exit ?_
            exact arrive [.ren [] []] (by kernel_rfl) ⟨rfl, h⟩
      · rintro s ⟨rfl, h⟩
        unfold F48_j0 at h
        refine VW.seq ?_
        refine VW.region ?_
        refine VO.seg T_ok .dp 1 [2] [] (s' := ⟨[(2, B true)], []⟩) (φ := True ∧ True) (by kernel_rfl) ⟨trivial, trivial⟩ ?_
        refine VO.nil ?_
        show VW _ _ _ _ _ _ _
        refine VW.ret ?_
        replace h := Option.some.inj h
        subst h
        exact retR [] (by kernel_rfl) rfl

/- loop.example/g00844/spec.l02Col -/
def F49 (N : Nat) (a0 : Int) : Option (Bool) :=
  andO (F36 N a0 (0 : Int) (63 : Int)) fun y1 => some y1
theorem ok49 (N : Nat) (a0 : Int) {r : Bool} (h : F49 N a0 = some r) : Con Go.Proofs.Try.prog 49 [I a0] [.lf (.v .bool r)] := by
  refine ⟨enters_of Go.Proofs.Try.func49 rfl (by decide), HC.intro [.lf (.v .bool)] T_ok Go.Proofs.Try.func49 rfl (Nat.le_of_ble_eq_true rfl) (Nat.le_of_ble_eq_true rfl) fun w0 E0 => ?_⟩
  unfold F49 at h
  show VW _ _ _ _ _ (retQ _ _ _ _) _
  refine VW.seq ?_
  refine VW.region ?_
  refine VO.seg T_ok .dp 1 [0] [] (s' := ⟨[(0, I a0)], []⟩) (φ := True ∧ True) (by kernel_rfl) ⟨trivial, trivial⟩ ?_
  refine VO.nil ?_
  show VW _ _ _ _ _ _ _
  refine VW.seq ?_
  refine VW.region ?_
  refine VO.seg T_ok .dp 1 [3] [] (s' := ⟨[(3, I a0)], []⟩) (φ := True ∧ True) (by kernel_rfl) ⟨trivial, trivial⟩ ?_
  obtain ⟨y1, hy, h⟩ := andO_some h
  refine VO.call false [.t (.int .i64), .t (.int .i64), .t (.int .i64)] [] T_ok (d := some 4) (by kernel_rfl) (ok36 N _ _ _ hy) rfl ?_
  refine VO.seg T_ok .dp 1 [2] [] (s' := ⟨[(2, B y1)], []⟩) (φ := True ∧ True) (by kernel_rfl) ⟨trivial, trivial⟩ ?_
  refine VO.nil ?_
  show VW _ _ _ _ _ _ _
  refine VW.ret ?_
  replace h := Option.some.inj h
  subst h
  exact retR [] (by kernel_rfl) rfl

/- loop.example/g00844/spec.l01Number -/
def F50 (N : Nat) (a0 : Int) : Option (Bool) :=
  andO (F36 N a0 (-1000000 : Int) (1000000 : Int)) fun y1 => some y1
theorem ok50 (N : Nat) (a0 : Int) {r : Bool} (h : F50 N a0 = some r) : Con Go.Proofs.Try.prog 50 [I a0] [.lf (.v .bool r)] := by
  refine ⟨enters_of Go.Proofs.Try.func50 rfl (by decide), HC.intro [.lf (.v .bool)] T_ok Go.Proofs.Try.func50 rfl (Nat.le_of_ble_eq_true rfl) (Nat.le_of_ble_eq_true rfl) fun w0 E0 => ?_⟩
  unfold F50 at h
  show VW _ _ _ _ _ (retQ _ _ _ _) _
  refine VW.seq ?_
  refine VW.region ?_
  refine VO.seg T_ok .dp 1 [0] [] (s' := ⟨[(0, I a0)], []⟩) (φ := True ∧ True) (by kernel_rfl) ⟨trivial, trivial⟩ ?_
  refine VO.nil ?_
  show VW _ _ _ _ _ _ _
  refine VW.seq ?_
  refine VW.region ?_
  refine VO.seg T_ok .dp 1 [3] [] (s' := ⟨[(3, I a0)], []⟩) (φ := True ∧ True) (by kernel_rfl) ⟨trivial, trivial⟩ ?_
  obtain ⟨y1, hy, h⟩ := andO_some h
  refine VO.call false [.t (.int .i64), .t (.int .i64), .t (.int .i64)] [] T_ok (d := some 4) (by kernel_rfl) (ok36 N _ _ _ hy) rfl ?_
  refine VO.seg T_ok .dp 1 [2] [] (s' := ⟨[(2, B y1)], []⟩) (φ := True ∧ True) (by kernel_rfl) ⟨trivial, trivial⟩ ?_
  refine VO.nil ?_
  show VW _ _ _ _ _ _ _
  refine VW.ret ?_
  replace h := Option.some.inj h
  subst h
  exact retR [] (by kernel_rfl) rfl

/- loop.example/g00844/spec.NodeOk -/
def F37_j0 (N : Nat) : Option (Bool) :=
  some false
def F37_j1 (N : Nat) (x11 : Int) (x13 : Int) (x14 : Bool) (x15 : (List Int)) : Option (Bool) :=
  andO (F36 N (x15.length : Int) (1 : Int) (6 : Int)) fun y75 => cond y75 (cond (x11 == (0 : Int)) (cond (x13 == (0 : Int)) (some (!x14)) (some false)) (some false)) (some false)
def F37_l0_b (N : Nat) (x11 : Int) (x13 : Int) (x14 : Bool) (x15 : (List Int)) (nx86 : Int → Option (Bool)) (x81 : Int) : Option (Bool) :=
  cond (decide (x81 < (x15.length : Int))) (gd (InR x81 x15.length) (andO (F49 N (x15.getD x81.toNat (Ty.dflt (.int .i64)))) fun y90 => cond (!y90) (some false) (nx86 (IntKind.i64.wrap (x81 + (1 : Int)))))) (F37_j1 N x11 x13 x14 x15)
def F37_l0 (N : Nat) (x11 : Int) (x13 : Int) (x14 : Bool) (x15 : (List Int)) : Nat → Int → Option (Bool) := loopF (F37_l0_b N x11 x13 x14 x15) (fun _ => none)
theorem F37_l0_s (N : Nat) (x11 : Int) (x13 : Int) (x14 : Bool) (x15 : (List Int)) {k : Nat} (hk : 0 < k) (x81 : Int) : F37_l0 N x11 x13 x14 x15 k x81 = F37_l0_b N x11 x13 x14 x15 (F37_l0 N x11 x13 x14 x15 (k - 1)) x81 := by
  cases k with
  | zero => exact absurd hk (Nat.lt_irrefl 0)
  | succ m => rfl
def F37_j2 (N : Nat) (x11 : Int) (x13 : Int) (x14 : Bool) (x95 : Bool) : Option (Bool) :=
  cond x95 (cond (x11 == (0 : Int)) (cond (x13 == (0 : Int)) (some (!x14)) (some false)) (some false)) (F37_j0 N)
def F37_j3 (N : Nat) (x9 : Int) (x10 : ByteArray) (x11 : Int) (x12 : Int) (x13 : Int) (x14 : Bool) (x15 : (List Int)) : Option (Bool) :=
  cond (x9 == (0 : Int)) (andO (F48 N x10) fun y57 => cond y57 (cond (x11 == (0 : Int)) (cond (x13 == (0 : Int)) (some (!x14)) (some false)) (some false)) (some false)) (cond (x9 == (1 : Int)) (andO (F49 N x11) fun y58 => cond y58 (andO (F36 N x12 (0 : Int) (3 : Int)) fun y59 => cond y59 (andO (F50 N x13) fun y60 => cond y60 (cond (x12 != (3 : Int)) (some true) (cond (x13 == (0 : Int)) (some (!x14)) (some false))) (some false)) (some false)) (some false)) (cond (x9 == (2 : Int)) (F37_l0 N x11 x13 x14 x15 N (0 : Int)) (cond (x9 == (3 : Int)) (andO (F49 N x11) fun y91 => cond y91 (andO (F49 N x13) fun y92 => cond y92 (some (!x14)) (some false)) (some false)) (cond (x9 == (5 : Int)) (andO (F49 N x11) fun y93 => cond y93 (cond (x13 == (0 : Int)) (some (!x14)) (some false)) (some false)) (cond (x9 == (6 : Int)) (cond (x11 == (0 : Int)) (andO (F36 N x13 (0 : Int) (1000000 : Int)) fun y94 => some y94) (some false)) (cond (x9 == (4 : Int)) (F37_j2 N x11 x13 x14 (x9 == (4 : Int))) (F37_j2 N x11 x13 x14 (x9 == (7 : Int)))))))))
def F37 (N : Nat) (a0 : (Int × (ByteArray × (Int × (Int × (Int × (Bool × (List Int)))))))) : Option (Bool) :=
  cond (a0.1 != (0 : Int)) (cond (!(a0.2.1.toList == ByteArray.empty.toList)) (some false) (cond (a0.1 != (2 : Int)) (cond (decide ((a0.2.2.2.2.2.2.length : Int) > (0 : Int))) (some false) (cond (a0.1 != (1 : Int)) (cond (a0.2.2.2.1 != (0 : Int)) (some false) (cond a0.2.2.2.2.2.1 (andO (F36 N a0.2.2.2.2.1 (0 : Int) (39 : Int)) fun y98 => cond (!y98) (some false) (F37_j3 N a0.1 a0.2.1 a0.2.2.1 a0.2.2.2.1 a0.2.2.2.2.1 a0.2.2.2.2.2.1 a0.2.2.2.2.2.2)) (F37_j3 N a0.1 a0.2.1 a0.2.2.1 a0.2.2.2.1 a0.2.2.2.2.1 a0.2.2.2.2.2.1 a0.2.2.2.2.2.2))) (cond a0.2.2.2.2.2.1 (andO (F36 N a0.2.2.2.2.1 (0 : Int) (39 : Int)) fun y99 => cond (!y99) (some false) (F37_j3 N a0.1 a0.2.1 a0.2.2.1 a0.2.2.2.1 a0.2.2.2.2.1 a0.2.2.2.2.2.1 a0.2.2.2.2.2.2)) (F37_j3 N a0.1 a0.2.1 a0.2.2.1 a0.2.2.2.1 a0.2.2.2.2.1 a0.2.2.2.2.2.1 a0.2.2.2.2.2.2)))) (cond (a0.1 != (1 : Int)) (cond (a0.2.2.2.1 != (0 : Int)) (some false) (cond a0.2.2.2.2.2.1 (andO (F36 N a0.2.2.2.2.1 (0 : Int) (39 : Int)) fun y100 => cond (!y100) (some false) (F37_j3 N a0.1 a0.2.1 a0.2.2.1 a0.2.2.2.1 a0.2.2.2.2.1 a0.2.2.2.2.2.1 a0.2.2.2.2.2.2)) (F37_j3 N a0.1 a0.2.1 a0.2.2.1 a0.2.2.2.1 a0.2.2.2.2.1 a0.2.2.2.2.2.1 a0.2.2.2.2.2.2))) (cond a0.2.2.2.2.2.1 (andO (F36 N a0.2.2.2.2.1 (0 : Int) (39 : Int)) fun y101 => cond (!y101) (some false) (F37_j3 N a0.1 a0.2.1 a0.2.2.1 a0.2.2.2.1 a0.2.2.2.2.1 a0.2.2.2.2.2.1 a0.2.2.2.2.2.2)) (F37_j3 N a0.1 a0.2.1 a0.2.2.1 a0.2.2.2.1 a0.2.2.2.2.1 a0.2.2.2.2.2.1 a0.2.2.2.2.2.2))))) (cond (a0.1 != (2 : Int)) (cond (decide ((a0.2.2.2.2.2.2.length : Int) > (0 : Int))) (some false) (cond (a0.1 != (1 : Int)) (cond (a0.2.2.2.1 != (0 : Int)) (some false) (cond a0.2.2.2.2.2.1 (andO (F36 N a0.2.2.2.2.1 (0 : Int) (39 : Int)) fun y102 => cond (!y102) (some false) (F37_j3 N a0.1 a0.2.1 a0.2.2.1 a0.2.2.2.1 a0.2.2.2.2.1 a0.2.2.2.2.2.1 a0.2.2.2.2.2.2)) (F37_j3 N a0.1 a0.2.1 a0.2.2.1 a0.2.2.2.1 a0.2.2.2.2.1 a0.2.2.2.2.2.1 a0.2.2.2.2.2.2))) (cond a0.2.2.2.2.2.1 (andO (F36 N a0.2.2.2.2.1 (0 : Int) (39 : Int)) fun y103 => cond (!y103) (some false) (F37_j3 N a0.1 a0.2.1 a0.2.2.1 a0.2.2.2.1 a0.2.2.2.2.1 a0.2.2.2.2.2.1 a0.2.2.2.2.2.2)) (F37_j3 N a0.1 a0.2.1 a0.2.2.1 a0.2.2.2.1 a0.2.2.2.2.1 a0.2.2.2.2.2.1 a0.2.2.2.2.2.2)))) (cond (a0.1 != (1 : Int)) (cond (a0.2.2.2.1 != (0 : Int)) (some false) (cond a0.2.2.2.2.2.1 (andO (F36 N a0.2.2.2.2.1 (0 : Int) (39 : Int)) fun y104 => cond (!y104) (some false) (F37_j3 N a0.1 a0.2.1 a0.2.2.1 a0.2.2.2.1 a0.2.2.2.2.1 a0.2.2.2.2.2.1 a0.2.2.2.2.2.2)) (F37_j3 N a0.1 a0.2.1 a0.2.2.1 a0.2.2.2.1 a0.2.2.2.2.1 a0.2.2.2.2.2.1 a0.2.2.2.2.2.2))) (cond a0.2.2.2.2.2.1 (andO (F36 N a0.2.2.2.2.1 (0 : Int) (39 : Int)) fun y105 => cond (!y105) (some false) (F37_j3 N a0.1 a0.2.1 a0.2.2.1 a0.2.2.2.1 a0.2.2.2.2.1 a0.2.2.2.2.2.1 a0.2.2.2.2.2.2)) (F37_j3 N a0.1 a0.2.1 a0.2.2.1 a0.2.2.2.1 a0.2.2.2.2.1 a0.2.2.2.2.2.1 a0.2.2.2.2.2.2))))
theorem ok37 (N : Nat) (a0 : (Int × (ByteArray × (Int × (Int × (Int × (Bool × (List Int)))))))) {r : Bool} (h : F37 N a0 = some r) : Con Go.Proofs.Try.prog 37 [.agg [.v (.int .i64) a0.1, .v .str a0.2.1, .v (.int .i64) a0.2.2.1, .v (.int .i64) a0.2.2.2.1, .v (.int .i64) a0.2.2.2.2.1, .v .bool a0.2.2.2.2.2.1, .v (.sl (.int .i64)) a0.2.2.2.2.2.2]] [.lf (.v .bool r)] := by
  refine ⟨enters_of Go.Proofs.Try.func37 rfl (by decide), HC.intro [.lf (.v .bool)] T_ok Go.Proofs.Try.func37 rfl (Nat.le_of_ble_eq_true rfl) (Nat.le_of_ble_eq_true rfl) fun w0 E0 => ?_⟩
  unfold F37 at h
  show VW _ _ _ _ _ (retQ _ _ _ _) _
  refine VW.seq ?_
  refine VW.region ?_
  refine VO.seg T_ok .dp 2 [1] [0] (s' := ⟨[(1, .lf (.ptr 0 0 0 0))], [bx [.v (.int .i64) a0.1, .v .str a0.2.1, .v (.int .i64) a0.2.2.1, .v (.int .i64) a0.2.2.2.1, .v (.int .i64) a0.2.2.2.2.1, .v .bool a0.2.2.2.2.2.1, .v (.sl (.int .i64)) a0.2.2.2.2.2.2] 44]⟩) (φ := True ∧ True ∧ True) (by kernel_rfl) ⟨trivial, trivial, trivial⟩ ?_
  refine VO.nil ?_
  show VW _ _ _ _ _ _ _
  refine VW.join (fun s => ∃ (x9 : Int) (x10 : ByteArray) (x11 : Int) (x12 : Int) (x13 : Int) (x14 : Bool) (x15 : (List Int)), s = ⟨[(1, .lf (.ptr 0 0 0 0))], [bx [.v (.int .i64) x9, .v .str x10, .v (.int .i64) x11, .v (.int .i64) x12, .v (.int .i64) x13, .v .bool x14, .v (.sl (.int .i64)) x15] 44]⟩ ∧ F37_j3 N x9 x10 x11 x12 x13 x14 x15 = some r) ?_ ?_
  · refine VW.seq ?_
    refine VW.region ?_
    refine VO.seg T_ok .dp 4 [1, 7] [0] (s' := ⟨[(1, .lf (.ptr 0 0 0 0)), (7, B (a0.1 != (0 : Int)))], [bx [.v (.int .i64) a0.1, .v .str a0.2.1, .v (.int .i64) a0.2.2.1, .v (.int .i64) a0.2.2.2.1, .v (.int .i64) a0.2.2.2.2.1, .v .bool a0.2.2.2.2.2.1, .v (.sl (.int .i64)) a0.2.2.2.2.2.2] 44]⟩) (φ := True ∧ True ∧ True ∧ True ∧ True) (by kernel_rfl) ⟨trivial, trivial, trivial, trivial, trivial⟩ ?_
    refine VO.splitB 7 (b := (a0.1 != (0 : Int))) (by kernel_rfl) (fun hb => ?_) (fun hb => ?_)
    · replace h := cond_t h hb; clear hb
      refine VO.seg T_ok .dp 5 [1, 12] [0] (s' := ⟨[(1, .lf (.ptr 0 0 0 0)), (12, B (!(a0.2.1.toList == ByteArray.empty.toList)))], [bx [.v (.int .i64) a0.1, .v .str a0.2.1, .v (.int .i64) a0.2.2.1, .v (.int .i64) a0.2.2.2.1, .v (.int .i64) a0.2.2.2.2.1, .v .bool a0.2.2.2.2.2.1, .v (.sl (.int .i64)) a0.2.2.2.2.2.2] 44]⟩) (φ := True ∧ True ∧ True ∧ True ∧ True ∧ True) (by kernel_rfl) ⟨trivial, trivial, trivial, trivial, trivial, trivial⟩ ?_
      refine VO.splitB 12 (b := (!(a0.2.1.toList == ByteArray.empty.toList))) (by kernel_rfl) (fun hb => ?_) (fun hb => ?_)
      · replace h := cond_t h hb; clear hb
        refine VO.seg T_ok .dp 30 [1, 42] [0] (s' := ⟨[(1, .lf (.ptr 0 0 0 0)), (42, B true)], [bx [.v (.int .i64) a0.1, .v .str a0.2.1, .v (.int .i64) a0.2.2.1, .v (.int .i64) a0.2.2.2.1, .v (.int .i64) a0.2.2.2.2.1, .v .bool a0.2.2.2.2.2.1, .v (.sl (.int .i64)) a0.2.2.2.2.2.2] 44]⟩) (φ := True ∧ True ∧ True ∧ True ∧ True ∧ True ∧ True ∧ True ∧ True ∧ True ∧ True ∧ True ∧ True ∧ True ∧ True ∧ True ∧ True ∧ True ∧ True ∧ True ∧ True ∧ True ∧ True ∧ True ∧ True ∧ True ∧ True ∧ True ∧ True ∧ True ∧ True) (by kernel_rfl) ⟨trivial, trivial, trivial, trivial, trivial, trivial, trivial, trivial, trivial, trivial, trivial, trivial, trivial, trivial, trivial, trivial, trivial, trivial, trivial, trivial, trivial, trivial, trivial, trivial, trivial, trivial, trivial, trivial, trivial, trivial, trivial⟩ ?_
        refine VO.nil ?_
        show VW _ _ _ _ _ _ _
        refine VW.cond (b := true) (by kernel_rfl) (fun _ => ?_) (fun h' => nomatch h')
        refine VW.seq ?_
        refine VW.region ?_
        refine VO.seg T_ok .dp 1 [2] [] (s' := ⟨[(2, B false)], []⟩) (φ := True ∧ True) (by kernel_rfl) ⟨trivial, trivial⟩ ?_
        refine VO.nil ?_
        show VW _ _ _ _ _ _ _
        refine VW.ret ?_
        replace h := Option.some.inj h
        subst h
        exact retR [] (by kernel_rfl) rfl
      · replace h := cond_f h hb; clear hb
        refine VO.seg T_ok .dp 4 [1, 12, 16] [0] (s' := ⟨[(1, .lf (.ptr 0 0 0 0)), (12, B false), (16, B (a0.1 != (2 : Int)))], [bx [.v (.int .i64) a0.1, .v .str a0.2.1, .v (.int .i64) a0.2.2.1, .v (.int .i64) a0.2.2.2.1, .v (.int .i64) a0.2.2.2.2.1, .v .bool a0.2.2.2.2.2.1, .v (.sl (.int .i64)) a0.2.2.2.2.2.2] 44]⟩) (φ := True ∧ True ∧ True ∧ True ∧ True) (by kernel_rfl) ⟨trivial, trivial, trivial, trivial, trivial⟩ ?_
        refine VO.splitB 16 (b := (a0.1 != (2 : Int))) (by kernel_rfl) (fun hb => ?_) (fun hb => ?_)
        · replace h := cond_t h hb; clear hb
          refine VO.seg T_ok .dp 7 [1, 23] [0] (s' := ⟨[(1, .lf (.ptr 0 0 0 0)), (23, B (decide ((a0.2.2.2.2.2.2.length : Int) > (0 : Int))))], [bx [.v (.int .i64) a0.1, .v .str a0.2.1, .v (.int .i64) a0.2.2.1, .v (.int .i64) a0.2.2.2.1, .v (.int .i64) a0.2.2.2.2.1, .v .bool a0.2.2.2.2.2.1, .v (.sl (.int .i64)) a0.2.2.2.2.2.2] 44]⟩) (φ := True ∧ True ∧ True ∧ True ∧ True ∧ True ∧ True ∧ True) (by kernel_rfl) ⟨trivial, trivial, trivial, trivial, trivial, trivial, trivial, trivial⟩ ?_
          refine VO.splitB 23 (b := (decide ((a0.2.2.2.2.2.2.length : Int) > (0 : Int)))) (by kernel_rfl) (fun hb => ?_) (fun hb => ?_)
          · replace h := cond_t h hb; clear hb
            refine VO.seg T_ok .dp 19 [1, 42] [0] (s' := ⟨[(1, .lf (.ptr 0 0 0 0)), (42, B true)], [bx [.v (.int .i64) a0.1, .v .str a0.2.1, .v (.int .i64) a0.2.2.1, .v (.int .i64) a0.2.2.2.1, .v (.int .i64) a0.2.2.2.2.1, .v .bool a0.2.2.2.2.2.1, .v (.sl (.int .i64)) a0.2.2.2.2.2.2] 44]⟩) (φ := True ∧ True ∧ True ∧ True ∧ True ∧ True ∧ True ∧ True ∧ True ∧ True ∧ True ∧ True ∧ True ∧ True ∧ True ∧ True ∧ True ∧ True ∧ True ∧ True) (by kernel_rfl) ⟨trivial, trivial, trivial, trivial, trivial, trivial, trivial, trivial, trivial, trivial, trivial, trivial, trivial, trivial, trivial, trivial, trivial, trivial, trivial, trivial⟩ ?_
            refine VO.nil ?_
            show VW _ _ _ _ _ _ _
            refine VW.cond (b := true) (by kernel_rfl) (fun _ => ?_) (fun h' => nomatch h')
            refine VW.seq ?_
            refine VW.region ?_
            refine VO.seg T_ok .dp 1 [2] [] (s' := ⟨[(2, B false)], []⟩) (φ := True ∧ True) (by kernel_rfl) ⟨trivial, trivial⟩ ?_
            refine VO.nil ?_
            show VW _ _ _ _ _ _ _
            refine VW.ret ?_
            replace h := Option.some.inj h
            subst h
            exact retR [] (by kernel_rfl) rfl
          · replace h := cond_f h hb; clear hb
            refine VO.seg T_ok .dp 4 [1, 23, 27] [0] (s' := ⟨[(1, .lf (.ptr 0 0 0 0)), (23, B false), (27, B (a0.1 != (1 : Int)))], [bx [.v (.int .i64) a0.1, .v .str a0.2.1, .v (.int .i64) a0.2.2.1, .v (.int .i64) a0.2.2.2.1, .v (.int .i64) a0.2.2.2.2.1, .v .bool a0.2.2.2.2.2.1, .v (.sl (.int .i64)) a0.2.2.2.2.2.2] 44]⟩) (φ := True ∧ True ∧ True ∧ True ∧ True) (by kernel_rfl) ⟨trivial, trivial, trivial, trivial, trivial⟩ ?_
            refine VO.splitB 27 (b := (a0.1 != (1 : Int))) (by kernel_rfl) (fun hb => ?_) (fun hb => ?_)
            · replace h := cond_t h hb; clear hb
              refine VO.seg T_ok .dp 6 [1, 33] [0] (s' := ⟨[(1, .lf (.ptr 0 0 0 0)), (33, B (a0.2.2.2.1 != (0 : Int)))], [bx [.v (.int .i64) a0.1, .v .str a0.2.1, .v (.int .i64) a0.2.2.1, .v (.int .i64) a0.2.2.2.1, .v (.int .i64) a0.2.2.2.2.1, .v .bool a0.2.2.2.2.2.1, .v (.sl (.int .i64)) a0.2.2.2.2.2.2] 44]⟩) (φ := True ∧ True ∧ True ∧ True ∧ True ∧ True ∧ True) (by kernel_rfl) ⟨trivial, trivial, trivial, trivial, trivial, trivial, trivial⟩ ?_
              refine VO.splitB 33 (b := (a0.2.2.2.1 != (0 : Int))) (by kernel_rfl) (fun hb => ?_) (fun hb => ?_)
              · replace h := cond_t h hb; clear hb
                refine VO.seg T_ok .dp 9 [1, 42] [0] (s' := ⟨[(1, .lf (.ptr 0 0 0 0)), (42, B true)], [bx [.v (.int .i64) a0.1, .v .str a0.2.1, .v (.int .i64) a0.2.2.1, .v (.int .i64) a0.2.2.2.1, .v (.int .i64) a0.2.2.2.2.1, .v .bool a0.2.2.2.2.2.1, .v (.sl (.int .i64)) a0.2.2.2.2.2.2] 44]⟩) (φ := True ∧ True ∧ True ∧ True ∧ True ∧ True ∧ True ∧ True ∧ True ∧ True) (by kernel_rfl) ⟨trivial, trivial, trivial, trivial, trivial, trivial, trivial, trivial, trivial, trivial⟩ ?_
                refine VO.nil ?_
                show VW _ _ _ _ _ _ _
                refine VW.cond (b := true) (by kernel_rfl) (fun _ => ?_) (fun h' => nomatch h')
                refine VW.seq ?_
                refine VW.region ?_
                refine VO.seg T_ok .dp 1 [2] [] (s' := ⟨[(2, B false)], []⟩) (φ := True ∧ True) (by kernel_rfl) ⟨trivial, trivial⟩ ?_
                refine VO.nil ?_
                show VW _ _ _ _ _ _ _
                refine VW.ret ?_
                replace h := Option.some.inj h
                subst h
                exact retR [] (by kernel_rfl) rfl
              · replace h := cond_f h hb; clear hb
                refine VO.seg T_ok .dp 3 [1, 33, 36] [0] (s' := ⟨[(1, .lf (.ptr 0 0 0 0)), (33, B false), (36, B a0.2.2.2.2.2.1)], [bx [.v (.int .i64) a0.1, .v .str a0.2.1, .v (.int .i64) a0.2.2.1, .v (.int .i64) a0.2.2.2.1, .v (.int .i64) a0.2.2.2.2.1, .v .bool a0.2.2.2.2.2.1, .v (.sl (.int .i64)) a0.2.2.2.2.2.2] 44]⟩) (φ := True ∧ True ∧ True ∧ True) (by kernel_rfl) ⟨trivial, trivial, trivial, trivial⟩ ?_
                refine VO.splitB 36 (b := a0.2.2.2.2.2.1) (by kernel_rfl) (fun hb => ?_) (fun hb => ?_)
                · replace h := cond_t h hb; clear hb
                  refine VO.seg T_ok .dp 2 [1, 33, 36, 38] [0] (s' := ⟨[(1, .lf (.ptr 0 0 0 0)), (33, B false), (36, B true), (38, I a0.2.2.2.2.1)], [bx [.v (.int .i64) a0.1, .v .str a0.2.1, .v (.int .i64) a0.2.2.1, .v (.int .i64) a0.2.2.2.1, .v (.int .i64) a0.2.2.2.2.1, .v .bool a0.2.2.2.2.2.1, .v (.sl (.int .i64)) a0.2.2.2.2.2.2] 44]⟩) (φ := True ∧ True ∧ True) (by kernel_rfl) ⟨trivial, trivial, trivial⟩ ?_
                  refine VO.on (j := 32) (want := true) (d := 36) (b := true) rfl rfl rfl (by kernel_rfl) rfl ?_
                  obtain ⟨y98, hy, h⟩ := andO_some h
                  refine VO.call false [.t (.int .i64), .t (.int .i64), .t (.int .i64)] [] T_ok (d := some 39) (by kernel_rfl) (ok36 N _ _ _ hy) rfl ?_
                  refine VO.seg T_ok .dp 3 [1, 42] [0] (s' := ⟨[(1, .lf (.ptr 0 0 0 0)), (42, B (!y98))], [bx [.v (.int .i64) a0.1, .v .str a0.2.1, .v (.int .i64) a0.2.2.1, .v (.int .i64) a0.2.2.2.1, .v (.int .i64) a0.2.2.2.2.1, .v .bool a0.2.2.2.2.2.1, .v (.sl (.int .i64)) a0.2.2.2.2.2.2] 44]⟩) (φ := True ∧ True ∧ True ∧ True) (by kernel_rfl) ⟨trivial, trivial, trivial, trivial⟩ ?_
                  refine VO.nil ?_
                  show VW _ _ _ _ _ _ _
                  refine VW.cond (b := (!y98)) (by kernel_rfl) (fun hb => ?_) (fun hb => ?_)
                  · replace h := cond_t h hb; clear hb
                    refine VW.seq ?_
                    refine VW.region ?_
                    refine VO.seg T_ok .dp 1 [2] [] (s' := ⟨[(2, B false)], []⟩) (φ := True ∧ True) (by kernel_rfl) ⟨trivial, trivial⟩ ?_
                    refine VO.nil ?_
                    show VW _ _ _ _ _ _ _
                    refine VW.ret ?_
                    replace h := Option.some.inj h
                    subst h
                    exact retR [] (by kernel_rfl) rfl
                  · replace h := cond_f h hb; clear hb
                    refine VW.skip ?_
                    exact arrive [.ren [1] [0]] (by kernel_rfl) ⟨a0.1, a0.2.1, a0.2.2.1, a0.2.2.2.1, a0.2.2.2.2.1, a0.2.2.2.2.2.1, a0.2.2.2.2.2.2, rfl, h⟩
                · replace h := cond_f h hb; clear hb
                  refine VO.seg T_ok .dp 6 [1, 42] [0] (s' := ⟨[(1, .lf (.ptr 0 0 0 0)), (42, B false)], [bx [.v (.int .i64) a0.1, .v .str a0.2.1, .v (.int .i64) a0.2.2.1, .v (.int .i64) a0.2.2.2.1, .v (.int .i64) a0.2.2.2.2.1, .v .bool a0.2.2.2.2.2.1, .v (.sl (.int .i64)) a0.2.2.2.2.2.2] 44]⟩) (φ := True ∧ True ∧ True ∧ True ∧ True ∧ True ∧ True) (by kernel_rfl) ⟨trivial, trivial, trivial, trivial, trivial, trivial, trivial⟩ ?_
                  refine VO.nil ?_
                  show VW _ _ _ _ _ _ _
                  refine VW.cond (b := false) (by kernel_rfl) (fun h' => nomatch h') (fun _ => ?_)
                  refine VW.skip ?_
                  exact arrive [.ren [1] [0]] (by kernel_rfl) ⟨a0.1, a0.2.1, a0.2.2.1, a0.2.2.2.1, a0.2.2.2.2.1, a0.2.2.2.2.2.1, a0.2.2.2.2.2.2, rfl, h⟩
            · replace h := cond_f h hb; clear hb
              refine VO.seg T_ok .dp 9 [1, 33, 36] [0] (s' := ⟨[(1, .lf (.ptr 0 0 0 0)), (33, B false), (36, B a0.2.2.2.2.2.1)], [bx [.v (.int .i64) a0.1, .v .str a0.2.1, .v (.int .i64) a0.2.2.1, .v (.int .i64) a0.2.2.2.1, .v (.int .i64) a0.2.2.2.2.1, .v .bool a0.2.2.2.2.2.1, .v (.sl (.int .i64)) a0.2.2.2.2.2.2] 44]⟩) (φ := True ∧ True ∧ True ∧ True ∧ True ∧ True ∧ True ∧ True ∧ True ∧ True) (by kernel_rfl) ⟨trivial, trivial, trivial, trivial, trivial, trivial, trivial, trivial, trivial, trivial⟩ ?_
              refine VO.splitB 36 (b := a0.2.2.2.2.2.1) (by kernel_rfl) (fun hb => ?_) (fun hb => ?_)
              · replace h := cond_t h hb; clear hb
                refine VO.seg T_ok .dp 2 [1, 33, 36, 38] [0] (s' := ⟨[(1, .lf (.ptr 0 0 0 0)), (33, B false), (36, B true), (38, I a0.2.2.2.2.1)], [bx [.v (.int .i64) a0.1, .v .str a0.2.1, .v (.int .i64) a0.2.2.1, .v (.int .i64) a0.2.2.2.1, .v (.int .i64) a0.2.2.2.2.1, .v .bool a0.2.2.2.2.2.1, .v (.sl (.int .i64)) a0.2.2.2.2.2.2] 44]⟩) (φ := True ∧ True ∧ True) (by kernel_rfl) ⟨trivial, trivial, trivial⟩ ?_
                refine VO.on (j := 32) (want := true) (d := 36) (b := true) rfl rfl rfl (by kernel_rfl) rfl ?_
                obtain ⟨y99, hy, h⟩ := andO_some h
                refine VO.call false [.t (.int .i64), .t (.int .i64), .t (.int .i64)] [] T_ok (d := some 39) (by kernel_rfl) (ok36 N _ _ _ hy) rfl ?_
                refine VO.seg T_ok .dp 3 [1, 42] [0] (s' := ⟨[(1, .lf (.ptr 0 0 0 0)), (42, B (!y99))], [bx [.v (.int .i64) a0.1, .v .str a0.2.1, .v (.int .i64) a0.2.2.1, .v (.int .i64) a0.2.2.2.1, .v (.int .i64) a0.2.2.2.2.1, .v .bool a0.2.2.2.2.2.1, .v (.sl (.int .i64)) a0.2.2.2.2.2.2] 44]⟩) (φ := True ∧ True ∧ True ∧ True) (by kernel_rfl) ⟨trivial, trivial, trivial, trivial⟩ ?_
                refine VO.nil ?_
                show VW _ _ _ _ _ _ _
                refine VW.cond (b := (!y99)) (by kernel_rfl) (fun hb => ?_) (fun hb => ?_)
                · replace h := cond_t h hb; clear hb
                  refine VW.seq ?_
                  refine VW.region ?_
                  refine VO.seg T_ok .dp 1 [2] [] (s' := ⟨[(2, B false)], []⟩) (φ := True ∧ True) (by kernel_rfl) ⟨trivial, trivial⟩ ?_
                  refine VO.nil ?_
                  show VW _ _ _ _ _ _ _
                  refine VW.ret ?_
                  replace h := Option.some.inj h
                  subst h
                  exact retR [] (by kernel_rfl) rfl
                · replace h := cond_f h hb; clear hb
                  refine VW.skip ?_
                  exact arrive [.ren [1] [0]] (by kernel_rfl) ⟨a0.1, a0.2.1, a0.2.2.1, a0.2.2.2.1, a0.2.2.2.2.1, a0.2.2.2.2.2.1, a0.2.2.2.2.2.2, rfl, h⟩
              · replace h := cond_f h hb; clear hb
                refine VO.seg T_ok .dp 6 [1, 42] [0] (s' := ⟨[(1, .lf (.ptr 0 0 0 0)), (42, B false)], [bx [.v (.int .i64) a0.1, .v .str a0.2.1, .v (.int .i64) a0.2.2.1, .v (.int .i64) a0.2.2.2.1, .v (.int .i64) a0.2.2.2.2.1, .v .bool a0.2.2.2.2.2.1, .v (.sl (.int .i64)) a0.2.2.2.2.2.2] 44]⟩) (φ := True ∧ True ∧ True ∧ True ∧ True ∧ True ∧ True) (by kernel_rfl) ⟨trivial, trivial, trivial, trivial, trivial, trivial, trivial⟩ ?_
                refine VO.nil ?_
                show VW _ _ _ _ _ _ _
                refine VW.cond (b := false) (by kernel_rfl) (fun h' => nomatch h') (fun _ => ?_)
                refine VW.skip ?_
                exact arrive [.ren [1] [0]] (by kernel_rfl) ⟨a0.1, a0.2.1, a0.2.2.1, a0.2.2.2.1, a0.2.2.2.2.1, a0.2.2.2.2.2.1, a0.2.2.2.2.2.2, rfl, h⟩
        · replace h := cond_f h hb; clear hb
          refine VO.seg T_ok .dp 11 [1, 23, 27] [0] (s' := ⟨[(1, .lf (.ptr 0 0 0 0)), (23, B false), (27, B (a0.1 != (1 : Int)))], [bx [.v (.int .i64) a0.1, .v .str a0.2.1, .v (.int .i64) a0.2.2.1, .v (.int .i64) a0.2.2.2.1, .v (.int .i64) a0.2.2.2.2.1, .v .bool a0.2.2.2.2.2.1, .v (.sl (.int .i64)) a0.2.2.2.2.2.2] 44]⟩) (φ := True ∧ True ∧ True ∧ True ∧ True ∧ True ∧ True ∧ True ∧ True ∧ True ∧ True ∧ True) (by kernel_rfl) ⟨trivial, trivial, trivial, trivial, trivial, trivial, trivial, trivial, trivial, trivial, trivial, trivial⟩ ?_
          refine VO.splitB 27 (b := (a0.1 != (1 : Int))) (by kernel_rfl) (fun hb => ?_) (fun hb => ?_)
          · replace h := cond_t h hb; clear hb
            refine VO.seg T_ok .dp 6 [1, 33] [0] (s' := ⟨[(1, .lf (.ptr 0 0 0 0)), (33, B (a0.2.2.2.1 != (0 : Int)))], [bx [.v (.int .i64) a0.1, .v .str a0.2.1, .v (.int .i64) a0.2.2.1, .v (.int .i64) a0.2.2.2.1, .v (.int .i64) a0.2.2.2.2.1, .v .bool a0.2.2.2.2.2.1, .v (.sl (.int .i64)) a0.2.2.2.2.2.2] 44]⟩) (φ := True ∧ True ∧ True ∧ True ∧ True ∧ True ∧ True) (by kernel_rfl) ⟨trivial, trivial, trivial, trivial, trivial, trivial, trivial⟩ ?_
            refine VO.splitB 33 (b := (a0.2.2.2.1 != (0 : Int))) (by kernel_rfl) (fun hb => ?_) (fun hb => ?_)
            · replace h := cond_t h hb; clear hb
              refine VO.seg T_ok .dp 9 [1, 42] [0] (s' := ⟨[(1, .lf (.ptr 0 0 0 0)), (42, B true)], [bx [.v (.int .i64) a0.1, .v .str a0.2.1, .v (.int .i64) a0.2.2.1, .v (.int .i64) a0.2.2.2.1, .v (.int .i64) a0.2.2.2.2.1, .v .bool a0.2.2.2.2.2.1, .v (.sl (.int .i64)) a0.2.2.2.2.2.2] 44]⟩) (φ := True ∧ True ∧ True ∧ True ∧ True ∧ True ∧ True ∧ True ∧ True ∧ True) (by kernel_rfl) ⟨trivial, trivial, trivial, trivial, trivial, trivial, trivial, trivial, trivial, trivial⟩ ?_
              refine VO.nil ?_
              show VW _ _ _ _ _ _ _
              refine VW.cond (b := true) (by kernel_rfl) (fun _ => ?_) (fun h' => nomatch h')
              refine VW.seq ?_
              refine VW.region ?_
              refine VO.seg T_ok .dp 1 [2] [] (s' := ⟨[(2, B false)], []⟩) (φ := True ∧ True) (by kernel_rfl) ⟨trivial, trivial⟩ ?_
              refine VO.nil ?_
              show VW _ _ _ _ _ _ _
              refine VW.ret ?_
              replace h := Option.some.inj h
              subst h
              exact retR [] (by kernel_rfl) rfl
            · replace h := cond_f h hb; clear hb
              refine VO.seg T_ok .dp 3 [1, 33, 36] [0] (s' := ⟨[(1, .lf (.ptr 0 0 0 0)), (33, B false), (36, B a0.2.2.2.2.2.1)], [bx [.v (.int .i64) a0.1, .v .str a0.2.1, .v (.int .i64) a0.2.2.1, .v (.int .i64) a0.2.2.2.1, .v (.int .i64) a0.2.2.2.2.1, .v .bool a0.2.2.2.2.2.1, .v (.sl (.int .i64)) a0.2.2.2.2.2.2] 44]⟩) (φ := True ∧ True ∧ True ∧ True) (by kernel_rfl) ⟨trivial, trivial, trivial, trivial⟩ ?_
              refine VO.splitB 36 (b := a0.2.2.2.2.2.1) (by kernel_rfl) (fun hb => ?_) (fun hb => ?_)
              · replace h := cond_t h hb; clear hb
                refine VO.seg T_ok .dp 2 [1, 33, 36, 38] [0] (s' := ⟨[(1, .lf (.ptr 0 0 0 0)), (33, B false), (36, B true), (38, I a0.2.2.2.2.1)], [bx [.v (.int .i64) a0.1, .v .str a0.2.1, .v (.int .i64) a0.2.2.1, .v (.int .i64) a0.2.2.2.1, .v (.int .i64) a0.2.2.2.2.1, .v .bool a0.2.2.2.2.2.1, .v (.sl (.int .i64)) a0.2.2.2.2.2.2] 44]⟩) (φ := True ∧ True ∧ True) (by kernel_rfl) ⟨trivial, trivial, trivial⟩ ?_
                refine VO.on (j := 32) (want := true) (d := 36) (b := true) rfl rfl rfl (by kernel_rfl) rfl ?_
                obtain ⟨y100, hy, h⟩ := andO_some h
                refine VO.call false [.t (.int .i64), .t (.int .i64), .t (.int .i64)] [] T_ok (d := some 39) (by kernel_rfl) (ok36 N _ _ _ hy) rfl ?_
                refine VO.seg T_ok .dp 3 [1, 42] [0] (s' := ⟨[(1, .lf (.ptr 0 0 0 0)), (42, B (!y100))], [bx [.v (.int .i64) a0.1, .v .str a0.2.1, .v (.int .i64) a0.2.2.1, .v (.int .i64) a0.2.2.2.1, .v (.int .i64) a0.2.2.2.2.1, .v .bool a0.2.2.2.2.2.1, .v (.sl (.int .i64)) a0.2.2.2.2.2.2] 44]⟩) (φ := True ∧ True ∧ True ∧ True) (by kernel_rfl) ⟨trivial, trivial, trivial, trivial⟩ ?_
                refine VO.nil ?_
                show VW _ _ _ _ _ _ _
                refine VW.cond (b := (!y100)) (by kernel_rfl) (fun hb => ?_) (fun hb => ?_)
                · replace h := cond_t h hb; clear hb
                  refine VW.seq ?_
                  refine VW.region ?_
                  refine VO.seg T_ok .dp 1 [2] [] (s' := ⟨[(2, B false)], []⟩) (φ := True ∧ True) (by kernel_rfl) ⟨trivial, trivial⟩ ?_
                  refine VO.nil ?_
                  show VW _ _ _ _ _ _ _
                  refine VW.ret ?_
                  replace h := Option.some.inj h
                  subst h
                  exact retR [] (by kernel_rfl) rfl
                · replace h := cond_f h hb; clear hb
                  refine VW.skip ?_
                  exact arrive [.ren [1] [0]] (by kernel_rfl) ⟨a0.1, a0.2.1, a0.2.2.1, a0.2.2.2.1, a0.2.2.2.2.1, a0.2.2.2.2.2.1, a0.2.2.2.2.2.2, rfl, h⟩
              · replace h := cond_f h hb; clear hb
                refine VO.seg T_ok .dp 6 [1, 42] [0] (s' := ⟨[(1, .lf (.ptr 0 0 0 0)), (42, B false)], [bx [.v (.int .i64) a0.1, .v .str a0.2.1, .v (.int .i64) a0.2.2.1, .v (.int .i64) a0.2.2.2.1, .v (.int .i64) a0.2.2.2.2.1, .v .bool a0.2.2.2.2.2.1, .v (.sl (.int .i64)) a0.2.2.2.2.2.2] 44]⟩) (φ := True ∧ True ∧ True ∧ True ∧ True ∧ True ∧ True) (by kernel_rfl) ⟨trivial, trivial, trivial, trivial, trivial, trivial, trivial⟩ ?_
                refine VO.nil ?_
                show VW _ _ _ _ _ _ _
                refine VW.cond (b := false) (by kernel_rfl) (fun h' => nomatch h') (fun _ => ?_)
                refine VW.skip ?_
                exact arrive [.ren [1] [0]] (by kernel_rfl) ⟨a0.1, a0.2.1, a0.2.2.1, a0.2.2.2.1, a0.2.2.2.2.1, a0.2.2.2.2.2.1, a0.2.2.2.2.2.2, rfl, h⟩
          · replace h := cond_f h hb; clear hb
            refine VO.seg T_ok .dp 9 [1, 33, 36] [0] (s' := ⟨[(1, .lf (.ptr 0 0 0 0)), (33, B false), (36, B a0.2.2.2.2.2.1)], [bx [.v (.int .i64) a0.1, .v .str a0.2.1, .v (.int .i64) a0.2.2.1, .v (.int .i64) a0.2.2.2.1, .v (.int .i64) a0.2.2.2.2.1, .v .bool a0.2.2.2.2.2.1, .v (.sl (.int .i64)) a0.2.2.2.2.2.2] 44]⟩) (φ := True ∧ True ∧ True ∧ True ∧ True ∧ True ∧ True ∧ True ∧ True ∧ True) (by kernel_rfl) ⟨trivial, trivial, trivial, trivial, trivial, trivial, trivial, trivial, trivial, trivial⟩ ?_
            refine VO.splitB 36 (b := a0.2.2.2.2.2.1) (by kernel_rfl) (fun hb => ?_) (fun hb => ?_)
            · replace h := cond_t h hb; clear hb
              refine VO.seg T_ok .dp 2 [1, 33, 36, 38] [0] (s' := ⟨[(1, .lf (.ptr 0 0 0 0)), (33, B false), (36, B true), (38, I a0.2.2.2.2.1)], [bx [.v (.int .i64) a0.1, .v .str a0.2.1, .v (.int .i64) a0.2.2.1, .v (.int .i64) a0.2.2.2.1, .v (.int .i64) a0.2.2.2.2.1, .v .bool a0.2.2.2.2.2.1, .v (.sl (.int .i64)) a0.2.2.2.2.2.2] 44]⟩) (φ := True ∧ True ∧ True) (by kernel_rfl) ⟨trivial, trivial, trivial⟩ ?_
              refine VO.on (j := 32) (want := true) (d := 36) (b := true) rfl rfl rfl (by kernel_rfl) rfl ?_
              obtain ⟨y101, hy, h⟩ := andO_some h
              refine VO.call false [.t (.int .i64), .t (.int .i64), .t (.int .i64)] [] T_ok (d := some 39) (by kernel_rfl) (ok36 N _ _ _ hy) rfl ?_
              refine VO.seg T_ok .dp 3 [1, 42] [0] (s' := ⟨[(1, .lf (.ptr 0 0 0 0)), (42, B (!y101))], [bx [.v (.int .i64) a0.1, .v .str a0.2.1, .v (.int .i64) a0.2.2.1, .v (.int .i64) a0.2.2.2.1, .v (.int .i64) a0.2.2.2.2.1, .v .bool a0.2.2.2.2.2.1, .v (.sl (.int .i64)) a0.2.2.2.2.2.2] 44]⟩) (φ := True ∧ True ∧ True ∧ True) (by kernel_rfl) ⟨trivial, trivial, trivial, trivial⟩ ?_
              refine VO.nil ?_
              show VW _ _ _ _ _ _ _
              refine VW.cond (b := (!y101)) (by kernel_rfl) (fun hb => ?_) (fun hb => ?_)
              · replace h := cond_t h hb; clear hb
                refine VW.seq ?_
                refine VW.region ?_
                refine VO.seg T_ok .dp 1 [2] [] (s' := ⟨[(2, B false)], []⟩) (φ := True ∧ True) (by kernel_rfl) ⟨trivial, trivial⟩ ?_
                refine VO.nil ?_
                show VW _ _ _ _ _ _ _
                refine VW.ret ?_
                replace h := Option.some.inj h
                subst h
                exact retR [] (by kernel_rfl) rfl
              · replace h := cond_f h hb; clear hb
                refine VW.skip ?_
                exact arrive [.ren [1] [0]] (by kernel_rfl) ⟨a0.1, a0.2.1, a0.2.2.1, a0.2.2.2.1, a0.2.2.2.2.1, a0.2.2.2.2.2.1, a0.2.2.2.2.2.2, rfl, h⟩
            · replace h := cond_f h hb; clear hb
              refine VO.seg T_ok .dp 6 [1, 42] [0] (s' := ⟨[(1, .lf (.ptr 0 0 0 0)), (42, B false)], [bx [.v (.int .i64) a0.1, .v .str a0.2.1, .v (.int .i64) a0.2.2.1, .v (.int .i64) a0.2.2.2.1, .v (.int .i64) a0.2.2.2.2.1, .v .bool a0.2.2.2.2.2.1, .v (.sl (.int .i64)) a0.2.2.2.2.2.2] 44]⟩) (φ := True ∧ True ∧ True ∧ True ∧ True ∧ True ∧ True) (by kernel_rfl) ⟨trivial, trivial, trivial, trivial, trivial, trivial, trivial⟩ ?_
              refine VO.nil ?_
              show VW _ _ _ _ _ _ _
              refine VW.cond (b := false) (by kernel_rfl) (fun h' => nomatch h') (fun _ => ?_)
              refine VW.skip ?_
              exact arrive [.ren [1] [0]] (by kernel_rfl) ⟨a0.1, a0.2.1, a0.2.2.1, a0.2.2.2.1, a0.2.2.2.2.1, a0.2.2.2.2.2.1, a0.2.2.2.2.2.2, rfl, h⟩
    · replace h := cond_f h hb; clear hb
      refine VO.seg T_ok .dp 9 [1, 12, 16] [0] (s' := ⟨[(1, .lf (.ptr 0 0 0 0)), (12, B false), (16, B (a0.1 != (2 : Int)))], [bx [.v (.int .i64) a0.1, .v .str a0.2.1, .v (.int .i64) a0.2.2.1, .v (.int .i64) a0.2.2.2.1, .v (.int .i64) a0.2.2.2.2.1, .v .bool a0.2.2.2.2.2.1, .v (.sl (.int .i64)) a0.2.2.2.2.2.2] 44]⟩) (φ := True ∧ True ∧ True ∧ True ∧ True ∧ True ∧ True ∧ True ∧ True ∧ True) (by kernel_rfl) ⟨trivial, trivial, trivial, trivial, trivial, trivial, trivial, trivial, trivial, trivial⟩ ?_
      refine VO.splitB 16 (b := (a0.1 != (2 : Int))) (by kernel_rfl) (fun hb => ?_) (fun hb => ?_)
      · replace h := cond_t h hb; clear hb
        refine VO.seg T_ok .dp 7 [1, 23] [0] (s' := ⟨[(1, .lf (.ptr 0 0 0 0)), (23, B (decide ((a0.2.2.2.2.2.2.length : Int) > (0 : Int))))], [bx [.v (.int .i64) a0.1, .v .str a0.2.1, .v (.int .i64) a0.2.2.1, .v (.int .i64) a0.2.2.2.1, .v (.int .i64) a0.2.2.2.2.1, .v .bool a0.2.2.2.2.2.1, .v (.sl (.int .i64)) a0.2.2.2.2.2.2] 44]⟩) (φ := True ∧ True ∧ True ∧ True ∧ True ∧ True ∧ True ∧ True) (by kernel_rfl) ⟨trivial, trivial, trivial, trivial, trivial, trivial, trivial, trivial⟩ ?_
        refine VO.splitB 23 (b := (decide ((a0.2.2.2.2.2.2.length : Int) > (0 : Int)))) (by kernel_rfl) (fun hb => ?_) (fun hb => ?_)
        · replace h := cond_t h hb; clear hb
          refine VO.seg T_ok .dp 19 [1, 42] [0] (s' := ⟨[(1, .lf (.ptr 0 0 0 0)), (42, B true)], [bx [.v (.int .i64) a0.1, .v .str a0.2.1, .v (.int .i64) a0.2.2.1, .v (.int .i64) a0.2.2.2.1, .v (.int .i64) a0.2.2.2.2.1, .v .bool a0.2.2.2.2.2.1, .v (.sl (.int .i64)) a0.2.2.2.2.2.2] 44]⟩) (φ := True ∧ True ∧ True ∧ True ∧ True ∧ True ∧ True ∧ True ∧ True ∧ True ∧ True ∧ True ∧ True ∧ True ∧ True ∧ True ∧ True ∧ True ∧ True ∧ True) (by kernel_rfl) ⟨trivial, trivial, trivial, trivial, trivial, trivial, trivial, trivial, trivial, trivial, trivial, trivial, trivial, trivial, trivial, trivial, trivial, trivial, trivial, trivial⟩ ?_
          refine VO.nil ?_
          show VW _ _ _ _ _ _ _
          refine VW.cond (b := true) (by kernel_rfl) (fun _ => ?_) (fun h' => nomatch h')
          refine VW.seq ?_
          refine VW.region ?_
          refine VO.seg T_ok .dp 1 [2] [] (s' := ⟨[(2, B false)], []⟩) (φ := True ∧ True) (by kernel_rfl) ⟨trivial, trivial⟩ ?_
          refine VO.nil ?_
          show VW _ _ _ _ _ _ _
          refine VW.ret ?_
          replace h := Option.some.inj h
          subst h
          exact retR [] (by kernel_rfl) rfl
        · replace h := cond_f h hb; clear hb
          refine VO.seg T_ok .dp 4 [1, 23, 27] [0] (s' := ⟨[(1, .lf (.ptr 0 0 0 0)), (23, B false), (27, B (a0.1 != (1 : Int)))], [bx [.v (.int .i64) a0.1, .v .str a0.2.1, .v (.int .i64) a0.2.2.1, .v (.int .i64) a0.2.2.2.1, .v (.int .i64) a0.2.2.2.2.1, .v .bool a0.2.2.2.2.2.1, .v (.sl (.int .i64)) a0.2.2.2.2.2.2] 44]⟩) (φ := True ∧ True ∧ True ∧ True ∧ True) (by kernel_rfl) ⟨trivial, trivial, trivial, trivial, trivial⟩ ?_
          refine VO.splitB 27 (b := (a0.1 != (1 : Int))) (by kernel_rfl) (fun hb => ?_) (fun hb => ?_)
          · replace h := cond_t h hb; clear hb
            refine VO.seg T_ok .dp 6 [1, 33] [0] (s' := ⟨[(1, .lf (.ptr 0 0 0 0)), (33, B (a0.2.2.2.1 != (0 : Int)))], [bx [.v (.int .i64) a0.1, .v .str a0.2.1, .v (.int .i64) a0.2.2.1, .v (.int .i64) a0.2.2.2.1, .v (.int .i64) a0.2.2.2.2.1, .v .bool a0.2.2.2.2.2.1, .v (.sl (.int .i64)) a0.2.2.2.2.2.2] 44]⟩) (φ := True ∧ True ∧ True ∧ True ∧ True ∧ True ∧ True) (by kernel_rfl) ⟨trivial, trivial, trivial, trivial, trivial, trivial, trivial⟩ ?_
            refine VO.splitB 33 (b := (a0.2.2.2.1 != (0 : Int))) (by kernel_rfl) (fun hb => ?_) (fun hb => ?_)
            · replace h := cond_t h hb; clear hb
              refine VO.seg T_ok .dp 9 [1, 42] [0] (s' := ⟨[(1, .lf (.ptr 0 0 0 0)), (42, B true)], [bx [.v (.int .i64) a0.1, .v .str a0.2.1, .v (.int .i64) a0.2.2.1, .v (.int .i64) a0.2.2.2.1, .v (.int .i64) a0.2.2.2.2.1, .v .bool a0.2.2.2.2.2.1, .v (.sl (.int .i64)) a0.2.2.2.2.2.2] 44]⟩) (φ := True ∧ True ∧ True ∧ True ∧ True ∧ True ∧ True ∧ True ∧ True ∧ True) (by kernel_rfl) ⟨trivial, trivial, trivial, trivial, trivial, trivial, trivial, trivial, trivial, trivial⟩ ?_
              refine VO.nil ?_
              show VW _ _ _ _ _ _ _
              refine VW.cond (b := true) (by kernel_rfl) (fun _ => ?_) (fun h' => nomatch h')
              refine VW.seq ?_
              refine VW.region ?_
              refine VO.seg T_ok .dp 1 [2] [] (s' := ⟨[(2, B false)], []⟩) (φ := True ∧ True) (by kernel_rfl) ⟨trivial, trivial⟩ ?_
              refine VO.nil ?_
              show VW _ _ _ _ _ _ _
              refine VW.ret ?_
              replace h := Option.some.inj h
              subst h
              exact retR [] (by kernel_rfl) rfl
            · replace h := cond_f h hb; clear hb
              refine VO.seg T_ok .dp 3 [1, 33, 36] [0] (s' := ⟨[(1, .lf (.ptr 0 0 0 0)), (33, B false), (36, B a0.2.2.2.2.2.1)], [bx [.v (.int .i64) a0.1, .v .str a0.2.1, .v (.int .i64) a0.2.2.1, .v (.int .i64) a0.2.2.2.1, .v (.int .i64) a0.2.2.2.2.1, .v .bool a0.2.2.2.2.2.1, .v (.sl (.int .i64)) a0.2.2.2.2.2.2] 44]⟩) (φ := True ∧ True ∧ True ∧ True) (by kernel_rfl) ⟨trivial, trivial, trivial, trivial⟩ ?_
              refine VO.splitB 36 (b := a0.2.2.2.2.2.1) (by kernel_rfl) (fun hb => ?_) (fun hb => ?_)
              · replace h := cond_t h hb; clear hb
                refine VO.seg T_ok .dp 2 [1, 33, 36, 38] [0] (s' := ⟨[(1, .lf (.ptr 0 0 0 0)), (33, B false), (36, B true), (38, I a0.2.2.2.2.1)], [bx [.v (.int .i64) a0.1, .v .str a0.2.1, .v (.int .i64) a0.2.2.1, .v (.int .i64) a0.2.2.2.1, .v (.int .i64) a0.2.2.2.2.1, .v .bool a0.2.2.2.2.2.1, .v (.sl (.int .i64)) a0.2.2.2.2.2.2] 44]⟩) (φ := True ∧ True ∧ True) (by kernel_rfl) ⟨trivial, trivial, trivial⟩ ?_
                refine VO.on (j := 32) (want := true) (d := 36) (b := true) rfl rfl rfl (by kernel_rfl) rfl ?_
                obtain ⟨y102, hy, h⟩ := andO_some h
                refine VO.call false [.t (.int .i64), .t (.int .i64), .t (.int .i64)] [] T_ok (d := some 39) (by kernel_rfl) (ok36 N _ _ _ hy) rfl ?_
                refine VO.seg T_ok .dp 3 [1, 42] [0] (s' := ⟨[(1, .lf (.ptr 0 0 0 0)), (42, B (!y102))], [bx [.v (.int .i64) a0.1, .v .str a0.2.1, .v (.int .i64) a0.2.2.1, .v (.int .i64) a0.2.2.2.1, .v (.int .i64) a0.2.2.2.2.1, .v .bool a0.2.2.2.2.2.1, .v (.sl (.int .i64)) a0.2.2.2.2.2.2] 44]⟩) (φ := True ∧ True ∧ True ∧ True) (by kernel_rfl) ⟨trivial, trivial, trivial, trivial⟩ ?_
                refine VO.nil ?_
                show VW _ _ _ _ _ _ _
                refine VW.cond (b := (!y102)) (by kernel_rfl) (fun hb => ?_) (fun hb => ?_)
                · replace h := cond_t h hb; clear hb
                  refine VW.seq ?_
                  refine VW.region ?_
                  refine VO.seg T_ok .dp 1 [2] [] (s' := ⟨[(2, B false)], []⟩) (φ := True ∧ True) (by kernel_rfl) ⟨trivial, trivial⟩ ?_
                  refine VO.nil ?_
                  show VW _ _ _ _ _ _ _
                  refine VW.ret ?_
                  replace h := Option.some.inj h
                  subst h
                  exact retR [] (by kernel_rfl) rfl
                · replace h := cond_f h hb; clear hb
                  refine VW.skip ?_
                  exact arrive [.ren [1] [0]] (by kernel_rfl) ⟨a0.1, a0.2.1, a0.2.2.1, a0.2.2.2.1, a0.2.2.2.2.1, a0.2.2.2.2.2.1, a0.2.2.2.2.2.2, rfl, h⟩
              · replace h := cond_f h hb; clear hb
                refine VO.seg T_ok .dp 6 [1, 42] [0] (s' := ⟨[(1, .lf (.ptr 0 0 0 0)), (42, B false)], [bx [.v (.int .i64) a0.1, .v .str a0.2.1, .v (.int .i64) a0.2.2.1, .v (.int .i64) a0.2.2.2.1, .v (.int .i64) a0.2.2.2.2.1, .v .bool a0.2.2.2.2.2.1, .v (.sl (.int .i64)) a0.2.2.2.2.2.2] 44]⟩) (φ := True ∧ True ∧ True ∧ True ∧ True ∧ True ∧ True) (by kernel_rfl) ⟨trivial, trivial, trivial, trivial, trivial, trivial, trivial⟩ ?_
                refine VO.nil ?_
                show VW _ _ _ _ _ _ _
                refine VW.cond (b := false) (by kernel_rfl) (fun h' => nomatch h') (fun _ => ?_)
                refine VW.skip ?_
                exact arrive [.ren [1] [0]] (by kernel_rfl) ⟨a0.1, a0.2.1, a0.2.2.1, a0.2.2.2.1, a0.2.2.2.2.1, a0.2.2.2.2.2.1, a0.2.2.2.2.2.2, rfl, h⟩
          · replace h := cond_f h hb; clear hb
            refine VO.seg T_ok .dp 9 [1, 33, 36] [0] (s' := ⟨[(1, .lf (.ptr 0 0 0 0)), (33, B false), (36, B a0.2.2.2.2.2.1)], [bx [.v (.int .i64) a0.1, .v .str a0.2.1, .v (.int .i64) a0.2.2.1, .v (.int .i64) a0.2.2.2.1, .v (.int .i64) a0.2.2.2.2.1, .v .bool a0.2.2.2.2.2.1, .v (.sl (.int .i64)) a0.2.2.2.2.2.2] 44]⟩) (φ := True ∧ True ∧ True ∧ True ∧ True ∧ True ∧ True ∧ True ∧ True ∧ True) (by kernel_rfl) ⟨trivial, trivial, trivial, trivial, trivial, trivial, trivial, trivial, trivial, trivial⟩ ?_
            refine VO.splitB 36 (b := a0.2.2.2.2.2.1) (by kernel_rfl) (fun hb => ?_) (fun hb => ?_)
            · replace h := cond_t h hb; clear hb
              refine VO.seg T_ok .dp 2 [1, 33, 36, 38] [0] (s' := ⟨[(1, .lf (.ptr 0 0 0 0)), (33, B false), (36, B true), (38, I a0.2.2.2.2.1)], [bx [.v (.int .i64) a0.1, .v .str a0.2.1, .v (.int .i64) a0.2.2.1, .v (.int .i64) a0.2.2.2.1, .v (.int .i64) a0.2.2.2.2.1, .v .bool a0.2.2.2.2.2.1, .v (.sl (.int .i64)) a0.2.2.2.2.2.2] 44]⟩) (φ := True ∧ True ∧ True) (by kernel_rfl) ⟨trivial, trivial, trivial⟩ ?_
              refine VO.on (j := 32) (want := true) (d := 36) (b := true) rfl rfl rfl (by kernel_rfl) rfl ?_
              obtain ⟨y103, hy, h⟩ := andO_some h
              refine VO.call false [.t (.int .i64), .t (.int .i64), .t (.int .i64)] [] T_ok (d := some 39) (by kernel_rfl) (ok36 N _ _ _ hy) rfl ?_
              refine VO.seg T_ok .dp 3 [1, 42] [0] (s' := ⟨[(1, .lf (.ptr 0 0 0 0)), (42, B (!y103))], [bx [.v (.int .i64) a0.1, .v .str a0.2.1, .v (.int .i64) a0.2.2.1, .v (.int .i64) a0.2.2.2.1, .v (.int .i64) a0.2.2.2.2.1, .v .bool a0.2.2.2.2.2.1, .v (.sl (.int .i64)) a0.2.2.2.2.2.2] 44]⟩) (φ := True ∧ True ∧ True ∧ True) (by kernel_rfl) ⟨trivial, trivial, trivial, trivial⟩ ?_
              refine VO.nil ?_
              show VW _ _ _ _ _ _ _
              refine VW.cond (b := (!y103)) (by kernel_rfl) (fun hb => ?_) (fun hb => ?_)
              · replace h := cond_t h hb; clear hb
                refine VW.seq ?_
                refine VW.region ?_
                refine VO.seg T_ok .dp 1 [2] [] (s' := ⟨[(2, B false)], []⟩) (φ := True ∧ True) (by kernel_rfl) ⟨trivial, trivial⟩ ?_
                refine VO.nil ?_
                show VW _ _ _ _ _ _ _
                refine VW.ret ?_
                replace h := Option.some.inj h
                subst h
                exact retR [] (by kernel_rfl) rfl
              · replace h := cond_f h hb; clear hb
                refine VW.skip ?_
                exact arrive [.ren [1] [0]] (by kernel_rfl) ⟨a0.1, a0.2.1, a0.2.2.1, a0.2.2.2.1, a0.2.2.2.2.1, a0.2.2.2.2.2.1, a0.2.2.2.2.2.2, rfl, h⟩
            · replace h := cond_f h hb; clear hb
              refine VO.seg T_ok .dp 6 [1, 42] [0] (s' := ⟨[(1, .lf (.ptr 0 0 0 0)), (42, B false)], [bx [.v (.int .i64) a0.1, .v .str a0.2.1, .v (.int .i64) a0.2.2.1, .v (.int .i64) a0.2.2.2.1, .v (.int .i64) a0.2.2.2.2.1, .v .bool a0.2.2.2.2.2.1, .v (.sl (.int .i64)) a0.2.2.2.2.2.2] 44]⟩) (φ := True ∧ True ∧ True ∧ True ∧ True ∧ True ∧ True) (by kernel_rfl) ⟨trivial, trivial, trivial, trivial, trivial, trivial, trivial⟩ ?_
              refine VO.nil ?_
              show VW _ _ _ _ _ _ _
              refine VW.cond (b := false) (by kernel_rfl) (fun h' => nomatch h') (fun _ => ?_)
              refine VW.skip ?_
              exact arrive [.ren [1] [0]] (by kernel_rfl) ⟨a0.1, a0.2.1, a0.2.2.1, a0.2.2.2.1, a0.2.2.2.2.1, a0.2.2.2.2.2.1, a0.2.2.2.2.2.2, rfl, h⟩
      · replace h := cond_f h hb; clear hb
        refine VO.seg T_ok .dp 11 [1, 23, 27] [0] (s' := ⟨[(1, .lf (.ptr 0 0 0 0)), (23, B false), (27, B (a0.1 != (1 : Int)))], [bx [.v (.int .i64) a0.1, .v .str a0.2.1, .v (.int .i64) a0.2.2.1, .v (.int .i64) a0.2.2.2.1, .v (.int .i64) a0.2.2.2.2.1, .v .bool a0.2.2.2.2.2.1, .v (.sl (.int .i64)) a0.2.2.2.2.2.2] 44]⟩) (φ := True ∧ True ∧ True ∧ True ∧ True ∧ True ∧ True ∧ True ∧ True ∧ True ∧ True ∧ True) (by kernel_rfl) ⟨trivial, trivial, trivial, trivial, trivial, trivial, trivial, trivial, trivial, trivial, trivial, trivial⟩ ?_
        refine VO.splitB 27 (b := (a0.1 != (1 : Int))) (by kernel_rfl) (fun hb => ?_) (fun hb => ?_)
        · replace h := cond_t h hb; clear hb
          refine VO.seg T_ok .dp 6 [1, 33] [0] (s' := ⟨[(1, .lf (.ptr 0 0 0 0)), (33, B (a0.2.2.2.1 != (0 : Int)))], [bx [.v (.int .i64) a0.1, .v .str a0.2.1, .v (.int .i64) a0.2.2.1, .v (.int .i64) a0.2.2.2.1, .v (.int .i64) a0.2.2.2.2.1, .v .bool a0.2.2.2.2.2.1, .v (.sl (.int .i64)) a0.2.2.2.2.2.2] 44]⟩) (φ := True ∧ True ∧ True ∧ True ∧ True ∧ True ∧ True) (by kernel_rfl) ⟨trivial, trivial, trivial, trivial, trivial, trivial, trivial⟩ ?_
          refine VO.splitB 33 (b := (a0.2.2.2.1 != (0 : Int))) (by kernel_rfl) (fun hb => ?_) (fun hb => ?_)
          · replace h := cond_t h hb; clear hb
            refine VO.seg T_ok .dp 9 [1, 42] [0] (s' := ⟨[(1, .lf (.ptr 0 0 0 0)), (42, B true)], [bx [.v (.int .i64) a0.1, .v .str a0.2.1, .v (.int .i64) a0.2.2.1, .v (.int .i64) a0.2.2.2.1, .v (.int .i64) a0.2.2.2.2.1, .v .bool a0.2.2.2.2.2.1, .v (.sl (.int .i64)) a0.2.2.2.2.2.2] 44]⟩) (φ := True ∧ True ∧ True ∧ True ∧ True ∧ True ∧ True ∧ True ∧ True ∧ True) (by kernel_rfl) ⟨trivial, trivial, trivial, trivial, trivial, trivial, trivial, trivial, trivial, trivial⟩ ?_
            refine VO.nil ?_
            show VW _ _ _ _ _ _ _
            refine VW.cond (b := true) (by kernel_rfl) (fun _ => ?_) (fun h' => nomatch h')
            refine VW.seq ?_
            refine VW.region ?_
            refine VO.seg T_ok .dp 1 [2] [] (s' := ⟨[(2, B false)], []⟩) (φ := True ∧ True) (by kernel_rfl) ⟨trivial, trivial⟩ ?_
            refine VO.nil ?_
            show VW _ _ _ _ _ _ _
            refine VW.ret ?_
            replace h := Option.some.inj h
            subst h
            exact retR [] (by kernel_rfl) rfl
          · replace h := cond_f h hb; clear hb
            refine VO.seg T_ok .dp 3 [1, 33, 36] [0] (s' := ⟨[(1, .lf (.ptr 0 0 0 0)), (33, B false), (36, B a0.2.2.2.2.2.1)], [bx [.v (.int .i64) a0.1, .v .str a0.2.1, .v (.int .i64) a0.2.2.1, .v (.int .i64) a0.2.2.2.1, .v (.int .i64) a0.2.2.2.2.1, .v .bool a0.2.2.2.2.2.1, .v (.sl (.int .i64)) a0.2.2.2.2.2.2] 44]⟩) (φ := True ∧ True ∧ True ∧ True) (by kernel_rfl) ⟨trivial, trivial, trivial, trivial⟩ ?_
            refine VO.splitB 36 (b := a0.2.2.2.2.2.1) (by kernel_rfl) (fun hb => ?_) (fun hb => ?_)
            · replace h := cond_t h hb; clear hb
              refine VO.seg T_ok .dp 2 [1, 33, 36, 38] [0] (s' := ⟨[(1, .lf (.ptr 0 0 0 0)), (33, B false), (36, B true), (38, I a0.2.2.2.2.1)], [bx [.v (.int .i64) a0.1, .v .str a0.2.1, .v (.int .i64) a0.2.2.1, .v (.int .i64) a0.2.2.2.1, .v (.int .i64) a0.2.2.2.2.1, .v .bool a0.2.2.2.2.2.1, .v (.sl (.int .i64)) a0.2.2.2.2.2.2] 44]⟩) (φ := True ∧ True ∧ True) (by kernel_rfl) ⟨trivial, trivial, trivial⟩ ?_
              refine VO.on (j := 32) (want := true) (d := 36) (b := true) rfl rfl rfl (by kernel_rfl) rfl ?_
              obtain ⟨y104, hy, h⟩ := andO_some h
              refine VO.call false [.t (.int .i64), .t (.int .i64), .t (.int .i64)] [] T_ok (d := some 39) (by kernel_rfl) (ok36 N _ _ _ hy) rfl ?_
              refine VO.seg T_ok .dp 3 [1, 42] [0] (s' := ⟨[(1, .lf (.ptr 0 0 0 0)), (42, B (!y104))], [bx [.v (.int .i64) a0.1, .v .str a0.2.1, .v (.int .i64) a0.2.2.1, .v (.int .i64) a0.2.2.2.1, .v (.int .i64) a0.2.2.2.2.1, .v .bool a0.2.2.2.2.2.1, .v (.sl (.int .i64)) a0.2.2.2.2.2.2] 44]⟩) (φ := True ∧ True ∧ True ∧ True) (by kernel_rfl) ⟨trivial, trivial, trivial, trivial⟩ ?_
              refine VO.nil ?_
              show VW _ _ _ _ _ _ _
              refine VW.cond (b := (!y104)) (by kernel_rfl) (fun hb => ?_) (fun hb => ?_)
              · replace h := cond_t h hb; clear hb
                refine VW.seq ?_
                refine VW.region ?_
                refine VO.seg T_ok .dp 1 [2] [] (s' := ⟨[(2, B false)], []⟩) (φ := True ∧ True) (by kernel_rfl) ⟨trivial, trivial⟩ ?_
                refine VO.nil ?_
                show VW _ _ _ _ _ _ _
                refine VW.ret ?_
                replace h := Option.some.inj h
                subst h
                exact retR [] (by kernel_rfl) rfl
              · replace h := cond_f h hb; clear hb
                refine VW.skip ?_
                exact arrive [.ren [1] [0]] (by kernel_rfl) ⟨a0.1, a0.2.1, a0.2.2.1, a0.2.2.2.1, a0.2.2.2.2.1, a0.2.2.2.2.2.1, a0.2.2.2.2.2.2, rfl, h⟩
            · replace h := cond_f h hb; clear hb
              refine VO.seg T_ok .dp 6 [1, 42] [0] (s' := ⟨[(1, .lf (.ptr 0 0 0 0)), (42, B false)], [bx [.v (.int .i64) a0.1, .v .str a0.2.1, .v (.int .i64) a0.2.2.1, .v (.int .i64) a0.2.2.2.1, .v (.int .i64) a0.2.2.2.2.1, .v .bool a0.2.2.2.2.2.1, .v (.sl (.int .i64)) a0.2.2.2.2.2.2] 44]⟩) (φ := True ∧ True ∧ True ∧ True ∧ True ∧ True ∧ True) (by kernel_rfl) ⟨trivial, trivial, trivial, trivial, trivial, trivial, trivial⟩ ?_
              refine VO.nil ?_
              show VW _ _ _ _ _ _ _
              refine VW.cond (b := false) (by kernel_rfl) (fun h' => nomatch h') (fun _ => ?_)
              refine VW.skip ?_
              exact arrive [.ren [1] [0]] (by kernel_rfl) ⟨a0.1, a0.2.1, a0.2.2.1, a0.2.2.2.1, a0.2.2.2.2.1, a0.2.2.2.2.2.1, a0.2.2.2.2.2.2, rfl, h⟩
        · replace h := cond_f h hb; clear hb
          refine VO.seg T_ok .dp 9 [1, 33, 36] [0] (s' := ⟨[(1, .lf (.ptr 0 0 0 0)), (33, B false), (36, B a0.2.2.2.2.2.1)], [bx [.v (.int .i64) a0.1, .v .str a0.2.1, .v (.int .i64) a0.2.2.1, .v (.int .i64) a0.2.2.2.1, .v (.int .i64) a0.2.2.2.2.1, .v .bool a0.2.2.2.2.2.1, .v (.sl (.int .i64)) a0.2.2.2.2.2.2] 44]⟩) (φ := True ∧ True ∧ True ∧ True ∧ True ∧ True ∧ True ∧ True ∧ True ∧ True) (by kernel_rfl) ⟨trivial, trivial, trivial, trivial, trivial, trivial, trivial, trivial, trivial, trivial⟩ ?_
          refine VO.splitB 36 (b := a0.2.2.2.2.2.1) (by kernel_rfl) (fun hb => ?_) (fun hb => ?_)
          · replace h := cond_t h hb; clear hb
            refine VO.seg T_ok .dp 2 [1, 33, 36, 38] [0] (s' := ⟨[(1, .lf (.ptr 0 0 0 0)), (33, B false), (36, B true), (38, I a0.2.2.2.2.1)], [bx [.v (.int .i64) a0.1, .v .str a0.2.1, .v (.int .i64) a0.2.2.1, .v (.int .i64) a0.2.2.2.1, .v (.int .i64) a0.2.2.2.2.1, .v .bool a0.2.2.2.2.2.1, .v (.sl (.int .i64)) a0.2.2.2.2.2.2] 44]⟩) (φ := True ∧ True ∧ True) (by kernel_rfl) ⟨trivial, trivial, trivial⟩ ?_
            refine VO.on (j := 32) (want := true) (d := 36) (b := true) rfl rfl rfl (by kernel_rfl) rfl ?_
            obtain ⟨y105, hy, h⟩ := andO_some h
            refine VO.call false [.t (.int .i64), .t (.int .i64), .t (.int .i64)] [] T_ok (d := some 39) (by kernel_rfl) (ok36 N _ _ _ hy) rfl ?_
            refine VO.seg T_ok .dp 3 [1, 42] [0] (s' := ⟨[(1, .lf (.ptr 0 0 0 0)), (42, B (!y105))], [bx [.v (.int .i64) a0.1, .v .str a0.2.1, .v (.int .i64) a0.2.2.1, .v (.int .i64) a0.2.2.2.1, .v (.int .i64) a0.2.2.2.2.1, .v .bool a0.2.2.2.2.2.1, .v (.sl (.int .i64)) a0.2.2.2.2.2.2] 44]⟩) (φ := True ∧ True ∧ True ∧ True) (by kernel_rfl) ⟨trivial, trivial, trivial, trivial⟩ ?_
            refine VO.nil ?_
            show VW _ _ _ _ _ _ _
            refine VW.cond (b := (!y105)) (by kernel_rfl) (fun hb => ?_) (fun hb => ?_)
            · replace h := cond_t h hb; clear hb
              refine VW.seq ?_
              refine VW.region ?_
              refine VO.seg T_ok .dp 1 [2] [] (s' := ⟨[(2, B false)], []⟩) (φ := True ∧ True) (by kernel_rfl) ⟨trivial, trivial⟩ ?_
              refine VO.nil ?_
              show VW _ _ _ _ _ _ _
              refine VW.ret ?_
              replace h := Option.some.inj h
              subst h
              exact retR [] (by kernel_rfl) rfl
            · replace h := cond_f h hb; clear hb
              refine VW.skip ?_
              exact arrive [.ren [1] [0]] (by kernel_rfl) ⟨a0.1, a0.2.1, a0.2.2.1, a0.2.2.2.1, a0.2.2.2.2.1, a0.2.2.2.2.2.1, a0.2.2.2.2.2.2, rfl, h⟩
          · replace h := cond_f h hb; clear hb
            refine VO.seg T_ok .dp 6 [1, 42] [0] (s' := ⟨[(1, .lf (.ptr 0 0 0 0)), (42, B false)], [bx [.v (.int .i64) a0.1, .v .str a0.2.1, .v (.int .i64) a0.2.2.1, .v (.int .i64) a0.2.2.2.1, .v (.int .i64) a0.2.2.2.2.1, .v .bool a0.2.2.2.2.2.1, .v (.sl (.int .i64)) a0.2.2.2.2.2.2] 44]⟩) (φ := True ∧ True ∧ True ∧ True ∧ True ∧ True ∧ True) (by kernel_rfl) ⟨trivial, trivial, trivial, trivial, trivial, trivial, trivial⟩ ?_
            refine VO.nil ?_
            show VW _ _ _ _ _ _ _
            refine VW.cond (b := false) (by kernel_rfl) (fun h' => nomatch h') (fun _ => ?_)
            refine VW.skip ?_
            exact arrive [.ren [1] [0]] (by kernel_rfl) ⟨a0.1, a0.2.1, a0.2.2.1, a0.2.2.2.1, a0.2.2.2.2.1, a0.2.2.2.2.2.1, a0.2.2.2.2.2.2, rfl, h⟩
  · rintro s ⟨x9, x10, x11, x12, x13, x14, x15, rfl, h⟩
    unfold F37_j3 at h
    refine VW.join (fun s => s = ⟨[], []⟩ ∧ F37_j0 N = some r) ?_ ?_
    · refine VW.seq ?_
      refine VW.region ?_
      refine VO.seg T_ok .dp 2 [1, 44] [0] (s' := ⟨[(1, .lf (.ptr 0 0 0 0)), (44, I x9)], [bx [.v (.int .i64) x9, .v .str x10, .v (.int .i64) x11, .v (.int .i64) x12, .v (.int .i64) x13, .v .bool x14, .v (.sl (.int .i64)) x15] 44]⟩) (φ := True ∧ True ∧ True) (by kernel_rfl) ⟨trivial, trivial, trivial⟩ ?_
      refine VO.nil ?_
      show VW _ _ _ _ _ _ _
      refine VW.block ?_
      refine VW.seq ?_
      refine VW.region ?_
      refine VO.seg T_ok .dp 2 [1, 44, 45] [0] (s' := ⟨[(1, .lf (.ptr 0 0 0 0)), (44, I x9), (45, B (x9 == (0 : Int)))], [bx [.v (.int .i64) x9, .v .str x10, .v (.int .i64) x11, .v (.int .i64) x12, .v (.int .i64) x13, .v .bool x14, .v (.sl (.int .i64)) x15] 44]⟩) (φ := True ∧ True ∧ True) (by kernel_rfl) ⟨trivial, trivial, trivial⟩ ?_
      refine VO.nil ?_
      show VW _ _ _ _ _ _ _
      refine VW.cond (b := (x9 == (0 : Int))) (by kernel_rfl) (fun hb => ?_) (fun hb => ?_)
      · replace h := cond_t h hb; clear hb
        refine VW.seq ?_
        refine VW.region ?_
        refine VO.seg T_ok .dp 2 [1, 48] [0] (s' := ⟨[(1, .lf (.ptr 0 0 0 0)), (48, S x10)], [bx [.v (.int .i64) x9, .v .str x10, .v (.int .i64) x11, .v (.int .i64) x12, .v (.int .i64) x13, .v .bool x14, .v (.sl (.int .i64)) x15] 44]⟩) (φ := True ∧ True ∧ True) (by kernel_rfl) ⟨trivial, trivial, trivial⟩ ?_
        obtain ⟨y57, hy, h⟩ := andO_some h
        refine VO.call false [.t .str] [] T_ok (d := some 49) (by kernel_rfl) (ok48 N _ hy) rfl ?_
        refine VO.seg T_ok .dp 1 [1, 50] [0] (s' := ⟨[(1, .lf (.ptr 0 0 0 0)), (50, B y57)], [bx [.v (.int .i64) x9, .v .str x10, .v (.int .i64) x11, .v (.int .i64) x12, .v (.int .i64) x13, .v .bool x14, .v (.sl (.int .i64)) x15] 44]⟩) (φ := True ∧ True) (by kernel_rfl) ⟨trivial, trivial⟩ ?_
        refine VO.splitB 50 (b := y57) (by kernel_rfl) (fun hb => ?_) (fun hb => ?_)
        · replace h := cond_t h hb; clear hb
          refine VO.seg T_ok .dp 5 [1, 55] [0] (s' := ⟨[(1, .lf (.ptr 0 0 0 0)), (55, B (x11 == (0 : Int)))], [bx [.v (.int .i64) x9, .v .str x10, .v (.int .i64) x11, .v (.int .i64) x12, .v (.int .i64) x13, .v .bool x14, .v (.sl (.int .i64)) x15] 44]⟩) (φ := True ∧ True ∧ True ∧ True ∧ True ∧ True) (by kernel_rfl) ⟨trivial, trivial, trivial, trivial, trivial, trivial⟩ ?_
          refine VO.splitB 55 (b := (x11 == (0 : Int))) (by kernel_rfl) (fun hb => ?_) (fun hb => ?_)
          · replace h := cond_t h hb; clear hb
            refine VO.seg T_ok .dp 5 [1, 60] [0] (s' := ⟨[(1, .lf (.ptr 0 0 0 0)), (60, B (x13 == (0 : Int)))], [bx [.v (.int .i64) x9, .v .str x10, .v (.int .i64) x11, .v (.int .i64) x12, .v (.int .i64) x13, .v .bool x14, .v (.sl (.int .i64)) x15] 44]⟩) (φ := True ∧ True ∧ True ∧ True ∧ True ∧ True) (by kernel_rfl) ⟨trivial, trivial, trivial, trivial, trivial, trivial⟩ ?_
            refine VO.splitB 60 (b := (x13 == (0 : Int))) (by kernel_rfl) (fun hb => ?_) (fun hb => ?_)
            · replace h := cond_t h hb; clear hb
              refine VO.seg T_ok .dp 5 [2] [] (s' := ⟨[(2, B (!x14))], []⟩) (φ := True ∧ True ∧ True ∧ True ∧ True ∧ True) (by kernel_rfl) ⟨trivial, trivial, trivial, trivial, trivial, trivial⟩ ?_
              refine VO.nil ?_
              show VW _ _ _ _ _ _ _
              refine VW.ret ?_
              replace h := Option.some.inj h
              subst h
              exact retR [] (by kernel_rfl) rfl
            · replace h := cond_f h hb; clear hb
              refine VO.seg T_ok .dp 5 [2] [] (s' := ⟨[(2, B false)], []⟩) (φ := True ∧ True ∧ True ∧ True ∧ True ∧ True) (by kernel_rfl) ⟨trivial, trivial, trivial, trivial, trivial, trivial⟩ ?_
              refine VO.nil ?_
              show VW _ _ _ _ _ _ _
              refine VW.ret ?_
              replace h := Option.some.inj h
              subst h
              exact retR [] (by kernel_rfl) rfl
          · replace h := cond_f h hb; clear hb
            refine VO.seg T_ok .dp 10 [2] [] (s' := ⟨[(2, B false)], []⟩) (φ := True ∧ True ∧ True ∧ True ∧ True ∧ True ∧ True ∧ True ∧ True ∧ True ∧ True) (by kernel_rfl) ⟨trivial, trivial, trivial, trivial, trivial, trivial, trivial, trivial, trivial, trivial, trivial⟩ ?_
            refine VO.nil ?_
            show VW _ _ _ _ _ _ _
            refine VW.ret ?_
            replace h := Option.some.inj h
            subst h
            exact retR [] (by kernel_rfl) rfl
        · replace h := cond_f h hb; clear hb
          refine VO.seg T_ok .dp 15 [2] [] (s' := ⟨[(2, B false)], []⟩) (φ := True ∧ True ∧ True ∧ True ∧ True ∧ True ∧ True ∧ True ∧ True ∧ True ∧ True ∧ True ∧ True ∧ True ∧ True ∧ True) (by kernel_rfl) ⟨trivial, trivial, trivial, trivial, trivial, trivial, trivial, trivial, trivial, trivial, trivial, trivial, trivial, trivial, trivial, trivial⟩ ?_
          refine VO.nil ?_
          show VW _ _ _ _ _ _ _
          refine VW.ret ?_
          replace h := Option.some.inj h
          subst h
          exact retR [] (by kernel_rfl) rfl
      · replace h := cond_f h hb; clear hb
        refine VW.seq ?_
        refine VW.region ?_
        refine VO.seg T_ok .dp 2 [1, 44, 65] [0] (s' := ⟨[(1, .lf (.ptr 0 0 0 0)), (44, I x9), (65, B (x9 == (1 : Int)))], [bx [.v (.int .i64) x9, .v .str x10, .v (.int .i64) x11, .v (.int .i64) x12, .v (.int .i64) x13, .v .bool x14, .v (.sl (.int .i64)) x15] 44]⟩) (φ := True ∧ True ∧ True) (by kernel_rfl) ⟨trivial, trivial, trivial⟩ ?_
        refine VO.nil ?_
        show VW _ _ _ _ _ _ _
        refine VW.cond (b := (x9 == (1 : Int))) (by kernel_rfl) (fun hb => ?_) (fun hb => ?_)
        · replace h := cond_t h hb; clear hb
          refine VW.seq ?_
          refine VW.region ?_
          refine VO.seg T_ok .dp 2 [1, 68] [0] (s' := ⟨[(1, .lf (.ptr 0 0 0 0)), (68, I x11)], [bx [.v (.int .i64) x9, .v .str x10, .v (.int .i64) x11, .v (.int .i64) x12, .v (.int .i64) x13, .v .bool x14, .v (.sl (.int .i64)) x15] 44]⟩) (φ := True ∧ True ∧ True) (by kernel_rfl) ⟨trivial, trivial, trivial⟩ ?_
          obtain ⟨y58, hy, h⟩ := andO_some h
          refine VO.call false [.t (.int .i64)] [] T_ok (d := some 69) (by kernel_rfl) (ok49 N _ hy) rfl ?_
          refine VO.seg T_ok .dp 1 [1, 70] [0] (s' := ⟨[(1, .lf (.ptr 0 0 0 0)), (70, B y58)], [bx [.v (.int .i64) x9, .v .str x10, .v (.int .i64) x11, .v (.int .i64) x12, .v (.int .i64) x13, .v .bool x14, .v (.sl (.int .i64)) x15] 44]⟩) (φ := True ∧ True) (by kernel_rfl) ⟨trivial, trivial⟩ ?_
          refine VO.splitB 70 (b := y58) (by kernel_rfl) (fun hb => ?_) (fun hb => ?_)
          · replace h := cond_t h hb; clear hb
            refine VO.seg T_ok .dp 2 [1, 70, 72] [0] (s' := ⟨[(1, .lf (.ptr 0 0 0 0)), (70, B true), (72, I x12)], [bx [.v (.int .i64) x9, .v .str x10, .v (.int .i64) x11, .v (.int .i64) x12, .v (.int .i64) x13, .v .bool x14, .v (.sl (.int .i64)) x15] 44]⟩) (φ := True ∧ True ∧ True) (by kernel_rfl) ⟨trivial, trivial, trivial⟩ ?_
            refine VO.on (j := 3) (want := true) (d := 70) (b := true) rfl rfl rfl (by kernel_rfl) rfl ?_
            obtain ⟨y59, hy, h⟩ := andO_some h
            refine VO.call false [.t (.int .i64), .t (.int .i64), .t (.int .i64)] [] T_ok (d := some 73) (by kernel_rfl) (ok36 N _ _ _ hy) rfl ?_
            refine VO.seg T_ok .dp 2 [1, 75] [0] (s' := ⟨[(1, .lf (.ptr 0 0 0 0)), (75, B y59)], [bx [.v (.int .i64) x9, .v .str x10, .v (.int .i64) x11, .v (.int .i64) x12, .v (.int .i64) x13, .v .bool x14, .v (.sl (.int .i64)) x15] 44]⟩) (φ := True ∧ True ∧ True) (by kernel_rfl) ⟨trivial, trivial, trivial⟩ ?_
            refine VO.splitB 75 (b := y59) (by kernel_rfl) (fun hb => ?_) (fun hb => ?_)
            · replace h := cond_t h hb; clear hb
              refine VO.seg T_ok .dp 2 [1, 75, 77] [0] (s' := ⟨[(1, .lf (.ptr 0 0 0 0)), (75, B true), (77, I x13)], [bx [.v (.int .i64) x9, .v .str x10, .v (.int .i64) x11, .v (.int .i64) x12, .v (.int .i64) x13, .v .bool x14, .v (.sl (.int .i64)) x15] 44]⟩) (φ := True ∧ True ∧ True) (by kernel_rfl) ⟨trivial, trivial, trivial⟩ ?_
              refine VO.on (j := 8) (want := true) (d := 75) (b := true) rfl rfl rfl (by kernel_rfl) rfl ?_
              obtain ⟨y60, hy, h⟩ := andO_some h
              refine VO.call false [.t (.int .i64)] [] T_ok (d := some 78) (by kernel_rfl) (ok50 N _ hy) rfl ?_
              refine VO.seg T_ok .dp 2 [1, 80] [0] (s' := ⟨[(1, .lf (.ptr 0 0 0 0)), (80, B y60)], [bx [.v (.int .i64) x9, .v .str x10, .v (.int .i64) x11, .v (.int .i64) x12, .v (.int .i64) x13, .v .bool x14, .v (.sl (.int .i64)) x15] 44]⟩) (φ := True ∧ True ∧ True) (by kernel_rfl) ⟨trivial, trivial, trivial⟩ ?_
              refine VO.splitB 80 (b := y60) (by kernel_rfl) (fun hb => ?_) (fun hb => ?_)
              · replace h := cond_t h hb; clear hb
                refine VO.seg T_ok .dp 4 [1, 80, 84] [0] (s' := ⟨[(1, .lf (.ptr 0 0 0 0)), (80, B true), (84, B (x12 != (3 : Int)))], [bx [.v (.int .i64) x9, .v .str x10, .v (.int .i64) x11, .v (.int .i64) x12, .v (.int .i64) x13, .v .bool x14, .v (.sl (.int .i64)) x15] 44]⟩) (φ := True ∧ True ∧ True ∧ True ∧ True) (by kernel_rfl) ⟨trivial, trivial, trivial, trivial, trivial⟩ ?_
                refine VO.splitB 84 (b := (x12 != (3 : Int))) (by kernel_rfl) (fun hb => ?_) (fun hb => ?_)
                · replace h := cond_t h hb; clear hb
                  refine VO.seg T_ok .dp 11 [2] [] (s' := ⟨[(2, B true)], []⟩) (φ := True ∧ True ∧ True ∧ True ∧ True ∧ True ∧ True ∧ True ∧ True ∧ True ∧ True ∧ True) (by kernel_rfl) ⟨trivial, trivial, trivial, trivial, trivial, trivial, trivial, trivial, trivial, trivial, trivial, trivial⟩ ?_
                  refine VO.nil ?_
                  show VW _ _ _ _ _ _ _
                  refine VW.ret ?_
                  replace h := Option.some.inj h
                  subst h
                  exact retR [] (by kernel_rfl) rfl
                · replace h := cond_f h hb; clear hb
                  refine VO.seg T_ok .dp 4 [1, 80, 84, 88] [0] (s' := ⟨[(1, .lf (.ptr 0 0 0 0)), (80, B true), (84, B false), (88, B (x13 == (0 : Int)))], [bx [.v (.int .i64) x9, .v .str x10, .v (.int .i64) x11, .v (.int .i64) x12, .v (.int .i64) x13, .v .bool x14, .v (.sl (.int .i64)) x15] 44]⟩) (φ := True ∧ True ∧ True ∧ True ∧ True) (by kernel_rfl) ⟨trivial, trivial, trivial, trivial, trivial⟩ ?_
                  refine VO.splitB 88 (b := (x13 == (0 : Int))) (by kernel_rfl) (fun hb => ?_) (fun hb => ?_)
                  · replace h := cond_t h hb; clear hb
                    refine VO.seg T_ok .dp 7 [2] [] (s' := ⟨[(2, B (!x14))], []⟩) (φ := True ∧ True ∧ True ∧ True ∧ True ∧ True ∧ True ∧ True) (by kernel_rfl) ⟨trivial, trivial, trivial, trivial, trivial, trivial, trivial, trivial⟩ ?_
                    refine VO.nil ?_
                    show VW _ _ _ _ _ _ _
                    refine VW.ret ?_
                    replace h := Option.some.inj h
                    subst h
                    exact retR [] (by kernel_rfl) rfl
                  · replace h := cond_f h hb; clear hb
                    refine VO.seg T_ok .dp 7 [2] [] (s' := ⟨[(2, B false)], []⟩) (φ := True ∧ True ∧ True ∧ True ∧ True ∧ True ∧ True ∧ True) (by kernel_rfl) ⟨trivial, trivial, trivial, trivial, trivial, trivial, trivial, trivial⟩ ?_
                    refine VO.nil ?_
                    show VW _ _ _ _ _ _ _
                    refine VW.ret ?_
                    replace h := Option.some.inj h
                    subst h
                    exact retR [] (by kernel_rfl) rfl
              · replace h := cond_f h hb; clear hb
                refine VO.seg T_ok .dp 15 [2] [] (s' := ⟨[(2, B false)], []⟩) (φ := True ∧ True ∧ True ∧ True ∧ True ∧ True ∧ True ∧ True ∧ True ∧ True ∧ True ∧ True ∧ True ∧ True ∧ True ∧ True) (by kernel_rfl) ⟨trivial, trivial, trivial, trivial, trivial, trivial, trivial, trivial, trivial, trivial, trivial, trivial, trivial, trivial, trivial, trivial⟩ ?_
                refine VO.nil ?_
                show VW _ _ _ _ _ _ _
                refine VW.ret ?_
                replace h := Option.some.inj h
                subst h
                exact retR [] (by kernel_rfl) rfl
            · replace h := cond_f h hb; clear hb
              refine VO.seg T_ok .dp 20 [2] [] (s' := ⟨[(2, B false)], []⟩) (φ := True ∧ True ∧ True ∧ True ∧ True ∧ True ∧ True ∧ True ∧ True ∧ True ∧ True ∧ True ∧ True ∧ True ∧ True ∧ True ∧ True ∧ True ∧ True ∧ True ∧ True) (by kernel_rfl) ⟨trivial, trivial, trivial, trivial, trivial, trivial, trivial, trivial, trivial, trivial, trivial, trivial, trivial, trivial, trivial, trivial, trivial, trivial, trivial, trivial, trivial⟩ ?_
              refine VO.nil ?_
              show VW _ _ _ _ _ _ _
              refine VW.ret ?_
              replace h := Option.some.inj h
              subst h
              exact retR [] (by kernel_rfl) rfl
          · replace h := cond_f h hb; clear hb
            refine VO.seg T_ok .dp 25 [2] [] (s' := ⟨[(2, B false)], []⟩) (φ := True ∧ True ∧ True ∧ True ∧ True ∧ True ∧ True ∧ True ∧ True ∧ True ∧ True ∧ True ∧ True ∧ True ∧ True ∧ True ∧ True ∧ True ∧ True ∧ True ∧ True ∧ True ∧ True ∧ True ∧ True ∧ True) (by kernel_rfl) ⟨trivial, trivial, trivial, trivial, trivial, trivial, trivial, trivial, trivial, trivial, trivial, trivial, trivial, trivial, trivial, trivial, trivial, trivial, trivial, trivial, trivial, trivial, trivial, trivial, trivial, trivial⟩ ?_
            refine VO.nil ?_
            show VW _ _ _ _ _ _ _
            refine VW.ret ?_
            replace h := Option.some.inj h
            subst h
            exact retR [] (by kernel_rfl) rfl
        · replace h := cond_f h hb; clear hb
          refine VW.seq ?_
          refine VW.region ?_
          refine VO.seg T_ok .dp 2 [1, 44, 95] [0] (s' := ⟨[(1, .lf (.ptr 0 0 0 0)), (44, I x9), (95, B (x9 == (2 : Int)))], [bx [.v (.int .i64) x9, .v .str x10, .v (.int .i64) x11, .v (.int .i64) x12, .v (.int .i64) x13, .v .bool x14, .v (.sl (.int .i64)) x15] 44]⟩) (φ := True ∧ True ∧ True) (by kernel_rfl) ⟨trivial, trivial, trivial⟩ ?_
          refine VO.nil ?_
          show VW _ _ _ _ _ _ _
          refine VW.cond (b := (x9 == (2 : Int))) (by kernel_rfl) (fun hb => ?_) (fun hb => ?_)
          · replace h := cond_t h hb; clear hb
            refine VW.join (fun s => s = ⟨[(1, .lf (.ptr 0 0 0 0))], [bx [.v (.int .i64) x9, .v .str x10, .v (.int .i64) x11, .v (.int .i64) x12, .v (.int .i64) x13, .v .bool x14, .v (.sl (.int .i64)) x15] 44]⟩ ∧ F37_j1 N x11 x13 x14 x15 = some r) ?_ ?_
            · refine VW.seq ?_
              refine VW.region ?_
              refine VO.seg T_ok .dp 1 [1, 3] [0] (s' := ⟨[(1, .lf (.ptr 0 0 0 0)), (3, I (0 : Int))], [bx [.v (.int .i64) x9, .v .str x10, .v (.int .i64) x11, .v (.int .i64) x12, .v (.int .i64) x13, .v .bool x14, .v (.sl (.int .i64)) x15] 44]⟩) (φ := True ∧ True) (by kernel_rfl) ⟨trivial, trivial⟩ ?_
              refine VO.nil ?_
              show VW _ _ _ _ _ _ _
              refine VW.block ?_
              refine VW.loopL (fun k s => ∃ (x81 : Int), s = ⟨[(1, .lf (.ptr 0 0 0 0)), (3, I x81)], [bx [.v (.int .i64) x9, .v .str x10, .v (.int .i64) x11, .v (.int .i64) x12, .v (.int .i64) x13, .v .bool x14, .v (.sl (.int .i64)) x15] 44]⟩ ∧ F37_l0 N x11 x13 x14 x15 k x81 = some r) N [.ren [1, 3] [0]] (by kernel_rfl) ⟨(0 : Int), rfl, h⟩ ?_
              rintro k86 s ⟨x81, rfl, h⟩
              cases k86 with
              | zero => exact nomatch (show (none : Option (Bool)) = some r from h)
              | succ k86 =>
                replace h : F37_l0_b N x11 x13 x14 x15 (F37_l0 N x11 x13 x14 x15 k86) x81 = some r := h
                unfold F37_l0_b at h
                refine VW.seq ?_
                refine VW.seq ?_
                refine VW.region ?_
                refine VO.seg T_ok .dp 5 [1, 3, 101] [0] (s' := ⟨[(1, .lf (.ptr 0 0 0 0)), (3, I x81), (101, B (decide (x81 < (x15.length : Int))))], [bx [.v (.int .i64) x9, .v .str x10, .v (.int .i64) x11, .v (.int .i64) x12, .v (.int .i64) x13, .v .bool x14, .v (.sl (.int .i64)) x15] 44]⟩) (φ := True ∧ True ∧ True ∧ True ∧ True ∧ True) (by kernel_rfl) ⟨trivial, trivial, trivial, trivial, trivial, trivial⟩ ?_
                refine VO.nil ?_
                show VW _ _ _ _ _ _ _
                refine VW.cond (b := (decide (x81 < (x15.length : Int)))) (by kernel_rfl) (fun hb => ?_) (fun hb => ?_)
                · replace h := cond_t h hb; clear hb
                  refine VW.skip ?_
                  show VW _ _ _ _ _ _ _
                  refine VW.seq ?_
                  refine VW.block ?_
                  refine VW.seq ?_
                  refine VW.region ?_
                  obtain ⟨g89, h⟩ := gd_some h
                  refine VO.seg T_ok .dp 5 [1, 3, 108] [0] (s' := ⟨[(1, .lf (.ptr 0 0 0 0)), (3, I x81), (108, I (x15.getD x81.toNat (Ty.dflt (.int .i64))))], [bx [.v (.int .i64) x9, .v .str x10, .v (.int .i64) x11, .v (.int .i64) x12, .v (.int .i64) x13, .v .bool x14, .v (.sl (.int .i64)) x15] 44]⟩) (φ := True ∧ True ∧ True ∧ (InR x81 x15.length) ∧ True ∧ True) (by kernel_rfl) ⟨trivial, trivial, trivial, g89, trivial, trivial⟩ ?_
                  obtain ⟨y90, hy, h⟩ := andO_some h
                  refine VO.call false [.t (.int .i64)] [] T_ok (d := some 109) (by kernel_rfl) (ok49 N _ hy) rfl ?_
                  refine VO.seg T_ok .dp 1 [1, 3, 110] [0] (s' := ⟨[(1, .lf (.ptr 0 0 0 0)), (3, I x81), (110, B (!y90))], [bx [.v (.int .i64) x9, .v .str x10, .v (.int .i64) x11, .v (.int .i64) x12, .v (.int .i64) x13, .v .bool x14, .v (.sl (.int .i64)) x15] 44]⟩) (φ := True ∧ True) (by kernel_rfl) ⟨trivial, trivial⟩ ?_
                  refine VO.nil ?_
                  show VW _ _ _ _ _ _ _
                  refine VW.cond (b := (!y90)) (by kernel_rfl) (fun hb => ?_) (fun hb => ?_)
                  · replace h := cond_t h hb; clear hb
                    refine VW.seq ?_
                    refine VW.region ?_
                    refine VO.seg T_ok .dp 1 [2] [] (s' := ⟨[(2, B false)], []⟩) (φ := True ∧ True) (by kernel_rfl) ⟨trivial, trivial⟩ ?_
                    refine VO.nil ?_
                    show VW _ _ _ _ _ _ _
                    refine VW.ret ?_
                    replace h := Option.some.inj h
                    subst h
                    exact retR [] (by kernel_rfl) rfl
                  · replace h := cond_f h hb; clear hb
                    refine VW.skip ?_
                    show VW _ _ _ _ _ _ _
                    refine VW.region ?_
                    refine VO.seg T_ok .dp 3 [1, 3] [0] (s' := ⟨[(1, .lf (.ptr 0 0 0 0)), (3, I (IntKind.i64.wrap (x81 + (1 : Int))))], [bx [.v (.int .i64) x9, .v .str x10, .v (.int .i64) x11, .v (.int .i64) x12, .v (.int .i64) x13, .v .bool x14, .v (.sl (.int .i64)) x15] 44]⟩) (φ := True ∧ True ∧ True ∧ True) (by kernel_rfl) ⟨trivial, trivial, trivial, trivial⟩ ?_
                    refine VO.nil ?_
                    exact around [.ren [1, 3] [0]] (by kernel_rfl) ⟨(IntKind.i64.wrap (x81 + (1 : Int))), rfl, h⟩
                · replace h := cond_f h hb; clear hb
                  refine VW.exit ?_
                  exact arrive [.ren [1] [0]] (by kernel_rfl) ⟨rfl, h⟩
            · rintro s ⟨rfl, h⟩
              unfold F37_j1 at h
              refine VW.seq ?_
              refine VW.region ?_
              refine VO.seg T_ok .dp 3 [1, 113] [0] (s' := ⟨[(1, .lf (.ptr 0 0 0 0)), (113, I (x15.length : Int))], [bx [.v (.int .i64) x9, .v .str x10, .v (.int .i64) x11, .v (.int .i64) x12, .v (.int .i64) x13, .v .bool x14, .v (.sl (.int .i64)) x15] 44]⟩) (φ := True ∧ True ∧ True ∧ True) (by kernel_rfl) ⟨trivial, trivial, trivial, trivial⟩ ?_
              obtain ⟨y75, hy, h⟩ := andO_some h
              refine VO.call false [.t (.int .i64), .t (.int .i64), .t (.int .i64)] [] T_ok (d := some 114) (by kernel_rfl) (ok36 N _ _ _ hy) rfl ?_
              refine VO.seg T_ok .dp 1 [1, 115] [0] (s' := ⟨[(1, .lf (.ptr 0 0 0 0)), (115, B y75)], [bx [.v (.int .i64) x9, .v .str x10, .v (.int .i64) x11, .v (.int .i64) x12, .v (.int .i64) x13, .v .bool x14, .v (.sl (.int .i64)) x15] 44]⟩) (φ := True ∧ True) (by kernel_rfl) ⟨trivial, trivial⟩ ?_
              refine VO.splitB 115 (b := y75) (by kernel_rfl) (fun hb => ?_) (fun hb => ?_)
              · replace h := cond_t h hb; clear hb
                refine VO.seg T_ok .dp 5 [1, 120] [0] (s' := ⟨[(1, .lf (.ptr 0 0 0 0)), (120, B (x11 == (0 : Int)))], [bx [.v (.int .i64) x9, .v .str x10, .v (.int .i64) x11, .v (.int .i64) x12, .v (.int .i64) x13, .v .bool x14, .v (.sl (.int .i64)) x15] 44]⟩) (φ := True ∧ True ∧ True ∧ True ∧ True ∧ True) (by kernel_rfl) ⟨trivial, trivial, trivial, trivial, trivial, trivial⟩ ?_
                refine VO.splitB 120 (b := (x11 == (0 : Int))) (by kernel_rfl) (fun hb => ?_) (fun hb => ?_)
                · replace h := cond_t h hb; clear hb
                  refine VO.seg T_ok .dp 5 [1, 125] [0] (s' := ⟨[(1, .lf (.ptr 0 0 0 0)), (125, B (x13 == (0 : Int)))], [bx [.v (.int .i64) x9, .v .str x10, .v (.int .i64) x11, .v (.int .i64) x12, .v (.int .i64) x13, .v .bool x14, .v (.sl (.int .i64)) x15] 44]⟩) (φ := True ∧ True ∧ True ∧ True ∧ True ∧ True) (by kernel_rfl) ⟨trivial, trivial, trivial, trivial, trivial, trivial⟩ ?_
                  refine VO.splitB 125 (b := (x13 == (0 : Int))) (by kernel_rfl) (fun hb => ?_) (fun hb => ?_)
                  · replace h := cond_t h hb; clear hb
                    refine VO.seg T_ok .dp 5 [2] [] (s' := ⟨[(2, B (!x14))], []⟩) (φ := True ∧ True ∧ True ∧ True ∧ True ∧ True) (by kernel_rfl) ⟨trivial, trivial, trivial, trivial, trivial, trivial⟩ ?_
                    refine VO.nil ?_
                    show VW _ _ _ _ _ _ _
                    refine VW.ret ?_
                    replace h := Option.some.inj h
                    subst h
                    exact retR [] (by kernel_rfl) rfl
                  · replace h := cond_f h hb; clear hb
                    refine VO.seg T_ok .dp 5 [2] [] (s' := ⟨[(2, B false)], []⟩) (φ := True ∧ True ∧ True ∧ True ∧ True ∧ True) (by kernel_rfl) ⟨trivial, trivial, trivial, trivial, trivial, trivial⟩ ?_
                    refine VO.nil ?_
                    show VW _ _ _ _ _ _ _
                    refine VW.ret ?_
                    replace h := Option.some.inj h
                    subst h
                    exact retR [] (by kernel_rfl) rfl
                · replace h := cond_f h hb; clear hb
                  refine VO.seg T_ok .dp 10 [2] [] (s' := ⟨[(2, B false)], []⟩) (φ := True ∧ True ∧ True ∧ True ∧ True ∧ True ∧ True ∧ True ∧ True ∧ True ∧ True) (by kernel_rfl) ⟨trivial, trivial, trivial, trivial, trivial, trivial, trivial, trivial, trivial, trivial, trivial⟩ ?_
                  refine VO.nil ?_
                  show VW _ _ _ _ _ _ _
                  refine VW.ret ?_
                  replace h := Option.some.inj h
                  subst h
                  exact retR [] (by kernel_rfl) rfl
              · replace h := cond_f h hb; clear hb
                refine VO.seg T_ok .dp 15 [2] [] (s' := ⟨[(2, B false)], []⟩) (φ := True ∧ True ∧ True ∧ True ∧ True ∧ True ∧ True ∧ True ∧ True ∧ True ∧ True ∧ True ∧ True ∧ True ∧ True ∧ True) (by kernel_rfl) ⟨trivial, trivial, trivial, trivial, trivial, trivial, trivial, trivial, trivial, trivial, trivial, trivial, trivial, trivial, trivial, trivial⟩ ?_
                refine VO.nil ?_
                show VW _ _ _ _ _ _ _
                refine VW.ret ?_
                replace h := Option.some.inj h
                subst h
                exact retR [] (by kernel_rfl) rfl
          · replace h := cond_f h hb; clear hb
            refine VW.seq ?_
            refine VW.region ?_
            refine VO.seg T_ok .dp 2 [1, 44, 130] [0] (s' := ⟨[(1, .lf (.ptr 0 0 0 0)), (44, I x9), (130, B (x9 == (3 : Int)))], [bx [.v (.int .i64) x9, .v .str x10, .v (.int .i64) x11, .v (.int .i64) x12, .v (.int .i64) x13, .v .bool x14, .v (.sl (.int .i64)) x15] 44]⟩) (φ := True ∧ True ∧ True) (by kernel_rfl) ⟨trivial, trivial, trivial⟩ ?_
            refine VO.nil ?_
            show VW _ _ _ _ _ _ _
            refine VW.cond (b := (x9 == (3 : Int))) (by kernel_rfl) (fun hb => ?_) (fun hb => ?_)
            · replace h := cond_t h hb; clear hb
              refine VW.seq ?_
              refine VW.region ?_
              refine VO.seg T_ok .dp 2 [1, 133] [0] (s' := ⟨[(1, .lf (.ptr 0 0 0 0)), (133, I x11)], [bx [.v (.int .i64) x9, .v .str x10, .v (.int .i64) x11, .v (.int .i64) x12, .v (.int .i64) x13, .v .bool x14, .v (.sl (.int .i64)) x15] 44]⟩) (φ := True ∧ True ∧ True) (by kernel_rfl) ⟨trivial, trivial, trivial⟩ ?_
              obtain ⟨y91, hy, h⟩ := andO_some h
              refine VO.call false [.t (.int .i64)] [] T_ok (d := some 134) (by kernel_rfl) (ok49 N _ hy) rfl ?_
              refine VO.seg T_ok .dp 1 [1, 135] [0] (s' := ⟨[(1, .lf (.ptr 0 0 0 0)), (135, B y91)], [bx [.v (.int .i64) x9, .v .str x10, .v (.int .i64) x11, .v (.int .i64) x12, .v (.int .i64) x13, .v .bool x14, .v (.sl (.int .i64)) x15] 44]⟩) (φ := True ∧ True) (by kernel_rfl) ⟨trivial, trivial⟩ ?_
              refine VO.splitB 135 (b := y91) (by kernel_rfl) (fun hb => ?_) (fun hb => ?_)
              · replace h := cond_t h hb; clear hb
                refine VO.seg T_ok .dp 2 [1, 135, 137] [0] (s' := ⟨[(1, .lf (.ptr 0 0 0 0)), (135, B true), (137, I x13)], [bx [.v (.int .i64) x9, .v .str x10, .v (.int .i64) x11, .v (.int .i64) x12, .v (.int .i64) x13, .v .bool x14, .v (.sl (.int .i64)) x15] 44]⟩) (φ := True ∧ True ∧ True) (by kernel_rfl) ⟨trivial, trivial, trivial⟩ ?_
                refine VO.on (j := 3) (want := true) (d := 135) (b := true) rfl rfl rfl (by kernel_rfl) rfl ?_
                obtain ⟨y92, hy, h⟩ := andO_some h
                refine VO.call false [.t (.int .i64)] [] T_ok (d := some 138) (by kernel_rfl) (ok49 N _ hy) rfl ?_
                refine VO.seg T_ok .dp 2 [1, 140] [0] (s' := ⟨[(1, .lf (.ptr 0 0 0 0)), (140, B y92)], [bx [.v (.int .i64) x9, .v .str x10, .v (.int .i64) x11, .v (.int .i64) x12, .v (.int .i64) x13, .v .bool x14, .v (.sl (.int .i64)) x15] 44]⟩) (φ := True ∧ True ∧ True) (by kernel_rfl) ⟨trivial, trivial, trivial⟩ ?_
                refine VO.splitB 140 (b := y92) (by kernel_rfl) (fun hb => ?_) (fun hb => ?_)
                · replace h := cond_t h hb; clear hb
                  refine VO.seg T_ok .dp 5 [2] [] (s' := ⟨[(2, B (!x14))], []⟩) (φ := True ∧ True ∧ True ∧ True ∧ True ∧ True) (by kernel_rfl) ⟨trivial, trivial, trivial, trivial, trivial, trivial⟩ ?_
                  refine VO.nil ?_
                  show VW _ _ _ _ _ _ _
                  refine VW.ret ?_
                  replace h := Option.some.inj h
                  subst h
                  exact retR [] (by kernel_rfl) rfl
                · replace h := cond_f h hb; clear hb
                  refine VO.seg T_ok .dp 5 [2] [] (s' := ⟨[(2, B false)], []⟩) (φ := True ∧ True ∧ True ∧ True ∧ True ∧ True) (by kernel_rfl) ⟨trivial, trivial, trivial, trivial, trivial, trivial⟩ ?_
                  refine VO.nil ?_
                  show VW _ _ _ _ _ _ _
                  refine VW.ret ?_
                  replace h := Option.some.inj h
                  subst h
                  exact retR [] (by kernel_rfl) rfl
              · replace h := cond_f h hb; clear hb
                refine VO.seg T_ok .dp 10 [2] [] (s' := ⟨[(2, B false)], []⟩) (φ := True ∧ True ∧ True ∧ True ∧ True ∧ True ∧ True ∧ True ∧ True ∧ True ∧ True) (by kernel_rfl) ⟨trivial, trivial, trivial, trivial, trivial, trivial, trivial, trivial, trivial, trivial, trivial⟩ ?_
                refine VO.nil ?_
                show VW _ _ _ _ _ _ _
                refine VW.ret ?_
                replace h := Option.some.inj h
                subst h
                exact retR [] (by kernel_rfl) rfl
            · replace h := cond_f h hb; clear hb
              refine VW.seq ?_
              refine VW.region ?_
              refine VO.seg T_ok .dp 2 [1, 44, 145] [0] (s' := ⟨[(1, .lf (.ptr 0 0 0 0)), (44, I x9), (145, B (x9 == (5 : Int)))], [bx [.v (.int .i64) x9, .v .str x10, .v (.int .i64) x11, .v (.int .i64) x12, .v (.int .i64) x13, .v .bool x14, .v (.sl (.int .i64)) x15] 44]⟩) (φ := True ∧ True ∧ True) (by kernel_rfl) ⟨trivial, trivial, trivial⟩ ?_
              refine VO.nil ?_
              show VW _ _ _ _ _ _ _
              refine VW.cond (b := (x9 == (5 : Int))) (by kernel_rfl) (fun hb => ?_) (fun hb => ?_)
              · replace h := cond_t h hb; clear hb
                refine VW.seq ?_
                refine VW.region ?_
                refine VO.seg T_ok .dp 2 [1, 148] [0] (s' := ⟨[(1, .lf (.ptr 0 0 0 0)), (148, I x11)], [bx [.v (.int .i64) x9, .v .str x10, .v (.int .i64) x11, .v (.int .i64) x12, .v (.int .i64) x13, .v .bool x14, .v (.sl (.int .i64)) x15] 44]⟩) (φ := True ∧ True ∧ True) (by kernel_rfl) ⟨trivial, trivial, trivial⟩ ?_
                obtain ⟨y93, hy, h⟩ := andO_some h
                refine VO.call false [.t (.int .i64)] [] T_ok (d := some 149) (by kernel_rfl) (ok49 N _ hy) rfl ?_
                refine VO.seg T_ok .dp 1 [1, 150] [0] (s' := ⟨[(1, .lf (.ptr 0 0 0 0)), (150, B y93)], [bx [.v (.int .i64) x9, .v .str x10, .v (.int .i64) x11, .v (.int .i64) x12, .v (.int .i64) x13, .v .bool x14, .v (.sl (.int .i64)) x15] 44]⟩) (φ := True ∧ True) (by kernel_rfl) ⟨trivial, trivial⟩ ?_
                refine VO.splitB 150 (b := y93) (by kernel_rfl) (fun hb => ?_) (fun hb => ?_)
                · replace h := cond_t h hb; clear hb
                  refine VO.seg T_ok .dp 5 [1, 155] [0] (s' := ⟨[(1, .lf (.ptr 0 0 0 0)), (155, B (x13 == (0 : Int)))], [bx [.v (.int .i64) x9, .v .str x10, .v (.int .i64) x11, .v (.int .i64) x12, .v (.int .i64) x13, .v .bool x14, .v (.sl (.int .i64)) x15] 44]⟩) (φ := True ∧ True ∧ True ∧ True ∧ True ∧ True) (by kernel_rfl) ⟨trivial, trivial, trivial, trivial, trivial, trivial⟩ ?_
                  refine VO.splitB 155 (b := (x13 == (0 : Int))) (by kernel_rfl) (fun hb => ?_) (fun hb => ?_)
                  · replace h := cond_t h hb; clear hb
                    refine VO.seg T_ok .dp 5 [2] [] (s' := ⟨[(2, B (!x14))], []⟩) (φ := True ∧ True ∧ True ∧ True ∧ True ∧ True) (by kernel_rfl) ⟨trivial, trivial, trivial, trivial, trivial, trivial⟩ ?_
                    refine VO.nil ?_
                    show VW _ _ _ _ _ _ _
                    refine VW.ret ?_
                    replace h := Option.some.inj h
                    subst h
                    exact retR [] (by kernel_rfl) rfl
                  · replace h := cond_f h hb; clear hb
                    refine VO.seg T_ok .dp 5 [2] [] (s' := ⟨[(2, B false)], []⟩) (φ := True ∧ True ∧ True ∧ True ∧ True ∧ True) (by kernel_rfl) ⟨trivial, trivial, trivial, trivial, trivial, trivial⟩ ?_
                    refine VO.nil ?_
                    show VW _ _ _ _ _ _ _
                    refine VW.ret ?_
                    replace h := Option.some.inj h
                    subst h
                    exact retR [] (by kernel_rfl) rfl
                · replace h := cond_f h hb; clear hb
                  refine VO.seg T_ok .dp 10 [2] [] (s' := ⟨[(2, B false)], []⟩) (φ := True ∧ True ∧ True ∧ True ∧ True ∧ True ∧ True ∧ True ∧ True ∧ True ∧ True) (by kernel_rfl) ⟨trivial, trivial, trivial, trivial, trivial, trivial, trivial, trivial, trivial, trivial, trivial⟩ ?_
                  refine VO.nil ?_
                  show VW _ _ _ _ _ _ _
                  refine VW.ret ?_
                  replace h := Option.some.inj h
                  subst h
                  exact retR [] (by kernel_rfl) rfl
              · replace h := cond_f h hb; clear hb
                refine VW.seq ?_
                refine VW.region ?_
                refine VO.seg T_ok .dp 2 [1, 44, 160] [0] (s' := ⟨[(1, .lf (.ptr 0 0 0 0)), (44, I x9), (160, B (x9 == (6 : Int)))], [bx [.v (.int .i64) x9, .v .str x10, .v (.int .i64) x11, .v (.int .i64) x12, .v (.int .i64) x13, .v .bool x14, .v (.sl (.int .i64)) x15] 44]⟩) (φ := True ∧ True ∧ True) (by kernel_rfl) ⟨trivial, trivial, trivial⟩ ?_
                refine VO.nil ?_
                show VW _ _ _ _ _ _ _
                refine VW.cond (b := (x9 == (6 : Int))) (by kernel_rfl) (fun hb => ?_) (fun hb => ?_)
                · replace h := cond_t h hb; clear hb
                  refine VW.seq ?_
                  refine VW.region ?_
                  refine VO.seg T_ok .dp 4 [1, 165] [0] (s' := ⟨[(1, .lf (.ptr 0 0 0 0)), (165, B (x11 == (0 : Int)))], [bx [.v (.int .i64) x9, .v .str x10, .v (.int .i64) x11, .v (.int .i64) x12, .v (.int .i64) x13, .v .bool x14, .v (.sl (.int .i64)) x15] 44]⟩) (φ := True ∧ True ∧ True ∧ True ∧ True) (by kernel_rfl) ⟨trivial, trivial, trivial, trivial, trivial⟩ ?_
                  refine VO.splitB 165 (b := (x11 == (0 : Int))) (by kernel_rfl) (fun hb => ?_) (fun hb => ?_)
                  · replace h := cond_t h hb; clear hb
                    refine VO.seg T_ok .dp 2 [165, 167] [] (s' := ⟨[(165, B true), (167, I x13)], []⟩) (φ := True ∧ True ∧ True) (by kernel_rfl) ⟨trivial, trivial, trivial⟩ ?_
                    refine VO.on (j := 3) (want := true) (d := 165) (b := true) rfl rfl rfl (by kernel_rfl) rfl ?_
                    obtain ⟨y94, hy, h⟩ := andO_some h
                    refine VO.call false [.t (.int .i64), .t (.int .i64), .t (.int .i64)] [] T_ok (d := some 168) (by kernel_rfl) (ok36 N _ _ _ hy) rfl ?_
                    refine VO.seg T_ok .dp 2 [2] [] (s' := ⟨[(2, B y94)], []⟩) (φ := True ∧ True ∧ True) (by kernel_rfl) ⟨trivial, trivial, trivial⟩ ?_
                    refine VO.nil ?_
                    show VW _ _ _ _ _ _ _
                    refine VW.ret ?_
                    replace h := Option.some.inj h
                    subst h
                    exact retR [] (by kernel_rfl) rfl
                  · replace h := cond_f h hb; clear hb
                    refine VO.seg T_ok .dp 5 [2] [] (s' := ⟨[(2, B false)], []⟩) (φ := True ∧ True ∧ True ∧ True ∧ True ∧ True) (by kernel_rfl) ⟨trivial, trivial, trivial, trivial, trivial, trivial⟩ ?_
                    refine VO.nil ?_
                    show VW _ _ _ _ _ _ _
                    refine VW.ret ?_
                    replace h := Option.some.inj h
                    subst h
                    exact retR [] (by kernel_rfl) rfl
                · replace h := cond_f h hb; clear hb
                  refine VW.join (fun s => ∃ (x95 : Bool), s = ⟨[(1, .lf (.ptr 0 0 0 0)), (170, B x95)], [bx [.v (.int .i64) x9, .v .str x10, .v (.int .i64) x11, .v (.int .i64) x12, .v (.int .i64) x13, .v .bool x14, .v (.sl (.int .i64)) x15] 44]⟩ ∧ F37_j2 N x11 x13 x14 x95 = some r) ?_ ?_
                  · refine VW.seq ?_
                    refine VW.region ?_
                    refine VO.seg T_ok .dp 2 [1, 44, 170] [0] (s' := ⟨[(1, .lf (.ptr 0 0 0 0)), (44, I x9), (170, B (x9 == (4 : Int)))], [bx [.v (.int .i64) x9, .v .str x10, .v (.int .i64) x11, .v (.int .i64) x12, .v (.int .i64) x13, .v .bool x14, .v (.sl (.int .i64)) x15] 44]⟩) (φ := True ∧ True ∧ True) (by kernel_rfl) ⟨trivial, trivial, trivial⟩ ?_
                    refine VO.nil ?_
                    show VW _ _ _ _ _ _ _
                    refine VW.cond (b := (x9 == (4 : Int))) (by kernel_rfl) (fun hb => ?_) (fun hb => ?_)
                    · replace h := cond_t h hb; clear hb
                      refine VW.skip ?_
                      exact arrive [.ren [1, 170] [0]] (by kernel_rfl) ⟨(x9 == (4 : Int)), rfl, h⟩
                    · replace h := cond_f h hb; clear hb
                      refine VW.region ?_
                      refine VO.seg T_ok .dp 2 [1, 170] [0] (s' := ⟨[(1, .lf (.ptr 0 0 0 0)), (170, B (x9 == (7 : Int)))], [bx [.v (.int .i64) x9, .v .str x10, .v (.int .i64) x11, .v (.int .i64) x12, .v (.int .i64) x13, .v .bool x14, .v (.sl (.int .i64)) x15] 44]⟩) (φ := True ∧ True ∧ True) (by kernel_rfl) ⟨trivial, trivial, trivial⟩ ?_
                      refine VO.nil ?_
                      exact arrive [.ren [1, 170] [0]] (by kernel_rfl) ⟨(x9 == (7 : Int)), rfl, h⟩
                  · rintro s ⟨x95, rfl, h⟩
                    unfold F37_j2 at h
                    refine VW.cond (b := x95) (by kernel_rfl) (fun hb => ?_) (fun hb => ?_)
                    · replace h := cond_t h hb; clear hb
                      refine VW.seq ?_
                      refine VW.region ?_
                      refine VO.seg T_ok .dp 4 [1, 176] [0] (s' := ⟨[(1, .lf (.ptr 0 0 0 0)), (176, B (x11 == (0 : Int)))], [bx [.v (.int .i64) x9, .v .str x10, .v (.int .i64) x11, .v (.int .i64) x12, .v (.int .i64) x13, .v .bool x14, .v (.sl (.int .i64)) x15] 44]⟩) (φ := True ∧ True ∧ True ∧ True ∧ True) (by kernel_rfl) ⟨trivial, trivial, trivial, trivial, trivial⟩ ?_
                      refine VO.splitB 176 (b := (x11 == (0 : Int))) (by kernel_rfl) (fun hb => ?_) (fun hb => ?_)
                      · replace h := cond_t h hb; clear hb
                        refine VO.seg T_ok .dp 5 [1, 181] [0] (s' := ⟨[(1, .lf (.ptr 0 0 0 0)), (181, B (x13 == (0 : Int)))], [bx [.v (.int .i64) x9, .v .str x10, .v (.int .i64) x11, .v (.int .i64) x12, .v (.int .i64) x13, .v .bool x14, .v (.sl (.int .i64)) x15] 44]⟩) (φ := True ∧ True ∧ True ∧ True ∧ True ∧ True) (by kernel_rfl) ⟨trivial, trivial, trivial, trivial, trivial, trivial⟩ ?_
                        refine VO.splitB 181 (b := (x13 == (0 : Int))) (by kernel_rfl) (fun hb => ?_) (fun hb => ?_)
                        · replace h := cond_t h hb; clear hb
                          refine VO.seg T_ok .dp 5 [2] [] (s' := ⟨[(2, B (!x14))], []⟩) (φ := True ∧ True ∧ True ∧ True ∧ True ∧ True) (by kernel_rfl) ⟨trivial, trivial, trivial, trivial, trivial, trivial⟩ ?_
                          refine VO.nil ?_
                          show VW _ _ _ _ _ _ _
                          refine VW.ret ?_
                          replace h := Option.some.inj h
                          subst h
                          exact retR [] (by kernel_rfl) rfl
                        · replace h := cond_f h hb; clear hb
                          refine VO.seg T_ok .dp 5 [2] [] (s' := ⟨[(2, B false)], []⟩) (φ := True ∧ True ∧ True ∧ True ∧ True ∧ True) (by kernel_rfl) ⟨trivial, trivial, trivial, trivial, trivial, trivial⟩ ?_
                          refine VO.nil ?_
                          show VW _ _ _ _ _ _ _
                          refine VW.ret ?_
                          replace h := Option.some.inj h
                          subst h
                          exact retR [] (by kernel_rfl) rfl
                      · replace h := cond_f h hb; clear hb
                        refine VO.seg T_ok .dp 10 [2] [] (s' := ⟨[(2, B false)], []⟩) (φ := True ∧ True ∧ True ∧ True ∧ True ∧ True ∧ True ∧ True ∧ True ∧ True ∧ True) (by kernel_rfl) ⟨trivial, trivial, trivial, trivial, trivial, trivial, trivial, trivial, trivial, trivial, trivial⟩ ?_
                        refine VO.nil ?_
                        show VW _ _ _ _ _ _ _
                        refine VW.ret ?_
                        replace h := Option.some.inj h
                        subst h
                        exact retR [] (by kernel_rfl) rfl
                    · replace h := cond_f h hb; clear hb
                      refine VW.skip ?_
                      exact arrive [.ren [] []] (by kernel_rfl) ⟨rfl, h⟩
    · rintro s ⟨rfl, h⟩
      unfold F37_j0 at h
      refine VW.seq ?_
      refine VW.region ?_
      refine VO.seg T_ok .dp 1 [2] [] (s' := ⟨[(2, B false)], []⟩) (φ := True ∧ True) (by kernel_rfl) ⟨trivial, trivial⟩ ?_
      refine VO.nil ?_
      show VW _ _ _ _ _ _ _
      refine VW.ret ?_
      replace h := Option.some.inj h
      subst h
      exact retR [] (by kernel_rfl) rfl

/- loop.example/g00844/spec.ArityOf -/
def F51_j0 (N : Nat) (x6 : Bool) : Option (Int) :=
  cond x6 (some (1 : Int)) (some (-1 : Int))
def F51_j1 (N : Nat) (a0 : Int) (x5 : Bool) : Option (Int) :=
  cond x5 (some (2 : Int)) (cond (a0 == (1 : Int)) (F51_j0 N (a0 == (1 : Int))) (cond (a0 == (2 : Int)) (F51_j0 N (a0 == (2 : Int))) (cond (a0 == (5 : Int)) (F51_j0 N (a0 == (5 : Int))) (cond (a0 == (6 : Int)) (F51_j0 N (a0 == (6 : Int))) (F51_j0 N (a0 == (7 : Int)))))))
def F51 (N : Nat) (a0 : Int) : Option (Int) :=
  cond (a0 == (0 : Int)) (some (0 : Int)) (cond (a0 == (3 : Int)) (F51_j1 N a0 (a0 == (3 : Int))) (F51_j1 N a0 (a0 == (4 : Int))))
theorem ok51 (N : Nat) (a0 : Int) {r : Int} (h : F51 N a0 = some r) : Con Go.Proofs.Try.prog 51 [I a0] [.lf (.v (.int .i64) r)] := by
  refine ⟨enters_of Go.Proofs.Try.func51 rfl (by decide), HC.intro [.lf (.v (.int .i64))] T_ok Go.Proofs.Try.func51 rfl (Nat.le_of_ble_eq_true rfl) (Nat.le_of_ble_eq_true rfl) fun w0 E0 => ?_⟩
  unfold F51 at h
  show VW _ _ _ _ _ (retQ _ _ _ _) _
  refine VW.seq ?_
  refine VW.region ?_
  refine VO.seg T_ok .dp 1 [0] [] (s' := ⟨[(0, I a0)], []⟩) (φ := True ∧ True) (by kernel_rfl) ⟨trivial, trivial⟩ ?_
  refine VO.nil ?_
  show VW _ _ _ _ _ _ _
  refine VW.seq ?_
  refine VW.seq ?_
  refine VW.region ?_
  refine VO.seg T_ok .dp 1 [3] [] (s' := ⟨[(3, I a0)], []⟩) (φ := True ∧ True) (by kernel_rfl) ⟨trivial, trivial⟩ ?_
  refine VO.nil ?_
  show VW _ _ _ _ _ _ _
  refine VW.block ?_
  refine VW.seq ?_
  refine VW.region ?_
  refine VO.seg T_ok .dp 2 [3, 4] [] (s' := ⟨[(3, I a0), (4, B (a0 == (0 : Int)))], []⟩) (φ := True ∧ True ∧ True) (by kernel_rfl) ⟨trivial, trivial, trivial⟩ ?_
  refine VO.nil ?_
  show VW _ _ _ _ _ _ _
  refine VW.cond (b := (a0 == (0 : Int))) (by kernel_rfl) (fun hb => ?_) (fun hb => ?_)
  · replace h := cond_t h hb; clear hb
    refine VW.seq ?_
    refine VW.region ?_
    refine VO.seg T_ok .dp 1 [2] [] (s' := ⟨[(2, I (0 : Int))], []⟩) (φ := True ∧ True) (by kernel_rfl) ⟨trivial, trivial⟩ ?_
    refine VO.nil ?_
    show VW _ _ _ _ _ _ _
    refine VW.ret ?_
    replace h := Option.some.inj h
    subst h
    exact retR [] (by kernel_rfl) rfl
  · replace h := cond_f h hb; clear hb
    refine VW.join (fun s => ∃ (x5 : Bool), s = ⟨[(3, I a0), (6, B x5)], []⟩ ∧ F51_j1 N a0 x5 = some r) ?_ ?_
    · refine VW.seq ?_
      refine VW.region ?_
      refine VO.seg T_ok .dp 2 [3, 6] [] (s' := ⟨[(3, I a0), (6, B (a0 == (3 : Int)))], []⟩) (φ := True ∧ True ∧ True) (by kernel_rfl) ⟨trivial, trivial, trivial⟩ ?_
      refine VO.nil ?_
      show VW _ _ _ _ _ _ _
      refine VW.cond (b := (a0 == (3 : Int))) (by kernel_rfl) (fun hb => ?_) (fun hb => ?_)
      · replace h := cond_t h hb; clear hb
        refine VW.skip ?_
        exact arrive [.ren [3, 6] []] (by kernel_rfl) ⟨(a0 == (3 : Int)), rfl, h⟩
      · replace h := cond_f h hb; clear hb
        refine VW.region ?_
        refine VO.seg T_ok .dp 2 [3, 6] [] (s' := ⟨[(3, I a0), (6, B (a0 == (4 : Int)))], []⟩) (φ := True ∧ True ∧ True) (by kernel_rfl) ⟨trivial, trivial, trivial⟩ ?_
        refine VO.nil ?_
        exact arrive [.ren [3, 6] []] (by kernel_rfl) ⟨(a0 == (4 : Int)), rfl, h⟩
    · rintro s ⟨x5, rfl, h⟩
      unfold F51_j1 at h
      refine VW.cond (b := x5) (by kernel_rfl) (fun hb => ?_) (fun hb => ?_)
      · replace h := cond_t h hb; clear hb
        refine VW.seq ?_
        refine VW.region ?_
        refine VO.seg T_ok .dp 1 [2] [] (s' := ⟨[(2, I (2 : Int))], []⟩) (φ := True ∧ True) (by kernel_rfl) ⟨trivial, trivial⟩ ?_
        refine VO.nil ?_
        show VW _ _ _ _ _ _ _
        refine VW.ret ?_
        replace h := Option.some.inj h
        subst h
        exact retR [] (by kernel_rfl) rfl
      · replace h := cond_f h hb; clear hb
        refine VW.join (fun s => ∃ (x6 : Bool), s = ⟨[(9, B x6)], []⟩ ∧ F51_j0 N x6 = some r) ?_ ?_
        · refine VW.seq ?_
          refine VW.region ?_
          refine VO.seg T_ok .dp 2 [3, 9] [] (s' := ⟨[(3, I a0), (9, B (a0 == (1 : Int)))], []⟩) (φ := True ∧ True ∧ True) (by kernel_rfl) ⟨trivial, trivial, trivial⟩ ?_
          refine VO.nil ?_
          show VW _ _ _ _ _ _ _
          refine VW.cond (b := (a0 == (1 : Int))) (by kernel_rfl) (fun hb => ?_) (fun hb => ?_)
          · replace h := cond_t h hb; clear hb
            refine VW.skip ?_
            exact arrive [.ren [9] []] (by kernel_rfl) ⟨(a0 == (1 : Int)), rfl, h⟩
          · replace h := cond_f h hb; clear hb
            refine VW.seq ?_
            refine VW.region ?_
            refine VO.seg T_ok .dp 2 [3, 9] [] (s' := ⟨[(3, I a0), (9, B (a0 == (2 : Int)))], []⟩) (φ := True ∧ True ∧ True) (by kernel_rfl) ⟨trivial, trivial, trivial⟩ ?_
            refine VO.nil ?_
            show VW _ _ _ _ _ _ _
            refine VW.cond (b := (a0 == (2 : Int))) (by kernel_rfl) (fun hb => ?_) (fun hb => ?_)
            · replace h := cond_t h hb; clear hb
              refine VW.skip ?_
              exact arrive [.ren [9] []] (by kernel_rfl) ⟨(a0 == (2 : Int)), rfl, h⟩
            · replace h := cond_f h hb; clear hb
              refine VW.seq ?_
              refine VW.region ?_
              refine VO.seg T_ok .dp 2 [3, 9] [] (s' := ⟨[(3, I a0), (9, B (a0 == (5 : Int)))], []⟩) (φ := True ∧ True ∧ True) (by kernel_rfl) ⟨trivial, trivial, trivial⟩ ?_
              refine VO.nil ?_
              show VW _ _ _ _ _ _ _
              refine VW.cond (b := (a0 == (5 : Int))) (by kernel_rfl) (fun hb => ?_) (fun hb => ?_)
              · replace h := cond_t h hb; clear hb
                refine VW.skip ?_
                exact arrive [.ren [9] []] (by kernel_rfl) ⟨(a0 == (5 : Int)), rfl, h⟩
              · replace h := cond_f h hb; clear hb
                refine VW.seq ?_
                refine VW.region ?_
                refine VO.seg T_ok .dp 2 [3, 9] [] (s' := ⟨[(3, I a0), (9, B (a0 == (6 : Int)))], []⟩) (φ := True ∧ True ∧ True) (by kernel_rfl) ⟨trivial, trivial, trivial⟩ ?_
                refine VO.nil ?_
                show VW _ _ _ _ _ _ _
                refine VW.cond (b := (a0 == (6 : Int))) (by kernel_rfl) (fun hb => ?_) (fun hb => ?_)
                · replace h := cond_t h hb; clear hb
                  refine VW.skip ?_
                  exact arrive [.ren [9] []] (by kernel_rfl) ⟨(a0 == (6 : Int)), rfl, h⟩
                · replace h := cond_f h hb; clear hb
                  refine VW.region ?_
                  refine VO.seg T_ok .dp 2 [9] [] (s' := ⟨[(9, B (a0 == (7 : Int)))], []⟩) (φ := True ∧ True ∧ True) (by kernel_rfl) ⟨trivial, trivial, trivial⟩ ?_
                  refine VO.nil ?_
                  exact arrive [.ren [9] []] (by kernel_rfl) ⟨(a0 == (7 : Int)), rfl, h⟩
        · rintro s ⟨x6, rfl, h⟩
          unfold F51_j0 at h
          refine VW.cond (b := x6) (by kernel_rfl) (fun hb => ?_) (fun hb => ?_)
          · replace h := cond_t h hb; clear hb
            refine VW.seq ?_
            refine VW.region ?_
            refine VO.seg T_ok .dp 1 [2] [] (s' := ⟨[(2, I (1 : Int))], []⟩) (φ := True ∧ True) (by kernel_rfl) ⟨trivial, trivial⟩ ?_
            refine VO.nil ?_
            show VW _ _ _ _ _ _ _
            refine VW.ret ?_
            replace h := Option.some.inj h
            subst h
            exact retR [] (by kernel_rfl) rfl
          · replace h := cond_f h hb; clear hb
            refine VW.skip ?_
            show VW _ _ _ _ _ _ _
            refine VW.seq ?_
            refine VW.region ?_
            refine VO.seg T_ok .dp 1 [2] [] (s' := ⟨[(2, I (-1 : Int))], []⟩) (φ := True ∧ True) (by kernel_rfl) ⟨trivial, trivial⟩ ?_
            refine VO.nil ?_
            show VW _ _ _ _ _ _ _
            refine VW.ret ?_
            replace h := Option.some.inj h
            subst h
            exact retR [] (by kernel_rfl) rfl

/- loop.example/g00844/spec.l02End -/
def F38_j0 (N : Nat) (x33 : Int) (x34 : Int) : Option (Int × Int) :=
  some (x33, (IntKind.i64.wrap (x34 + (1 : Int))))
def F38_j1 (N : Nat) (nx58 : Int → Int → Int → Option (Int × Int)) (x48 : Int) (x64 : Int) (x65 : Int) : Option (Int × Int) :=
  nx58 x64 x65 (IntKind.i64.wrap (x48 + (1 : Int)))
def F38_l0_b (N : Nat) (a0 : (List (Int × (ByteArray × (Int × (Int × (Int × (Bool × (List Int))))))))) (a1 : Int) (a2 : Int) (self : (List (Int × (ByteArray × (Int × (Int × (Int × (Bool × (List Int)))))))) → Int → Int → Option (Int × Int)) (nx58 : Int → Int → Int → Option (Int × Int)) (x46 : Int) (x47 : Int) (x48 : Int) : Option (Int × Int) :=
  gd (InR a1 a0.length) (andO (F51 N ((a0.getD a1.toNat (Ty.dflt Y40)).1)) fun y62 => cond (decide (x48 < y62)) (andO (self a0 x46 (IntKind.i64.wrap (a2 - (1 : Int)))) fun y67 => cond (decide (y67.1 < (0 : Int))) (some ((-1 : Int), (0 : Int))) (cond (decide (y67.2 > x47)) (F38_j1 N nx58 x48 y67.1 y67.2) (F38_j1 N nx58 x48 y67.1 x47))) (F38_j0 N x46 x47))
def F38_l0 (N : Nat) (a0 : (List (Int × (ByteArray × (Int × (Int × (Int × (Bool × (List Int))))))))) (a1 : Int) (a2 : Int) (self : (List (Int × (ByteArray × (Int × (Int × (Int × (Bool × (List Int)))))))) → Int → Int → Option (Int × Int)) : Nat → Int → Int → Int → Option (Int × Int) := loopF (F38_l0_b N a0 a1 a2 self) (fun _ _ _ => none)
theorem F38_l0_s (N : Nat) (a0 : (List (Int × (ByteArray × (Int × (Int × (Int × (Bool × (List Int))))))))) (a1 : Int) (a2 : Int) (self : (List (Int × (ByteArray × (Int × (Int × (Int × (Bool × (List Int)))))))) → Int → Int → Option (Int × Int)) {k : Nat} (hk : 0 < k) (x46 : Int) (x47 : Int) (x48 : Int) : F38_l0 N a0 a1 a2 self k x46 x47 x48 = F38_l0_b N a0 a1 a2 self (F38_l0 N a0 a1 a2 self (k - 1)) x46 x47 x48 := by
  cases k with
  | zero => exact absurd hk (Nat.lt_irrefl 0)
  | succ m => rfl
def F38_b (N : Nat) (self : (List (Int × (ByteArray × (Int × (Int × (Int × (Bool × (List Int)))))))) → Int → Int → Option (Int × Int)) (a0 : (List (Int × (ByteArray × (Int × (Int × (Int × (Bool × (List Int))))))))) (a1 : Int) (a2 : Int) : Option (Int × Int) :=
  cond (decide (a1 ≥ (a0.length : Int))) (some ((-1 : Int), (0 : Int))) (cond (a2 == (0 : Int)) (some ((-1 : Int), (0 : Int))) (F38_l0 N a0 a1 a2 self N (IntKind.i64.wrap (a1 + (1 : Int))) (0 : Int) (0 : Int)))
theorem ok38_b (N : Nat) (self : (List (Int × (ByteArray × (Int × (Int × (Int × (Bool × (List Int)))))))) → Int → Int → Option (Int × Int)) (ih : ∀ (a0 : (List (Int × (ByteArray × (Int × (Int × (Int × (Bool × (List Int))))))))) (a1 : Int) (a2 : Int) (r : Int × Int), self a0 a1 a2 = some r → Con Go.Proofs.Try.prog 38 [.lf (.v (.sl Y40) a0), I a1, I a2] [.lf (.v (.int .i64) r.1), .lf (.v (.int .i64) r.2)]) (a0 : (List (Int × (ByteArray × (Int × (Int × (Int × (Bool × (List Int))))))))) (a1 : Int) (a2 : Int) {r : Int × Int} (h : F38_b N self a0 a1 a2 = some r) : Con Go.Proofs.Try.prog 38 [.lf (.v (.sl Y40) a0), I a1, I a2] [.lf (.v (.int .i64) r.1), .lf (.v (.int .i64) r.2)] := by
  refine ⟨enters_of Go.Proofs.Try.func38 rfl (by decide), HC.intro [.lf (.v (.int .i64)), .lf (.v (.int .i64))] T_ok Go.Proofs.Try.func38 rfl (Nat.le_of_ble_eq_true rfl) (Nat.le_of_ble_eq_true rfl) fun w0 E0 => ?_⟩
  unfold F38_b at h
  show VW _ _ _ _ _ (retQ _ _ _ _) _
  refine VW.seq ?_
  refine VW.region ?_
  refine VO.seg T_ok .dp 2 [0, 1, 2] [] (s' := ⟨[(0, .lf (.v (.sl Y40) a0)), (1, I a1), (2, I a2)], []⟩) (φ := True ∧ True ∧ True) (by kernel_rfl) ⟨trivial, trivial, trivial⟩ ?_
  refine VO.nil ?_
  show VW _ _ _ _ _ _ _
  refine VW.seq ?_
  refine VW.seq ?_
  refine VW.region ?_
  refine VO.seg T_ok .dp 5 [0, 1, 2, 17] [] (s' := ⟨[(0, .lf (.v (.sl Y40) a0)), (1, I a1), (2, I a2), (17, B (decide (a1 ≥ (a0.length : Int))))], []⟩) (φ := True ∧ True ∧ True ∧ True ∧ True ∧ True) (by kernel_rfl) ⟨trivial, trivial, trivial, trivial, trivial, trivial⟩ ?_
  refine VO.splitB 17 (b := (decide (a1 ≥ (a0.length : Int)))) (by kernel_rfl) (fun hb => ?_) (fun hb => ?_)
  · replace h := cond_t h hb; clear hb
    refine VO.seg T_ok .dp 3 [0, 1, 2, 20] [] (s' := ⟨[(0, .lf (.v (.sl Y40) a0)), (1, I a1), (2, I a2), (20, B true)], []⟩) (φ := True ∧ True ∧ True ∧ True) (by kernel_rfl) ⟨trivial, trivial, trivial, trivial⟩ ?_
    refine VO.nil ?_
    show VW _ _ _ _ _ _ _
    refine VW.cond (b := true) (by kernel_rfl) (fun _ => ?_) (fun h' => nomatch h')
    refine VW.seq ?_
    refine VW.region ?_
    refine VO.seg T_ok .dp 2 [6, 7] [] (s' := ⟨[(6, I (-1 : Int)), (7, I (0 : Int))], []⟩) (φ := True ∧ True ∧ True) (by kernel_rfl) ⟨trivial, trivial, trivial⟩ ?_
    refine VO.nil ?_
    show VW _ _ _ _ _ _ _
    refine VW.ret ?_
    replace h := Option.some.inj h
    subst h
    exact retR [] (by kernel_rfl) rfl
  · replace h := cond_f h hb; clear hb
    refine VO.seg T_ok .dp 3 [0, 1, 2, 20] [] (s' := ⟨[(0, .lf (.v (.sl Y40) a0)), (1, I a1), (2, I a2), (20, B (a2 == (0 : Int)))], []⟩) (φ := True ∧ True ∧ True ∧ True) (by kernel_rfl) ⟨trivial, trivial, trivial, trivial⟩ ?_
    refine VO.nil ?_
    show VW _ _ _ _ _ _ _
    refine VW.cond (b := (a2 == (0 : Int))) (by kernel_rfl) (fun hb => ?_) (fun hb => ?_)
    · replace h := cond_t h hb; clear hb
      refine VW.seq ?_
      refine VW.region ?_
      refine VO.seg T_ok .dp 2 [6, 7] [] (s' := ⟨[(6, I (-1 : Int)), (7, I (0 : Int))], []⟩) (φ := True ∧ True ∧ True) (by kernel_rfl) ⟨trivial, trivial, trivial⟩ ?_
      refine VO.nil ?_
      show VW _ _ _ _ _ _ _
      refine VW.ret ?_
      replace h := Option.some.inj h
      subst h
      exact retR [] (by kernel_rfl) rfl
    · replace h := cond_f h hb; clear hb
      refine VW.skip ?_
      show VW _ _ _ _ _ _ _
      refine VW.seq ?_
      refine VW.region ?_
      refine VO.seg T_ok .dp 3 [0, 1, 2, 8] [] (s' := ⟨[(0, .lf (.v (.sl Y40) a0)), (1, I a1), (2, I a2), (8, I (IntKind.i64.wrap (a1 + (1 : Int))))], []⟩) (φ := True ∧ True ∧ True ∧ True) (by kernel_rfl) ⟨trivial, trivial, trivial, trivial⟩ ?_
      refine VO.nil ?_
      show VW _ _ _ _ _ _ _
      refine VW.seq ?_
      refine VW.region ?_
      refine VO.seg T_ok .dp 1 [0, 1, 2, 8, 9] [] (s' := ⟨[(0, .lf (.v (.sl Y40) a0)), (1, I a1), (2, I a2), (8, I (IntKind.i64.wrap (a1 + (1 : Int)))), (9, I (0 : Int))], []⟩) (φ := True ∧ True) (by kernel_rfl) ⟨trivial, trivial⟩ ?_
      refine VO.nil ?_
      show VW _ _ _ _ _ _ _
      refine VW.join (fun s => ∃ (x33 : Int) (x34 : Int), s = ⟨[(8, I x33), (9, I x34)], []⟩ ∧ F38_j0 N x33 x34 = some r) ?_ ?_
      · refine VW.seq ?_
        refine VW.region ?_
        refine VO.seg T_ok .dp 1 [0, 1, 2, 8, 9, 10] [] (s' := ⟨[(0, .lf (.v (.sl Y40) a0)), (1, I a1), (2, I a2), (8, I (IntKind.i64.wrap (a1 + (1 : Int)))), (9, I (0 : Int)), (10, I (0 : Int))], []⟩) (φ := True ∧ True) (by kernel_rfl) ⟨trivial, trivial⟩ ?_
        refine VO.nil ?_
        show VW _ _ _ _ _ _ _
        refine VW.block ?_
        refine VW.loopL (fun k s => ∃ (x46 : Int) (x47 : Int) (x48 : Int), s = ⟨[(0, .lf (.v (.sl Y40) a0)), (1, I a1), (2, I a2), (8, I x46), (9, I x47), (10, I x48)], []⟩ ∧ F38_l0 N a0 a1 a2 self k x46 x47 x48 = some r) N [.ren [0, 1, 2, 8, 9, 10] []] (by kernel_rfl) ⟨(IntKind.i64.wrap (a1 + (1 : Int))), (0 : Int), (0 : Int), rfl, h⟩ ?_
        rintro k58 s ⟨x46, x47, x48, rfl, h⟩
        cases k58 with
        | zero => exact nomatch (show (none : Option (Int × Int)) = some r from h)
        | succ k58 =>
          replace h : F38_l0_b N a0 a1 a2 self (F38_l0 N a0 a1 a2 self k58) x46 x47 x48 = some r := h
          unfold F38_l0_b at h
          refine VW.seq ?_
          refine VW.seq ?_
          refine VW.region ?_
          obtain ⟨g61, h⟩ := gd_some h
          refine VO.seg T_ok .dp 6 [0, 1, 2, 8, 9, 10, 23, 28] [] (s' := ⟨[(0, .lf (.v (.sl Y40) a0)), (1, I a1), (2, I a2), (8, I x46), (9, I x47), (10, I x48), (23, I x48), (28, I ((a0.getD a1.toNat (Ty.dflt Y40)).1))], []⟩) (φ := True ∧ True ∧ True ∧ (InR a1 a0.length) ∧ True ∧ True ∧ True) (by kernel_rfl) ⟨trivial, trivial, trivial, g61, trivial, trivial, trivial⟩ ?_
          obtain ⟨y62, hy, h⟩ := andO_some h
          refine VO.call false [.t (.int .i64)] [] T_ok (d := some 29) (by kernel_rfl) (ok51 N _ hy) rfl ?_
          refine VO.seg T_ok .dp 1 [0, 1, 2, 8, 9, 10, 30] [] (s' := ⟨[(0, .lf (.v (.sl Y40) a0)), (1, I a1), (2, I a2), (8, I x46), (9, I x47), (10, I x48), (30, B (decide (x48 < y62)))], []⟩) (φ := True ∧ True) (by kernel_rfl) ⟨trivial, trivial⟩ ?_
          refine VO.nil ?_
          show VW _ _ _ _ _ _ _
          refine VW.cond (b := (decide (x48 < y62))) (by kernel_rfl) (fun hb => ?_) (fun hb => ?_)
          · replace h := cond_t h hb; clear hb
            refine VW.skip ?_
            show VW _ _ _ _ _ _ _
            refine VW.join (fun s => ∃ (x64 : Int) (x65 : Int), s = ⟨[(0, .lf (.v (.sl Y40) a0)), (1, I a1), (2, I a2), (8, I x64), (9, I x65), (10, I x48)], []⟩ ∧ F38_j1 N (F38_l0 N a0 a1 a2 self k58) x48 x64 x65 = some r) ?_ ?_
            · refine VW.block ?_
              refine VW.seq ?_
              refine VW.region ?_
              refine VO.seg T_ok .dp 4 [0, 1, 2, 9, 10, 34, 35, 37] [] (s' := ⟨[(0, .lf (.v (.sl Y40) a0)), (1, I a1), (2, I a2), (9, I x47), (10, I x48), (34, .lf (.v (.sl Y40) a0)), (35, I x46), (37, I (IntKind.i64.wrap (a2 - (1 : Int))))], []⟩) (φ := True ∧ True ∧ True ∧ True ∧ True) (by kernel_rfl) ⟨trivial, trivial, trivial, trivial, trivial⟩ ?_
              obtain ⟨y67, hy, h⟩ := andO_some h
              refine VO.call false [.t (.sl Y40), .t (.int .i64), .t (.int .i64)] [] T_ok (d := some 38) (by kernel_rfl) (ih _ _ _ _ hy) rfl ?_
              refine VO.seg T_ok .dp 5 [0, 1, 2, 9, 10, 11, 12] [] (s' := ⟨[(0, .lf (.v (.sl Y40) a0)), (1, I a1), (2, I a2), (9, I x47), (10, I x48), (11, I y67.1), (12, I y67.2)], []⟩) (φ := True ∧ True ∧ True ∧ True ∧ True ∧ True) (by kernel_rfl) ⟨trivial, trivial, trivial, trivial, trivial, trivial⟩ ?_
              refine VO.nil ?_
              show VW _ _ _ _ _ _ _
              refine VW.seq ?_
              refine VW.seq ?_
              refine VW.region ?_
              refine VO.seg T_ok .dp 2 [0, 1, 2, 9, 10, 11, 12, 42] [] (s' := ⟨[(0, .lf (.v (.sl Y40) a0)), (1, I a1), (2, I a2), (9, I x47), (10, I x48), (11, I y67.1), (12, I y67.2), (42, B (decide (y67.1 < (0 : Int))))], []⟩) (φ := True ∧ True ∧ True) (by kernel_rfl) ⟨trivial, trivial, trivial⟩ ?_
              refine VO.nil ?_
              show VW _ _ _ _ _ _ _
              refine VW.cond (b := (decide (y67.1 < (0 : Int)))) (by kernel_rfl) (fun hb => ?_) (fun hb => ?_)
              · replace h := cond_t h hb; clear hb
                refine VW.seq ?_
                refine VW.region ?_
                refine VO.seg T_ok .dp 2 [6, 7] [] (s' := ⟨[(6, I (-1 : Int)), (7, I (0 : Int))], []⟩) (φ := True ∧ True ∧ True) (by kernel_rfl) ⟨trivial, trivial, trivial⟩ ?_
                refine VO.nil ?_
                show VW _ _ _ _ _ _ _
                refine VW.ret ?_
                replace h := Option.some.inj h
                subst h
                exact retR [] (by kernel_rfl) rfl
              · replace h := cond_f h hb; clear hb
                refine VW.skip ?_
                show VW _ _ _ _ _ _ _
                refine VW.seq ?_
                refine VW.region ?_
                refine VO.seg T_ok .dp 2 [0, 1, 2, 8, 9, 10, 12] [] (s' := ⟨[(0, .lf (.v (.sl Y40) a0)), (1, I a1), (2, I a2), (8, I y67.1), (9, I x47), (10, I x48), (12, I y67.2)], []⟩) (φ := True ∧ True ∧ True) (by kernel_rfl) ⟨trivial, trivial, trivial⟩ ?_
                refine VO.nil ?_
                show VW _ _ _ _ _ _ _
                refine VW.seq ?_
                refine VW.region ?_
                refine VO.seg T_ok .dp 3 [0, 1, 2, 8, 9, 10, 12, 46] [] (s' := ⟨[(0, .lf (.v (.sl Y40) a0)), (1, I a1), (2, I a2), (8, I y67.1), (9, I x47), (10, I x48), (12, I y67.2), (46, B (decide (y67.2 > x47)))], []⟩) (φ := True ∧ True ∧ True ∧ True) (by kernel_rfl) ⟨trivial, trivial, trivial, trivial⟩ ?_
                refine VO.nil ?_
                show VW _ _ _ _ _ _ _
                refine VW.cond (b := (decide (y67.2 > x47))) (by kernel_rfl) (fun hb => ?_) (fun hb => ?_)
                · replace h := cond_t h hb; clear hb
                  refine VW.region ?_
                  refine VO.seg T_ok .dp 2 [0, 1, 2, 8, 9, 10] [] (s' := ⟨[(0, .lf (.v (.sl Y40) a0)), (1, I a1), (2, I a2), (8, I y67.1), (9, I y67.2), (10, I x48)], []⟩) (φ := True ∧ True ∧ True) (by kernel_rfl) ⟨trivial, trivial, trivial⟩ ?_
                  refine VO.nil ?_
                  exact arrive [.ren [0, 1, 2, 8, 9, 10] []] (by kernel_rfl) ⟨y67.1, y67.2, rfl, h⟩
                · replace h := cond_f h hb; clear hb
                  refine VW.skip ?_
                  exact arrive [.ren [0, 1, 2, 8, 9, 10] []] (by kernel_rfl) ⟨y67.1, x47, rfl, h⟩
            · rintro s ⟨x64, x65, rfl, h⟩
              unfold F38_j1 at h
              refine VW.region ?_
              refine VO.seg T_ok .dp 3 [0, 1, 2, 8, 9, 10] [] (s' := ⟨[(0, .lf (.v (.sl Y40) a0)), (1, I a1), (2, I a2), (8, I x64), (9, I x65), (10, I (IntKind.i64.wrap (x48 + (1 : Int))))], []⟩) (φ := True ∧ True ∧ True ∧ True) (by kernel_rfl) ⟨trivial, trivial, trivial, trivial⟩ ?_
              refine VO.nil ?_
              exact around [.ren [0, 1, 2, 8, 9, 10] []] (by kernel_rfl) ⟨x64, x65, (IntKind.i64.wrap (x48 + (1 : Int))), rfl, h⟩
          · replace h := cond_f h hb; clear hb
            refine VW.exit ?_
            exact arrive [.ren [8, 9] []] (by kernel_rfl) ⟨x46, x47, rfl, h⟩
      · rintro s ⟨x33, x34, rfl, h⟩
        unfold F38_j0 at h
        refine VW.seq ?_
        refine VW.region ?_
        refine VO.seg T_ok .dp 5 [6, 7] [] (s' := ⟨[(6, I x33), (7, I (IntKind.i64.wrap (x34 + (1 : Int))))], []⟩) (φ := True ∧ True ∧ True ∧ True ∧ True ∧ True) (by kernel_rfl) ⟨trivial, trivial, trivial, trivial, trivial, trivial⟩ ?_
        refine VO.nil ?_
        show VW _ _ _ _ _ _ _
        refine VW.ret ?_
        replace h := Option.some.inj h
        subst h
        exact retR [] (by kernel_rfl) rfl
def F38_r (N : Nat) : Nat → (List (Int × (ByteArray × (Int × (Int × (Int × (Bool × (List Int)))))))) → Int → Int → Option (Int × Int) := loopF (F38_b N) (fun _ _ _ => none)
theorem F38_s (N : Nat) {k : Nat} (hk : 0 < k) (a0 : (List (Int × (ByteArray × (Int × (Int × (Int × (Bool × (List Int))))))))) (a1 : Int) (a2 : Int) : F38_r N k a0 a1 a2 = F38_b N (F38_r N (k - 1)) a0 a1 a2 := by
  cases k with
  | zero => exact absurd hk (Nat.lt_irrefl 0)
  | succ m => rfl
def F38 (N : Nat) : (List (Int × (ByteArray × (Int × (Int × (Int × (Bool × (List Int)))))))) → Int → Int → Option (Int × Int) := F38_r N N
theorem ok38_k (N : Nat) : ∀ (k : Nat) (a0 : (List (Int × (ByteArray × (Int × (Int × (Int × (Bool × (List Int))))))))) (a1 : Int) (a2 : Int) (r : Int × Int), loopF (F38_b N) (fun _ _ _ => none) k a0 a1 a2 = some r → Con Go.Proofs.Try.prog 38 [.lf (.v (.sl Y40) a0), I a1, I a2] [.lf (.v (.int .i64) r.1), .lf (.v (.int .i64) r.2)]
  | 0, a0, a1, a2, r, h => nomatch (show (none : Option (Int × Int)) = some r from h)
  | k + 1, a0, a1, a2, r, h => ok38_b N _ (ok38_k N k) a0 a1 a2 h
theorem ok38 (N : Nat) (a0 : (List (Int × (ByteArray × (Int × (Int × (Int × (Bool × (List Int))))))))) (a1 : Int) (a2 : Int) {r : Int × Int} (h : F38 N a0 a1 a2 = some r) : Con Go.Proofs.Try.prog 38 [.lf (.v (.sl Y40) a0), I a1, I a2] [.lf (.v (.int .i64) r.1), .lf (.v (.int .i64) r.2)] := ok38_k N N a0 a1 a2 r h

/- loop.example/g00844/spec.PlanOk -/
def F22_j0 (N : Nat) (a0 : (List (Int × (ByteArray × (Int × (Int × (Int × (Bool × (List Int))))))))) : Option (Bool) :=
  andO (F38 N a0 (0 : Int) (10 : Int)) fun y17 => some (y17.1 == (a0.length : Int))
def F22_l0_b (N : Nat) (a0 : (List (Int × (ByteArray × (Int × (Int × (Int × (Bool × (List Int))))))))) (nx28 : Int → Option (Bool)) (x23 : Int) : Option (Bool) :=
  cond (decide (x23 < (a0.length : Int))) (gd (InR x23 a0.length) (andO (F37 N (a0.getD x23.toNat (Ty.dflt Y40))) fun y32 => cond (!y32) (some false) (nx28 (IntKind.i64.wrap (x23 + (1 : Int)))))) (F22_j0 N a0)
def F22_l0 (N : Nat) (a0 : (List (Int × (ByteArray × (Int × (Int × (Int × (Bool × (List Int))))))))) : Nat → Int → Option (Bool) := loopF (F22_l0_b N a0) (fun _ => none)
theorem F22_l0_s (N : Nat) (a0 : (List (Int × (ByteArray × (Int × (Int × (Int × (Bool × (List Int))))))))) {k : Nat} (hk : 0 < k) (x23 : Int) : F22_l0 N a0 k x23 = F22_l0_b N a0 (F22_l0 N a0 (k - 1)) x23 := by
  cases k with
  | zero => exact absurd hk (Nat.lt_irrefl 0)
  | succ m => rfl
def F22 (N : Nat) (a0 : (List (Int × (ByteArray × (Int × (Int × (Int × (Bool × (List Int))))))))) : Option (Bool) :=
  andO (F36 N (a0.length : Int) (1 : Int) (40 : Int)) fun y2 => cond (!y2) (some false) (F22_l0 N a0 N (0 : Int))
theorem ok22 (N : Nat) (a0 : (List (Int × (ByteArray × (Int × (Int × (Int × (Bool × (List Int))))))))) {r : Bool} (h : F22 N a0 = some r) : Con Go.Proofs.Try.prog 22 [.lf (.v (.sl Y40) a0)] [.lf (.v .bool r)] := by
  refine ⟨enters_of Go.Proofs.Try.func22 rfl (by decide), HC.intro [.lf (.v .bool)] T_ok Go.Proofs.Try.func22 rfl (Nat.le_of_ble_eq_true rfl) (Nat.le_of_ble_eq_true rfl) fun w0 E0 => ?_⟩
  unfold F22 at h
  show VW _ _ _ _ _ (retQ _ _ _ _) _
  refine VW.seq ?_
  refine VW.region ?_
  refine VO.seg T_ok .dp 1 [0] [] (s' := ⟨[(0, .lf (.v (.sl Y40) a0))], []⟩) (φ := True ∧ True) (by kernel_rfl) ⟨trivial, trivial⟩ ?_
  refine VO.nil ?_
  show VW _ _ _ _ _ _ _
  refine VW.seq ?_
  refine VW.seq ?_
  refine VW.region ?_
  refine VO.seg T_ok .dp 2 [0, 7] [] (s' := ⟨[(0, .lf (.v (.sl Y40) a0)), (7, I (a0.length : Int))], []⟩) (φ := True ∧ True ∧ True) (by kernel_rfl) ⟨trivial, trivial, trivial⟩ ?_
  obtain ⟨y2, hy, h⟩ := andO_some h
  refine VO.call false [.t (.int .i64), .t (.int .i64), .t (.int .i64)] [] T_ok (d := some 8) (by kernel_rfl) (ok36 N _ _ _ hy) rfl ?_
  refine VO.seg T_ok .dp 1 [0, 9] [] (s' := ⟨[(0, .lf (.v (.sl Y40) a0)), (9, B (!y2))], []⟩) (φ := True ∧ True) (by kernel_rfl) ⟨trivial, trivial⟩ ?_
  refine VO.nil ?_
  show VW _ _ _ _ _ _ _
  refine VW.cond (b := (!y2)) (by kernel_rfl) (fun hb => ?_) (fun hb => ?_)
  · replace h := cond_t h hb; clear hb
    refine VW.seq ?_
    refine VW.region ?_
    refine VO.seg T_ok .dp 1 [2] [] (s' := ⟨[(2, B false)], []⟩) (φ := True ∧ True) (by kernel_rfl) ⟨trivial, trivial⟩ ?_
    refine VO.nil ?_
    show VW _ _ _ _ _ _ _
    refine VW.ret ?_
    replace h := Option.some.inj h
    subst h
    exact retR [] (by kernel_rfl) rfl
  · replace h := cond_f h hb; clear hb
    refine VW.skip ?_
    show VW _ _ _ _ _ _ _
    refine VW.join (fun s => s = ⟨[(0, .lf (.v (.sl Y40) a0))], []⟩ ∧ F22_j0 N a0 = some r) ?_ ?_
    · refine VW.seq ?_
      refine VW.region ?_
      refine VO.seg T_ok .dp 1 [0, 3] [] (s' := ⟨[(0, .lf (.v (.sl Y40) a0)), (3, I (0 : Int))], []⟩) (φ := True ∧ True) (by kernel_rfl) ⟨trivial, trivial⟩ ?_
      refine VO.nil ?_
      show VW _ _ _ _ _ _ _
      refine VW.block ?_
      refine VW.loopL (fun k s => ∃ (x23 : Int), s = ⟨[(0, .lf (.v (.sl Y40) a0)), (3, I x23)], []⟩ ∧ F22_l0 N a0 k x23 = some r) N [.ren [0, 3] []] (by kernel_rfl) ⟨(0 : Int), rfl, h⟩ ?_
      rintro k28 s ⟨x23, rfl, h⟩
      cases k28 with
      | zero => exact nomatch (show (none : Option (Bool)) = some r from h)
      | succ k28 =>
        replace h : F22_l0_b N a0 (F22_l0 N a0 k28) x23 = some r := h
        unfold F22_l0_b at h
        refine VW.seq ?_
        refine VW.seq ?_
        refine VW.region ?_
        refine VO.seg T_ok .dp 4 [0, 3, 13] [] (s' := ⟨[(0, .lf (.v (.sl Y40) a0)), (3, I x23), (13, B (decide (x23 < (a0.length : Int))))], []⟩) (φ := True ∧ True ∧ True ∧ True ∧ True) (by kernel_rfl) ⟨trivial, trivial, trivial, trivial, trivial⟩ ?_
        refine VO.nil ?_
        show VW _ _ _ _ _ _ _
        refine VW.cond (b := (decide (x23 < (a0.length : Int)))) (by kernel_rfl) (fun hb => ?_) (fun hb => ?_)
        · replace h := cond_t h hb; clear hb
          refine VW.skip ?_
          show VW _ _ _ _ _ _ _
          refine VW.seq ?_
          refine VW.block ?_
          refine VW.seq ?_
          refine VW.region ?_
          obtain ⟨g31, h⟩ := gd_some h
          refine VO.seg T_ok .dp 4 [0, 3, 19] [] (s' := ⟨[(0, .lf (.v (.sl Y40) a0)), (3, I x23), (19, .agg [.v (.int .i64) ((a0.getD x23.toNat (Ty.dflt Y40)).1), .v .str ((a0.getD x23.toNat (Ty.dflt Y40)).2.1), .v (.int .i64) ((a0.getD x23.toNat (Ty.dflt Y40)).2.2.1), .v (.int .i64) ((a0.getD x23.toNat (Ty.dflt Y40)).2.2.2.1), .v (.int .i64) ((a0.getD x23.toNat (Ty.dflt Y40)).2.2.2.2.1), .v .bool ((a0.getD x23.toNat (Ty.dflt Y40)).2.2.2.2.2.1), .v (.sl (.int .i64)) ((a0.getD x23.toNat (Ty.dflt Y40)).2.2.2.2.2.2)])], []⟩) (φ := True ∧ True ∧ (InR x23 a0.length) ∧ True ∧ True) (by kernel_rfl) ⟨trivial, trivial, g31, trivial, trivial⟩ ?_
          obtain ⟨y32, hy, h⟩ := andO_some h
          refine VO.call false [.t Y40] [] T_ok (d := some 20) (by kernel_rfl) (ok37 N _ hy) rfl ?_
          refine VO.seg T_ok .dp 1 [0, 3, 21] [] (s' := ⟨[(0, .lf (.v (.sl Y40) a0)), (3, I x23), (21, B (!y32))], []⟩) (φ := True ∧ True) (by kernel_rfl) ⟨trivial, trivial⟩ ?_
          refine VO.nil ?_
          show VW _ _ _ _ _ _ _
          refine VW.cond (b := (!y32)) (by kernel_rfl) (fun hb => ?_) (fun hb => ?_)
          · replace h := cond_t h hb; clear hb
            refine VW.seq ?_
            refine VW.region ?_
            refine VO.seg T_ok .dp 1 [2] [] (s' := ⟨[(2, B false)], []⟩) (φ := True ∧ True) (by kernel_rfl) ⟨trivial, trivial⟩ ?_
            refine VO.nil ?_
            show VW _ _ _ _ _ _ _
            refine VW.ret ?_
            replace h := Option.some.inj h
            subst h
            exact retR [] (by kernel_rfl) rfl
          · replace h := cond_f h hb; clear hb
            refine VW.skip ?_
            show VW _ _ _ _ _ _ _
            refine VW.region ?_
            refine VO.seg T_ok .dp 3 [0, 3] [] (s' := ⟨[(0, .lf (.v (.sl Y40) a0)), (3, I (IntKind.i64.wrap (x23 + (1 : Int))))], []⟩) (φ := True ∧ True ∧ True ∧ True) (by kernel_rfl) ⟨trivial, trivial, trivial, trivial⟩ ?_
            refine VO.nil ?_
            exact around [.ren [0, 3] []] (by kernel_rfl) ⟨(IntKind.i64.wrap (x23 + (1 : Int))), rfl, h⟩
        · replace h := cond_f h hb; clear hb
          refine VW.exit ?_
          exact arrive [.ren [0] []] (by kernel_rfl) ⟨rfl, h⟩
    · rintro s ⟨rfl, h⟩
      unfold F22_j0 at h
      refine VW.seq ?_
      refine VW.region ?_
      refine VO.seg T_ok .dp 1 [0, 23] [] (s' := ⟨[(0, .lf (.v (.sl Y40) a0)), (23, .lf (.v (.sl Y40) a0))], []⟩) (φ := True ∧ True) (by kernel_rfl) ⟨trivial, trivial⟩ ?_
      obtain ⟨y17, hy, h⟩ := andO_some h
      refine VO.call false [.t (.sl Y40), .t (.int .i64), .t (.int .i64)] [] T_ok (d := some 24) (by kernel_rfl) (ok38 N _ _ _ hy) rfl ?_
      refine VO.seg T_ok .dp 5 [0, 4] [] (s' := ⟨[(0, .lf (.v (.sl Y40) a0)), (4, I y17.1)], []⟩) (φ := True ∧ True ∧ True ∧ True ∧ True ∧ True) (by kernel_rfl) ⟨trivial, trivial, trivial, trivial, trivial, trivial⟩ ?_
      refine VO.nil ?_
      show VW _ _ _ _ _ _ _
      refine VW.seq ?_
      refine VW.region ?_
      refine VO.seg T_ok .dp 5 [2] [] (s' := ⟨[(2, B (y17.1 == (a0.length : Int)))], []⟩) (φ := True ∧ True ∧ True ∧ True ∧ True ∧ True) (by kernel_rfl) ⟨trivial, trivial, trivial, trivial, trivial, trivial⟩ ?_
      refine VO.nil ?_
      show VW _ _ _ _ _ _ _
      refine VW.ret ?_
      replace h := Option.some.inj h
      subst h
      exact retR [] (by kernel_rfl) rfl

/- loop.example/g00844/spec.l01Copy -/
def F39_j0 (N : Nat) (x16 : (List Int)) : Option ((List Int)) :=
  some x16
def F39_l0_b (N : Nat) (a0 : (List Int)) (nx28 : (List Int) → Int → Option ((List Int))) (x22 : (List Int)) (x23 : Int) : Option ((List Int)) :=
  cond (decide (x23 < (a0.length : Int))) (gd (InR x23 a0.length) (gd (x22.length + ([(a0.getD x23.toNat (Ty.dflt (.int .i64)))]).length ≤ lim (.int .i64)) (nx28 (x22 ++ ([(a0.getD x23.toNat (Ty.dflt (.int .i64)))])) (IntKind.i64.wrap (x23 + (1 : Int)))))) (F39_j0 N x22)
def F39_l0 (N : Nat) (a0 : (List Int)) : Nat → (List Int) → Int → Option ((List Int)) := loopF (F39_l0_b N a0) (fun _ _ => none)
theorem F39_l0_s (N : Nat) (a0 : (List Int)) {k : Nat} (hk : 0 < k) (x22 : (List Int)) (x23 : Int) : F39_l0 N a0 k x22 x23 = F39_l0_b N a0 (F39_l0 N a0 (k - 1)) x22 x23 := by
  cases k with
  | zero => exact absurd hk (Nat.lt_irrefl 0)
  | succ m => rfl
def F39 (N : Nat) (a0 : (List Int)) : Option ((List Int)) :=
  F39_l0 N a0 N ([]) (0 : Int)
theorem ok39 (N : Nat) (a0 : (List Int)) {r : (List Int)} (h : F39 N a0 = some r) : Con Go.Proofs.Try.prog 39 [.lf (.v (.sl (.int .i64)) a0)] [.lf (.own (.int .i64) r .dp)] := by
  refine ⟨enters_of Go.Proofs.Try.func39 rfl (by decide), HC.intro [.lf (.own (.int .i64) .dp)] T_ok Go.Proofs.Try.func39 rfl (Nat.le_of_ble_eq_true rfl) (Nat.le_of_ble_eq_true rfl) fun w0 E0 => ?_⟩
  unfold F39 at h
  show VW _ _ _ _ _ (retQ _ _ _ _) _
  refine VW.seq ?_
  refine VW.region ?_
  refine VO.seg T_ok .dp 1 [0] [] (s' := ⟨[(0, .lf (.v (.sl (.int .i64)) a0))], []⟩) (φ := True ∧ True) (by kernel_rfl) ⟨trivial, trivial⟩ ?_
  refine VO.nil ?_
  show VW _ _ _ _ _ _ _
  refine VW.seq ?_
  refine VW.region ?_
  refine VO.seg T_ok .dp 2 [0, 3] [] (s' := ⟨[(0, .lf (.v (.sl (.int .i64)) a0)), (3, .lf (.nil))], []⟩) (φ := True ∧ True ∧ True) (by kernel_rfl) ⟨trivial, trivial, trivial⟩ ?_
  refine VO.nil ?_
  show VW _ _ _ _ _ _ _
  refine VW.join (fun s => ∃ (x16 : (List Int)), s = ⟨[(3, .lf (.hd 0 0 none))], [ar 0 (.int .i64) x16 .dp]⟩ ∧ F39_j0 N x16 = some r) ?_ ?_
  · refine VW.seq ?_
    refine VW.region ?_
    refine VO.seg T_ok .dp 1 [0, 3, 4] [] (s' := ⟨[(0, .lf (.v (.sl (.int .i64)) a0)), (3, .lf (.nil)), (4, I (0 : Int))], []⟩) (φ := True ∧ True) (by kernel_rfl) ⟨trivial, trivial⟩ ?_
    refine VO.nil ?_
    show VW _ _ _ _ _ _ _
    refine VW.block ?_
    refine VW.loopL (fun k s => ∃ (x22 : (List Int)) (x23 : Int), s = ⟨[(0, .lf (.v (.sl (.int .i64)) a0)), (3, .lf (.hd 0 0 none)), (4, I x23)], [ar 0 (.int .i64) x22 .dp]⟩ ∧ F39_l0 N a0 k x22 x23 = some r) N [.nilS 3 (.int .i64) .dp, .ren [0, 3, 4] [0]] (by kernel_rfl) ⟨[], (0 : Int), rfl, h⟩ ?_
    rintro k28 s ⟨x22, x23, rfl, h⟩
    cases k28 with
    | zero => exact nomatch (show (none : Option ((List Int))) = some r from h)
    | succ k28 =>
      replace h : F39_l0_b N a0 (F39_l0 N a0 k28) x22 x23 = some r := h
      unfold F39_l0_b at h
      refine VW.seq ?_
      refine VW.seq ?_
      refine VW.region ?_
      refine VO.seg T_ok .dp 4 [0, 3, 4, 9] [0] (s' := ⟨[(0, .lf (.v (.sl (.int .i64)) a0)), (3, .lf (.hd 0 0 none)), (4, I x23), (9, B (decide (x23 < (a0.length : Int))))], [ar 0 (.int .i64) x22 .dp]⟩) (φ := True ∧ True ∧ True ∧ True ∧ True) (by kernel_rfl) ⟨trivial, trivial, trivial, trivial, trivial⟩ ?_
      refine VO.nil ?_
      show VW _ _ _ _ _ _ _
      refine VW.cond (b := (decide (x23 < (a0.length : Int)))) (by kernel_rfl) (fun hb => ?_) (fun hb => ?_)
      · replace h := cond_t h hb; clear hb
        refine VW.skip ?_
        show VW _ _ _ _ _ _ _
        refine VW.seq ?_
        refine VW.block ?_
        refine VW.region ?_
        obtain ⟨g31, h⟩ := gd_some h
        obtain ⟨g32, h⟩ := gd_some h
        refine VO.seg T_ok .dp 8 [0, 3, 4] [0] (s' := ⟨[(0, .lf (.v (.sl (.int .i64)) a0)), (3, .lf (.hd 0 0 none)), (4, I x23)], [ar 0 (.int .i64) (x22 ++ ([(a0.getD x23.toNat (Ty.dflt (.int .i64)))])) .dp]⟩) (φ := True ∧ True ∧ True ∧ (InR x23 a0.length) ∧ True ∧ True ∧ (x22.length + ([(a0.getD x23.toNat (Ty.dflt (.int .i64)))]).length ≤ lim (.int .i64)) ∧ True ∧ True) (by kernel_rfl) ⟨trivial, trivial, trivial, g31, trivial, trivial, g32, trivial, trivial⟩ ?_
        refine VO.nil ?_
        show VW _ _ _ _ _ _ _
        refine VW.region ?_
        refine VO.seg T_ok .dp 3 [0, 3, 4] [0] (s' := ⟨[(0, .lf (.v (.sl (.int .i64)) a0)), (3, .lf (.hd 0 0 none)), (4, I (IntKind.i64.wrap (x23 + (1 : Int))))], [ar 0 (.int .i64) (x22 ++ ([(a0.getD x23.toNat (Ty.dflt (.int .i64)))])) .dp]⟩) (φ := True ∧ True ∧ True ∧ True) (by kernel_rfl) ⟨trivial, trivial, trivial, trivial⟩ ?_
        refine VO.nil ?_
        exact around [.ren [0, 3, 4] [0]] (by kernel_rfl) ⟨(x22 ++ ([(a0.getD x23.toNat (Ty.dflt (.int .i64)))])), (IntKind.i64.wrap (x23 + (1 : Int))), rfl, h⟩
      · replace h := cond_f h hb; clear hb
        refine VW.exit ?_
        exact arrive [.ren [3] [0]] (by kernel_rfl) ⟨x22, rfl, h⟩
  · rintro s ⟨x16, rfl, h⟩
    unfold F39_j0 at h
    refine VW.seq ?_
    refine VW.region ?_
    refine VO.seg T_ok .dp 2 [2] [0] (s' := ⟨[(2, .lf (.hd 0 0 none))], [ar 0 (.int .i64) x16 .dp]⟩) (φ := True ∧ True ∧ True) (by kernel_rfl) ⟨trivial, trivial, trivial⟩ ?_
    refine VO.nil ?_
    show VW _ _ _ _ _ _ _
    refine VW.ret ?_
    replace h := Option.some.inj h
    subst h
    exact retR [some 0] (by kernel_rfl) rfl

/- loop.example/g00844/spec.l02Copy -/
def F23_j0 (N : Nat) (x100 : (List (Int × (ByteArray × (Int × (Int × (Int × (Bool × (List Int))))))))) : Option ((List (Int × (ByteArray × (Int × (Int × (Int × (Bool × (List Int))))))))) :=
  some x100
def F23_j1 (N : Nat) (nx168 : (List (Int × (ByteArray × (Int × (Int × (Int × (Bool × (List Int)))))))) → Int → Option ((List (Int × (ByteArray × (Int × (Int × (Int × (Bool × (List Int)))))))))) (x134 : (List (Int × (ByteArray × (Int × (Int × (Int × (Bool × (List Int))))))))) (x135 : Int) (x189 : Int) (x190 : ByteArray) (x191 : Int) (x192 : Int) (x193 : Int) (x194 : Bool) (x195 : (List Int)) : Option ((List (Int × (ByteArray × (Int × (Int × (Int × (Bool × (List Int))))))))) :=
  gd (x134.length + ([(x189, (x190, (x191, (x192, (x193, (x194, x195))))))]).length ≤ lim Y40) (nx168 (x134 ++ ([(x189, (x190, (x191, (x192, (x193, (x194, x195))))))])) (IntKind.i64.wrap (x135 + (1 : Int))))
def F23_l0_b (N : Nat) (a0 : (List (Int × (ByteArray × (Int × (Int × (Int × (Bool × (List Int))))))))) (nx168 : (List (Int × (ByteArray × (Int × (Int × (Int × (Bool × (List Int)))))))) → Int → Option ((List (Int × (ByteArray × (Int × (Int × (Int × (Bool × (List Int)))))))))) (x134 : (List (Int × (ByteArray × (Int × (Int × (Int × (Bool × (List Int))))))))) (x135 : Int) : Option ((List (Int × (ByteArray × (Int × (Int × (Int × (Bool × (List Int))))))))) :=
  cond (decide (x135 < (a0.length : Int))) (gd (InR x135 a0.length) (gd (InR x135 a0.length) (cond (decide ((((a0.getD x135.toNat (Ty.dflt Y40)).2.2.2.2.2.2).length : Int) > (0 : Int))) (gd (InR x135 a0.length) (andO (F39 N ((a0.getD x135.toNat (Ty.dflt Y40)).2.2.2.2.2.2)) fun y200 => F23_j1 N nx168 x134 x135 ((a0.getD x135.toNat (Ty.dflt Y40)).1) ((a0.getD x135.toNat (Ty.dflt Y40)).2.1) ((a0.getD x135.toNat (Ty.dflt Y40)).2.2.1) ((a0.getD x135.toNat (Ty.dflt Y40)).2.2.2.1) ((a0.getD x135.toNat (Ty.dflt Y40)).2.2.2.2.1) ((a0.getD x135.toNat (Ty.dflt Y40)).2.2.2.2.2.1) y200)) (F23_j1 N nx168 x134 x135 ((a0.getD x135.toNat (Ty.dflt Y40)).1) ((a0.getD x135.toNat (Ty.dflt Y40)).2.1) ((a0.getD x135.toNat (Ty.dflt Y40)).2.2.1) ((a0.getD x135.toNat (Ty.dflt Y40)).2.2.2.1) ((a0.getD x135.toNat (Ty.dflt Y40)).2.2.2.2.1) ((a0.getD x135.toNat (Ty.dflt Y40)).2.2.2.2.2.1) ([]))))) (F23_j0 N x134)
def F23_l0 (N : Nat) (a0 : (List (Int × (ByteArray × (Int × (Int × (Int × (Bool × (List Int))))))))) : Nat → (List (Int × (ByteArray × (Int × (Int × (Int × (Bool × (List Int)))))))) → Int → Option ((List (Int × (ByteArray × (Int × (Int × (Int × (Bool × (List Int))))))))) := loopF (F23_l0_b N a0) (fun _ _ => none)
theorem F23_l0_s (N : Nat) (a0 : (List (Int × (ByteArray × (Int × (Int × (Int × (Bool × (List Int))))))))) {k : Nat} (hk : 0 < k) (x134 : (List (Int × (ByteArray × (Int × (Int × (Int × (Bool × (List Int))))))))) (x135 : Int) : F23_l0 N a0 k x134 x135 = F23_l0_b N a0 (F23_l0 N a0 (k - 1)) x134 x135 := by
  cases k with
  | zero => exact absurd hk (Nat.lt_irrefl 0)
  | succ m => rfl
def F23 (N : Nat) (a0 : (List (Int × (ByteArray × (Int × (Int × (Int × (Bool × (List Int))))))))) : Option ((List (Int × (ByteArray × (Int × (Int × (Int × (Bool × (List Int))))))))) :=
  F23_l0 N a0 N ([]) (0 : Int)
theorem ok23 (N : Nat) (a0 : (List (Int × (ByteArray × (Int × (Int × (Int × (Bool × (List Int))))))))) {r : (List (Int × (ByteArray × (Int × (Int × (Int × (Bool × (List Int))))))))} (h : F23 N a0 = some r) : Con Go.Proofs.Try.prog 23 [.lf (.v (.sl Y40) a0)] [.lf (.own Y40 r .dp)] := by
  refine ⟨enters_of Go.Proofs.Try.func23 rfl (by decide), HC.intro [.lf (.own Y40 .dp)] T_ok Go.Proofs.Try.func23 rfl (Nat.le_of_ble_eq_true rfl) (Nat.le_of_ble_eq_true rfl) fun w0 E0 => ?_⟩
  unfold F23 at h
  show VW _ _ _ _ _ (retQ _ _ _ _) _
  refine VW.seq ?_
  refine VW.region ?_
  refine VO.seg T_ok .dp 1 [0] [] (s' := ⟨[(0, .lf (.v (.sl Y40) a0))], []⟩) (φ := True ∧ True) (by kernel_rfl) ⟨trivial, trivial⟩ ?_
  refine VO.nil ?_
  show VW _ _ _ _ _ _ _
  refine VW.seq ?_
  refine VW.region ?_
  refine VO.seg T_ok .dp 2 [0, 3] [] (s' := ⟨[(0, .lf (.v (.sl Y40) a0)), (3, .lf (.nil))], []⟩) (φ := True ∧ True ∧ True) (by kernel_rfl) ⟨trivial, trivial, trivial⟩ ?_
  refine VO.nil ?_
  show VW _ _ _ _ _ _ _
  refine VW.join (fun s => ∃ (x100 : (List (Int × (ByteArray × (Int × (Int × (Int × (Bool × (List Int))))))))), s = ⟨[(3, .lf (.hd 0 0 none))], [ar 0 Y40 x100 .dp]⟩ ∧ F23_j0 N x100 = some r) ?_ ?_
  · refine VW.seq ?_
    refine VW.region ?_
    refine VO.seg T_ok .dp 1 [0, 3, 4] [] (s' := ⟨[(0, .lf (.v (.sl Y40) a0)), (3, .lf (.nil)), (4, I (0 : Int))], []⟩) (φ := True ∧ True) (by kernel_rfl) ⟨trivial, trivial⟩ ?_
    refine VO.nil ?_
    show VW _ _ _ _ _ _ _
    refine VW.block ?_
    refine VW.loopL (fun k s => ∃ (x134 : (List (Int × (ByteArray × (Int × (Int × (Int × (Bool × (List Int))))))))) (x135 : Int), s = ⟨[(0, .lf (.v (.sl Y40) a0)), (3, .lf (.hd 0 0 none)), (4, I x135)], [ar 0 Y40 x134 .dp]⟩ ∧ F23_l0 N a0 k x134 x135 = some r) N [.nilS 3 Y40 .dp, .ren [0, 3, 4] [0]] (by kernel_rfl) ⟨[], (0 : Int), rfl, h⟩ ?_
    rintro k168 s ⟨x134, x135, rfl, h⟩
    cases k168 with
    | zero => exact nomatch (show (none : Option ((List (Int × (ByteArray × (Int × (Int × (Int × (Bool × (List Int)))))))))) = some r from h)
    | succ k168 =>
      replace h : F23_l0_b N a0 (F23_l0 N a0 k168) x134 x135 = some r := h
      unfold F23_l0_b at h
      refine VW.seq ?_
      refine VW.seq ?_
      refine VW.region ?_
      refine VO.seg T_ok .dp 4 [0, 3, 4, 10] [0] (s' := ⟨[(0, .lf (.v (.sl Y40) a0)), (3, .lf (.hd 0 0 none)), (4, I x135), (10, B (decide (x135 < (a0.length : Int))))], [ar 0 Y40 x134 .dp]⟩) (φ := True ∧ True ∧ True ∧ True ∧ True) (by kernel_rfl) ⟨trivial, trivial, trivial, trivial, trivial⟩ ?_
      refine VO.nil ?_
      show VW _ _ _ _ _ _ _
      refine VW.cond (b := (decide (x135 < (a0.length : Int)))) (by kernel_rfl) (fun hb => ?_) (fun hb => ?_)
      · replace h := cond_t h hb; clear hb
        refine VW.skip ?_
        show VW _ _ _ _ _ _ _
        refine VW.seq ?_
        refine VW.block ?_
        refine VW.seq ?_
        refine VW.region ?_
        obtain ⟨g185, h⟩ := gd_some h
        refine VO.seg T_ok .dp 6 [0, 3, 4, 5] [0, 1] (s' := ⟨[(0, .lf (.v (.sl Y40) a0)), (3, .lf (.hd 0 0 none)), (4, I x135), (5, .lf (.ptr 1 0 0 0))], [ar 0 Y40 x134 .dp, bx [.v (.int .i64) ((a0.getD x135.toNat (Ty.dflt Y40)).1), .v .str ((a0.getD x135.toNat (Ty.dflt Y40)).2.1), .v (.int .i64) ((a0.getD x135.toNat (Ty.dflt Y40)).2.2.1), .v (.int .i64) ((a0.getD x135.toNat (Ty.dflt Y40)).2.2.2.1), .v (.int .i64) ((a0.getD x135.toNat (Ty.dflt Y40)).2.2.2.2.1), .v .bool ((a0.getD x135.toNat (Ty.dflt Y40)).2.2.2.2.2.1), .v (.sl (.int .i64)) ((a0.getD x135.toNat (Ty.dflt Y40)).2.2.2.2.2.2)] 44]⟩) (φ := True ∧ True ∧ (InR x135 a0.length) ∧ True ∧ True ∧ True ∧ True) (by kernel_rfl) ⟨trivial, trivial, g185, trivial, trivial, trivial, trivial⟩ ?_
        refine VO.nil ?_
        show VW _ _ _ _ _ _ _
        refine VW.seq ?_
        refine VW.region ?_
        refine VO.seg T_ok .dp 2 [0, 3, 4, 5] [0, 1] (s' := ⟨[(0, .lf (.v (.sl Y40) a0)), (3, .lf (.hd 0 0 none)), (4, I x135), (5, .lf (.ptr 1 0 0 0))], [ar 0 Y40 x134 .dp, bx [.v (.int .i64) ((a0.getD x135.toNat (Ty.dflt Y40)).1), .v .str ((a0.getD x135.toNat (Ty.dflt Y40)).2.1), .v (.int .i64) ((a0.getD x135.toNat (Ty.dflt Y40)).2.2.1), .v (.int .i64) ((a0.getD x135.toNat (Ty.dflt Y40)).2.2.2.1), .v (.int .i64) ((a0.getD x135.toNat (Ty.dflt Y40)).2.2.2.2.1), .v .bool ((a0.getD x135.toNat (Ty.dflt Y40)).2.2.2.2.2.1), .nil] 44]⟩) (φ := True ∧ True ∧ True) (by kernel_rfl) ⟨trivial, trivial, trivial⟩ ?_
        refine VO.nil ?_
        show VW _ _ _ _ _ _ _
        refine VW.join (fun s => ∃ (x189 : Int) (x190 : ByteArray) (x191 : Int) (x192 : Int) (x193 : Int) (x194 : Bool) (x195 : (List Int)), s = ⟨[(0, .lf (.v (.sl Y40) a0)), (3, .lf (.hd 0 0 none)), (4, I x135), (5, .lf (.ptr 1 0 0 0))], [ar 0 Y40 x134 .dp, bx [.v (.int .i64) x189, .v .str x190, .v (.int .i64) x191, .v (.int .i64) x192, .v (.int .i64) x193, .v .bool x194, .hd 2 0 none] 44, ar 0 (.int .i64) x195 .dp]⟩ ∧ F23_j1 N (F23_l0 N a0 k168) x134 x135 x189 x190 x191 x192 x193 x194 x195 = some r) ?_ ?_
        · refine VW.seq ?_
          refine VW.region ?_
          obtain ⟨g198, h⟩ := gd_some h
          refine VO.seg T_ok .dp 7 [0, 3, 4, 5, 24] [0, 1] (s' := ⟨[(0, .lf (.v (.sl Y40) a0)), (3, .lf (.hd 0 0 none)), (4, I x135), (5, .lf (.ptr 1 0 0 0)), (24, B (decide ((((a0.getD x135.toNat (Ty.dflt Y40)).2.2.2.2.2.2).length : Int) > (0 : Int))))], [ar 0 Y40 x134 .dp, bx [.v (.int .i64) ((a0.getD x135.toNat (Ty.dflt Y40)).1), .v .str ((a0.getD x135.toNat (Ty.dflt Y40)).2.1), .v (.int .i64) ((a0.getD x135.toNat (Ty.dflt Y40)).2.2.1), .v (.int .i64) ((a0.getD x135.toNat (Ty.dflt Y40)).2.2.2.1), .v (.int .i64) ((a0.getD x135.toNat (Ty.dflt Y40)).2.2.2.2.1), .v .bool ((a0.getD x135.toNat (Ty.dflt Y40)).2.2.2.2.2.1), .nil] 44]⟩) (φ := True ∧ True ∧ (InR x135 a0.length) ∧ True ∧ True ∧ True ∧ True ∧ True) (by kernel_rfl) ⟨trivial, trivial, g198, trivial, trivial, trivial, trivial, trivial⟩ ?_
          refine VO.nil ?_
          show VW _ _ _ _ _ _ _
          refine VW.cond (b := (decide ((((a0.getD x135.toNat (Ty.dflt Y40)).2.2.2.2.2.2).length : Int) > (0 : Int)))) (by kernel_rfl) (fun hb => ?_) (fun hb => ?_)
          · replace h := cond_t h hb; clear hb
            refine VW.region ?_
            obtain ⟨g199, h⟩ := gd_some h
            refine VO.seg T_ok .dp 5 [0, 3, 4, 5, 29] [0, 1] (s' := ⟨[(0, .lf (.v (.sl Y40) a0)), (3, .lf (.hd 0 0 none)), (4, I x135), (5, .lf (.ptr 1 0 0 0)), (29, .lf (.v (.sl (.int .i64)) ((a0.getD x135.toNat (Ty.dflt Y40)).2.2.2.2.2.2)))], [ar 0 Y40 x134 .dp, bx [.v (.int .i64) ((a0.getD x135.toNat (Ty.dflt Y40)).1), .v .str ((a0.getD x135.toNat (Ty.dflt Y40)).2.1), .v (.int .i64) ((a0.getD x135.toNat (Ty.dflt Y40)).2.2.1), .v (.int .i64) ((a0.getD x135.toNat (Ty.dflt Y40)).2.2.2.1), .v (.int .i64) ((a0.getD x135.toNat (Ty.dflt Y40)).2.2.2.2.1), .v .bool ((a0.getD x135.toNat (Ty.dflt Y40)).2.2.2.2.2.1), .nil] 44]⟩) (φ := True ∧ True ∧ (InR x135 a0.length) ∧ True ∧ True ∧ True) (by kernel_rfl) ⟨trivial, trivial, g199, trivial, trivial, trivial⟩ ?_
            obtain ⟨y200, hy, h⟩ := andO_some h
            refine VO.call false [.t (.sl (.int .i64))] [] T_ok (d := some 30) (by kernel_rfl) (ok39 N _ hy) rfl ?_
            refine VO.seg T_ok .dp 2 [0, 3, 4, 5] [0, 1, 2] (s' := ⟨[(0, .lf (.v (.sl Y40) a0)), (3, .lf (.hd 0 0 none)), (4, I x135), (5, .lf (.ptr 1 0 0 0))], [ar 0 Y40 x134 .dp, bx [.v (.int .i64) ((a0.getD x135.toNat (Ty.dflt Y40)).1), .v .str ((a0.getD x135.toNat (Ty.dflt Y40)).2.1), .v (.int .i64) ((a0.getD x135.toNat (Ty.dflt Y40)).2.2.1), .v (.int .i64) ((a0.getD x135.toNat (Ty.dflt Y40)).2.2.2.1), .v (.int .i64) ((a0.getD x135.toNat (Ty.dflt Y40)).2.2.2.2.1), .v .bool ((a0.getD x135.toNat (Ty.dflt Y40)).2.2.2.2.2.1), .hd 2 0 none] 44, ar 0 (.int .i64) y200 .dp]⟩) (φ := True ∧ True ∧ True) (by kernel_rfl) ⟨trivial, trivial, trivial⟩ ?_
            refine VO.nil ?_
            exact arrive [.ren [0, 3, 4, 5] [0, 1, 2]] (by kernel_rfl) ⟨(a0.getD x135.toNat (Ty.dflt Y40)).1, (a0.getD x135.toNat (Ty.dflt Y40)).2.1, (a0.getD x135.toNat (Ty.dflt Y40)).2.2.1, (a0.getD x135.toNat (Ty.dflt Y40)).2.2.2.1, (a0.getD x135.toNat (Ty.dflt Y40)).2.2.2.2.1, (a0.getD x135.toNat (Ty.dflt Y40)).2.2.2.2.2.1, y200, rfl, h⟩
          · replace h := cond_f h hb; clear hb
            refine VW.skip ?_
            exact arrive [.nil 1 6 (.int .i64) .dp, .ren [0, 3, 4, 5] [0, 1, 2]] (by kernel_rfl) ⟨(a0.getD x135.toNat (Ty.dflt Y40)).1, (a0.getD x135.toNat (Ty.dflt Y40)).2.1, (a0.getD x135.toNat (Ty.dflt Y40)).2.2.1, (a0.getD x135.toNat (Ty.dflt Y40)).2.2.2.1, (a0.getD x135.toNat (Ty.dflt Y40)).2.2.2.2.1, (a0.getD x135.toNat (Ty.dflt Y40)).2.2.2.2.2.1, [], rfl, h⟩
        · rintro s ⟨x189, x190, x191, x192, x193, x194, x195, rfl, h⟩
          unfold F23_j1 at h
          refine VW.region ?_
          refine VO.seg T_ok .dp 2 [0, 4, 32, 33] [0, 2] (s' := ⟨[(0, .lf (.v (.sl Y40) a0)), (4, I x135), (32, .lf (.hd 0 0 none)), (33, .agg [.v (.int .i64) x189, .v .str x190, .v (.int .i64) x191, .v (.int .i64) x192, .v (.int .i64) x193, .v .bool x194, .hd 1 0 none])], [ar 0 Y40 x134 .dp, ar 0 (.int .i64) x195 .dp]⟩) (φ := True ∧ True ∧ True) (by kernel_rfl) ⟨trivial, trivial, trivial⟩ ?_
          refine VO.litA (d := 34) (v := .lf (.hd 2 0 none)) (H' := [ar 0 Y40 x134 .dp, none, ar 0 Y40 ([(x189, (x190, (x191, (x192, (x193, (x194, x195))))))]) .dp]) T_ok (by kernel_rfl) ?_
          obtain ⟨g196, h⟩ := gd_some h
          refine VO.appM (d := 35) (φ := x134.length + ([(x189, (x190, (x191, (x192, (x193, (x194, x195))))))]).length ≤ lim Y40) (v := .lf (.hd 0 1 none)) (H' := [ar 1 Y40 (x134 ++ ([(x189, (x190, (x191, (x192, (x193, (x194, x195))))))])) .dp, none, none]) T_ok (by kernel_rfl) g196 ?_
          refine VO.seg T_ok .dp 1 [0, 3, 4] [0] (s' := ⟨[(0, .lf (.v (.sl Y40) a0)), (3, .lf (.hd 0 0 none)), (4, I x135)], [ar 0 Y40 (x134 ++ ([(x189, (x190, (x191, (x192, (x193, (x194, x195))))))])) .dp]⟩) (φ := True ∧ True) (by kernel_rfl) ⟨trivial, trivial⟩ ?_
          refine VO.nil ?_
          show VW _ _ _ _ _ _ _
          refine VW.region ?_
          refine VO.seg T_ok .dp 3 [0, 3, 4] [0] (s' := ⟨[(0, .lf (.v (.sl Y40) a0)), (3, .lf (.hd 0 0 none)), (4, I (IntKind.i64.wrap (x135 + (1 : Int))))], [ar 0 Y40 (x134 ++ ([(x189, (x190, (x191, (x192, (x193, (x194, x195))))))])) .dp]⟩) (φ := True ∧ True ∧ True ∧ True) (by kernel_rfl) ⟨trivial, trivial, trivial, trivial⟩ ?_
          refine VO.nil ?_
          exact around [.ren [0, 3, 4] [0]] (by kernel_rfl) ⟨(x134 ++ ([(x189, (x190, (x191, (x192, (x193, (x194, x195))))))])), (IntKind.i64.wrap (x135 + (1 : Int))), rfl, h⟩
      · replace h := cond_f h hb; clear hb
        refine VW.exit ?_
        exact arrive [.ren [3] [0]] (by kernel_rfl) ⟨x134, rfl, h⟩
  · rintro s ⟨x100, rfl, h⟩
    unfold F23_j0 at h
    refine VW.seq ?_
    refine VW.region ?_
    refine VO.seg T_ok .dp 2 [2] [0] (s' := ⟨[(2, .lf (.hd 0 0 none))], [ar 0 Y40 x100 .dp]⟩) (φ := True ∧ True ∧ True) (by kernel_rfl) ⟨trivial, trivial, trivial⟩ ?_
    refine VO.nil ?_
    show VW _ _ _ _ _ _ _
    refine VW.ret ?_
    replace h := Option.some.inj h
    subst h
    exact retR [some 0] (by kernel_rfl) rfl

/- loop.example/g00844/laws.toIntS -/
def F9_j0 (N : Nat) (x24 : (List Int)) : Option ((List Int)) :=
  some x24
def F9_l0_b (N : Nat) (a0 : (List Int)) (nx41 : (List Int) → Int → Option ((List Int))) (x33 : (List Int)) (x34 : Int) : Option ((List Int)) :=
  cond (decide (x34 < (a0.length : Int))) (gd (InR x34 a0.length) (gd (InR x34 x33.length) (gd (x34.toNat < x33.length) (nx41 (x33.set x34.toNat (a0.getD x34.toNat (Ty.dflt (.int .i64)))) (IntKind.i64.wrap (x34 + (1 : Int))))))) (F9_j0 N x33)
def F9_l0 (N : Nat) (a0 : (List Int)) : Nat → (List Int) → Int → Option ((List Int)) := loopF (F9_l0_b N a0) (fun _ _ => none)
theorem F9_l0_s (N : Nat) (a0 : (List Int)) {k : Nat} (hk : 0 < k) (x33 : (List Int)) (x34 : Int) : F9_l0 N a0 k x33 x34 = F9_l0_b N a0 (F9_l0 N a0 (k - 1)) x33 x34 := by
  cases k with
  | zero => exact absurd hk (Nat.lt_irrefl 0)
  | succ m => rfl
def F9 (N : Nat) (a0 : (List Int)) : Option ((List Int)) :=
  gd (0 ≤ (a0.length : Int) ∧ (a0.length : Int) ≤ (lim (.int .i64) : Int) ∧ (a0.length : Int) = (a0.length : Int)) (F9_l0 N a0 N (List.replicate (a0.length : Int).toNat (Ty.dflt (.int .i64))) (0 : Int))
theorem ok9 (N : Nat) (a0 : (List Int)) {r : (List Int)} (h : F9 N a0 = some r) : Con Go.Proofs.Try.prog 9 [.lf (.v (.sl (.int .i64)) a0)] [.lf (.own (.int .i64) r .dp)] := by
  refine ⟨enters_of Go.Proofs.Try.func9 rfl (by decide), HC.intro [.lf (.own (.int .i64) .dp)] T_ok Go.Proofs.Try.func9 rfl (Nat.le_of_ble_eq_true rfl) (Nat.le_of_ble_eq_true rfl) fun w0 E0 => ?_⟩
  unfold F9 at h
  show VW _ _ _ _ _ (retQ _ _ _ _) _
  refine VW.seq ?_
  refine VW.region ?_
  refine VO.seg T_ok .dp 1 [0] [] (s' := ⟨[(0, .lf (.v (.sl (.int .i64)) a0))], []⟩) (φ := True ∧ True) (by kernel_rfl) ⟨trivial, trivial⟩ ?_
  refine VO.nil ?_
  show VW _ _ _ _ _ _ _
  refine VW.seq ?_
  refine VW.region ?_
  obtain ⟨g1, h⟩ := gd_some h
  refine VO.seg T_ok .dp 4 [0, 3] [0] (s' := ⟨[(0, .lf (.v (.sl (.int .i64)) a0)), (3, .lf (.hd 0 0 none))], [ar 0 (.int .i64) (List.replicate (a0.length : Int).toNat (Ty.dflt (.int .i64))) .dp]⟩) (φ := True ∧ True ∧ (0 ≤ (a0.length : Int) ∧ (a0.length : Int) ≤ (lim (.int .i64) : Int) ∧ (a0.length : Int) = (a0.length : Int)) ∧ True ∧ True) (by kernel_rfl) ⟨trivial, trivial, g1, trivial, trivial⟩ ?_
  refine VO.nil ?_
  show VW _ _ _ _ _ _ _
  refine VW.join (fun s => ∃ (x24 : (List Int)), s = ⟨[(3, .lf (.hd 0 0 none))], [ar 0 (.int .i64) x24 .dp]⟩ ∧ F9_j0 N x24 = some r) ?_ ?_
  · refine VW.seq ?_
    refine VW.region ?_
    refine VO.seg T_ok .dp 1 [0, 3, 4] [0] (s' := ⟨[(0, .lf (.v (.sl (.int .i64)) a0)), (3, .lf (.hd 0 0 none)), (4, I (0 : Int))], [ar 0 (.int .i64) (List.replicate (a0.length : Int).toNat (Ty.dflt (.int .i64))) .dp]⟩) (φ := True ∧ True) (by kernel_rfl) ⟨trivial, trivial⟩ ?_
    refine VO.nil ?_
    show VW _ _ _ _ _ _ _
    refine VW.block ?_
    refine VW.loopL (fun k s => ∃ (x33 : (List Int)) (x34 : Int), s = ⟨[(0, .lf (.v (.sl (.int .i64)) a0)), (3, .lf (.hd 0 0 none)), (4, I x34)], [ar 0 (.int .i64) x33 .dp]⟩ ∧ F9_l0 N a0 k x33 x34 = some r) N [.ren [0, 3, 4] [0]] (by kernel_rfl) ⟨(List.replicate (a0.length : Int).toNat (Ty.dflt (.int .i64))), (0 : Int), rfl, h⟩ ?_
    rintro k41 s ⟨x33, x34, rfl, h⟩
    cases k41 with
    | zero => exact nomatch (show (none : Option ((List Int))) = some r from h)
    | succ k41 =>
      replace h : F9_l0_b N a0 (F9_l0 N a0 k41) x33 x34 = some r := h
      unfold F9_l0_b at h
      refine VW.seq ?_
      refine VW.seq ?_
      refine VW.region ?_
      refine VO.seg T_ok .dp 4 [0, 3, 4, 11] [0] (s' := ⟨[(0, .lf (.v (.sl (.int .i64)) a0)), (3, .lf (.hd 0 0 none)), (4, I x34), (11, B (decide (x34 < (a0.length : Int))))], [ar 0 (.int .i64) x33 .dp]⟩) (φ := True ∧ True ∧ True ∧ True ∧ True) (by kernel_rfl) ⟨trivial, trivial, trivial, trivial, trivial⟩ ?_
      refine VO.nil ?_
      show VW _ _ _ _ _ _ _
      refine VW.cond (b := (decide (x34 < (a0.length : Int)))) (by kernel_rfl) (fun hb => ?_) (fun hb => ?_)
      · replace h := cond_t h hb; clear hb
        refine VW.skip ?_
        show VW _ _ _ _ _ _ _
        refine VW.seq ?_
        refine VW.block ?_
        refine VW.region ?_
        obtain ⟨g45, h⟩ := gd_some h
        obtain ⟨g46, h⟩ := gd_some h
        obtain ⟨g47, h⟩ := gd_some h
        refine VO.seg T_ok .dp 8 [0, 3, 4] [0] (s' := ⟨[(0, .lf (.v (.sl (.int .i64)) a0)), (3, .lf (.hd 0 0 none)), (4, I x34)], [ar 0 (.int .i64) (x33.set x34.toNat (a0.getD x34.toNat (Ty.dflt (.int .i64)))) .dp]⟩) (φ := True ∧ True ∧ True ∧ True ∧ (InR x34 a0.length) ∧ True ∧ (InR x34 x33.length) ∧ (x34.toNat < x33.length) ∧ True) (by kernel_rfl) ⟨trivial, trivial, trivial, trivial, g45, trivial, g46, g47, trivial⟩ ?_
        refine VO.nil ?_
        show VW _ _ _ _ _ _ _
        refine VW.region ?_
        refine VO.seg T_ok .dp 3 [0, 3, 4] [0] (s' := ⟨[(0, .lf (.v (.sl (.int .i64)) a0)), (3, .lf (.hd 0 0 none)), (4, I (IntKind.i64.wrap (x34 + (1 : Int))))], [ar 0 (.int .i64) (x33.set x34.toNat (a0.getD x34.toNat (Ty.dflt (.int .i64)))) .dp]⟩) (φ := True ∧ True ∧ True ∧ True) (by kernel_rfl) ⟨trivial, trivial, trivial, trivial⟩ ?_
        refine VO.nil ?_
        exact around [.ren [0, 3, 4] [0]] (by kernel_rfl) ⟨(x33.set x34.toNat (a0.getD x34.toNat (Ty.dflt (.int .i64)))), (IntKind.i64.wrap (x34 + (1 : Int))), rfl, h⟩
      · replace h := cond_f h hb; clear hb
        refine VW.exit ?_
        exact arrive [.ren [3] [0]] (by kernel_rfl) ⟨x33, rfl, h⟩
  · rintro s ⟨x24, rfl, h⟩
    unfold F9_j0 at h
    refine VW.seq ?_
    refine VW.region ?_
    refine VO.seg T_ok .dp 2 [2] [0] (s' := ⟨[(2, .lf (.hd 0 0 none))], [ar 0 (.int .i64) x24 .dp]⟩) (φ := True ∧ True ∧ True) (by kernel_rfl) ⟨trivial, trivial, trivial⟩ ?_
    refine VO.nil ?_
    show VW _ _ _ _ _ _ _
    refine VW.ret ?_
    replace h := Option.some.inj h
    subst h
    exact retR [some 0] (by kernel_rfl) rfl

/- loop.example/g00844/laws.toNode -/
def F24 (N : Nat) (a0 : (Int × (ByteArray × (Int × (Int × (Int × (Bool × (List Int)))))))) : Option ((Int × (ByteArray × (Int × (Int × (Int × (Bool × (List Int)))))))) :=
  andO (F9 N a0.2.2.2.2.2.2) fun y1 => some (a0.1, (a0.2.1, (a0.2.2.1, (a0.2.2.2.1, (a0.2.2.2.2.1, (a0.2.2.2.2.2.1, y1))))))
theorem ok24 (N : Nat) (a0 : (Int × (ByteArray × (Int × (Int × (Int × (Bool × (List Int)))))))) {r : (Int × (ByteArray × (Int × (Int × (Int × (Bool × (List Int)))))))} (h : F24 N a0 = some r) : Con Go.Proofs.Try.prog 24 [.agg [.v (.int .i64) a0.1, .v .str a0.2.1, .v (.int .i64) a0.2.2.1, .v (.int .i64) a0.2.2.2.1, .v (.int .i64) a0.2.2.2.2.1, .v .bool a0.2.2.2.2.2.1, .v (.sl (.int .i64)) a0.2.2.2.2.2.2]] [.agg [.v (.int .i64) r.1, .v .str r.2.1, .v (.int .i64) r.2.2.1, .v (.int .i64) r.2.2.2.1, .v (.int .i64) r.2.2.2.2.1, .v .bool r.2.2.2.2.2.1, .own (.int .i64) r.2.2.2.2.2.2 .dp]] := by
  refine ⟨enters_of Go.Proofs.Try.func24 rfl (by decide), HC.intro [.agg [.v (.int .i64), .v .str, .v (.int .i64), .v (.int .i64), .v (.int .i64), .v .bool, .own (.int .i64) .dp]] T_ok Go.Proofs.Try.func24 rfl (Nat.le_of_ble_eq_true rfl) (Nat.le_of_ble_eq_true rfl) fun w0 E0 => ?_⟩
  unfold F24 at h
  show VW _ _ _ _ _ (retQ _ _ _ _) _
  refine VW.seq ?_
  refine VW.region ?_
  refine VO.seg T_ok .dp 2 [1, 2] [0, 1] (s' := ⟨[(1, .lf (.ptr 0 0 0 0)), (2, .lf (.ptr 1 0 0 0))], [bx [.v (.int .i64) a0.1, .v .str a0.2.1, .v (.int .i64) a0.2.2.1, .v (.int .i64) a0.2.2.2.1, .v (.int .i64) a0.2.2.2.2.1, .v .bool a0.2.2.2.2.2.1, .v (.sl (.int .i64)) a0.2.2.2.2.2.2] 41, bx [.v (.int .i64) (0 : Int), .v .str ByteArray.empty, .v (.int .i64) (0 : Int), .v (.int .i64) (0 : Int), .v (.int .i64) (0 : Int), .v .bool false, .nil] 44]⟩) (φ := True ∧ True ∧ True) (by kernel_rfl) ⟨trivial, trivial, trivial⟩ ?_
  refine VO.nil ?_
  show VW _ _ _ _ _ _ _
  refine VW.seq ?_
  refine VW.region ?_
  refine VO.seg T_ok .dp 1 [1, 2, 3] [0, 1, 2] (s' := ⟨[(1, .lf (.ptr 0 0 0 0)), (2, .lf (.ptr 1 0 0 0)), (3, .lf (.ptr 2 0 0 0))], [bx [.v (.int .i64) a0.1, .v .str a0.2.1, .v (.int .i64) a0.2.2.1, .v (.int .i64) a0.2.2.2.1, .v (.int .i64) a0.2.2.2.2.1, .v .bool a0.2.2.2.2.2.1, .v (.sl (.int .i64)) a0.2.2.2.2.2.2] 41, bx [.v (.int .i64) (0 : Int), .v .str ByteArray.empty, .v (.int .i64) (0 : Int), .v (.int .i64) (0 : Int), .v (.int .i64) (0 : Int), .v .bool false, .nil] 44, bx [.v (.int .i64) (0 : Int), .v .str ByteArray.empty, .v (.int .i64) (0 : Int), .v (.int .i64) (0 : Int), .v (.int .i64) (0 : Int), .v .bool false, .nil] 44]⟩) (φ := True ∧ True) (by kernel_rfl) ⟨trivial, trivial⟩ ?_
  refine VO.nil ?_
  show VW _ _ _ _ _ _ _
  refine VW.seq ?_
  refine VW.region ?_
  refine VO.seg T_ok .dp 4 [1, 2, 3] [0, 1, 2] (s' := ⟨[(1, .lf (.ptr 0 0 0 0)), (2, .lf (.ptr 1 0 0 0)), (3, .lf (.ptr 2 0 0 0))], [bx [.v (.int .i64) a0.1, .v .str a0.2.1, .v (.int .i64) a0.2.2.1, .v (.int .i64) a0.2.2.2.1, .v (.int .i64) a0.2.2.2.2.1, .v .bool a0.2.2.2.2.2.1, .v (.sl (.int .i64)) a0.2.2.2.2.2.2] 41, bx [.v (.int .i64) (0 : Int), .v .str ByteArray.empty, .v (.int .i64) (0 : Int), .v (.int .i64) (0 : Int), .v (.int .i64) (0 : Int), .v .bool false, .nil] 44, bx [.v (.int .i64) a0.1, .v .str ByteArray.empty, .v (.int .i64) (0 : Int), .v (.int .i64) (0 : Int), .v (.int .i64) (0 : Int), .v .bool false, .nil] 44]⟩) (φ := True ∧ True ∧ True ∧ True ∧ True) (by kernel_rfl) ⟨trivial, trivial, trivial, trivial, trivial⟩ ?_
  refine VO.nil ?_
  show VW _ _ _ _ _ _ _
  refine VW.seq ?_
  refine VW.region ?_
  refine VO.seg T_ok .dp 4 [1, 2, 3] [0, 1, 2] (s' := ⟨[(1, .lf (.ptr 0 0 0 0)), (2, .lf (.ptr 1 0 0 0)), (3, .lf (.ptr 2 0 0 0))], [bx [.v (.int .i64) a0.1, .v .str a0.2.1, .v (.int .i64) a0.2.2.1, .v (.int .i64) a0.2.2.2.1, .v (.int .i64) a0.2.2.2.2.1, .v .bool a0.2.2.2.2.2.1, .v (.sl (.int .i64)) a0.2.2.2.2.2.2] 41, bx [.v (.int .i64) (0 : Int), .v .str ByteArray.empty, .v (.int .i64) (0 : Int), .v (.int .i64) (0 : Int), .v (.int .i64) (0 : Int), .v .bool false, .nil] 44, bx [.v (.int .i64) a0.1, .v .str a0.2.1, .v (.int .i64) (0 : Int), .v (.int .i64) (0 : Int), .v (.int .i64) (0 : Int), .v .bool false, .nil] 44]⟩) (φ := True ∧ True ∧ True ∧ True ∧ True) (by kernel_rfl) ⟨trivial, trivial, trivial, trivial, trivial⟩ ?_
  refine VO.nil ?_
  show VW _ _ _ _ _ _ _
  refine VW.seq ?_
  refine VW.region ?_
  refine VO.seg T_ok .dp 4 [1, 2, 3] [0, 1, 2] (s' := ⟨[(1, .lf (.ptr 0 0 0 0)), (2, .lf (.ptr 1 0 0 0)), (3, .lf (.ptr 2 0 0 0))], [bx [.v (.int .i64) a0.1, .v .str a0.2.1, .v (.int .i64) a0.2.2.1, .v (.int .i64) a0.2.2.2.1, .v (.int .i64) a0.2.2.2.2.1, .v .bool a0.2.2.2.2.2.1, .v (.sl (.int .i64)) a0.2.2.2.2.2.2] 41, bx [.v (.int .i64) (0 : Int), .v .str ByteArray.empty, .v (.int .i64) (0 : Int), .v (.int .i64) (0 : Int), .v (.int .i64) (0 : Int), .v .bool false, .nil] 44, bx [.v (.int .i64) a0.1, .v .str a0.2.1, .v (.int .i64) a0.2.2.1, .v (.int .i64) (0 : Int), .v (.int .i64) (0 : Int), .v .bool false, .nil] 44]⟩) (φ := True ∧ True ∧ True ∧ True ∧ True) (by kernel_rfl) ⟨trivial, trivial, trivial, trivial, trivial⟩ ?_
  refine VO.nil ?_
  show VW _ _ _ _ _ _ _
  refine VW.seq ?_
  refine VW.region ?_
  refine VO.seg T_ok .dp 4 [1, 2, 3] [0, 1, 2] (s' := ⟨[(1, .lf (.ptr 0 0 0 0)), (2, .lf (.ptr 1 0 0 0)), (3, .lf (.ptr 2 0 0 0))], [bx [.v (.int .i64) a0.1, .v .str a0.2.1, .v (.int .i64) a0.2.2.1, .v (.int .i64) a0.2.2.2.1, .v (.int .i64) a0.2.2.2.2.1, .v .bool a0.2.2.2.2.2.1, .v (.sl (.int .i64)) a0.2.2.2.2.2.2] 41, bx [.v (.int .i64) (0 : Int), .v .str ByteArray.empty, .v (.int .i64) (0 : Int), .v (.int .i64) (0 : Int), .v (.int .i64) (0 : Int), .v .bool false, .nil] 44, bx [.v (.int .i64) a0.1, .v .str a0.2.1, .v (.int .i64) a0.2.2.1, .v (.int .i64) a0.2.2.2.1, .v (.int .i64) (0 : Int), .v .bool false, .nil] 44]⟩) (φ := True ∧ True ∧ True ∧ True ∧ True) (by kernel_rfl) ⟨trivial, trivial, trivial, trivial, trivial⟩ ?_
  refine VO.nil ?_
  show VW _ _ _ _ _ _ _
  refine VW.seq ?_
  refine VW.region ?_
  refine VO.seg T_ok .dp 4 [1, 2, 3] [0, 1, 2] (s' := ⟨[(1, .lf (.ptr 0 0 0 0)), (2, .lf (.ptr 1 0 0 0)), (3, .lf (.ptr 2 0 0 0))], [bx [.v (.int .i64) a0.1, .v .str a0.2.1, .v (.int .i64) a0.2.2.1, .v (.int .i64) a0.2.2.2.1, .v (.int .i64) a0.2.2.2.2.1, .v .bool a0.2.2.2.2.2.1, .v (.sl (.int .i64)) a0.2.2.2.2.2.2] 41, bx [.v (.int .i64) (0 : Int), .v .str ByteArray.empty, .v (.int .i64) (0 : Int), .v (.int .i64) (0 : Int), .v (.int .i64) (0 : Int), .v .bool false, .nil] 44, bx [.v (.int .i64) a0.1, .v .str a0.2.1, .v (.int .i64) a0.2.2.1, .v (.int .i64) a0.2.2.2.1, .v (.int .i64) a0.2.2.2.2.1, .v .bool false, .nil] 44]⟩) (φ := True ∧ True ∧ True ∧ True ∧ True) (by kernel_rfl) ⟨trivial, trivial, trivial, trivial, trivial⟩ ?_
  refine VO.nil ?_
  show VW _ _ _ _ _ _ _
  refine VW.seq ?_
  refine VW.region ?_
  refine VO.seg T_ok .dp 4 [1, 2, 3] [0, 1, 2] (s' := ⟨[(1, .lf (.ptr 0 0 0 0)), (2, .lf (.ptr 1 0 0 0)), (3, .lf (.ptr 2 0 0 0))], [bx [.v (.int .i64) a0.1, .v .str a0.2.1, .v (.int .i64) a0.2.2.1, .v (.int .i64) a0.2.2.2.1, .v (.int .i64) a0.2.2.2.2.1, .v .bool a0.2.2.2.2.2.1, .v (.sl (.int .i64)) a0.2.2.2.2.2.2] 41, bx [.v (.int .i64) (0 : Int), .v .str ByteArray.empty, .v (.int .i64) (0 : Int), .v (.int .i64) (0 : Int), .v (.int .i64) (0 : Int), .v .bool false, .nil] 44, bx [.v (.int .i64) a0.1, .v .str a0.2.1, .v (.int .i64) a0.2.2.1, .v (.int .i64) a0.2.2.2.1, .v (.int .i64) a0.2.2.2.2.1, .v .bool a0.2.2.2.2.2.1, .nil] 44]⟩) (φ := True ∧ True ∧ True ∧ True ∧ True) (by kernel_rfl) ⟨trivial, trivial, trivial, trivial, trivial⟩ ?_
  refine VO.nil ?_
  show VW _ _ _ _ _ _ _
  refine VW.seq ?_
  refine VW.region ?_
  refine VO.seg T_ok .dp 2 [2, 3, 23] [1, 2] (s' := ⟨[(2, .lf (.ptr 0 0 0 0)), (3, .lf (.ptr 1 0 0 0)), (23, .lf (.v (.sl (.int .i64)) a0.2.2.2.2.2.2))], [bx [.v (.int .i64) (0 : Int), .v .str ByteArray.empty, .v (.int .i64) (0 : Int), .v (.int .i64) (0 : Int), .v (.int .i64) (0 : Int), .v .bool false, .nil] 44, bx [.v (.int .i64) a0.1, .v .str a0.2.1, .v (.int .i64) a0.2.2.1, .v (.int .i64) a0.2.2.2.1, .v (.int .i64) a0.2.2.2.2.1, .v .bool a0.2.2.2.2.2.1, .nil] 44]⟩) (φ := True ∧ True ∧ True) (by kernel_rfl) ⟨trivial, trivial, trivial⟩ ?_
  obtain ⟨y1, hy, h⟩ := andO_some h
  refine VO.call false [.t (.sl (.int .i64))] [] T_ok (d := some 24) (by kernel_rfl) (ok9 N _ hy) rfl ?_
  refine VO.seg T_ok .dp 2 [2, 3] [0, 1, 2] (s' := ⟨[(2, .lf (.ptr 0 0 0 0)), (3, .lf (.ptr 1 0 0 0))], [bx [.v (.int .i64) (0 : Int), .v .str ByteArray.empty, .v (.int .i64) (0 : Int), .v (.int .i64) (0 : Int), .v (.int .i64) (0 : Int), .v .bool false, .nil] 44, bx [.v (.int .i64) a0.1, .v .str a0.2.1, .v (.int .i64) a0.2.2.1, .v (.int .i64) a0.2.2.2.1, .v (.int .i64) a0.2.2.2.2.1, .v .bool a0.2.2.2.2.2.1, .hd 2 0 none] 44, ar 0 (.int .i64) y1 .dp]⟩) (φ := True ∧ True ∧ True) (by kernel_rfl) ⟨trivial, trivial, trivial⟩ ?_
  refine VO.nil ?_
  show VW _ _ _ _ _ _ _
  refine VW.seq ?_
  refine VW.region ?_
  refine VO.seg T_ok .dp 2 [2] [0, 2] (s' := ⟨[(2, .lf (.ptr 0 0 0 0))], [bx [.v (.int .i64) a0.1, .v .str a0.2.1, .v (.int .i64) a0.2.2.1, .v (.int .i64) a0.2.2.2.1, .v (.int .i64) a0.2.2.2.2.1, .v .bool a0.2.2.2.2.2.1, .hd 1 0 none] 44, ar 0 (.int .i64) y1 .dp]⟩) (φ := True ∧ True ∧ True) (by kernel_rfl) ⟨trivial, trivial, trivial⟩ ?_
  refine VO.nil ?_
  show VW _ _ _ _ _ _ _
  refine VW.ret ?_
  replace h := Option.some.inj h
  subst h
  exact retR [some 1] (by kernel_rfl) rfl

/- loop.example/g00844/laws.toNodeS -/
def F8_j0 (N : Nat) (x30 : (List (Int × (ByteArray × (Int × (Int × (Int × (Bool × (List Int))))))))) : Option ((List (Int × (ByteArray × (Int × (Int × (Int × (Bool × (List Int))))))))) :=
  some x30
def F8_l0_b (N : Nat) (a0 : (List (Int × (ByteArray × (Int × (Int × (Int × (Bool × (List Int))))))))) (nx51 : (List (Int × (ByteArray × (Int × (Int × (Int × (Bool × (List Int)))))))) → Int → Option ((List (Int × (ByteArray × (Int × (Int × (Int × (Bool × (List Int)))))))))) (x41 : (List (Int × (ByteArray × (Int × (Int × (Int × (Bool × (List Int))))))))) (x42 : Int) : Option ((List (Int × (ByteArray × (Int × (Int × (Int × (Bool × (List Int))))))))) :=
  cond (decide (x42 < (a0.length : Int))) (gd (InR x42 a0.length) (andO (F24 N (a0.getD x42.toNat (Ty.dflt Y40))) fun y57 => gd (InR x42 x41.length) (gd (x42.toNat < x41.length) (nx51 (x41.set x42.toNat y57) (IntKind.i64.wrap (x42 + (1 : Int))))))) (F8_j0 N x41)
def F8_l0 (N : Nat) (a0 : (List (Int × (ByteArray × (Int × (Int × (Int × (Bool × (List Int))))))))) : Nat → (List (Int × (ByteArray × (Int × (Int × (Int × (Bool × (List Int)))))))) → Int → Option ((List (Int × (ByteArray × (Int × (Int × (Int × (Bool × (List Int))))))))) := loopF (F8_l0_b N a0) (fun _ _ => none)
theorem F8_l0_s (N : Nat) (a0 : (List (Int × (ByteArray × (Int × (Int × (Int × (Bool × (List Int))))))))) {k : Nat} (hk : 0 < k) (x41 : (List (Int × (ByteArray × (Int × (Int × (Int × (Bool × (List Int))))))))) (x42 : Int) : F8_l0 N a0 k x41 x42 = F8_l0_b N a0 (F8_l0 N a0 (k - 1)) x41 x42 := by
  cases k with
  | zero => exact absurd hk (Nat.lt_irrefl 0)
  | succ m => rfl
def F8 (N : Nat) (a0 : (List (Int × (ByteArray × (Int × (Int × (Int × (Bool × (List Int))))))))) : Option ((List (Int × (ByteArray × (Int × (Int × (Int × (Bool × (List Int))))))))) :=
  gd (0 ≤ (a0.length : Int) ∧ (a0.length : Int) ≤ (lim Y40 : Int) ∧ (a0.length : Int) = (a0.length : Int)) (F8_l0 N a0 N (List.replicate (a0.length : Int).toNat (Ty.dflt Y40)) (0 : Int))
theorem ok8 (N : Nat) (a0 : (List (Int × (ByteArray × (Int × (Int × (Int × (Bool × (List Int))))))))) {r : (List (Int × (ByteArray × (Int × (Int × (Int × (Bool × (List Int))))))))} (h : F8 N a0 = some r) : Con Go.Proofs.Try.prog 8 [.lf (.v (.sl Y40) a0)] [.lf (.own Y40 r .dp)] := by
  refine ⟨enters_of Go.Proofs.Try.func8 rfl (by decide), HC.intro [.lf (.own Y40 .dp)] T_ok Go.Proofs.Try.func8 rfl (Nat.le_of_ble_eq_true rfl) (Nat.le_of_ble_eq_true rfl) fun w0 E0 => ?_⟩
  unfold F8 at h
  show VW _ _ _ _ _ (retQ _ _ _ _) _
  refine VW.seq ?_
  refine VW.region ?_
  refine VO.seg T_ok .dp 1 [0] [] (s' := ⟨[(0, .lf (.v (.sl Y40) a0))], []⟩) (φ := True ∧ True) (by kernel_rfl) ⟨trivial, trivial⟩ ?_
  refine VO.nil ?_
  show VW _ _ _ _ _ _ _
  refine VW.seq ?_
  refine VW.region ?_
  obtain ⟨g1, h⟩ := gd_some h
  refine VO.seg T_ok .dp 4 [0, 3] [0] (s' := ⟨[(0, .lf (.v (.sl Y40) a0)), (3, .lf (.hd 0 0 none))], [ar 0 Y40 (List.replicate (a0.length : Int).toNat (Ty.dflt Y40)) .dp]⟩) (φ := True ∧ True ∧ (0 ≤ (a0.length : Int) ∧ (a0.length : Int) ≤ (lim Y40 : Int) ∧ (a0.length : Int) = (a0.length : Int)) ∧ True ∧ True) (by kernel_rfl) ⟨trivial, trivial, g1, trivial, trivial⟩ ?_
  refine VO.nil ?_
  show VW _ _ _ _ _ _ _
  refine VW.join (fun s => ∃ (x30 : (List (Int × (ByteArray × (Int × (Int × (Int × (Bool × (List Int))))))))), s = ⟨[(3, .lf (.hd 0 0 none))], [ar 0 Y40 x30 .dp]⟩ ∧ F8_j0 N x30 = some r) ?_ ?_
  · refine VW.seq ?_
    refine VW.region ?_
    refine VO.seg T_ok .dp 1 [0, 3, 4] [0] (s' := ⟨[(0, .lf (.v (.sl Y40) a0)), (3, .lf (.hd 0 0 none)), (4, I (0 : Int))], [ar 0 Y40 (List.replicate (a0.length : Int).toNat (Ty.dflt Y40)) .dp]⟩) (φ := True ∧ True) (by kernel_rfl) ⟨trivial, trivial⟩ ?_
    refine VO.nil ?_
    show VW _ _ _ _ _ _ _
    refine VW.block ?_
    refine VW.loopL (fun k s => ∃ (x41 : (List (Int × (ByteArray × (Int × (Int × (Int × (Bool × (List Int))))))))) (x42 : Int), s = ⟨[(0, .lf (.v (.sl Y40) a0)), (3, .lf (.hd 0 0 none)), (4, I x42)], [ar 0 Y40 x41 .dp]⟩ ∧ F8_l0 N a0 k x41 x42 = some r) N [.ren [0, 3, 4] [0]] (by kernel_rfl) ⟨(List.replicate (a0.length : Int).toNat (Ty.dflt Y40)), (0 : Int), rfl, h⟩ ?_
    rintro k51 s ⟨x41, x42, rfl, h⟩
    cases k51 with
    | zero => exact nomatch (show (none : Option ((List (Int × (ByteArray × (Int × (Int × (Int × (Bool × (List Int)))))))))) = some r from h)
    | succ k51 =>
      replace h : F8_l0_b N a0 (F8_l0 N a0 k51) x41 x42 = some r := h
      unfold F8_l0_b at h
      refine VW.seq ?_
      refine VW.seq ?_
      refine VW.region ?_
      refine VO.seg T_ok .dp 4 [0, 3, 4, 11] [0] (s' := ⟨[(0, .lf (.v (.sl Y40) a0)), (3, .lf (.hd 0 0 none)), (4, I x42), (11, B (decide (x42 < (a0.length : Int))))], [ar 0 Y40 x41 .dp]⟩) (φ := True ∧ True ∧ True ∧ True ∧ True) (by kernel_rfl) ⟨trivial, trivial, trivial, trivial, trivial⟩ ?_
      refine VO.nil ?_
      show VW _ _ _ _ _ _ _
      refine VW.cond (b := (decide (x42 < (a0.length : Int)))) (by kernel_rfl) (fun hb => ?_) (fun hb => ?_)
      · replace h := cond_t h hb; clear hb
        refine VW.skip ?_
        show VW _ _ _ _ _ _ _
        refine VW.seq ?_
        refine VW.block ?_
        refine VW.region ?_
        obtain ⟨g56, h⟩ := gd_some h
        refine VO.seg T_ok .dp 6 [0, 3, 4, 14, 15, 19] [0] (s' := ⟨[(0, .lf (.v (.sl Y40) a0)), (3, .lf (.hd 0 0 none)), (4, I x42), (14, .lf (.hd 0 0 none)), (15, I x42), (19, .agg [.v (.int .i64) ((a0.getD x42.toNat (Ty.dflt Y40)).1), .v .str ((a0.getD x42.toNat (Ty.dflt Y40)).2.1), .v (.int .i64) ((a0.getD x42.toNat (Ty.dflt Y40)).2.2.1), .v (.int .i64) ((a0.getD x42.toNat (Ty.dflt Y40)).2.2.2.1), .v (.int .i64) ((a0.getD x42.toNat (Ty.dflt Y40)).2.2.2.2.1), .v .bool ((a0.getD x42.toNat (Ty.dflt Y40)).2.2.2.2.2.1), .v (.sl (.int .i64)) ((a0.getD x42.toNat (Ty.dflt Y40)).2.2.2.2.2.2)])], [ar 0 Y40 x41 .dp]⟩) (φ := True ∧ True ∧ True ∧ True ∧ (InR x42 a0.length) ∧ True ∧ True) (by kernel_rfl) ⟨trivial, trivial, trivial, trivial, g56, trivial, trivial⟩ ?_
        obtain ⟨y57, hy, h⟩ := andO_some h
        refine VO.call false [.t Y40] [] T_ok (d := some 20) (by kernel_rfl) (ok24 N _ hy) rfl ?_
        obtain ⟨g58, h⟩ := gd_some h
        refine VO.seg T_ok .dp 1 [0, 3, 4, 20, 21] [0, 1] (s' := ⟨[(0, .lf (.v (.sl Y40) a0)), (3, .lf (.hd 0 0 none)), (4, I x42), (20, .agg [.v (.int .i64) y57.1, .v .str y57.2.1, .v (.int .i64) y57.2.2.1, .v (.int .i64) y57.2.2.2.1, .v (.int .i64) y57.2.2.2.2.1, .v .bool y57.2.2.2.2.2.1, .hd 1 0 none]), (21, .lf (.ptr 0 0 x42.toNat 0))], [ar 0 Y40 x41 .dp, ar 0 (.int .i64) y57.2.2.2.2.2.2 .dp]⟩) (φ := (InR x42 x41.length) ∧ True) (by kernel_rfl) ⟨g58, trivial⟩ ?_
        obtain ⟨g59, h⟩ := gd_some h
        refine VO.storeA (φ := x42.toNat < x41.length) (H' := [ar 0 Y40 (x41.set x42.toNat y57) .dp, none]) T_ok (by kernel_rfl) g59 ?_
        refine VO.seg T_ok .dp 0 [0, 3, 4] [0] (s' := ⟨[(0, .lf (.v (.sl Y40) a0)), (3, .lf (.hd 0 0 none)), (4, I x42)], [ar 0 Y40 (x41.set x42.toNat y57) .dp]⟩) (φ := True) (by kernel_rfl) trivial ?_
        refine VO.nil ?_
        show VW _ _ _ _ _ _ _
        refine VW.region ?_
        refine VO.seg T_ok .dp 3 [0, 3, 4] [0] (s' := ⟨[(0, .lf (.v (.sl Y40) a0)), (3, .lf (.hd 0 0 none)), (4, I (IntKind.i64.wrap (x42 + (1 : Int))))], [ar 0 Y40 (x41.set x42.toNat y57) .dp]⟩) (φ := True ∧ True ∧ True ∧ True) (by kernel_rfl) ⟨trivial, trivial, trivial, trivial⟩ ?_
        refine VO.nil ?_
        exact around [.ren [0, 3, 4] [0]] (by kernel_rfl) ⟨(x41.set x42.toNat y57), (IntKind.i64.wrap (x42 + (1 : Int))), rfl, h⟩
      · replace h := cond_f h hb; clear hb
        refine VW.exit ?_
        exact arrive [.ren [3] [0]] (by kernel_rfl) ⟨x41, rfl, h⟩
  · rintro s ⟨x30, rfl, h⟩
    unfold F8_j0 at h
    refine VW.seq ?_
    refine VW.region ?_
    refine VO.seg T_ok .dp 2 [2] [0] (s' := ⟨[(2, .lf (.hd 0 0 none))], [ar 0 Y40 x30 .dp]⟩) (φ := True ∧ True ∧ True) (by kernel_rfl) ⟨trivial, trivial, trivial⟩ ?_
    refine VO.nil ?_
    show VW _ _ _ _ _ _ _
    refine VW.ret ?_
    replace h := Option.some.inj h
    subst h
    exact retR [some 0] (by kernel_rfl) rfl

/- loop.example/g00844/impl.in -/
def F40 (N : Nat) (a0 : Int) (a1 : Int) (a2 : Int) : Option (Bool) :=
  cond (decide (a0 ≥ a1)) (some (decide (a0 ≤ a2))) (some false)
theorem ok40 (N : Nat) (a0 : Int) (a1 : Int) (a2 : Int) {r : Bool} (h : F40 N a0 a1 a2 = some r) : Con Go.Proofs.Try.prog 40 [I a0, I a1, I a2] [.lf (.v .bool r)] := by
  refine ⟨enters_of Go.Proofs.Try.func40 rfl (by decide), HC.intro [.lf (.v .bool)] T_ok Go.Proofs.Try.func40 rfl (Nat.le_of_ble_eq_true rfl) (Nat.le_of_ble_eq_true rfl) fun w0 E0 => ?_⟩
  unfold F40 at h
  show VW _ _ _ _ _ (retQ _ _ _ _) _
  refine VW.seq ?_
  refine VW.region ?_
  refine VO.seg T_ok .dp 1 [0, 1, 2] [] (s' := ⟨[(0, I a0), (1, I a1), (2, I a2)], []⟩) (φ := True ∧ True) (by kernel_rfl) ⟨trivial, trivial⟩ ?_
  refine VO.nil ?_
  show VW _ _ _ _ _ _ _
  refine VW.seq ?_
  refine VW.region ?_
  refine VO.seg T_ok .dp 4 [0, 2, 10] [] (s' := ⟨[(0, I a0), (2, I a2), (10, B (decide (a0 ≥ a1)))], []⟩) (φ := True ∧ True ∧ True ∧ True ∧ True) (by kernel_rfl) ⟨trivial, trivial, trivial, trivial, trivial⟩ ?_
  refine VO.splitB 10 (b := (decide (a0 ≥ a1))) (by kernel_rfl) (fun hb => ?_) (fun hb => ?_)
  · replace h := cond_t h hb; clear hb
    refine VO.seg T_ok .dp 5 [6] [] (s' := ⟨[(6, B (decide (a0 ≤ a2)))], []⟩) (φ := True ∧ True ∧ True ∧ True ∧ True ∧ True) (by kernel_rfl) ⟨trivial, trivial, trivial, trivial, trivial, trivial⟩ ?_
    refine VO.nil ?_
    show VW _ _ _ _ _ _ _
    refine VW.ret ?_
    replace h := Option.some.inj h
    subst h
    exact retR [] (by kernel_rfl) rfl
  · replace h := cond_f h hb; clear hb
    refine VO.seg T_ok .dp 5 [6] [] (s' := ⟨[(6, B false)], []⟩) (φ := True ∧ True ∧ True ∧ True ∧ True ∧ True) (by kernel_rfl) ⟨trivial, trivial, trivial, trivial, trivial, trivial⟩ ?_
    refine VO.nil ?_
    show VW _ _ _ _ _ _ _
    refine VW.ret ?_
    replace h := Option.some.inj h
    subst h
    exact retR [] (by kernel_rfl) rfl

/- slices.IndexFunc[[]loop.example/g00844/impl.Node,loop.example/g00844/impl.Node] -/
def F52_j0 (N : Nat) : Option (Int) :=
  some (-1 : Int)
def F52_l0_b (N : Nat) (a0 : (List (Int × (ByteArray × (Int × (Int × (Int × (Bool × (List Int))))))))) (p1 : (Int × (ByteArray × (Int × (Int × (Int × (Bool × (List Int))))))) → Option (Bool)) (nx29 : Int → Int → Option (Int)) (x23 : Int) (x24 : Int) : Option (Int) :=
  cond (decide (x24 < x23)) (gd (InR x24 a0.length) (andO (p1 (a0.getD x24.toNat (Ty.dflt Y40))) fun y33 => cond y33 (some x24) (nx29 x23 (IntKind.i64.wrap (x24 + (1 : Int)))))) (F52_j0 N)
def F52_l0 (N : Nat) (a0 : (List (Int × (ByteArray × (Int × (Int × (Int × (Bool × (List Int))))))))) (p1 : (Int × (ByteArray × (Int × (Int × (Int × (Bool × (List Int))))))) → Option (Bool)) : Nat → Int → Int → Option (Int) := loopF (F52_l0_b N a0 p1) (fun _ _ => none)
theorem F52_l0_s (N : Nat) (a0 : (List (Int × (ByteArray × (Int × (Int × (Int × (Bool × (List Int))))))))) (p1 : (Int × (ByteArray × (Int × (Int × (Int × (Bool × (List Int))))))) → Option (Bool)) {k : Nat} (hk : 0 < k) (x23 : Int) (x24 : Int) : F52_l0 N a0 p1 k x23 x24 = F52_l0_b N a0 p1 (F52_l0 N a0 p1 (k - 1)) x23 x24 := by
  cases k with
  | zero => exact absurd hk (Nat.lt_irrefl 0)
  | succ m => rfl
def F52 (N : Nat) (a0 : (List (Int × (ByteArray × (Int × (Int × (Int × (Bool × (List Int))))))))) (p1 : (Int × (ByteArray × (Int × (Int × (Int × (Bool × (List Int))))))) → Option (Bool)) : Option (Int) :=
  F52_l0 N a0 p1 N (a0.length : Int) (0 : Int)
theorem ok52 (N : Nat) (a0 : (List (Int × (ByteArray × (Int × (Int × (Int × (Bool × (List Int))))))))) (g1 : FuncId) (p1 : (Int × (ByteArray × (Int × (Int × (Int × (Bool × (List Int))))))) → Option (Bool)) (hp1 : ∀ (z0 : (Int × (ByteArray × (Int × (Int × (Int × (Bool × (List Int)))))))) (r : Bool), p1 z0 = some r → Con Go.Proofs.Try.prog g1 [.agg [.v (.int .i64) z0.1, .v .str z0.2.1, .v (.int .i64) z0.2.2.1, .v (.int .i64) z0.2.2.2.1, .v (.int .i64) z0.2.2.2.2.1, .v .bool z0.2.2.2.2.2.1, .v (.sl (.int .i64)) z0.2.2.2.2.2.2]] [.lf (.v .bool r)]) {r : Int} (h : F52 N a0 p1 = some r) : Con Go.Proofs.Try.prog 52 [.lf (.v (.sl Y40) a0), .clo g1 []] [.lf (.v (.int .i64) r)] := by
  refine ⟨enters_of Go.Proofs.Try.func52 rfl (by decide), HC.intro [.lf (.v (.int .i64))] T_ok Go.Proofs.Try.func52 rfl (Nat.le_of_ble_eq_true rfl) (Nat.le_of_ble_eq_true rfl) fun w0 E0 => ?_⟩
  unfold F52 at h
  show VW _ _ _ _ _ (retQ _ _ _ _) _
  refine VW.seq ?_
  refine VW.region ?_
  refine VO.seg T_ok .dp 1 [0, 1] [] (s' := ⟨[(0, .lf (.v (.sl Y40) a0)), (1, .clo g1 [])], []⟩) (φ := True ∧ True) (by kernel_rfl) ⟨trivial, trivial⟩ ?_
  refine VO.nil ?_
  show VW _ _ _ _ _ _ _
  refine VW.join (fun s => s = ⟨[], []⟩ ∧ F52_j0 N = some r) ?_ ?_
  · refine VW.seq ?_
    refine VW.region ?_
    refine VO.seg T_ok .dp 3 [0, 1, 7, 8] [] (s' := ⟨[(0, .lf (.v (.sl Y40) a0)), (1, .clo g1 []), (7, I (a0.length : Int)), (8, I (0 : Int))], []⟩) (φ := True ∧ True ∧ True ∧ True) (by kernel_rfl) ⟨trivial, trivial, trivial, trivial⟩ ?_
    refine VO.nil ?_
    show VW _ _ _ _ _ _ _
    refine VW.block ?_
    refine VW.loopL (fun k s => ∃ (x23 : Int) (x24 : Int), s = ⟨[(0, .lf (.v (.sl Y40) a0)), (1, .clo g1 []), (7, I x23), (8, I x24)], []⟩ ∧ F52_l0 N a0 p1 k x23 x24 = some r) N [.ren [0, 1, 7, 8] []] (by kernel_rfl) ⟨(a0.length : Int), (0 : Int), rfl, h⟩ ?_
    rintro k29 s ⟨x23, x24, rfl, h⟩
    cases k29 with
    | zero => exact nomatch (show (none : Option (Int)) = some r from h)
    | succ k29 =>
      replace h : F52_l0_b N a0 p1 (F52_l0 N a0 p1 k29) x23 x24 = some r := h
      unfold F52_l0_b at h
      refine VW.seq ?_
      refine VW.region ?_
      refine VO.seg T_ok .dp 1 [0, 1, 7, 8, 9] [] (s' := ⟨[(0, .lf (.v (.sl Y40) a0)), (1, .clo g1 []), (7, I x23), (8, I x24), (9, B (decide (x24 < x23)))], []⟩) (φ := True ∧ True) (by kernel_rfl) ⟨trivial, trivial⟩ ?_
      refine VO.nil ?_
      show VW _ _ _ _ _ _ _
      refine VW.seq ?_
      refine VW.cond (b := (decide (x24 < x23))) (by kernel_rfl) (fun hb => ?_) (fun hb => ?_)
      · replace h := cond_t h hb; clear hb
        refine VW.skip ?_
        show VW _ _ _ _ _ _ _
        refine VW.seq ?_
        refine VW.block ?_
        refine VW.seq ?_
        refine VW.region ?_
        refine VO.seg T_ok .dp 2 [0, 1, 5, 7, 8] [] (s' := ⟨[(0, .lf (.v (.sl Y40) a0)), (1, .clo g1 []), (5, I x24), (7, I x23), (8, I x24)], []⟩) (φ := True ∧ True ∧ True) (by kernel_rfl) ⟨trivial, trivial, trivial⟩ ?_
        refine VO.nil ?_
        show VW _ _ _ _ _ _ _
        refine VW.seq ?_
        refine VW.region ?_
        obtain ⟨g32, h⟩ := gd_some h
        refine VO.seg T_ok .dp 5 [0, 1, 5, 7, 8, 11, 15] [] (s' := ⟨[(0, .lf (.v (.sl Y40) a0)), (1, .clo g1 []), (5, I x24), (7, I x23), (8, I x24), (11, .clo g1 []), (15, .agg [.v (.int .i64) ((a0.getD x24.toNat (Ty.dflt Y40)).1), .v .str ((a0.getD x24.toNat (Ty.dflt Y40)).2.1), .v (.int .i64) ((a0.getD x24.toNat (Ty.dflt Y40)).2.2.1), .v (.int .i64) ((a0.getD x24.toNat (Ty.dflt Y40)).2.2.2.1), .v (.int .i64) ((a0.getD x24.toNat (Ty.dflt Y40)).2.2.2.2.1), .v .bool ((a0.getD x24.toNat (Ty.dflt Y40)).2.2.2.2.2.1), .v (.sl (.int .i64)) ((a0.getD x24.toNat (Ty.dflt Y40)).2.2.2.2.2.2)])], []⟩) (φ := True ∧ True ∧ True ∧ (InR x24 a0.length) ∧ True ∧ True) (by kernel_rfl) ⟨trivial, trivial, trivial, g32, trivial, trivial⟩ ?_
        obtain ⟨y33, hy, h⟩ := andO_some h
        refine VO.call false [.t Y40] [] T_ok (d := some 16) (by kernel_rfl) (hp1 _ _ hy) rfl ?_
        refine VO.seg T_ok .dp 0 [0, 1, 5, 7, 8, 16] [] (s' := ⟨[(0, .lf (.v (.sl Y40) a0)), (1, .clo g1 []), (5, I x24), (7, I x23), (8, I x24), (16, B y33)], []⟩) (φ := True) (by kernel_rfl) trivial ?_
        refine VO.nil ?_
        show VW _ _ _ _ _ _ _
        refine VW.cond (b := y33) (by kernel_rfl) (fun hb => ?_) (fun hb => ?_)
        · replace h := cond_t h hb; clear hb
          refine VW.seq ?_
          refine VW.region ?_
          refine VO.seg T_ok .dp 2 [4] [] (s' := ⟨[(4, I x24)], []⟩) (φ := True ∧ True ∧ True) (by kernel_rfl) ⟨trivial, trivial, trivial⟩ ?_
          refine VO.nil ?_
          show VW _ _ _ _ _ _ _
          refine VW.ret ?_
          replace h := Option.some.inj h
          subst h
          exact retR [] (by kernel_rfl) rfl
        · replace h := cond_f h hb; clear hb
          refine VW.skip ?_
          show VW _ _ _ _ _ _ _
          refine VW.region ?_
          refine VO.seg T_ok .dp 2 [0, 1, 7, 8] [] (s' := ⟨[(0, .lf (.v (.sl Y40) a0)), (1, .clo g1 []), (7, I x23), (8, I (IntKind.i64.wrap (x24 + (1 : Int))))], []⟩) (φ := True ∧ True ∧ True) (by kernel_rfl) ⟨trivial, trivial, trivial⟩ ?_
          refine VO.nil ?_
          exact around [.ren [0, 1, 7, 8] []] (by kernel_rfl) ⟨x23, (IntKind.i64.wrap (x24 + (1 : Int))), rfl, h⟩
      · replace h := cond_f h hb; clear hb
        refine VW.exit ?_
        exact arrive [.ren [] []] (by kernel_rfl) ⟨rfl, h⟩
  · rintro s ⟨rfl, h⟩
    unfold F52_j0 at h
    refine VW.seq ?_
    refine VW.region ?_
    refine VO.seg T_ok .dp 1 [4] [] (s' := ⟨[(4, I (-1 : Int))], []⟩) (φ := True ∧ True) (by kernel_rfl) ⟨trivial, trivial⟩ ?_
    refine VO.nil ?_
    show VW _ _ _ _ _ _ _
    refine VW.ret ?_
    replace h := Option.some.inj h
    subst h
    exact retR [] (by kernel_rfl) rfl

/- slices.ContainsFunc[[]loop.example/g00844/impl.Node,loop.example/g00844/impl.Node] -/
def F41 (N : Nat) (a0 : (List (Int × (ByteArray × (Int × (Int × (Int × (Bool × (List Int))))))))) (p1 : (Int × (ByteArray × (Int × (Int × (Int × (Bool × (List Int))))))) → Option (Bool)) : Option (Bool) :=
  andO (F52 N a0 p1) fun y1 => some (decide (y1 ≥ (0 : Int)))
theorem ok41 (N : Nat) (a0 : (List (Int × (ByteArray × (Int × (Int × (Int × (Bool × (List Int))))))))) (g1 : FuncId) (p1 : (Int × (ByteArray × (Int × (Int × (Int × (Bool × (List Int))))))) → Option (Bool)) (hp1 : ∀ (z0 : (Int × (ByteArray × (Int × (Int × (Int × (Bool × (List Int)))))))) (r : Bool), p1 z0 = some r → Con Go.Proofs.Try.prog g1 [.agg [.v (.int .i64) z0.1, .v .str z0.2.1, .v (.int .i64) z0.2.2.1, .v (.int .i64) z0.2.2.2.1, .v (.int .i64) z0.2.2.2.2.1, .v .bool z0.2.2.2.2.2.1, .v (.sl (.int .i64)) z0.2.2.2.2.2.2]] [.lf (.v .bool r)]) {r : Bool} (h : F41 N a0 p1 = some r) : Con Go.Proofs.Try.prog 41 [.lf (.v (.sl Y40) a0), .clo g1 []] [.lf (.v .bool r)] := by
  refine ⟨enters_of Go.Proofs.Try.func41 rfl (by decide), HC.intro [.lf (.v .bool)] T_ok Go.Proofs.Try.func41 rfl (Nat.le_of_ble_eq_true rfl) (Nat.le_of_ble_eq_true rfl) fun w0 E0 => ?_⟩
  unfold F41 at h
  show VW _ _ _ _ _ (retQ _ _ _ _) _
  refine VW.seq ?_
  refine VW.region ?_
  refine VO.seg T_ok .dp 1 [0, 1] [] (s' := ⟨[(0, .lf (.v (.sl Y40) a0)), (1, .clo g1 [])], []⟩) (φ := True ∧ True) (by kernel_rfl) ⟨trivial, trivial⟩ ?_
  refine VO.nil ?_
  show VW _ _ _ _ _ _ _
  refine VW.seq ?_
  refine VW.region ?_
  refine VO.seg T_ok .dp 2 [5, 6] [] (s' := ⟨[(5, .lf (.v (.sl Y40) a0)), (6, .clo g1 [])], []⟩) (φ := True ∧ True ∧ True) (by kernel_rfl) ⟨trivial, trivial, trivial⟩ ?_
  obtain ⟨y1, hy, h⟩ := andO_some h
  refine VO.call false [.t (.sl Y40), .clo []] [] T_ok (d := some 7) (by kernel_rfl) (ok52 N _ g1  p1 hp1 hy) rfl ?_
  refine VO.seg T_ok .dp 2 [4] [] (s' := ⟨[(4, B (decide (y1 ≥ (0 : Int))))], []⟩) (φ := True ∧ True ∧ True) (by kernel_rfl) ⟨trivial, trivial, trivial⟩ ?_
  refine VO.nil ?_
  show VW _ _ _ _ _ _ _
  refine VW.ret ?_
  replace h := Option.some.inj h
  subst h
  exact retR [] (by kernel_rfl) rfl

end Go.Proofs.Ytckcbjaldmlomaa.Vc
