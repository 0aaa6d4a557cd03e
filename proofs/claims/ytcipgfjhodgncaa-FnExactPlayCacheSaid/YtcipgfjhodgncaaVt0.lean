/- What functions of the program compute, and that they do. -/
import Derived.Test.YtcipgfjhodgncaaProg
import Derived.Test.YtcipgfjhodgncaaVc28
namespace Go.Proofs.Ytcipgfjhodgncaa.Vc
open Go Go.RowKit
set_option linter.unusedVariables false
set_option maxRecDepth 100000
set_option maxHeartbeats 4000000
abbrev Y7 : Ty := .pair (.int .i64) (.pair (.int .i64) (.pair .bool (.int .u8)))
abbrev Y13 : Ty := .pair .str (.int .u64)
abbrev Y23 : Ty := .pair (.int .i64) (.pair (.sl (.int .i64)) (.sl (.int .i64)))
abbrev Y74 : Ty := .pair (.sl (.int .u8)) (.pair (.int .i64) (.int .i64))
def TL : List (Nat × TI) := [(2, { ty := (.int .i64) }),
  (3, { ty := (.int .i64) }),
  (4, { ty := .bool }),
  (5, { ty := (.int .u8) }),
  (6, { ty := (.int .u8) }),
  (7, { ty := Y7, offs := [0, 1, 2, 3], szs := [1, 1, 1, 1] }),
  (8, { ty := Y7, offs := [0, 1, 2, 3], szs := [1, 1, 1, 1] }),
  (9, { ty := .str }),
  (10, { ty := .str }),
  (11, { ty := .str }),
  (12, { ty := (.int .u64) }),
  (13, { ty := Y13, offs := [0, 1], szs := [1, 1] }),
  (14, { ty := Y13, offs := [0, 1], szs := [1, 1] }),
  (21, { ty := (.int .i32) }),
  (22, { ty := (.sl (.int .i64)), elem := 3 }),
  (23, { ty := Y23, offs := [0, 1, 2], szs := [1, 1, 1] }),
  (24, { ty := Y23, offs := [0, 1, 2], szs := [1, 1, 1] }),
  (30, { ty := Y23, offs := [0, 1, 2], szs := [1, 1, 1] }),
  (51, { ty := (.sl (.int .u8)), elem := 5 }),
  (74, { ty := Y74, offs := [0, 1, 2], szs := [1, 1, 1] }),
  (75, { ty := Y74, offs := [0, 1, 2], szs := [1, 1, 1] }),
  (77, { ty := (.int .u64) }),
  (85, { ty := (.int .u32) }),
  (86, { ty := (.int .u8) }),
  (87, { ty := (.int .u8) }),
  (90, { ty := (.int .i32) }),
  (91, { ty := (.int .i32) })]
abbrev T : Tab := lookT TL
theorem T_ok : TabOk Go.Proofs.Try.prog T := tabOk_of TL (by kernel_rfl)
theorem T_rec : RecOk Go.Proofs.Try.prog T := recOk_of TL (by kernel_rfl)
/- loop.example/g00844/spec.l01In -/
def F48 (N : Nat) (a0 : Int) (a1 : Int) (a2 : Int) : Option (Bool) :=
  cond (decide (a1 ≤ a0)) (some (decide (a0 ≤ a2))) (some false)
theorem ok48 (N : Nat) (a0 : Int) (a1 : Int) (a2 : Int) {r : Bool} (h : F48 N a0 a1 a2 = some r) : Con Go.Proofs.Try.prog 48 [I a0, I a1, I a2] [.lf (.v .bool r)] := by
  refine ⟨enters_of Go.Proofs.Try.func48 rfl (by decide), HC.intro [.lf (.v .bool)] T_ok Go.Proofs.Try.func48 rfl (Nat.le_of_ble_eq_true rfl) (Nat.le_of_ble_eq_true rfl) fun w0 E0 => ?_⟩
  unfold F48 at h
  show VW _ _ _ _ _ (retQ _ _ _ _) _
  refine VW.seq ?_
  refine VW.region ?_
  refine VO.seg T_ok .dp 1 [0, 1, 2] [] (s' := ⟨[(0, I a0), (1, I a1), (2, I a2)], []⟩) (φ := True ∧ True) (by kernel_rfl) ⟨trivial, trivial⟩ ?_
  refine VO.nil ?_
  show VW _ _ _ _ _ _ _
  refine VW.seq ?_
  refine VW.region ?_
  refine VO.seg T_ok .dp 4 [0, 2, 10] [] (s' := ⟨[(0, I a0), (2, I a2), (10, B (decide (a1 ≤ a0)))], []⟩) (φ := True ∧ True ∧ True ∧ True ∧ True) (by kernel_rfl) ⟨trivial, trivial, trivial, trivial, trivial⟩ ?_
  refine VO.splitB 10 (b := (decide (a1 ≤ a0))) (by kernel_rfl) (fun hb => ?_) (fun hb => ?_)
  · replace h := cond_t h hb; clear hb
    refine VO.seg T_ok .dp 5 [6] [] (s' := ⟨[(6, B (decide (a0 ≤ a2)))], []⟩) (φ := True ∧ True ∧ True ∧ True ∧ True ∧ True) (by kernel_rfl) ⟨trivial, trivial, trivial, trivial, trivial, trivial⟩ ?_
    refine VO.nil ?_
    show VW _ _ _ _ _ _ _
    refine VW.ret ?_
    replace h := Option.some.inj h
    subst h
    exact retR [] (by kernel_rfl) rfl
  · replace h := cond_f h hb; clear hb
    refine VO.seg T_ok .dp 5 [6] [] (s' := ⟨[(6, B false)], []⟩) (φ := True ∧ True ∧ True ∧ True ∧ True ∧ True) (by kernel_rfl) ⟨trivial, trivial, trivial, trivial, trivial, trivial⟩ ?_
    refine VO.nil ?_
    show VW _ _ _ _ _ _ _
    refine VW.ret ?_
    replace h := Option.some.inj h
    subst h
    exact retR [] (by kernel_rfl) rfl

/- loop.example/g00844/spec.NewCache -/
def F14 (N : Nat) (a0 : Int) : Option ((Int × ((List Int) × (List Int))) × Bool) :=
  andO (F48 N a0 (1 : Int) (16 : Int)) fun y2 => cond (!y2) (some (((0 : Int), ([], [])), false)) (some ((a0, ([], [])), true))
theorem ok14 (N : Nat) (a0 : Int) {r : (Int × ((List Int) × (List Int))) × Bool} (h : F14 N a0 = some r) : Con Go.Proofs.Try.prog 14 [I a0] [.agg [.v (.int .i64) r.1.1, .own (.int .i64) r.1.2.1 .dp, .own (.int .i64) r.1.2.2 .dp], .lf (.v .bool r.2)] := by
  refine ⟨enters_of Go.Proofs.Try.func14 rfl (by decide), HC.intro [.agg [.v (.int .i64), .own (.int .i64) .dp, .own (.int .i64) .dp], .lf (.v .bool)] T_ok Go.Proofs.Try.func14 rfl (Nat.le_of_ble_eq_true rfl) (Nat.le_of_ble_eq_true rfl) fun w0 E0 => ?_⟩
  unfold F14 at h
  show VW _ _ _ _ _ (retQ _ _ _ _) _
  refine VW.seq ?_
  refine VW.region ?_
  refine VO.seg T_ok .dp 2 [0, 2] [0] (s' := ⟨[(0, I a0), (2, .lf (.ptr 0 0 0 0))], [bx [.v (.int .i64) (0 : Int), .nil, .nil] 24]⟩) (φ := True ∧ True ∧ True) (by kernel_rfl) ⟨trivial, trivial, trivial⟩ ?_
  refine VO.nil ?_
  show VW _ _ _ _ _ _ _
  refine VW.seq ?_
  refine VW.seq ?_
  refine VW.region ?_
  refine VO.seg T_ok .dp 1 [0, 2, 4] [0] (s' := ⟨[(0, I a0), (2, .lf (.ptr 0 0 0 0)), (4, I a0)], [bx [.v (.int .i64) (0 : Int), .nil, .nil] 24]⟩) (φ := True ∧ True) (by kernel_rfl) ⟨trivial, trivial⟩ ?_
  obtain ⟨y2, hy, h⟩ := andO_some h
  refine VO.call false [.t (.int .i64), .t (.int .i64), .t (.int .i64)] [] T_ok (d := some 5) (by kernel_rfl) (ok48 N _ _ _ hy) rfl ?_
  refine VO.seg T_ok .dp 1 [0, 2, 6] [0] (s' := ⟨[(0, I a0), (2, .lf (.ptr 0 0 0 0)), (6, B (!y2))], [bx [.v (.int .i64) (0 : Int), .nil, .nil] 24]⟩) (φ := True ∧ True) (by kernel_rfl) ⟨trivial, trivial⟩ ?_
  refine VO.nil ?_
  show VW _ _ _ _ _ _ _
  refine VW.cond (b := (!y2)) (by kernel_rfl) (fun hb => ?_) (fun hb => ?_)
  · replace h := cond_t h hb; clear hb
    refine VW.seq ?_
    refine VW.region ?_
    refine VO.seg T_ok .dp 3 [2, 3] [0] (s' := ⟨[(2, .lf (.ptr 0 0 0 0)), (3, B false)], [bx [.v (.int .i64) (0 : Int), .nil, .nil] 24]⟩) (φ := True ∧ True ∧ True ∧ True) (by kernel_rfl) ⟨trivial, trivial, trivial, trivial⟩ ?_
    refine VO.nil ?_
    show VW _ _ _ _ _ _ _
    refine VW.ret ?_
    replace h := Option.some.inj h
    subst h
    exact retR [none, none] (by kernel_rfl) rfl
  · replace h := cond_f h hb; clear hb
    refine VW.skip ?_
    show VW _ _ _ _ _ _ _
    refine VW.seq ?_
    refine VW.region ?_
    refine VO.seg T_ok .dp 4 [2, 3] [0] (s' := ⟨[(2, .lf (.ptr 0 0 0 0)), (3, B true)], [bx [.v (.int .i64) a0, .nil, .nil] 24]⟩) (φ := True ∧ True ∧ True ∧ True ∧ True) (by kernel_rfl) ⟨trivial, trivial, trivial, trivial, trivial⟩ ?_
    refine VO.nil ?_
    show VW _ _ _ _ _ _ _
    refine VW.ret ?_
    replace h := Option.some.inj h
    subst h
    exact retR [none, none] (by kernel_rfl) rfl

/- loop.example/g00844/impl.in -/
def F70 (N : Nat) (a0 : Int) (a1 : Int) (a2 : Int) : Option (Bool) :=
  cond (decide (a0 ≥ a1)) (some (decide (a0 ≤ a2))) (some false)
theorem ok70 (N : Nat) (a0 : Int) (a1 : Int) (a2 : Int) {r : Bool} (h : F70 N a0 a1 a2 = some r) : Con Go.Proofs.Try.prog 70 [I a0, I a1, I a2] [.lf (.v .bool r)] := by
  refine ⟨enters_of Go.Proofs.Try.func70 rfl (by decide), HC.intro [.lf (.v .bool)] T_ok Go.Proofs.Try.func70 rfl (Nat.le_of_ble_eq_true rfl) (Nat.le_of_ble_eq_true rfl) fun w0 E0 => ?_⟩
  unfold F70 at h
  show VW _ _ _ _ _ (retQ _ _ _ _) _
  refine VW.seq ?_
  refine VW.region ?_
  refine VO.seg T_ok .dp 1 [0, 1, 2] [] (s' := ⟨[(0, I a0), (1, I a1), (2, I a2)], []⟩) (φ := True ∧ True) (by kernel_rfl) ⟨trivial, trivial⟩ ?_
  refine VO.nil ?_
  show VW _ _ _ _ _ _ _
  refine VW.seq ?_
  refine VW.region ?_
  refine VO.seg T_ok .dp 4 [0, 2, 10] [] (s' := ⟨[(0, I a0), (2, I a2), (10, B (decide (a0 ≥ a1)))], []⟩) (φ := True ∧ True ∧ True ∧ True ∧ True) (by kernel_rfl) ⟨trivial, trivial, trivial, trivial, trivial⟩ ?_
  refine VO.splitB 10 (b := (decide (a0 ≥ a1))) (by kernel_rfl) (fun hb => ?_) (fun hb => ?_)
  · replace h := cond_t h hb; clear hb
    refine VO.seg T_ok .dp 5 [6] [] (s' := ⟨[(6, B (decide (a0 ≤ a2)))], []⟩) (φ := True ∧ True ∧ True ∧ True ∧ True ∧ True) (by kernel_rfl) ⟨trivial, trivial, trivial, trivial, trivial, trivial⟩ ?_
    refine VO.nil ?_
    show VW _ _ _ _ _ _ _
    refine VW.ret ?_
    replace h := Option.some.inj h
    subst h
    exact retR [] (by kernel_rfl) rfl
  · replace h := cond_f h hb; clear hb
    refine VO.seg T_ok .dp 5 [6] [] (s' := ⟨[(6, B false)], []⟩) (φ := True ∧ True ∧ True ∧ True ∧ True ∧ True) (by kernel_rfl) ⟨trivial, trivial, trivial, trivial, trivial, trivial⟩ ?_
    refine VO.nil ?_
    show VW _ _ _ _ _ _ _
    refine VW.ret ?_
    replace h := Option.some.inj h
    subst h
    exact retR [] (by kernel_rfl) rfl

/- loop.example/g00844/impl.isCap -/
def F49 (N : Nat) (a0 : Int) : Option (Bool) :=
  andO (F70 N a0 (1 : Int) (16 : Int)) fun y1 => some y1
theorem ok49 (N : Nat) (a0 : Int) {r : Bool} (h : F49 N a0 = some r) : Con Go.Proofs.Try.prog 49 [I a0] [.lf (.v .bool r)] := by
  refine ⟨enters_of Go.Proofs.Try.func49 rfl (by decide), HC.intro [.lf (.v .bool)] T_ok Go.Proofs.Try.func49 rfl (Nat.le_of_ble_eq_true rfl) (Nat.le_of_ble_eq_true rfl) fun w0 E0 => ?_⟩
  unfold F49 at h
  show VW _ _ _ _ _ (retQ _ _ _ _) _
  refine VW.seq ?_
  refine VW.region ?_
  refine VO.seg T_ok .dp 1 [0] [] (s' := ⟨[(0, I a0)], []⟩) (φ := True ∧ True) (by kernel_rfl) ⟨trivial, trivial⟩ ?_
  refine VO.nil ?_
  show VW _ _ _ _ _ _ _
  refine VW.seq ?_
  refine VW.region ?_
  refine VO.seg T_ok .dp 1 [3] [] (s' := ⟨[(3, I a0)], []⟩) (φ := True ∧ True) (by kernel_rfl) ⟨trivial, trivial⟩ ?_
  obtain ⟨y1, hy, h⟩ := andO_some h
  refine VO.call false [.t (.int .i64), .t (.int .i64), .t (.int .i64)] [] T_ok (d := some 4) (by kernel_rfl) (ok70 N _ _ _ hy) rfl ?_
  refine VO.seg T_ok .dp 1 [2] [] (s' := ⟨[(2, B y1)], []⟩) (φ := True ∧ True) (by kernel_rfl) ⟨trivial, trivial⟩ ?_
  refine VO.nil ?_
  show VW _ _ _ _ _ _ _
  refine VW.ret ?_
  replace h := Option.some.inj h
  subst h
  exact retR [] (by kernel_rfl) rfl

/- loop.example/g00844/impl.NewCache -/
def F15 (N : Nat) (a0 : Int) : Option ((Int × ((List Int) × (List Int))) × Bool) :=
  andO (F49 N a0) fun y2 => cond (!y2) (some (((0 : Int), ([], [])), false)) (some ((a0, ([], [])), true))
theorem ok15 (N : Nat) (a0 : Int) {r : (Int × ((List Int) × (List Int))) × Bool} (h : F15 N a0 = some r) : Con Go.Proofs.Try.prog 15 [I a0] [.agg [.v (.int .i64) r.1.1, .own (.int .i64) r.1.2.1 .dp, .own (.int .i64) r.1.2.2 .dp], .lf (.v .bool r.2)] := by
  refine ⟨enters_of Go.Proofs.Try.func15 rfl (by decide), HC.intro [.agg [.v (.int .i64), .own (.int .i64) .dp, .own (.int .i64) .dp], .lf (.v .bool)] T_ok Go.Proofs.Try.func15 rfl (Nat.le_of_ble_eq_true rfl) (Nat.le_of_ble_eq_true rfl) fun w0 E0 => ?_⟩
  unfold F15 at h
  show VW _ _ _ _ _ (retQ _ _ _ _) _
  refine VW.seq ?_
  refine VW.region ?_
  refine VO.seg T_ok .dp 2 [0, 2] [0] (s' := ⟨[(0, I a0), (2, .lf (.ptr 0 0 0 0))], [bx [.v (.int .i64) (0 : Int), .nil, .nil] 24]⟩) (φ := True ∧ True ∧ True) (by kernel_rfl) ⟨trivial, trivial, trivial⟩ ?_
  refine VO.nil ?_
  show VW _ _ _ _ _ _ _
  refine VW.seq ?_
  refine VW.seq ?_
  refine VW.region ?_
  refine VO.seg T_ok .dp 1 [0, 2, 4] [0] (s' := ⟨[(0, I a0), (2, .lf (.ptr 0 0 0 0)), (4, I a0)], [bx [.v (.int .i64) (0 : Int), .nil, .nil] 24]⟩) (φ := True ∧ True) (by kernel_rfl) ⟨trivial, trivial⟩ ?_
  obtain ⟨y2, hy, h⟩ := andO_some h
  refine VO.call false [.t (.int .i64)] [] T_ok (d := some 5) (by kernel_rfl) (ok49 N _ hy) rfl ?_
  refine VO.seg T_ok .dp 1 [0, 2, 6] [0] (s' := ⟨[(0, I a0), (2, .lf (.ptr 0 0 0 0)), (6, B (!y2))], [bx [.v (.int .i64) (0 : Int), .nil, .nil] 24]⟩) (φ := True ∧ True) (by kernel_rfl) ⟨trivial, trivial⟩ ?_
  refine VO.nil ?_
  show VW _ _ _ _ _ _ _
  refine VW.cond (b := (!y2)) (by kernel_rfl) (fun hb => ?_) (fun hb => ?_)
  · replace h := cond_t h hb; clear hb
    refine VW.seq ?_
    refine VW.region ?_
    refine VO.seg T_ok .dp 3 [2, 3] [0] (s' := ⟨[(2, .lf (.ptr 0 0 0 0)), (3, B false)], [bx [.v (.int .i64) (0 : Int), .nil, .nil] 24]⟩) (φ := True ∧ True ∧ True ∧ True) (by kernel_rfl) ⟨trivial, trivial, trivial, trivial⟩ ?_
    refine VO.nil ?_
    show VW _ _ _ _ _ _ _
    refine VW.ret ?_
    replace h := Option.some.inj h
    subst h
    exact retR [none, none] (by kernel_rfl) rfl
  · replace h := cond_f h hb; clear hb
    refine VW.skip ?_
    show VW _ _ _ _ _ _ _
    refine VW.seq ?_
    refine VW.region ?_
    refine VO.seg T_ok .dp 4 [2, 3] [0] (s' := ⟨[(2, .lf (.ptr 0 0 0 0)), (3, B true)], [bx [.v (.int .i64) a0, .nil, .nil] 24]⟩) (φ := True ∧ True ∧ True ∧ True ∧ True) (by kernel_rfl) ⟨trivial, trivial, trivial, trivial, trivial⟩ ?_
    refine VO.nil ?_
    show VW _ _ _ _ _ _ _
    refine VW.ret ?_
    replace h := Option.some.inj h
    subst h
    exact retR [none, none] (by kernel_rfl) rfl

/- loop.example/g00844/laws.eqIntS -/
def F34_j0 (N : Nat) : Option (Bool) :=
  some true
def F34_l0_b (N : Nat) (a0 : (List Int)) (a1 : (List Int)) (nx25 : Int → Option (Bool)) (x20 : Int) : Option (Bool) :=
  cond (decide (x20 < (a0.length : Int))) (gd (InR x20 a0.length) (gd (InR x20 a1.length) (cond ((a0.getD x20.toNat (Ty.dflt (.int .i64))) != (a1.getD x20.toNat (Ty.dflt (.int .i64)))) (some false) (nx25 (IntKind.i64.wrap (x20 + (1 : Int))))))) (F34_j0 N)
def F34_l0 (N : Nat) (a0 : (List Int)) (a1 : (List Int)) : Nat → Int → Option (Bool) := loopF (F34_l0_b N a0 a1) (fun _ => none)
theorem F34_l0_s (N : Nat) (a0 : (List Int)) (a1 : (List Int)) {k : Nat} (hk : 0 < k) (x20 : Int) : F34_l0 N a0 a1 k x20 = F34_l0_b N a0 a1 (F34_l0 N a0 a1 (k - 1)) x20 := by
  cases k with
  | zero => exact absurd hk (Nat.lt_irrefl 0)
  | succ m => rfl
def F34 (N : Nat) (a0 : (List Int)) (a1 : (List Int)) : Option (Bool) :=
  cond ((a0.length : Int) != (a1.length : Int)) (some false) (F34_l0 N a0 a1 N (0 : Int))
theorem ok34 (N : Nat) (a0 : (List Int)) (a1 : (List Int)) {r : Bool} (h : F34 N a0 a1 = some r) : Con Go.Proofs.Try.prog 34 [.lf (.v (.sl (.int .i64)) a0), .lf (.v (.sl (.int .i64)) a1)] [.lf (.v .bool r)] := by
  refine ⟨enters_of Go.Proofs.Try.func34 rfl (by decide), HC.intro [.lf (.v .bool)] T_ok Go.Proofs.Try.func34 rfl (Nat.le_of_ble_eq_true rfl) (Nat.le_of_ble_eq_true rfl) fun w0 E0 => ?_⟩
  unfold F34 at h
  show VW _ _ _ _ _ (retQ _ _ _ _) _
  refine VW.seq ?_
  refine VW.region ?_
  refine VO.seg T_ok .dp 1 [0, 1] [] (s' := ⟨[(0, .lf (.v (.sl (.int .i64)) a0)), (1, .lf (.v (.sl (.int .i64)) a1))], []⟩) (φ := True ∧ True) (by kernel_rfl) ⟨trivial, trivial⟩ ?_
  refine VO.nil ?_
  show VW _ _ _ _ _ _ _
  refine VW.seq ?_
  refine VW.seq ?_
  refine VW.region ?_
  refine VO.seg T_ok .dp 5 [0, 1, 10] [] (s' := ⟨[(0, .lf (.v (.sl (.int .i64)) a0)), (1, .lf (.v (.sl (.int .i64)) a1)), (10, B ((a0.length : Int) != (a1.length : Int)))], []⟩) (φ := True ∧ True ∧ True ∧ True ∧ True ∧ True) (by kernel_rfl) ⟨trivial, trivial, trivial, trivial, trivial, trivial⟩ ?_
  refine VO.nil ?_
  show VW _ _ _ _ _ _ _
  refine VW.cond (b := ((a0.length : Int) != (a1.length : Int))) (by kernel_rfl) (fun hb => ?_) (fun hb => ?_)
  · replace h := cond_t h hb; clear hb
    refine VW.seq ?_
    refine VW.region ?_
    refine VO.seg T_ok .dp 1 [4] [] (s' := ⟨[(4, B false)], []⟩) (φ := True ∧ True) (by kernel_rfl) ⟨trivial, trivial⟩ ?_
    refine VO.nil ?_
    show VW _ _ _ _ _ _ _
    refine VW.ret ?_
    replace h := Option.some.inj h
    subst h
    exact retR [] (by kernel_rfl) rfl
  · replace h := cond_f h hb; clear hb
    refine VW.skip ?_
    show VW _ _ _ _ _ _ _
    refine VW.join (fun s => s = ⟨[], []⟩ ∧ F34_j0 N = some r) ?_ ?_
    · refine VW.seq ?_
      refine VW.region ?_
      refine VO.seg T_ok .dp 1 [0, 1, 5] [] (s' := ⟨[(0, .lf (.v (.sl (.int .i64)) a0)), (1, .lf (.v (.sl (.int .i64)) a1)), (5, I (0 : Int))], []⟩) (φ := True ∧ True) (by kernel_rfl) ⟨trivial, trivial⟩ ?_
      refine VO.nil ?_
      show VW _ _ _ _ _ _ _
      refine VW.block ?_
      refine VW.loopL (fun k s => ∃ (x20 : Int), s = ⟨[(0, .lf (.v (.sl (.int .i64)) a0)), (1, .lf (.v (.sl (.int .i64)) a1)), (5, I x20)], []⟩ ∧ F34_l0 N a0 a1 k x20 = some r) N [.ren [0, 1, 5] []] (by kernel_rfl) ⟨(0 : Int), rfl, h⟩ ?_
      rintro k25 s ⟨x20, rfl, h⟩
      cases k25 with
      | zero => exact nomatch (show (none : Option (Bool)) = some r from h)
      | succ k25 =>
        replace h : F34_l0_b N a0 a1 (F34_l0 N a0 a1 k25) x20 = some r := h
        unfold F34_l0_b at h
        refine VW.seq ?_
        refine VW.seq ?_
        refine VW.region ?_
        refine VO.seg T_ok .dp 4 [0, 1, 5, 14] [] (s' := ⟨[(0, .lf (.v (.sl (.int .i64)) a0)), (1, .lf (.v (.sl (.int .i64)) a1)), (5, I x20), (14, B (decide (x20 < (a0.length : Int))))], []⟩) (φ := True ∧ True ∧ True ∧ True ∧ True) (by kernel_rfl) ⟨trivial, trivial, trivial, trivial, trivial⟩ ?_
        refine VO.nil ?_
        show VW _ _ _ _ _ _ _
        refine VW.cond (b := (decide (x20 < (a0.length : Int)))) (by kernel_rfl) (fun hb => ?_) (fun hb => ?_)
        · replace h := cond_t h hb; clear hb
          refine VW.skip ?_
          show VW _ _ _ _ _ _ _
          refine VW.seq ?_
          refine VW.block ?_
          refine VW.seq ?_
          obtain ⟨g28, h⟩ := gd_some h
          obtain ⟨g29, h⟩ := gd_some h
          refine VW.drawn (by kernel_rfl) [some (17, .lf (.v (.sl (.int .i64)) a0)), some (18, I x20), some (19, .lf (.fp (.int .i64) (a0.getD x20.toNat (Ty.dflt (.int .i64))) 0)), some (20, I (a0.getD x20.toNat (Ty.dflt (.int .i64)))), some (21, .lf (.v (.sl (.int .i64)) a1)), some (22, I x20), some (23, .lf (.fp (.int .i64) (a1.getD x20.toNat (Ty.dflt (.int .i64))) 0)), some (24, I (a1.getD x20.toNat (Ty.dflt (.int .i64)))), some (25, B ((a0.getD x20.toNat (Ty.dflt (.int .i64))) != (a1.getD x20.toNat (Ty.dflt (.int .i64)))))] [] [[]] [(0, 0), (1, 0), (2, 0), (3, 0), (4, 0), (5, 0), (6, 0), (7, 0), (8, 0)] [0, 1, 5, 25] [] (s' := ⟨[(0, .lf (.v (.sl (.int .i64)) a0)), (1, .lf (.v (.sl (.int .i64)) a1)), (5, I x20), (25, B ((a0.getD x20.toNat (Ty.dflt (.int .i64))) != (a1.getD x20.toNat (Ty.dflt (.int .i64)))))], []⟩) (by kernel_rfl) (by kernel_rfl) ⟨⟨_, rfl, Stp.ev T_ok (m := .dp) (φ := True) (by kernel_rfl) trivial⟩,
    ⟨_, rfl, Stp.ev T_ok (m := .dp) (φ := True) (by kernel_rfl) trivial⟩,
    ⟨_, rfl, Stp.ev T_ok (m := .dp) (φ := InR x20 a0.length) (by kernel_rfl) g28⟩,
    ⟨_, rfl, Stp.ev T_ok (m := .dp) (φ := True) (by kernel_rfl) trivial⟩,
    ⟨_, rfl, Stp.ev T_ok (m := .dp) (φ := True) (by kernel_rfl) trivial⟩,
    ⟨_, rfl, Stp.ev T_ok (m := .dp) (φ := True) (by kernel_rfl) trivial⟩,
    ⟨_, rfl, Stp.ev T_ok (m := .dp) (φ := InR x20 a1.length) (by kernel_rfl) g29⟩,
    ⟨_, rfl, Stp.ev T_ok (m := .dp) (φ := True) (by kernel_rfl) trivial⟩,
    ⟨_, rfl, Stp.ev T_ok (m := .dp) (φ := True) (by kernel_rfl) trivial⟩, trivial⟩ (by kernel_rfl) ?_
          show VW _ _ _ _ _ _ _
          refine VW.cond (b := ((a0.getD x20.toNat (Ty.dflt (.int .i64))) != (a1.getD x20.toNat (Ty.dflt (.int .i64))))) (by kernel_rfl) (fun hb => ?_) (fun hb => ?_)
          · replace h := cond_t h hb; clear hb
            refine VW.seq ?_
            refine VW.region ?_
            refine VO.seg T_ok .dp 1 [4] [] (s' := ⟨[(4, B false)], []⟩) (φ := True ∧ True) (by kernel_rfl) ⟨trivial, trivial⟩ ?_
            refine VO.nil ?_
            show VW _ _ _ _ _ _ _
            refine VW.ret ?_
            replace h := Option.some.inj h
            subst h
            exact retR [] (by kernel_rfl) rfl
          · replace h := cond_f h hb; clear hb
            refine VW.skip ?_
            show VW _ _ _ _ _ _ _
            refine VW.region ?_
            refine VO.seg T_ok .dp 3 [0, 1, 5] [] (s' := ⟨[(0, .lf (.v (.sl (.int .i64)) a0)), (1, .lf (.v (.sl (.int .i64)) a1)), (5, I (IntKind.i64.wrap (x20 + (1 : Int))))], []⟩) (φ := True ∧ True ∧ True ∧ True) (by kernel_rfl) ⟨trivial, trivial, trivial, trivial⟩ ?_
            refine VO.nil ?_
            exact around [.ren [0, 1, 5] []] (by kernel_rfl) ⟨(IntKind.i64.wrap (x20 + (1 : Int))), rfl, h⟩
        · replace h := cond_f h hb; clear hb
          refine VW.exit ?_
          exact arrive [.ren [] []] (by kernel_rfl) ⟨rfl, h⟩
    · rintro s ⟨rfl, h⟩
      unfold F34_j0 at h
      refine VW.seq ?_
      refine VW.region ?_
      refine VO.seg T_ok .dp 1 [4] [] (s' := ⟨[(4, B true)], []⟩) (φ := True ∧ True) (by kernel_rfl) ⟨trivial, trivial⟩ ?_
      refine VO.nil ?_
      show VW _ _ _ _ _ _ _
      refine VW.ret ?_
      replace h := Option.some.inj h
      subst h
      exact retR [] (by kernel_rfl) rfl

/- loop.example/g00844/laws.eqCache -/
def F16 (N : Nat) (a0 : (Int × ((List Int) × (List Int)))) (a1 : (Int × ((List Int) × (List Int)))) : Option (Bool) :=
  cond (a0.1 != a1.1) (some false) (andO (F34 N a0.2.1 a1.2.1) fun y2 => cond (!y2) (some false) (andO (F34 N a0.2.2 a1.2.2) fun y4 => cond (!y4) (some false) (some true)))
theorem ok16 (N : Nat) (a0 : (Int × ((List Int) × (List Int)))) (a1 : (Int × ((List Int) × (List Int)))) {r : Bool} (h : F16 N a0 a1 = some r) : Con Go.Proofs.Try.prog 16 [.agg [.v (.int .i64) a0.1, .v (.sl (.int .i64)) a0.2.1, .v (.sl (.int .i64)) a0.2.2], .agg [.v (.int .i64) a1.1, .v (.sl (.int .i64)) a1.2.1, .v (.sl (.int .i64)) a1.2.2]] [.lf (.v .bool r)] := by
  refine ⟨enters_of Go.Proofs.Try.func16 rfl (by decide), HC.intro [.lf (.v .bool)] T_ok Go.Proofs.Try.func16 rfl (Nat.le_of_ble_eq_true rfl) (Nat.le_of_ble_eq_true rfl) fun w0 E0 => ?_⟩
  unfold F16 at h
  show VW _ _ _ _ _ (retQ _ _ _ _) _
  refine VW.seq ?_
  refine VW.region ?_
  refine VO.seg T_ok .dp 3 [2, 3] [0, 1] (s' := ⟨[(2, .lf (.ptr 0 0 0 0)), (3, .lf (.ptr 1 0 0 0))], [bx [.v (.int .i64) a0.1, .v (.sl (.int .i64)) a0.2.1, .v (.sl (.int .i64)) a0.2.2] 24, bx [.v (.int .i64) a1.1, .v (.sl (.int .i64)) a1.2.1, .v (.sl (.int .i64)) a1.2.2] 24]⟩) (φ := True ∧ True ∧ True ∧ True) (by kernel_rfl) ⟨trivial, trivial, trivial, trivial⟩ ?_
  refine VO.nil ?_
  show VW _ _ _ _ _ _ _
  refine VW.seq ?_
  refine VW.seq ?_
  refine VW.region ?_
  refine VO.seg T_ok .dp 5 [2, 3, 9] [0, 1] (s' := ⟨[(2, .lf (.ptr 0 0 0 0)), (3, .lf (.ptr 1 0 0 0)), (9, B (a0.1 != a1.1))], [bx [.v (.int .i64) a0.1, .v (.sl (.int .i64)) a0.2.1, .v (.sl (.int .i64)) a0.2.2] 24, bx [.v (.int .i64) a1.1, .v (.sl (.int .i64)) a1.2.1, .v (.sl (.int .i64)) a1.2.2] 24]⟩) (φ := True ∧ True ∧ True ∧ True ∧ True ∧ True) (by kernel_rfl) ⟨trivial, trivial, trivial, trivial, trivial, trivial⟩ ?_
  refine VO.nil ?_
  show VW _ _ _ _ _ _ _
  refine VW.cond (b := (a0.1 != a1.1)) (by kernel_rfl) (fun hb => ?_) (fun hb => ?_)
  · replace h := cond_t h hb; clear hb
    refine VW.seq ?_
    refine VW.region ?_
    refine VO.seg T_ok .dp 1 [4] [] (s' := ⟨[(4, B false)], []⟩) (φ := True ∧ True) (by kernel_rfl) ⟨trivial, trivial⟩ ?_
    refine VO.nil ?_
    show VW _ _ _ _ _ _ _
    refine VW.ret ?_
    replace h := Option.some.inj h
    subst h
    exact retR [] (by kernel_rfl) rfl
  · replace h := cond_f h hb; clear hb
    refine VW.skip ?_
    show VW _ _ _ _ _ _ _
    refine VW.seq ?_
    refine VW.seq ?_
    refine VW.region ?_
    refine VO.seg T_ok .dp 4 [2, 3, 11, 13] [0, 1] (s' := ⟨[(2, .lf (.ptr 0 0 0 0)), (3, .lf (.ptr 1 0 0 0)), (11, .lf (.v (.sl (.int .i64)) a0.2.1)), (13, .lf (.v (.sl (.int .i64)) a1.2.1))], [bx [.v (.int .i64) a0.1, .v (.sl (.int .i64)) a0.2.1, .v (.sl (.int .i64)) a0.2.2] 24, bx [.v (.int .i64) a1.1, .v (.sl (.int .i64)) a1.2.1, .v (.sl (.int .i64)) a1.2.2] 24]⟩) (φ := True ∧ True ∧ True ∧ True ∧ True) (by kernel_rfl) ⟨trivial, trivial, trivial, trivial, trivial⟩ ?_
    obtain ⟨y2, hy, h⟩ := andO_some h
    refine VO.call false [.t (.sl (.int .i64)), .t (.sl (.int .i64))] [] T_ok (d := some 14) (by kernel_rfl) (ok34 N _ _ hy) rfl ?_
    refine VO.seg T_ok .dp 1 [2, 3, 15] [0, 1] (s' := ⟨[(2, .lf (.ptr 0 0 0 0)), (3, .lf (.ptr 1 0 0 0)), (15, B (!y2))], [bx [.v (.int .i64) a0.1, .v (.sl (.int .i64)) a0.2.1, .v (.sl (.int .i64)) a0.2.2] 24, bx [.v (.int .i64) a1.1, .v (.sl (.int .i64)) a1.2.1, .v (.sl (.int .i64)) a1.2.2] 24]⟩) (φ := True ∧ True) (by kernel_rfl) ⟨trivial, trivial⟩ ?_
    refine VO.nil ?_
    show VW _ _ _ _ _ _ _
    refine VW.cond (b := (!y2)) (by kernel_rfl) (fun hb => ?_) (fun hb => ?_)
    · replace h := cond_t h hb; clear hb
      refine VW.seq ?_
      refine VW.region ?_
      refine VO.seg T_ok .dp 1 [4] [] (s' := ⟨[(4, B false)], []⟩) (φ := True ∧ True) (by kernel_rfl) ⟨trivial, trivial⟩ ?_
      refine VO.nil ?_
      show VW _ _ _ _ _ _ _
      refine VW.ret ?_
      replace h := Option.some.inj h
      subst h
      exact retR [] (by kernel_rfl) rfl
    · replace h := cond_f h hb; clear hb
      refine VW.skip ?_
      show VW _ _ _ _ _ _ _
      refine VW.seq ?_
      refine VW.seq ?_
      refine VW.region ?_
      refine VO.seg T_ok .dp 4 [17, 19] [] (s' := ⟨[(17, .lf (.v (.sl (.int .i64)) a0.2.2)), (19, .lf (.v (.sl (.int .i64)) a1.2.2))], []⟩) (φ := True ∧ True ∧ True ∧ True ∧ True) (by kernel_rfl) ⟨trivial, trivial, trivial, trivial, trivial⟩ ?_
      obtain ⟨y4, hy, h⟩ := andO_some h
      refine VO.call false [.t (.sl (.int .i64)), .t (.sl (.int .i64))] [] T_ok (d := some 20) (by kernel_rfl) (ok34 N _ _ hy) rfl ?_
      refine VO.seg T_ok .dp 1 [21] [] (s' := ⟨[(21, B (!y4))], []⟩) (φ := True ∧ True) (by kernel_rfl) ⟨trivial, trivial⟩ ?_
      refine VO.nil ?_
      show VW _ _ _ _ _ _ _
      refine VW.cond (b := (!y4)) (by kernel_rfl) (fun hb => ?_) (fun hb => ?_)
      · replace h := cond_t h hb; clear hb
        refine VW.seq ?_
        refine VW.region ?_
        refine VO.seg T_ok .dp 1 [4] [] (s' := ⟨[(4, B false)], []⟩) (φ := True ∧ True) (by kernel_rfl) ⟨trivial, trivial⟩ ?_
        refine VO.nil ?_
        show VW _ _ _ _ _ _ _
        refine VW.ret ?_
        replace h := Option.some.inj h
        subst h
        exact retR [] (by kernel_rfl) rfl
      · replace h := cond_f h hb; clear hb
        refine VW.skip ?_
        show VW _ _ _ _ _ _ _
        refine VW.seq ?_
        refine VW.region ?_
        refine VO.seg T_ok .dp 1 [4] [] (s' := ⟨[(4, B true)], []⟩) (φ := True ∧ True) (by kernel_rfl) ⟨trivial, trivial⟩ ?_
        refine VO.nil ?_
        show VW _ _ _ _ _ _ _
        refine VW.ret ?_
        replace h := Option.some.inj h
        subst h
        exact retR [] (by kernel_rfl) rfl

/- loop.example/g00844/laws.markIntS -/
def F41_j0 (N : Nat) (x17 : Int) (x18 : (List Int)) : Option ((List Int) × Int) :=
  some (x18, x17)
def F41_l0_b (N : Nat) (nx31 : (List Int) → Int → Int → Option ((List Int) × Int)) (x24 : (List Int)) (x25 : Int) (x26 : Int) : Option ((List Int) × Int) :=
  cond (decide (x26 < (x24.length : Int))) (gd (InR x26 x24.length) (gd (x26.toNat < x24.length) (nx31 (x24.set x26.toNat x25) (IntKind.i64.wrap (x25 + (1 : Int))) (IntKind.i64.wrap (x26 + (1 : Int)))))) (F41_j0 N x25 x24)
def F41_l0 (N : Nat) : Nat → (List Int) → Int → Int → Option ((List Int) × Int) := loopF (F41_l0_b N) (fun _ _ _ => none)
theorem F41_l0_s (N : Nat) {k : Nat} (hk : 0 < k) (x24 : (List Int)) (x25 : Int) (x26 : Int) : F41_l0 N k x24 x25 x26 = F41_l0_b N (F41_l0 N (k - 1)) x24 x25 x26 := by
  cases k with
  | zero => exact absurd hk (Nat.lt_irrefl 0)
  | succ m => rfl
def F41 (N : Nat) (a0 : (List Int)) (a1 : Int) : Option ((List Int) × Int) :=
  F41_l0 N N a0 a1 (0 : Int)
theorem ok41 (N : Nat) (a0 : (List Int)) (a1 : Int) {r : (List Int) × Int} (h : F41 N a0 a1 = some r) : ConM Go.Proofs.Try.prog 41 [ar 0 (.int .i64) a0 .dp] [.lf (.hd 0 0 none), I a1] [.lf (.v (.int .i64) r.2)] [ar 0 (.int .i64) r.1 .dp] := by
  refine ⟨enters_of Go.Proofs.Try.func41 rfl (by decide), HM.intro [.lf (.v (.int .i64))] T_ok Go.Proofs.Try.func41 rfl (Nat.le_of_ble_eq_true rfl) (Nat.le_of_ble_eq_true rfl) fun w0 E0 => ?_⟩
  unfold F41 at h
  show VW _ _ _ _ _ (retM _ _ _ _ _) _
  refine VW.seq ?_
  refine VW.region ?_
  refine VO.seg T_ok .dp 1 [0, 1, 65536] [0] (s' := ⟨[(0, .lf (.hd 0 0 none)), (1, I a1), (65536, .lf (.hd 0 0 none))], [ar 0 (.int .i64) a0 .dp]⟩) (φ := True ∧ True) (by kernel_rfl) ⟨trivial, trivial⟩ ?_
  refine VO.nil ?_
  show VW _ _ _ _ _ _ _
  refine VW.join (fun s => ∃ (x17 : Int) (x18 : (List Int)), s = ⟨[(1, I x17), (65536, .lf (.hd 0 0 none))], [ar 0 (.int .i64) x18 .dp]⟩ ∧ F41_j0 N x17 x18 = some r) ?_ ?_
  · refine VW.seq ?_
    refine VW.region ?_
    refine VO.seg T_ok .dp 1 [0, 1, 5, 65536] [0] (s' := ⟨[(0, .lf (.hd 0 0 none)), (1, I a1), (5, I (0 : Int)), (65536, .lf (.hd 0 0 none))], [ar 0 (.int .i64) a0 .dp]⟩) (φ := True ∧ True) (by kernel_rfl) ⟨trivial, trivial⟩ ?_
    refine VO.nil ?_
    show VW _ _ _ _ _ _ _
    refine VW.block ?_
    refine VW.loopL (fun k s => ∃ (x24 : (List Int)) (x25 : Int) (x26 : Int), s = ⟨[(0, .lf (.hd 0 0 none)), (1, I x25), (5, I x26), (65536, .lf (.hd 0 0 none))], [ar 0 (.int .i64) x24 .dp]⟩ ∧ F41_l0 N k x24 x25 x26 = some r) N [.ren [0, 1, 5, 65536] [0]] (by kernel_rfl) ⟨a0, a1, (0 : Int), rfl, h⟩ ?_
    rintro k31 s ⟨x24, x25, x26, rfl, h⟩
    cases k31 with
    | zero => exact nomatch (show (none : Option ((List Int) × Int)) = some r from h)
    | succ k31 =>
      replace h : F41_l0_b N (F41_l0 N k31) x24 x25 x26 = some r := h
      unfold F41_l0_b at h
      refine VW.seq ?_
      refine VW.seq ?_
      refine VW.region ?_
      refine VO.seg T_ok .dp 4 [0, 1, 5, 9, 65536] [0] (s' := ⟨[(0, .lf (.hd 0 0 none)), (1, I x25), (5, I x26), (9, B (decide (x26 < (x24.length : Int)))), (65536, .lf (.hd 0 0 none))], [ar 0 (.int .i64) x24 .dp]⟩) (φ := True ∧ True ∧ True ∧ True ∧ True) (by kernel_rfl) ⟨trivial, trivial, trivial, trivial, trivial⟩ ?_
      refine VO.nil ?_
      show VW _ _ _ _ _ _ _
      refine VW.cond (b := (decide (x26 < (x24.length : Int)))) (by kernel_rfl) (fun hb => ?_) (fun hb => ?_)
      · replace h := cond_t h hb; clear hb
        refine VW.skip ?_
        show VW _ _ _ _ _ _ _
        refine VW.seq ?_
        refine VW.block ?_
        refine VW.seq ?_
        refine VW.region ?_
        obtain ⟨g34, h⟩ := gd_some h
        obtain ⟨g35, h⟩ := gd_some h
        refine VO.seg T_ok .dp 5 [0, 1, 5, 65536] [0] (s' := ⟨[(0, .lf (.hd 0 0 none)), (1, I x25), (5, I x26), (65536, .lf (.hd 0 0 none))], [ar 0 (.int .i64) (x24.set x26.toNat x25) .dp]⟩) (φ := True ∧ True ∧ True ∧ (InR x26 x24.length) ∧ (x26.toNat < x24.length) ∧ True) (by kernel_rfl) ⟨trivial, trivial, trivial, g34, g35, trivial⟩ ?_
        refine VO.nil ?_
        show VW _ _ _ _ _ _ _
        refine VW.region ?_
        refine VO.seg T_ok .dp 3 [0, 1, 5, 65536] [0] (s' := ⟨[(0, .lf (.hd 0 0 none)), (1, I (IntKind.i64.wrap (x25 + (1 : Int)))), (5, I x26), (65536, .lf (.hd 0 0 none))], [ar 0 (.int .i64) (x24.set x26.toNat x25) .dp]⟩) (φ := True ∧ True ∧ True ∧ True) (by kernel_rfl) ⟨trivial, trivial, trivial, trivial⟩ ?_
        refine VO.nil ?_
        show VW _ _ _ _ _ _ _
        refine VW.region ?_
        refine VO.seg T_ok .dp 3 [0, 1, 5, 65536] [0] (s' := ⟨[(0, .lf (.hd 0 0 none)), (1, I (IntKind.i64.wrap (x25 + (1 : Int)))), (5, I (IntKind.i64.wrap (x26 + (1 : Int)))), (65536, .lf (.hd 0 0 none))], [ar 0 (.int .i64) (x24.set x26.toNat x25) .dp]⟩) (φ := True ∧ True ∧ True ∧ True) (by kernel_rfl) ⟨trivial, trivial, trivial, trivial⟩ ?_
        refine VO.nil ?_
        exact around [.ren [0, 1, 5, 65536] [0]] (by kernel_rfl) ⟨(x24.set x26.toNat x25), (IntKind.i64.wrap (x25 + (1 : Int))), (IntKind.i64.wrap (x26 + (1 : Int))), rfl, h⟩
      · replace h := cond_f h hb; clear hb
        refine VW.exit ?_
        exact arrive [.ren [1, 65536] [0]] (by kernel_rfl) ⟨x25, x24, rfl, h⟩
  · rintro s ⟨x17, x18, rfl, h⟩
    unfold F41_j0 at h
    refine VW.seq ?_
    refine VW.region ?_
    refine VO.seg T_ok .dp 2 [4, 65536] [0] (s' := ⟨[(4, I x17), (65536, .lf (.hd 0 0 none))], [ar 0 (.int .i64) x18 .dp]⟩) (φ := True ∧ True ∧ True) (by kernel_rfl) ⟨trivial, trivial, trivial⟩ ?_
    refine VO.nil ?_
    show VW _ _ _ _ _ _ _
    replace h := Option.some.inj h
    subst h
    refine VW.ghl [.ren [4, 65536] [0]] (VW.ret ?_)
    exact ⟨[], by kernel_rfl, by kernel_rfl, by kernel_rfl⟩

/- loop.example/g00844/laws.markCache -/
def F17 (N : Nat) (a0 : (Int × ((List Int) × (List Int)))) (a1 : Int) : Option ((List Int) × (List Int) × Int) :=
  andO (F41 N a0.2.1 a1) fun y1 => andO (F41 N a0.2.2 y1.2) fun y2 => some (y1.1, y2.1, y2.2)
theorem ok17 (N : Nat) (a0 : (Int × ((List Int) × (List Int)))) (a1 : Int) {r : (List Int) × (List Int) × Int} (h : F17 N a0 a1 = some r) : ConM Go.Proofs.Try.prog 17 [ar 0 (.int .i64) a0.2.1 .dp, ar 0 (.int .i64) a0.2.2 .dp] [.agg [.v (.int .i64) a0.1, .hd 0 0 none, .hd 1 0 none], I a1] [.lf (.v (.int .i64) r.2.2)] [ar 0 (.int .i64) r.1 .dp, ar 0 (.int .i64) r.2.1 .dp] := by
  refine ⟨enters_of Go.Proofs.Try.func17 rfl (by decide), HM.intro [.lf (.v (.int .i64))] T_ok Go.Proofs.Try.func17 rfl (Nat.le_of_ble_eq_true rfl) (Nat.le_of_ble_eq_true rfl) fun w0 E0 => ?_⟩
  unfold F17 at h
  show VW _ _ _ _ _ (retM _ _ _ _ _) _
  refine VW.seq ?_
  refine VW.region ?_
  refine VO.seg T_ok .dp 2 [1, 2, 65536, 65537] [2, 0, 1] (s' := ⟨[(1, I a1), (2, .lf (.ptr 0 0 0 0)), (65536, .lf (.hd 1 0 none)), (65537, .lf (.hd 2 0 none))], [bx [.v (.int .i64) a0.1, .hd 1 0 none, .hd 2 0 none] 24, ar 0 (.int .i64) a0.2.1 .dp, ar 0 (.int .i64) a0.2.2 .dp]⟩) (φ := True ∧ True ∧ True) (by kernel_rfl) ⟨trivial, trivial, trivial⟩ ?_
  refine VO.nil ?_
  show VW _ _ _ _ _ _ _
  refine VW.seq ?_
  refine VW.region ?_
  refine VO.seg T_ok .dp 3 [2, 6, 7, 65536, 65537] [0, 1, 2] (s' := ⟨[(2, .lf (.ptr 0 0 0 0)), (6, .lf (.hd 1 0 none)), (7, I a1), (65536, .lf (.hd 1 0 none)), (65537, .lf (.hd 2 0 none))], [bx [.v (.int .i64) a0.1, .hd 1 0 none, .hd 2 0 none] 24, ar 0 (.int .i64) a0.2.1 .dp, ar 0 (.int .i64) a0.2.2 .dp]⟩) (φ := True ∧ True ∧ True ∧ True) (by kernel_rfl) ⟨trivial, trivial, trivial, trivial⟩ ?_
  obtain ⟨y1, hy, h⟩ := andO_some h
  refine VO.callM [1] [.t (.sl (.int .i64)), .t (.int .i64)] (d := some 8) (by kernel_rfl) (by kernel_rfl) (ok41 N _ _ hy) (by kernel_rfl) ?_
  refine VO.seg T_ok .dp 1 [1, 2, 65536, 65537] [0, 1, 2] (s' := ⟨[(1, I y1.2), (2, .lf (.ptr 0 0 0 0)), (65536, .lf (.hd 1 0 none)), (65537, .lf (.hd 2 0 none))], [bx [.v (.int .i64) a0.1, .hd 1 0 none, .hd 2 0 none] 24, ar 0 (.int .i64) y1.1 .dp, ar 0 (.int .i64) a0.2.2 .dp]⟩) (φ := True ∧ True) (by kernel_rfl) ⟨trivial, trivial⟩ ?_
  refine VO.nil ?_
  show VW _ _ _ _ _ _ _
  refine VW.seq ?_
  refine VW.region ?_
  refine VO.seg T_ok .dp 3 [10, 11, 65536, 65537] [2, 1] (s' := ⟨[(10, .lf (.hd 0 0 none)), (11, I y1.2), (65536, .lf (.hd 1 0 none)), (65537, .lf (.hd 0 0 none))], [ar 0 (.int .i64) a0.2.2 .dp, ar 0 (.int .i64) y1.1 .dp]⟩) (φ := True ∧ True ∧ True ∧ True) (by kernel_rfl) ⟨trivial, trivial, trivial, trivial⟩ ?_
  obtain ⟨y2, hy, h⟩ := andO_some h
  refine VO.callM [0] [.t (.sl (.int .i64)), .t (.int .i64)] (d := some 12) (by kernel_rfl) (by kernel_rfl) (ok41 N _ _ hy) (by kernel_rfl) ?_
  refine VO.seg T_ok .dp 1 [1, 65536, 65537] [1, 0] (s' := ⟨[(1, I y2.2), (65536, .lf (.hd 0 0 none)), (65537, .lf (.hd 1 0 none))], [ar 0 (.int .i64) y1.1 .dp, ar 0 (.int .i64) y2.1 .dp]⟩) (φ := True ∧ True) (by kernel_rfl) ⟨trivial, trivial⟩ ?_
  refine VO.nil ?_
  show VW _ _ _ _ _ _ _
  refine VW.seq ?_
  refine VW.region ?_
  refine VO.seg T_ok .dp 2 [4, 65536, 65537] [0, 1] (s' := ⟨[(4, I y2.2), (65536, .lf (.hd 0 0 none)), (65537, .lf (.hd 1 0 none))], [ar 0 (.int .i64) y1.1 .dp, ar 0 (.int .i64) y2.1 .dp]⟩) (φ := True ∧ True ∧ True) (by kernel_rfl) ⟨trivial, trivial, trivial⟩ ?_
  refine VO.nil ?_
  show VW _ _ _ _ _ _ _
  replace h := Option.some.inj h
  subst h
  refine VW.ghl [.ren [4, 65536, 65537] [0, 1]] (VW.ret ?_)
  exact ⟨[], by kernel_rfl, by kernel_rfl, by kernel_rfl⟩

/- loop.example/g00844/laws.heldIntS -/
def F42_j0 (N : Nat) (x16 : Int) : Option (Int) :=
  some x16
def F42_l0_b (N : Nat) (a0 : (List Int)) (nx28 : Int → Int → Option (Int)) (x22 : Int) (x23 : Int) : Option (Int) :=
  cond (decide (x23 < (a0.length : Int))) (gd (InR x23 a0.length) (cond ((a0.getD x23.toNat (Ty.dflt (.int .i64))) != x22) (some (-1 : Int)) (nx28 (IntKind.i64.wrap (x22 + (1 : Int))) (IntKind.i64.wrap (x23 + (1 : Int)))))) (F42_j0 N x22)
def F42_l0 (N : Nat) (a0 : (List Int)) : Nat → Int → Int → Option (Int) := loopF (F42_l0_b N a0) (fun _ _ => none)
theorem F42_l0_s (N : Nat) (a0 : (List Int)) {k : Nat} (hk : 0 < k) (x22 : Int) (x23 : Int) : F42_l0 N a0 k x22 x23 = F42_l0_b N a0 (F42_l0 N a0 (k - 1)) x22 x23 := by
  cases k with
  | zero => exact absurd hk (Nat.lt_irrefl 0)
  | succ m => rfl
def F42 (N : Nat) (a0 : (List Int)) (a1 : Int) : Option (Int) :=
  F42_l0 N a0 N a1 (0 : Int)
theorem ok42 (N : Nat) (a0 : (List Int)) (a1 : Int) {r : Int} (h : F42 N a0 a1 = some r) : Con Go.Proofs.Try.prog 42 [.lf (.v (.sl (.int .i64)) a0), I a1] [.lf (.v (.int .i64) r)] := by
  refine ⟨enters_of Go.Proofs.Try.func42 rfl (by decide), HC.intro [.lf (.v (.int .i64))] T_ok Go.Proofs.Try.func42 rfl (Nat.le_of_ble_eq_true rfl) (Nat.le_of_ble_eq_true rfl) fun w0 E0 => ?_⟩
  unfold F42 at h
  show VW _ _ _ _ _ (retQ _ _ _ _) _
  refine VW.seq ?_
  refine VW.region ?_
  refine VO.seg T_ok .dp 1 [0, 1] [] (s' := ⟨[(0, .lf (.v (.sl (.int .i64)) a0)), (1, I a1)], []⟩) (φ := True ∧ True) (by kernel_rfl) ⟨trivial, trivial⟩ ?_
  refine VO.nil ?_
  show VW _ _ _ _ _ _ _
  refine VW.join (fun s => ∃ (x16 : Int), s = ⟨[(1, I x16)], []⟩ ∧ F42_j0 N x16 = some r) ?_ ?_
  · refine VW.seq ?_
    refine VW.region ?_
    refine VO.seg T_ok .dp 1 [0, 1, 5] [] (s' := ⟨[(0, .lf (.v (.sl (.int .i64)) a0)), (1, I a1), (5, I (0 : Int))], []⟩) (φ := True ∧ True) (by kernel_rfl) ⟨trivial, trivial⟩ ?_
    refine VO.nil ?_
    show VW _ _ _ _ _ _ _
    refine VW.block ?_
    refine VW.loopL (fun k s => ∃ (x22 : Int) (x23 : Int), s = ⟨[(0, .lf (.v (.sl (.int .i64)) a0)), (1, I x22), (5, I x23)], []⟩ ∧ F42_l0 N a0 k x22 x23 = some r) N [.ren [0, 1, 5] []] (by kernel_rfl) ⟨a1, (0 : Int), rfl, h⟩ ?_
    rintro k28 s ⟨x22, x23, rfl, h⟩
    cases k28 with
    | zero => exact nomatch (show (none : Option (Int)) = some r from h)
    | succ k28 =>
      replace h : F42_l0_b N a0 (F42_l0 N a0 k28) x22 x23 = some r := h
      unfold F42_l0_b at h
      refine VW.seq ?_
      refine VW.seq ?_
      refine VW.region ?_
      refine VO.seg T_ok .dp 4 [0, 1, 5, 9] [] (s' := ⟨[(0, .lf (.v (.sl (.int .i64)) a0)), (1, I x22), (5, I x23), (9, B (decide (x23 < (a0.length : Int))))], []⟩) (φ := True ∧ True ∧ True ∧ True ∧ True) (by kernel_rfl) ⟨trivial, trivial, trivial, trivial, trivial⟩ ?_
      refine VO.nil ?_
      show VW _ _ _ _ _ _ _
      refine VW.cond (b := (decide (x23 < (a0.length : Int)))) (by kernel_rfl) (fun hb => ?_) (fun hb => ?_)
      · replace h := cond_t h hb; clear hb
        refine VW.skip ?_
        show VW _ _ _ _ _ _ _
        refine VW.seq ?_
        refine VW.block ?_
        refine VW.seq ?_
        refine VW.seq ?_
        refine VW.region ?_
        obtain ⟨g32, h⟩ := gd_some h
        refine VO.seg T_ok .dp 6 [0, 1, 5, 17] [] (s' := ⟨[(0, .lf (.v (.sl (.int .i64)) a0)), (1, I x22), (5, I x23), (17, B ((a0.getD x23.toNat (Ty.dflt (.int .i64))) != x22))], []⟩) (φ := True ∧ True ∧ (InR x23 a0.length) ∧ True ∧ True ∧ True ∧ True) (by kernel_rfl) ⟨trivial, trivial, g32, trivial, trivial, trivial, trivial⟩ ?_
        refine VO.nil ?_
        show VW _ _ _ _ _ _ _
        refine VW.cond (b := ((a0.getD x23.toNat (Ty.dflt (.int .i64))) != x22)) (by kernel_rfl) (fun hb => ?_) (fun hb => ?_)
        · replace h := cond_t h hb; clear hb
          refine VW.seq ?_
          refine VW.region ?_
          refine VO.seg T_ok .dp 1 [4] [] (s' := ⟨[(4, I (-1 : Int))], []⟩) (φ := True ∧ True) (by kernel_rfl) ⟨trivial, trivial⟩ ?_
          refine VO.nil ?_
          show VW _ _ _ _ _ _ _
          refine VW.ret ?_
          replace h := Option.some.inj h
          subst h
          exact retR [] (by kernel_rfl) rfl
        · replace h := cond_f h hb; clear hb
          refine VW.skip ?_
          show VW _ _ _ _ _ _ _
          refine VW.region ?_
          refine VO.seg T_ok .dp 3 [0, 1, 5] [] (s' := ⟨[(0, .lf (.v (.sl (.int .i64)) a0)), (1, I (IntKind.i64.wrap (x22 + (1 : Int)))), (5, I x23)], []⟩) (φ := True ∧ True ∧ True ∧ True) (by kernel_rfl) ⟨trivial, trivial, trivial, trivial⟩ ?_
          refine VO.nil ?_
          show VW _ _ _ _ _ _ _
          refine VW.region ?_
          refine VO.seg T_ok .dp 3 [0, 1, 5] [] (s' := ⟨[(0, .lf (.v (.sl (.int .i64)) a0)), (1, I (IntKind.i64.wrap (x22 + (1 : Int)))), (5, I (IntKind.i64.wrap (x23 + (1 : Int))))], []⟩) (φ := True ∧ True ∧ True ∧ True) (by kernel_rfl) ⟨trivial, trivial, trivial, trivial⟩ ?_
          refine VO.nil ?_
          exact around [.ren [0, 1, 5] []] (by kernel_rfl) ⟨(IntKind.i64.wrap (x22 + (1 : Int))), (IntKind.i64.wrap (x23 + (1 : Int))), rfl, h⟩
      · replace h := cond_f h hb; clear hb
        refine VW.exit ?_
        exact arrive [.ren [1] []] (by kernel_rfl) ⟨x22, rfl, h⟩
  · rintro s ⟨x16, rfl, h⟩
    unfold F42_j0 at h
    refine VW.seq ?_
    refine VW.region ?_
    refine VO.seg T_ok .dp 2 [4] [] (s' := ⟨[(4, I x16)], []⟩) (φ := True ∧ True ∧ True) (by kernel_rfl) ⟨trivial, trivial, trivial⟩ ?_
    refine VO.nil ?_
    show VW _ _ _ _ _ _ _
    refine VW.ret ?_
    replace h := Option.some.inj h
    subst h
    exact retR [] (by kernel_rfl) rfl

/- loop.example/g00844/laws.heldCache -/
def F18 (N : Nat) (a0 : (Int × ((List Int) × (List Int)))) (a1 : Int) : Option (Int) :=
  andO (F42 N a0.2.1 a1) fun y1 => cond (decide (y1 < (0 : Int))) (some (-1 : Int)) (andO (F42 N a0.2.2 y1) fun y2 => cond (decide (y2 < (0 : Int))) (some (-1 : Int)) (some y2))
theorem ok18 (N : Nat) (a0 : (Int × ((List Int) × (List Int)))) (a1 : Int) {r : Int} (h : F18 N a0 a1 = some r) : Con Go.Proofs.Try.prog 18 [.agg [.v (.int .i64) a0.1, .v (.sl (.int .i64)) a0.2.1, .v (.sl (.int .i64)) a0.2.2], I a1] [.lf (.v (.int .i64) r)] := by
  refine ⟨enters_of Go.Proofs.Try.func18 rfl (by decide), HC.intro [.lf (.v (.int .i64))] T_ok Go.Proofs.Try.func18 rfl (Nat.le_of_ble_eq_true rfl) (Nat.le_of_ble_eq_true rfl) fun w0 E0 => ?_⟩
  unfold F18 at h
  show VW _ _ _ _ _ (retQ _ _ _ _) _
  refine VW.seq ?_
  refine VW.region ?_
  refine VO.seg T_ok .dp 2 [1, 2] [0] (s' := ⟨[(1, I a1), (2, .lf (.ptr 0 0 0 0))], [bx [.v (.int .i64) a0.1, .v (.sl (.int .i64)) a0.2.1, .v (.sl (.int .i64)) a0.2.2] 24]⟩) (φ := True ∧ True ∧ True) (by kernel_rfl) ⟨trivial, trivial, trivial⟩ ?_
  refine VO.nil ?_
  show VW _ _ _ _ _ _ _
  refine VW.seq ?_
  refine VW.region ?_
  refine VO.seg T_ok .dp 3 [2, 6, 7] [0] (s' := ⟨[(2, .lf (.ptr 0 0 0 0)), (6, .lf (.v (.sl (.int .i64)) a0.2.1)), (7, I a1)], [bx [.v (.int .i64) a0.1, .v (.sl (.int .i64)) a0.2.1, .v (.sl (.int .i64)) a0.2.2] 24]⟩) (φ := True ∧ True ∧ True ∧ True) (by kernel_rfl) ⟨trivial, trivial, trivial, trivial⟩ ?_
  obtain ⟨y1, hy, h⟩ := andO_some h
  refine VO.call false [.t (.sl (.int .i64)), .t (.int .i64)] [] T_ok (d := some 8) (by kernel_rfl) (ok42 N _ _ hy) rfl ?_
  refine VO.seg T_ok .dp 1 [1, 2] [0] (s' := ⟨[(1, I y1), (2, .lf (.ptr 0 0 0 0))], [bx [.v (.int .i64) a0.1, .v (.sl (.int .i64)) a0.2.1, .v (.sl (.int .i64)) a0.2.2] 24]⟩) (φ := True ∧ True) (by kernel_rfl) ⟨trivial, trivial⟩ ?_
  refine VO.nil ?_
  show VW _ _ _ _ _ _ _
  refine VW.seq ?_
  refine VW.seq ?_
  refine VW.region ?_
  refine VO.seg T_ok .dp 2 [1, 2, 10] [0] (s' := ⟨[(1, I y1), (2, .lf (.ptr 0 0 0 0)), (10, B (decide (y1 < (0 : Int))))], [bx [.v (.int .i64) a0.1, .v (.sl (.int .i64)) a0.2.1, .v (.sl (.int .i64)) a0.2.2] 24]⟩) (φ := True ∧ True ∧ True) (by kernel_rfl) ⟨trivial, trivial, trivial⟩ ?_
  refine VO.nil ?_
  show VW _ _ _ _ _ _ _
  refine VW.cond (b := (decide (y1 < (0 : Int)))) (by kernel_rfl) (fun hb => ?_) (fun hb => ?_)
  · replace h := cond_t h hb; clear hb
    refine VW.seq ?_
    refine VW.region ?_
    refine VO.seg T_ok .dp 1 [4] [] (s' := ⟨[(4, I (-1 : Int))], []⟩) (φ := True ∧ True) (by kernel_rfl) ⟨trivial, trivial⟩ ?_
    refine VO.nil ?_
    show VW _ _ _ _ _ _ _
    refine VW.ret ?_
    replace h := Option.some.inj h
    subst h
    exact retR [] (by kernel_rfl) rfl
  · replace h := cond_f h hb; clear hb
    refine VW.skip ?_
    show VW _ _ _ _ _ _ _
    refine VW.seq ?_
    refine VW.region ?_
    refine VO.seg T_ok .dp 3 [12, 13] [] (s' := ⟨[(12, .lf (.v (.sl (.int .i64)) a0.2.2)), (13, I y1)], []⟩) (φ := True ∧ True ∧ True ∧ True) (by kernel_rfl) ⟨trivial, trivial, trivial, trivial⟩ ?_
    obtain ⟨y2, hy, h⟩ := andO_some h
    refine VO.call false [.t (.sl (.int .i64)), .t (.int .i64)] [] T_ok (d := some 14) (by kernel_rfl) (ok42 N _ _ hy) rfl ?_
    refine VO.seg T_ok .dp 1 [1] [] (s' := ⟨[(1, I y2)], []⟩) (φ := True ∧ True) (by kernel_rfl) ⟨trivial, trivial⟩ ?_
    refine VO.nil ?_
    show VW _ _ _ _ _ _ _
    refine VW.seq ?_
    refine VW.seq ?_
    refine VW.region ?_
    refine VO.seg T_ok .dp 2 [1, 16] [] (s' := ⟨[(1, I y2), (16, B (decide (y2 < (0 : Int))))], []⟩) (φ := True ∧ True ∧ True) (by kernel_rfl) ⟨trivial, trivial, trivial⟩ ?_
    refine VO.nil ?_
    show VW _ _ _ _ _ _ _
    refine VW.cond (b := (decide (y2 < (0 : Int)))) (by kernel_rfl) (fun hb => ?_) (fun hb => ?_)
    · replace h := cond_t h hb; clear hb
      refine VW.seq ?_
      refine VW.region ?_
      refine VO.seg T_ok .dp 1 [4] [] (s' := ⟨[(4, I (-1 : Int))], []⟩) (φ := True ∧ True) (by kernel_rfl) ⟨trivial, trivial⟩ ?_
      refine VO.nil ?_
      show VW _ _ _ _ _ _ _
      refine VW.ret ?_
      replace h := Option.some.inj h
      subst h
      exact retR [] (by kernel_rfl) rfl
    · replace h := cond_f h hb; clear hb
      refine VW.skip ?_
      show VW _ _ _ _ _ _ _
      refine VW.seq ?_
      refine VW.region ?_
      refine VO.seg T_ok .dp 2 [4] [] (s' := ⟨[(4, I y2)], []⟩) (φ := True ∧ True ∧ True) (by kernel_rfl) ⟨trivial, trivial, trivial⟩ ?_
      refine VO.nil ?_
      show VW _ _ _ _ _ _ _
      refine VW.ret ?_
      replace h := Option.some.inj h
      subst h
      exact retR [] (by kernel_rfl) rfl

/- loop.example/g00844/spec.l01Number -/
def F51 (N : Nat) (a0 : Int) : Option (Bool) :=
  andO (F48 N a0 (-1000000 : Int) (1000000 : Int)) fun y1 => some y1
theorem ok51 (N : Nat) (a0 : Int) {r : Bool} (h : F51 N a0 = some r) : Con Go.Proofs.Try.prog 51 [I a0] [.lf (.v .bool r)] := by
  refine ⟨enters_of Go.Proofs.Try.func51 rfl (by decide), HC.intro [.lf (.v .bool)] T_ok Go.Proofs.Try.func51 rfl (Nat.le_of_ble_eq_true rfl) (Nat.le_of_ble_eq_true rfl) fun w0 E0 => ?_⟩
  unfold F51 at h
  show VW _ _ _ _ _ (retQ _ _ _ _) _
  refine VW.seq ?_
  refine VW.region ?_
  refine VO.seg T_ok .dp 1 [0] [] (s' := ⟨[(0, I a0)], []⟩) (φ := True ∧ True) (by kernel_rfl) ⟨trivial, trivial⟩ ?_
  refine VO.nil ?_
  show VW _ _ _ _ _ _ _
  refine VW.seq ?_
  refine VW.region ?_
  refine VO.seg T_ok .dp 1 [3] [] (s' := ⟨[(3, I a0)], []⟩) (φ := True ∧ True) (by kernel_rfl) ⟨trivial, trivial⟩ ?_
  obtain ⟨y1, hy, h⟩ := andO_some h
  refine VO.call false [.t (.int .i64), .t (.int .i64), .t (.int .i64)] [] T_ok (d := some 4) (by kernel_rfl) (ok48 N _ _ _ hy) rfl ?_
  refine VO.seg T_ok .dp 1 [2] [] (s' := ⟨[(2, B y1)], []⟩) (φ := True ∧ True) (by kernel_rfl) ⟨trivial, trivial⟩ ?_
  refine VO.nil ?_
  show VW _ _ _ _ _ _ _
  refine VW.ret ?_
  replace h := Option.some.inj h
  subst h
  exact retR [] (by kernel_rfl) rfl

/- loop.example/g00844/spec.l01Has -/
def F52_j0 (N : Nat) : Option (Bool) :=
  some false
def F52_l0_b (N : Nat) (a0 : (List Int)) (a1 : Int) (nx15 : Int → Option (Bool)) (x12 : Int) : Option (Bool) :=
  cond (decide (x12 < (a0.length : Int))) (gd (InR x12 a0.length) (cond ((a0.getD x12.toNat (Ty.dflt (.int .i64))) == a1) (some true) (nx15 (IntKind.i64.wrap (x12 + (1 : Int)))))) (F52_j0 N)
def F52_l0 (N : Nat) (a0 : (List Int)) (a1 : Int) : Nat → Int → Option (Bool) := loopF (F52_l0_b N a0 a1) (fun _ => none)
theorem F52_l0_s (N : Nat) (a0 : (List Int)) (a1 : Int) {k : Nat} (hk : 0 < k) (x12 : Int) : F52_l0 N a0 a1 k x12 = F52_l0_b N a0 a1 (F52_l0 N a0 a1 (k - 1)) x12 := by
  cases k with
  | zero => exact absurd hk (Nat.lt_irrefl 0)
  | succ m => rfl
def F52 (N : Nat) (a0 : (List Int)) (a1 : Int) : Option (Bool) :=
  F52_l0 N a0 a1 N (0 : Int)
theorem ok52 (N : Nat) (a0 : (List Int)) (a1 : Int) {r : Bool} (h : F52 N a0 a1 = some r) : Con Go.Proofs.Try.prog 52 [.lf (.v (.sl (.int .i64)) a0), I a1] [.lf (.v .bool r)] := by
  refine ⟨enters_of Go.Proofs.Try.func52 rfl (by decide), HC.intro [.lf (.v .bool)] T_ok Go.Proofs.Try.func52 rfl (Nat.le_of_ble_eq_true rfl) (Nat.le_of_ble_eq_true rfl) fun w0 E0 => ?_⟩
  unfold F52 at h
  show VW _ _ _ _ _ (retQ _ _ _ _) _
  refine VW.seq ?_
  refine VW.region ?_
  refine VO.seg T_ok .dp 1 [0, 1] [] (s' := ⟨[(0, .lf (.v (.sl (.int .i64)) a0)), (1, I a1)], []⟩) (φ := True ∧ True) (by kernel_rfl) ⟨trivial, trivial⟩ ?_
  refine VO.nil ?_
  show VW _ _ _ _ _ _ _
  refine VW.join (fun s => s = ⟨[], []⟩ ∧ F52_j0 N = some r) ?_ ?_
  · refine VW.seq ?_
    refine VW.region ?_
    refine VO.seg T_ok .dp 1 [0, 1, 5] [] (s' := ⟨[(0, .lf (.v (.sl (.int .i64)) a0)), (1, I a1), (5, I (0 : Int))], []⟩) (φ := True ∧ True) (by kernel_rfl) ⟨trivial, trivial⟩ ?_
    refine VO.nil ?_
    show VW _ _ _ _ _ _ _
    refine VW.block ?_
    refine VW.loopL (fun k s => ∃ (x12 : Int), s = ⟨[(0, .lf (.v (.sl (.int .i64)) a0)), (1, I a1), (5, I x12)], []⟩ ∧ F52_l0 N a0 a1 k x12 = some r) N [.ren [0, 1, 5] []] (by kernel_rfl) ⟨(0 : Int), rfl, h⟩ ?_
    rintro k15 s ⟨x12, rfl, h⟩
    cases k15 with
    | zero => exact nomatch (show (none : Option (Bool)) = some r from h)
    | succ k15 =>
      replace h : F52_l0_b N a0 a1 (F52_l0 N a0 a1 k15) x12 = some r := h
      unfold F52_l0_b at h
      refine VW.seq ?_
      refine VW.seq ?_
      refine VW.region ?_
      refine VO.seg T_ok .dp 4 [0, 1, 5, 9] [] (s' := ⟨[(0, .lf (.v (.sl (.int .i64)) a0)), (1, I a1), (5, I x12), (9, B (decide (x12 < (a0.length : Int))))], []⟩) (φ := True ∧ True ∧ True ∧ True ∧ True) (by kernel_rfl) ⟨trivial, trivial, trivial, trivial, trivial⟩ ?_
      refine VO.nil ?_
      show VW _ _ _ _ _ _ _
      refine VW.cond (b := (decide (x12 < (a0.length : Int)))) (by kernel_rfl) (fun hb => ?_) (fun hb => ?_)
      · replace h := cond_t h hb; clear hb
        refine VW.skip ?_
        show VW _ _ _ _ _ _ _
        refine VW.seq ?_
        refine VW.block ?_
        refine VW.seq ?_
        refine VW.region ?_
        obtain ⟨g17, h⟩ := gd_some h
        refine VO.seg T_ok .dp 6 [0, 1, 5, 17] [] (s' := ⟨[(0, .lf (.v (.sl (.int .i64)) a0)), (1, I a1), (5, I x12), (17, B ((a0.getD x12.toNat (Ty.dflt (.int .i64))) == a1))], []⟩) (φ := True ∧ True ∧ (InR x12 a0.length) ∧ True ∧ True ∧ True ∧ True) (by kernel_rfl) ⟨trivial, trivial, g17, trivial, trivial, trivial, trivial⟩ ?_
        refine VO.nil ?_
        show VW _ _ _ _ _ _ _
        refine VW.cond (b := ((a0.getD x12.toNat (Ty.dflt (.int .i64))) == a1)) (by kernel_rfl) (fun hb => ?_) (fun hb => ?_)
        · replace h := cond_t h hb; clear hb
          refine VW.seq ?_
          refine VW.region ?_
          refine VO.seg T_ok .dp 1 [4] [] (s' := ⟨[(4, B true)], []⟩) (φ := True ∧ True) (by kernel_rfl) ⟨trivial, trivial⟩ ?_
          refine VO.nil ?_
          show VW _ _ _ _ _ _ _
          refine VW.ret ?_
          replace h := Option.some.inj h
          subst h
          exact retR [] (by kernel_rfl) rfl
        · replace h := cond_f h hb; clear hb
          refine VW.skip ?_
          show VW _ _ _ _ _ _ _
          refine VW.region ?_
          refine VO.seg T_ok .dp 3 [0, 1, 5] [] (s' := ⟨[(0, .lf (.v (.sl (.int .i64)) a0)), (1, I a1), (5, I (IntKind.i64.wrap (x12 + (1 : Int))))], []⟩) (φ := True ∧ True ∧ True ∧ True) (by kernel_rfl) ⟨trivial, trivial, trivial, trivial⟩ ?_
          refine VO.nil ?_
          exact around [.ren [0, 1, 5] []] (by kernel_rfl) ⟨(IntKind.i64.wrap (x12 + (1 : Int))), rfl, h⟩
      · replace h := cond_f h hb; clear hb
        refine VW.exit ?_
        exact arrive [.ren [] []] (by kernel_rfl) ⟨rfl, h⟩
  · rintro s ⟨rfl, h⟩
    unfold F52_j0 at h
    refine VW.seq ?_
    refine VW.region ?_
    refine VO.seg T_ok .dp 1 [4] [] (s' := ⟨[(4, B false)], []⟩) (φ := True ∧ True) (by kernel_rfl) ⟨trivial, trivial⟩ ?_
    refine VO.nil ?_
    show VW _ _ _ _ _ _ _
    refine VW.ret ?_
    replace h := Option.some.inj h
    subst h
    exact retR [] (by kernel_rfl) rfl

/- loop.example/g00844/spec.CacheOk -/
def F20_j0 (N : Nat) : Option (Bool) :=
  some true
def F20_l0_b (N : Nat) (nx109 : Int → (List Int) → (List Int) → Int → Option (Bool)) (x87 : Int) (x88 : (List Int)) (x89 : (List Int)) (x90 : Int) : Option (Bool) :=
  cond (decide (x90 < (x88.length : Int))) (gd (InR x90 x88.length) (andO (F51 N (x88.getD x90.toNat (Ty.dflt (.int .i64)))) fun y120 => cond (!y120) (some false) (gd (InR x90 x89.length) (andO (F51 N (x89.getD x90.toNat (Ty.dflt (.int .i64)))) fun y123 => cond (!y123) (some false) (gd (0 ≤ x90 ∧ x90 ≤ (x88.length : Int)) (gd (InR x90 x88.length) (andO (F52 N (x88.take x90.toNat) (x88.getD x90.toNat (Ty.dflt (.int .i64)))) fun y127 => cond y127 (some false) (nx109 x87 x88 x89 (IntKind.i64.wrap (x90 + (1 : Int))))))))))) (F20_j0 N)
def F20_l0 (N : Nat) : Nat → Int → (List Int) → (List Int) → Int → Option (Bool) := loopF (F20_l0_b N) (fun _ _ _ _ => none)
theorem F20_l0_s (N : Nat) {k : Nat} (hk : 0 < k) (x87 : Int) (x88 : (List Int)) (x89 : (List Int)) (x90 : Int) : F20_l0 N k x87 x88 x89 x90 = F20_l0_b N (F20_l0 N (k - 1)) x87 x88 x89 x90 := by
  cases k with
  | zero => exact absurd hk (Nat.lt_irrefl 0)
  | succ m => rfl
def F20 (N : Nat) (a0 : (Int × ((List Int) × (List Int)))) : Option (Bool) :=
  andO (F48 N a0.1 (1 : Int) (16 : Int)) fun y2 => cond (!y2) (some false) (cond (decide ((a0.2.1.length : Int) > a0.1)) (some false) (cond ((a0.2.2.length : Int) != (a0.2.1.length : Int)) (some false) (F20_l0 N N a0.1 a0.2.1 a0.2.2 (0 : Int))))
theorem ok20 (N : Nat) (a0 : (Int × ((List Int) × (List Int)))) {r : Bool} (h : F20 N a0 = some r) : Con Go.Proofs.Try.prog 20 [.agg [.v (.int .i64) a0.1, .v (.sl (.int .i64)) a0.2.1, .v (.sl (.int .i64)) a0.2.2]] [.lf (.v .bool r)] := by
  refine ⟨enters_of Go.Proofs.Try.func20 rfl (by decide), HC.intro [.lf (.v .bool)] T_ok Go.Proofs.Try.func20 rfl (Nat.le_of_ble_eq_true rfl) (Nat.le_of_ble_eq_true rfl) fun w0 E0 => ?_⟩
  unfold F20 at h
  show VW _ _ _ _ _ (retQ _ _ _ _) _
  refine VW.seq ?_
  refine VW.region ?_
  refine VO.seg T_ok .dp 2 [1] [0] (s' := ⟨[(1, .lf (.ptr 0 0 0 0))], [bx [.v (.int .i64) a0.1, .v (.sl (.int .i64)) a0.2.1, .v (.sl (.int .i64)) a0.2.2] 24]⟩) (φ := True ∧ True ∧ True) (by kernel_rfl) ⟨trivial, trivial, trivial⟩ ?_
  refine VO.nil ?_
  show VW _ _ _ _ _ _ _
  refine VW.seq ?_
  refine VW.seq ?_
  refine VW.region ?_
  refine VO.seg T_ok .dp 2 [1, 5] [0] (s' := ⟨[(1, .lf (.ptr 0 0 0 0)), (5, I a0.1)], [bx [.v (.int .i64) a0.1, .v (.sl (.int .i64)) a0.2.1, .v (.sl (.int .i64)) a0.2.2] 24]⟩) (φ := True ∧ True ∧ True) (by kernel_rfl) ⟨trivial, trivial, trivial⟩ ?_
  obtain ⟨y2, hy, h⟩ := andO_some h
  refine VO.call false [.t (.int .i64), .t (.int .i64), .t (.int .i64)] [] T_ok (d := some 6) (by kernel_rfl) (ok48 N _ _ _ hy) rfl ?_
  refine VO.seg T_ok .dp 2 [1, 8] [0] (s' := ⟨[(1, .lf (.ptr 0 0 0 0)), (8, B (!y2))], [bx [.v (.int .i64) a0.1, .v (.sl (.int .i64)) a0.2.1, .v (.sl (.int .i64)) a0.2.2] 24]⟩) (φ := True ∧ True ∧ True) (by kernel_rfl) ⟨trivial, trivial, trivial⟩ ?_
  refine VO.splitB 8 (b := (!y2)) (by kernel_rfl) (fun hb => ?_) (fun hb => ?_)
  · replace h := cond_t h hb; clear hb
    refine VO.seg T_ok .dp 16 [1, 24] [0] (s' := ⟨[(1, .lf (.ptr 0 0 0 0)), (24, B true)], [bx [.v (.int .i64) a0.1, .v (.sl (.int .i64)) a0.2.1, .v (.sl (.int .i64)) a0.2.2] 24]⟩) (φ := True ∧ True ∧ True ∧ True ∧ True ∧ True ∧ True ∧ True ∧ True ∧ True ∧ True ∧ True ∧ True ∧ True ∧ True ∧ True ∧ True) (by kernel_rfl) ⟨trivial, trivial, trivial, trivial, trivial, trivial, trivial, trivial, trivial, trivial, trivial, trivial, trivial, trivial, trivial, trivial, trivial⟩ ?_
    refine VO.nil ?_
    show VW _ _ _ _ _ _ _
    refine VW.cond (b := true) (by kernel_rfl) (fun _ => ?_) (fun h' => nomatch h')
    refine VW.seq ?_
    refine VW.region ?_
    refine VO.seg T_ok .dp 1 [2] [] (s' := ⟨[(2, B false)], []⟩) (φ := True ∧ True) (by kernel_rfl) ⟨trivial, trivial⟩ ?_
    refine VO.nil ?_
    show VW _ _ _ _ _ _ _
    refine VW.ret ?_
    replace h := Option.some.inj h
    subst h
    exact retR [] (by kernel_rfl) rfl
  · replace h := cond_f h hb; clear hb
    refine VO.seg T_ok .dp 8 [1, 16] [0] (s' := ⟨[(1, .lf (.ptr 0 0 0 0)), (16, B (decide ((a0.2.1.length : Int) > a0.1)))], [bx [.v (.int .i64) a0.1, .v (.sl (.int .i64)) a0.2.1, .v (.sl (.int .i64)) a0.2.2] 24]⟩) (φ := True ∧ True ∧ True ∧ True ∧ True ∧ True ∧ True ∧ True ∧ True) (by kernel_rfl) ⟨trivial, trivial, trivial, trivial, trivial, trivial, trivial, trivial, trivial⟩ ?_
    refine VO.splitB 16 (b := (decide ((a0.2.1.length : Int) > a0.1))) (by kernel_rfl) (fun hb => ?_) (fun hb => ?_)
    · replace h := cond_t h hb; clear hb
      refine VO.seg T_ok .dp 8 [1, 24] [0] (s' := ⟨[(1, .lf (.ptr 0 0 0 0)), (24, B true)], [bx [.v (.int .i64) a0.1, .v (.sl (.int .i64)) a0.2.1, .v (.sl (.int .i64)) a0.2.2] 24]⟩) (φ := True ∧ True ∧ True ∧ True ∧ True ∧ True ∧ True ∧ True ∧ True) (by kernel_rfl) ⟨trivial, trivial, trivial, trivial, trivial, trivial, trivial, trivial, trivial⟩ ?_
      refine VO.nil ?_
      show VW _ _ _ _ _ _ _
      refine VW.cond (b := true) (by kernel_rfl) (fun _ => ?_) (fun h' => nomatch h')
      refine VW.seq ?_
      refine VW.region ?_
      refine VO.seg T_ok .dp 1 [2] [] (s' := ⟨[(2, B false)], []⟩) (φ := True ∧ True) (by kernel_rfl) ⟨trivial, trivial⟩ ?_
      refine VO.nil ?_
      show VW _ _ _ _ _ _ _
      refine VW.ret ?_
      replace h := Option.some.inj h
      subst h
      exact retR [] (by kernel_rfl) rfl
    · replace h := cond_f h hb; clear hb
      refine VO.seg T_ok .dp 8 [1, 24] [0] (s' := ⟨[(1, .lf (.ptr 0 0 0 0)), (24, B ((a0.2.2.length : Int) != (a0.2.1.length : Int)))], [bx [.v (.int .i64) a0.1, .v (.sl (.int .i64)) a0.2.1, .v (.sl (.int .i64)) a0.2.2] 24]⟩) (φ := True ∧ True ∧ True ∧ True ∧ True ∧ True ∧ True ∧ True ∧ True) (by kernel_rfl) ⟨trivial, trivial, trivial, trivial, trivial, trivial, trivial, trivial, trivial⟩ ?_
      refine VO.nil ?_
      show VW _ _ _ _ _ _ _
      refine VW.cond (b := ((a0.2.2.length : Int) != (a0.2.1.length : Int))) (by kernel_rfl) (fun hb => ?_) (fun hb => ?_)
      · replace h := cond_t h hb; clear hb
        refine VW.seq ?_
        refine VW.region ?_
        refine VO.seg T_ok .dp 1 [2] [] (s' := ⟨[(2, B false)], []⟩) (φ := True ∧ True) (by kernel_rfl) ⟨trivial, trivial⟩ ?_
        refine VO.nil ?_
        show VW _ _ _ _ _ _ _
        refine VW.ret ?_
        replace h := Option.some.inj h
        subst h
        exact retR [] (by kernel_rfl) rfl
      · replace h := cond_f h hb; clear hb
        refine VW.skip ?_
        show VW _ _ _ _ _ _ _
        refine VW.join (fun s => s = ⟨[], []⟩ ∧ F20_j0 N = some r) ?_ ?_
        · refine VW.seq ?_
          refine VW.region ?_
          refine VO.seg T_ok .dp 1 [1, 3] [0] (s' := ⟨[(1, .lf (.ptr 0 0 0 0)), (3, I (0 : Int))], [bx [.v (.int .i64) a0.1, .v (.sl (.int .i64)) a0.2.1, .v (.sl (.int .i64)) a0.2.2] 24]⟩) (φ := True ∧ True) (by kernel_rfl) ⟨trivial, trivial⟩ ?_
          refine VO.nil ?_
          show VW _ _ _ _ _ _ _
          refine VW.block ?_
          refine VW.loopL (fun k s => ∃ (x87 : Int) (x88 : (List Int)) (x89 : (List Int)) (x90 : Int), s = ⟨[(1, .lf (.ptr 0 0 0 0)), (3, I x90)], [bx [.v (.int .i64) x87, .v (.sl (.int .i64)) x88, .v (.sl (.int .i64)) x89] 24]⟩ ∧ F20_l0 N k x87 x88 x89 x90 = some r) N [.ren [1, 3] [0]] (by kernel_rfl) ⟨a0.1, a0.2.1, a0.2.2, (0 : Int), rfl, h⟩ ?_
          rintro k109 s ⟨x87, x88, x89, x90, rfl, h⟩
          cases k109 with
          | zero => exact nomatch (show (none : Option (Bool)) = some r from h)
          | succ k109 =>
            replace h : F20_l0_b N (F20_l0 N k109) x87 x88 x89 x90 = some r := h
            unfold F20_l0_b at h
            refine VW.seq ?_
            refine VW.seq ?_
            refine VW.region ?_
            refine VO.seg T_ok .dp 5 [1, 3, 29] [0] (s' := ⟨[(1, .lf (.ptr 0 0 0 0)), (3, I x90), (29, B (decide (x90 < (x88.length : Int))))], [bx [.v (.int .i64) x87, .v (.sl (.int .i64)) x88, .v (.sl (.int .i64)) x89] 24]⟩) (φ := True ∧ True ∧ True ∧ True ∧ True ∧ True) (by kernel_rfl) ⟨trivial, trivial, trivial, trivial, trivial, trivial⟩ ?_
            refine VO.nil ?_
            show VW _ _ _ _ _ _ _
            refine VW.cond (b := (decide (x90 < (x88.length : Int)))) (by kernel_rfl) (fun hb => ?_) (fun hb => ?_)
            · replace h := cond_t h hb; clear hb
              refine VW.skip ?_
              show VW _ _ _ _ _ _ _
              refine VW.seq ?_
              refine VW.block ?_
              refine VW.seq ?_
              obtain ⟨g119, h⟩ := gd_some h
              obtain ⟨y120, hy120, h⟩ := andO_some h
              rcases Bool.eq_false_or_eq_true (!y120) with hb121 | hb121
              · replace h := cond_t h hb121
                refine VW.drawn (by kernel_rfl) [some (32, .lf (.ptr 0 0 0 1)), some (33, .lf (.v (.sl (.int .i64)) x88)), some (34, I x90), some (35, .lf (.fp (.int .i64) (x88.getD x90.toNat (Ty.dflt (.int .i64))) 0)), some (36, I (x88.getD x90.toNat (Ty.dflt (.int .i64)))), some (37, B y120), some (38, B (!y120)), some (39, B true), some (40, .unk), some (41, .unk), some (42, .unk), some (43, .unk), some (44, .unk), some (45, .unk), some (46, .unk), some (47, B true), some (48, B true), some (49, .unk), some (50, .unk), some (51, .unk), some (52, .unk), some (53, .unk), some (54, .unk), some (55, .unk), some (56, .unk), some (57, .unk), some (58, .unk), some (59, B true)] [] [[bx [.v (.int .i64) x87, .v (.sl (.int .i64)) x88, .v (.sl (.int .i64)) x89] 24]] [(0, 0), (1, 0), (2, 0), (3, 0), (4, 0), (5, 0), (6, 0), (7, 0), (8, 0), (9, 0), (10, 0), (11, 0), (12, 0), (13, 0), (14, 0), (15, 0), (16, 0), (17, 0), (18, 0), (19, 0), (20, 0), (21, 0), (22, 0), (23, 0), (24, 0), (25, 0), (26, 0), (27, 0)] [1, 3, 59] [0] (s' := ⟨[(1, .lf (.ptr 0 0 0 0)), (3, I x90), (59, B true)], [bx [.v (.int .i64) x87, .v (.sl (.int .i64)) x88, .v (.sl (.int .i64)) x89] 24]⟩) (by kernel_rfl) (by kernel_rfl) ⟨⟨_, rfl, Stp.ev T_ok (m := .dp) (φ := True) (by kernel_rfl) trivial⟩,
    ⟨_, rfl, Stp.ev T_ok (m := .dp) (φ := True) (by kernel_rfl) trivial⟩,
    ⟨_, rfl, Stp.ev T_ok (m := .dp) (φ := True) (by kernel_rfl) trivial⟩,
    ⟨_, rfl, Stp.ev T_ok (m := .dp) (φ := InR x90 x88.length) (by kernel_rfl) g119⟩,
    ⟨_, rfl, Stp.ev T_ok (m := .dp) (φ := True) (by kernel_rfl) trivial⟩,
    ⟨_, rfl, Stp.eq (Stp.call false [.t (.int .i64)] [] T_ok (d := some 37) (by kernel_rfl) (ok51 N _ hy120) rfl) (by kernel_rfl) (by kernel_rfl)⟩,
    ⟨_, rfl, Stp.ev T_ok (m := .dp) (φ := True) (by kernel_rfl) trivial⟩,
    ⟨_, rfl, Stp.lit (d := 39) (b := (!y120)) (c := true) (Stp.ev T_ok (m := .dp) (φ := True) (by kernel_rfl) trivial) hb121⟩,
    ⟨_, rfl, Stp.off (d := 39) (b := true) rfl rfl rfl (by kernel_rfl) (by decide) rfl (Nat.le_of_ble_eq_true rfl)⟩,
    ⟨_, rfl, Stp.off (d := 39) (b := true) rfl rfl rfl (by kernel_rfl) (by decide) rfl (Nat.le_of_ble_eq_true rfl)⟩,
    ⟨_, rfl, Stp.off (d := 39) (b := true) rfl rfl rfl (by kernel_rfl) (by decide) rfl (Nat.le_of_ble_eq_true rfl)⟩,
    ⟨_, rfl, Stp.off (d := 39) (b := true) rfl rfl rfl (by kernel_rfl) (by decide) rfl (Nat.le_of_ble_eq_true rfl)⟩,
    ⟨_, rfl, Stp.off (d := 39) (b := true) rfl rfl rfl (by kernel_rfl) (by decide) rfl (Nat.le_of_ble_eq_true rfl)⟩,
    ⟨_, rfl, Stp.off (d := 39) (b := true) rfl rfl rfl (by kernel_rfl) (by decide) rfl (Nat.le_of_ble_eq_true rfl)⟩,
    ⟨_, rfl, Stp.off (d := 39) (b := true) rfl rfl rfl (by kernel_rfl) (by decide) rfl (Nat.le_of_ble_eq_true rfl)⟩,
    ⟨_, rfl, Stp.ev T_ok (m := .dp) (φ := True) (by kernel_rfl) trivial⟩,
    ⟨_, rfl, Stp.ev T_ok (m := .dp) (φ := True) (by kernel_rfl) trivial⟩,
    ⟨_, rfl, Stp.off (d := 48) (b := true) rfl rfl rfl (by kernel_rfl) (by decide) rfl (Nat.le_of_ble_eq_true rfl)⟩,
    ⟨_, rfl, Stp.off (d := 48) (b := true) rfl rfl rfl (by kernel_rfl) (by decide) rfl (Nat.le_of_ble_eq_true rfl)⟩,
    ⟨_, rfl, Stp.off (d := 48) (b := true) rfl rfl rfl (by kernel_rfl) (by decide) rfl (Nat.le_of_ble_eq_true rfl)⟩,
    ⟨_, rfl, Stp.off (d := 48) (b := true) rfl rfl rfl (by kernel_rfl) (by decide) rfl (Nat.le_of_ble_eq_true rfl)⟩,
    ⟨_, rfl, Stp.off (d := 48) (b := true) rfl rfl rfl (by kernel_rfl) (by decide) rfl (Nat.le_of_ble_eq_true rfl)⟩,
    ⟨_, rfl, Stp.off (d := 48) (b := true) rfl rfl rfl (by kernel_rfl) (by decide) rfl (Nat.le_of_ble_eq_true rfl)⟩,
    ⟨_, rfl, Stp.off (d := 48) (b := true) rfl rfl rfl (by kernel_rfl) (by decide) rfl (Nat.le_of_ble_eq_true rfl)⟩,
    ⟨_, rfl, Stp.off (d := 48) (b := true) rfl rfl rfl (by kernel_rfl) (by decide) rfl (Nat.le_of_ble_eq_true rfl)⟩,
    ⟨_, rfl, Stp.off (d := 48) (b := true) rfl rfl rfl (by kernel_rfl) (by decide) rfl (Nat.le_of_ble_eq_true rfl)⟩,
    ⟨_, rfl, Stp.off (d := 48) (b := true) rfl rfl rfl (by kernel_rfl) (by decide) rfl (Nat.le_of_ble_eq_true rfl)⟩,
    ⟨_, rfl, Stp.ev T_ok (m := .dp) (φ := True) (by kernel_rfl) trivial⟩, trivial⟩ (by kernel_rfl) ?_
                show VW _ _ _ _ _ _ _
                refine VW.cond (b := true) (by kernel_rfl) (fun _ => ?_) (fun h' => nomatch h')
                refine VW.seq ?_
                refine VW.region ?_
                refine VO.seg T_ok .dp 1 [2] [] (s' := ⟨[(2, B false)], []⟩) (φ := True ∧ True) (by kernel_rfl) ⟨trivial, trivial⟩ ?_
                refine VO.nil ?_
                show VW _ _ _ _ _ _ _
                refine VW.ret ?_
                replace h := Option.some.inj h
                subst h
                exact retR [] (by kernel_rfl) rfl
              · replace h := cond_f h hb121
                obtain ⟨g122, h⟩ := gd_some h
                obtain ⟨y123, hy123, h⟩ := andO_some h
                rcases Bool.eq_false_or_eq_true (!y123) with hb124 | hb124
                · replace h := cond_t h hb124
                  refine VW.drawn (by kernel_rfl) [some (32, .lf (.ptr 0 0 0 1)), some (33, .lf (.v (.sl (.int .i64)) x88)), some (34, I x90), some (35, .lf (.fp (.int .i64) (x88.getD x90.toNat (Ty.dflt (.int .i64))) 0)), some (36, I (x88.getD x90.toNat (Ty.dflt (.int .i64)))), some (37, B y120), some (38, B (!y120)), some (39, B false), some (40, .lf (.ptr 0 0 0 2)), some (41, .lf (.v (.sl (.int .i64)) x89)), some (42, I x90), some (43, .lf (.fp (.int .i64) (x89.getD x90.toNat (Ty.dflt (.int .i64))) 0)), some (44, I (x89.getD x90.toNat (Ty.dflt (.int .i64)))), some (45, B y123), some (46, B (!y123)), some (47, B (!y123)), some (48, B true), some (49, .unk), some (50, .unk), some (51, .unk), some (52, .unk), some (53, .unk), some (54, .unk), some (55, .unk), some (56, .unk), some (57, .unk), some (58, .unk), some (59, B true)] [] [[bx [.v (.int .i64) x87, .v (.sl (.int .i64)) x88, .v (.sl (.int .i64)) x89] 24]] [(0, 0), (1, 0), (2, 0), (3, 0), (4, 0), (5, 0), (6, 0), (7, 0), (8, 0), (9, 0), (10, 0), (11, 0), (12, 0), (13, 0), (14, 0), (15, 0), (16, 0), (17, 0), (18, 0), (19, 0), (20, 0), (21, 0), (22, 0), (23, 0), (24, 0), (25, 0), (26, 0), (27, 0)] [1, 3, 59] [0] (s' := ⟨[(1, .lf (.ptr 0 0 0 0)), (3, I x90), (59, B true)], [bx [.v (.int .i64) x87, .v (.sl (.int .i64)) x88, .v (.sl (.int .i64)) x89] 24]⟩) (by kernel_rfl) (by kernel_rfl) ⟨⟨_, rfl, Stp.ev T_ok (m := .dp) (φ := True) (by kernel_rfl) trivial⟩,
    ⟨_, rfl, Stp.ev T_ok (m := .dp) (φ := True) (by kernel_rfl) trivial⟩,
    ⟨_, rfl, Stp.ev T_ok (m := .dp) (φ := True) (by kernel_rfl) trivial⟩,
    ⟨_, rfl, Stp.ev T_ok (m := .dp) (φ := InR x90 x88.length) (by kernel_rfl) g119⟩,
    ⟨_, rfl, Stp.ev T_ok (m := .dp) (φ := True) (by kernel_rfl) trivial⟩,
    ⟨_, rfl, Stp.eq (Stp.call false [.t (.int .i64)] [] T_ok (d := some 37) (by kernel_rfl) (ok51 N _ hy120) rfl) (by kernel_rfl) (by kernel_rfl)⟩,
    ⟨_, rfl, Stp.ev T_ok (m := .dp) (φ := True) (by kernel_rfl) trivial⟩,
    ⟨_, rfl, Stp.lit (d := 39) (b := (!y120)) (c := false) (Stp.ev T_ok (m := .dp) (φ := True) (by kernel_rfl) trivial) hb121⟩,
    ⟨_, rfl, Stp.on (d := 39) (b := false) rfl rfl rfl (by kernel_rfl) rfl (Stp.ev T_ok (m := .dp) (φ := True) (by kernel_rfl) trivial)⟩,
    ⟨_, rfl, Stp.on (d := 39) (b := false) rfl rfl rfl (by kernel_rfl) rfl (Stp.ev T_ok (m := .dp) (φ := True) (by kernel_rfl) trivial)⟩,
    ⟨_, rfl, Stp.on (d := 39) (b := false) rfl rfl rfl (by kernel_rfl) rfl (Stp.ev T_ok (m := .dp) (φ := True) (by kernel_rfl) trivial)⟩,
    ⟨_, rfl, Stp.on (d := 39) (b := false) rfl rfl rfl (by kernel_rfl) rfl (Stp.ev T_ok (m := .dp) (φ := InR x90 x89.length) (by kernel_rfl) g122)⟩,
    ⟨_, rfl, Stp.on (d := 39) (b := false) rfl rfl rfl (by kernel_rfl) rfl (Stp.ev T_ok (m := .dp) (φ := True) (by kernel_rfl) trivial)⟩,
    ⟨_, rfl, Stp.eq (Stp.on (d := 39) (b := false) rfl rfl rfl (by kernel_rfl) rfl (Stp.call false [.t (.int .i64)] [] T_ok (d := some 45) (by kernel_rfl) (ok51 N _ hy123) rfl)) (by kernel_rfl) (by kernel_rfl)⟩,
    ⟨_, rfl, Stp.on (d := 39) (b := false) rfl rfl rfl (by kernel_rfl) rfl (Stp.ev T_ok (m := .dp) (φ := True) (by kernel_rfl) trivial)⟩,
    ⟨_, rfl, Stp.ev T_ok (m := .dp) (φ := True) (by kernel_rfl) trivial⟩,
    ⟨_, rfl, Stp.lit (d := 48) (b := (!y123)) (c := true) (Stp.ev T_ok (m := .dp) (φ := True) (by kernel_rfl) trivial) hb124⟩,
    ⟨_, rfl, Stp.off (d := 48) (b := true) rfl rfl rfl (by kernel_rfl) (by decide) rfl (Nat.le_of_ble_eq_true rfl)⟩,
    ⟨_, rfl, Stp.off (d := 48) (b := true) rfl rfl rfl (by kernel_rfl) (by decide) rfl (Nat.le_of_ble_eq_true rfl)⟩,
    ⟨_, rfl, Stp.off (d := 48) (b := true) rfl rfl rfl (by kernel_rfl) (by decide) rfl (Nat.le_of_ble_eq_true rfl)⟩,
    ⟨_, rfl, Stp.off (d := 48) (b := true) rfl rfl rfl (by kernel_rfl) (by decide) rfl (Nat.le_of_ble_eq_true rfl)⟩,
    ⟨_, rfl, Stp.off (d := 48) (b := true) rfl rfl rfl (by kernel_rfl) (by decide) rfl (Nat.le_of_ble_eq_true rfl)⟩,
    ⟨_, rfl, Stp.off (d := 48) (b := true) rfl rfl rfl (by kernel_rfl) (by decide) rfl (Nat.le_of_ble_eq_true rfl)⟩,
    ⟨_, rfl, Stp.off (d := 48) (b := true) rfl rfl rfl (by kernel_rfl) (by decide) rfl (Nat.le_of_ble_eq_true rfl)⟩,
    ⟨_, rfl, Stp.off (d := 48) (b := true) rfl rfl rfl (by kernel_rfl) (by decide) rfl (Nat.le_of_ble_eq_true rfl)⟩,
    ⟨_, rfl, Stp.off (d := 48) (b := true) rfl rfl rfl (by kernel_rfl) (by decide) rfl (Nat.le_of_ble_eq_true rfl)⟩,
    ⟨_, rfl, Stp.off (d := 48) (b := true) rfl rfl rfl (by kernel_rfl) (by decide) rfl (Nat.le_of_ble_eq_true rfl)⟩,
    ⟨_, rfl, Stp.ev T_ok (m := .dp) (φ := True) (by kernel_rfl) trivial⟩, trivial⟩ (by kernel_rfl) ?_
                  show VW _ _ _ _ _ _ _
                  refine VW.cond (b := true) (by kernel_rfl) (fun _ => ?_) (fun h' => nomatch h')
                  refine VW.seq ?_
                  refine VW.region ?_
                  refine VO.seg T_ok .dp 1 [2] [] (s' := ⟨[(2, B false)], []⟩) (φ := True ∧ True) (by kernel_rfl) ⟨trivial, trivial⟩ ?_
                  refine VO.nil ?_
                  show VW _ _ _ _ _ _ _
                  refine VW.ret ?_
                  replace h := Option.some.inj h
                  subst h
                  exact retR [] (by kernel_rfl) rfl
                · replace h := cond_f h hb124
                  obtain ⟨g125, h⟩ := gd_some h
                  obtain ⟨g126, h⟩ := gd_some h
                  obtain ⟨y127, hy127, h⟩ := andO_some h
                  refine VW.drawn (by kernel_rfl) [some (32, .lf (.ptr 0 0 0 1)), some (33, .lf (.v (.sl (.int .i64)) x88)), some (34, I x90), some (35, .lf (.fp (.int .i64) (x88.getD x90.toNat (Ty.dflt (.int .i64))) 0)), some (36, I (x88.getD x90.toNat (Ty.dflt (.int .i64)))), some (37, B y120), some (38, B (!y120)), some (39, B false), some (40, .lf (.ptr 0 0 0 2)), some (41, .lf (.v (.sl (.int .i64)) x89)), some (42, I x90), some (43, .lf (.fp (.int .i64) (x89.getD x90.toNat (Ty.dflt (.int .i64))) 0)), some (44, I (x89.getD x90.toNat (Ty.dflt (.int .i64)))), some (45, B y123), some (46, B (!y123)), some (47, B (!y123)), some (48, B false), some (49, .lf (.ptr 0 0 0 1)), some (50, .lf (.v (.sl (.int .i64)) x88)), some (51, I x90), some (52, .lf (.v (.sl (.int .i64)) (x88.take x90.toNat))), some (53, .lf (.ptr 0 0 0 1)), some (54, .lf (.v (.sl (.int .i64)) x88)), some (55, I x90), some (56, .lf (.fp (.int .i64) (x88.getD x90.toNat (Ty.dflt (.int .i64))) 0)), some (57, I (x88.getD x90.toNat (Ty.dflt (.int .i64)))), some (58, B y127), some (59, B y127)] [] [[bx [.v (.int .i64) x87, .v (.sl (.int .i64)) x88, .v (.sl (.int .i64)) x89] 24]] [(0, 0), (1, 0), (2, 0), (3, 0), (4, 0), (5, 0), (6, 0), (7, 0), (8, 0), (9, 0), (10, 0), (11, 0), (12, 0), (13, 0), (14, 0), (15, 0), (16, 0), (17, 0), (18, 0), (19, 0), (20, 0), (21, 0), (22, 0), (23, 0), (24, 0), (25, 0), (26, 0), (27, 0)] [1, 3, 59] [0] (s' := ⟨[(1, .lf (.ptr 0 0 0 0)), (3, I x90), (59, B y127)], [bx [.v (.int .i64) x87, .v (.sl (.int .i64)) x88, .v (.sl (.int .i64)) x89] 24]⟩) (by kernel_rfl) (by kernel_rfl) ⟨⟨_, rfl, Stp.ev T_ok (m := .dp) (φ := True) (by kernel_rfl) trivial⟩,
    ⟨_, rfl, Stp.ev T_ok (m := .dp) (φ := True) (by kernel_rfl) trivial⟩,
    ⟨_, rfl, Stp.ev T_ok (m := .dp) (φ := True) (by kernel_rfl) trivial⟩,
    ⟨_, rfl, Stp.ev T_ok (m := .dp) (φ := InR x90 x88.length) (by kernel_rfl) g119⟩,
    ⟨_, rfl, Stp.ev T_ok (m := .dp) (φ := True) (by kernel_rfl) trivial⟩,
    ⟨_, rfl, Stp.eq (Stp.call false [.t (.int .i64)] [] T_ok (d := some 37) (by kernel_rfl) (ok51 N _ hy120) rfl) (by kernel_rfl) (by kernel_rfl)⟩,
    ⟨_, rfl, Stp.ev T_ok (m := .dp) (φ := True) (by kernel_rfl) trivial⟩,
    ⟨_, rfl, Stp.lit (d := 39) (b := (!y120)) (c := false) (Stp.ev T_ok (m := .dp) (φ := True) (by kernel_rfl) trivial) hb121⟩,
    ⟨_, rfl, Stp.on (d := 39) (b := false) rfl rfl rfl (by kernel_rfl) rfl (Stp.ev T_ok (m := .dp) (φ := True) (by kernel_rfl) trivial)⟩,
    ⟨_, rfl, Stp.on (d := 39) (b := false) rfl rfl rfl (by kernel_rfl) rfl (Stp.ev T_ok (m := .dp) (φ := True) (by kernel_rfl) trivial)⟩,
    ⟨_, rfl, Stp.on (d := 39) (b := false) rfl rfl rfl (by kernel_rfl) rfl (Stp.ev T_ok (m := .dp) (φ := True) (by kernel_rfl) trivial)⟩,
    ⟨_, rfl, Stp.on (d := 39) (b := false) rfl rfl rfl (by kernel_rfl) rfl (Stp.ev T_ok (m := .dp) (φ := InR x90 x89.length) (by kernel_rfl) g122)⟩,
    ⟨_, rfl, Stp.on (d := 39) (b := false) rfl rfl rfl (by kernel_rfl) rfl (Stp.ev T_ok (m := .dp) (φ := True) (by kernel_rfl) trivial)⟩,
    ⟨_, rfl, Stp.eq (Stp.on (d := 39) (b := false) rfl rfl rfl (by kernel_rfl) rfl (Stp.call false [.t (.int .i64)] [] T_ok (d := some 45) (by kernel_rfl) (ok51 N _ hy123) rfl)) (by kernel_rfl) (by kernel_rfl)⟩,
    ⟨_, rfl, Stp.on (d := 39) (b := false) rfl rfl rfl (by kernel_rfl) rfl (Stp.ev T_ok (m := .dp) (φ := True) (by kernel_rfl) trivial)⟩,
    ⟨_, rfl, Stp.ev T_ok (m := .dp) (φ := True) (by kernel_rfl) trivial⟩,
    ⟨_, rfl, Stp.lit (d := 48) (b := (!y123)) (c := false) (Stp.ev T_ok (m := .dp) (φ := True) (by kernel_rfl) trivial) hb124⟩,
    ⟨_, rfl, Stp.on (d := 48) (b := false) rfl rfl rfl (by kernel_rfl) rfl (Stp.ev T_ok (m := .dp) (φ := True) (by kernel_rfl) trivial)⟩,
    ⟨_, rfl, Stp.on (d := 48) (b := false) rfl rfl rfl (by kernel_rfl) rfl (Stp.ev T_ok (m := .dp) (φ := True) (by kernel_rfl) trivial)⟩,
    ⟨_, rfl, Stp.on (d := 48) (b := false) rfl rfl rfl (by kernel_rfl) rfl (Stp.ev T_ok (m := .dp) (φ := True) (by kernel_rfl) trivial)⟩,
    ⟨_, rfl, Stp.on (d := 48) (b := false) rfl rfl rfl (by kernel_rfl) rfl (Stp.ev T_ok (m := .dp) (φ := 0 ≤ x90 ∧ x90 ≤ (x88.length : Int)) (by kernel_rfl) g125)⟩,
    ⟨_, rfl, Stp.on (d := 48) (b := false) rfl rfl rfl (by kernel_rfl) rfl (Stp.ev T_ok (m := .dp) (φ := True) (by kernel_rfl) trivial)⟩,
    ⟨_, rfl, Stp.on (d := 48) (b := false) rfl rfl rfl (by kernel_rfl) rfl (Stp.ev T_ok (m := .dp) (φ := True) (by kernel_rfl) trivial)⟩,
    ⟨_, rfl, Stp.on (d := 48) (b := false) rfl rfl rfl (by kernel_rfl) rfl (Stp.ev T_ok (m := .dp) (φ := True) (by kernel_rfl) trivial)⟩,
    ⟨_, rfl, Stp.on (d := 48) (b := false) rfl rfl rfl (by kernel_rfl) rfl (Stp.ev T_ok (m := .dp) (φ := InR x90 x88.length) (by kernel_rfl) g126)⟩,
    ⟨_, rfl, Stp.on (d := 48) (b := false) rfl rfl rfl (by kernel_rfl) rfl (Stp.ev T_ok (m := .dp) (φ := True) (by kernel_rfl) trivial)⟩,
    ⟨_, rfl, Stp.eq (Stp.on (d := 48) (b := false) rfl rfl rfl (by kernel_rfl) rfl (Stp.call false [.t (.sl (.int .i64)), .t (.int .i64)] [] T_ok (d := some 58) (by kernel_rfl) (ok52 N _ _ hy127) rfl)) (by kernel_rfl) (by kernel_rfl)⟩,
    ⟨_, rfl, Stp.ev T_ok (m := .dp) (φ := True) (by kernel_rfl) trivial⟩, trivial⟩ (by kernel_rfl) ?_
                  show VW _ _ _ _ _ _ _
                  refine VW.cond (b := y127) (by kernel_rfl) (fun hb => ?_) (fun hb => ?_)
                  · replace h := cond_t h hb; clear hb
                    refine VW.seq ?_
                    refine VW.region ?_
                    refine VO.seg T_ok .dp 1 [2] [] (s' := ⟨[(2, B false)], []⟩) (φ := True ∧ True) (by kernel_rfl) ⟨trivial, trivial⟩ ?_
                    refine VO.nil ?_
                    show VW _ _ _ _ _ _ _
                    refine VW.ret ?_
                    replace h := Option.some.inj h
                    subst h
                    exact retR [] (by kernel_rfl) rfl
                  · replace h := cond_f h hb; clear hb
                    refine VW.skip ?_
                    show VW _ _ _ _ _ _ _
                    refine VW.region ?_
                    refine VO.seg T_ok .dp 3 [1, 3] [0] (s' := ⟨[(1, .lf (.ptr 0 0 0 0)), (3, I (IntKind.i64.wrap (x90 + (1 : Int))))], [bx [.v (.int .i64) x87, .v (.sl (.int .i64)) x88, .v (.sl (.int .i64)) x89] 24]⟩) (φ := True ∧ True ∧ True ∧ True) (by kernel_rfl) ⟨trivial, trivial, trivial, trivial⟩ ?_
                    refine VO.nil ?_
                    exact around [.ren [1, 3] [0]] (by kernel_rfl) ⟨x87, x88, x89, (IntKind.i64.wrap (x90 + (1 : Int))), rfl, h⟩
            · replace h := cond_f h hb; clear hb
              refine VW.exit ?_
              exact arrive [.ren [] []] (by kernel_rfl) ⟨rfl, h⟩
        · rintro s ⟨rfl, h⟩
          unfold F20_j0 at h
          refine VW.seq ?_
          refine VW.region ?_
          refine VO.seg T_ok .dp 1 [2] [] (s' := ⟨[(2, B true)], []⟩) (φ := True ∧ True) (by kernel_rfl) ⟨trivial, trivial⟩ ?_
          refine VO.nil ?_
          show VW _ _ _ _ _ _ _
          refine VW.ret ?_
          replace h := Option.some.inj h
          subst h
          exact retR [] (by kernel_rfl) rfl

/- loop.example/g00844/laws.toIntS -/
def F32_j0 (N : Nat) (x24 : (List Int)) : Option ((List Int)) :=
  some x24
def F32_l0_b (N : Nat) (a0 : (List Int)) (nx41 : (List Int) → Int → Option ((List Int))) (x33 : (List Int)) (x34 : Int) : Option ((List Int)) :=
  cond (decide (x34 < (a0.length : Int))) (gd (InR x34 a0.length) (gd (InR x34 x33.length) (gd (x34.toNat < x33.length) (nx41 (x33.set x34.toNat (a0.getD x34.toNat (Ty.dflt (.int .i64)))) (IntKind.i64.wrap (x34 + (1 : Int))))))) (F32_j0 N x33)
def F32_l0 (N : Nat) (a0 : (List Int)) : Nat → (List Int) → Int → Option ((List Int)) := loopF (F32_l0_b N a0) (fun _ _ => none)
theorem F32_l0_s (N : Nat) (a0 : (List Int)) {k : Nat} (hk : 0 < k) (x33 : (List Int)) (x34 : Int) : F32_l0 N a0 k x33 x34 = F32_l0_b N a0 (F32_l0 N a0 (k - 1)) x33 x34 := by
  cases k with
  | zero => exact absurd hk (Nat.lt_irrefl 0)
  | succ m => rfl
def F32 (N : Nat) (a0 : (List Int)) : Option ((List Int)) :=
  gd (0 ≤ (a0.length : Int) ∧ (a0.length : Int) ≤ (lim (.int .i64) : Int) ∧ (a0.length : Int) = (a0.length : Int)) (F32_l0 N a0 N (List.replicate (a0.length : Int).toNat (Ty.dflt (.int .i64))) (0 : Int))
theorem ok32 (N : Nat) (a0 : (List Int)) {r : (List Int)} (h : F32 N a0 = some r) : Con Go.Proofs.Try.prog 32 [.lf (.v (.sl (.int .i64)) a0)] [.lf (.own (.int .i64) r .dp)] := by
  refine ⟨enters_of Go.Proofs.Try.func32 rfl (by decide), HC.intro [.lf (.own (.int .i64) .dp)] T_ok Go.Proofs.Try.func32 rfl (Nat.le_of_ble_eq_true rfl) (Nat.le_of_ble_eq_true rfl) fun w0 E0 => ?_⟩
  unfold F32 at h
  show VW _ _ _ _ _ (retQ _ _ _ _) _
  refine VW.seq ?_
  refine VW.region ?_
  refine VO.seg T_ok .dp 1 [0] [] (s' := ⟨[(0, .lf (.v (.sl (.int .i64)) a0))], []⟩) (φ := True ∧ True) (by kernel_rfl) ⟨trivial, trivial⟩ ?_
  refine VO.nil ?_
  show VW _ _ _ _ _ _ _
  refine VW.seq ?_
  refine VW.region ?_
  obtain ⟨g1, h⟩ := gd_some h
  refine VO.seg T_ok .dp 4 [0, 3] [0] (s' := ⟨[(0, .lf (.v (.sl (.int .i64)) a0)), (3, .lf (.hd 0 0 none))], [ar 0 (.int .i64) (List.replicate (a0.length : Int).toNat (Ty.dflt (.int .i64))) .dp]⟩) (φ := True ∧ True ∧ (0 ≤ (a0.length : Int) ∧ (a0.length : Int) ≤ (lim (.int .i64) : Int) ∧ (a0.length : Int) = (a0.length : Int)) ∧ True ∧ True) (by kernel_rfl) ⟨trivial, trivial, g1, trivial, trivial⟩ ?_
  refine VO.nil ?_
  show VW _ _ _ _ _ _ _
  refine VW.join (fun s => ∃ (x24 : (List Int)), s = ⟨[(3, .lf (.hd 0 0 none))], [ar 0 (.int .i64) x24 .dp]⟩ ∧ F32_j0 N x24 = some r) ?_ ?_
  · refine VW.seq ?_
    refine VW.region ?_
    refine VO.seg T_ok .dp 1 [0, 3, 4] [0] (s' := ⟨[(0, .lf (.v (.sl (.int .i64)) a0)), (3, .lf (.hd 0 0 none)), (4, I (0 : Int))], [ar 0 (.int .i64) (List.replicate (a0.length : Int).toNat (Ty.dflt (.int .i64))) .dp]⟩) (φ := True ∧ True) (by kernel_rfl) ⟨trivial, trivial⟩ ?_
    refine VO.nil ?_
    show VW _ _ _ _ _ _ _
    refine VW.block ?_
    refine VW.loopL (fun k s => ∃ (x33 : (List Int)) (x34 : Int), s = ⟨[(0, .lf (.v (.sl (.int .i64)) a0)), (3, .lf (.hd 0 0 none)), (4, I x34)], [ar 0 (.int .i64) x33 .dp]⟩ ∧ F32_l0 N a0 k x33 x34 = some r) N [.ren [0, 3, 4] [0]] (by kernel_rfl) ⟨(List.replicate (a0.length : Int).toNat (Ty.dflt (.int .i64))), (0 : Int), rfl, h⟩ ?_
    rintro k41 s ⟨x33, x34, rfl, h⟩
    cases k41 with
    | zero => exact nomatch (show (none : Option ((List Int))) = some r from h)
    | succ k41 =>
      replace h : F32_l0_b N a0 (F32_l0 N a0 k41) x33 x34 = some r := h
      unfold F32_l0_b at h
      refine VW.seq ?_
      refine VW.seq ?_
      refine VW.region ?_
      refine VO.seg T_ok .dp 4 [0, 3, 4, 11] [0] (s' := ⟨[(0, .lf (.v (.sl (.int .i64)) a0)), (3, .lf (.hd 0 0 none)), (4, I x34), (11, B (decide (x34 < (a0.length : Int))))], [ar 0 (.int .i64) x33 .dp]⟩) (φ := True ∧ True ∧ True ∧ True ∧ True) (by kernel_rfl) ⟨trivial, trivial, trivial, trivial, trivial⟩ ?_
      refine VO.nil ?_
      show VW _ _ _ _ _ _ _
      refine VW.cond (b := (decide (x34 < (a0.length : Int)))) (by kernel_rfl) (fun hb => ?_) (fun hb => ?_)
      · replace h := cond_t h hb; clear hb
        refine VW.skip ?_
        show VW _ _ _ _ _ _ _
        refine VW.seq ?_
        refine VW.block ?_
        refine VW.region ?_
        obtain ⟨g45, h⟩ := gd_some h
        obtain ⟨g46, h⟩ := gd_some h
        obtain ⟨g47, h⟩ := gd_some h
        refine VO.seg T_ok .dp 8 [0, 3, 4] [0] (s' := ⟨[(0, .lf (.v (.sl (.int .i64)) a0)), (3, .lf (.hd 0 0 none)), (4, I x34)], [ar 0 (.int .i64) (x33.set x34.toNat (a0.getD x34.toNat (Ty.dflt (.int .i64)))) .dp]⟩) (φ := True ∧ True ∧ True ∧ True ∧ (InR x34 a0.length) ∧ True ∧ (InR x34 x33.length) ∧ (x34.toNat < x33.length) ∧ True) (by kernel_rfl) ⟨trivial, trivial, trivial, trivial, g45, trivial, g46, g47, trivial⟩ ?_
        refine VO.nil ?_
        show VW _ _ _ _ _ _ _
        refine VW.region ?_
        refine VO.seg T_ok .dp 3 [0, 3, 4] [0] (s' := ⟨[(0, .lf (.v (.sl (.int .i64)) a0)), (3, .lf (.hd 0 0 none)), (4, I (IntKind.i64.wrap (x34 + (1 : Int))))], [ar 0 (.int .i64) (x33.set x34.toNat (a0.getD x34.toNat (Ty.dflt (.int .i64)))) .dp]⟩) (φ := True ∧ True ∧ True ∧ True) (by kernel_rfl) ⟨trivial, trivial, trivial, trivial⟩ ?_
        refine VO.nil ?_
        exact around [.ren [0, 3, 4] [0]] (by kernel_rfl) ⟨(x33.set x34.toNat (a0.getD x34.toNat (Ty.dflt (.int .i64)))), (IntKind.i64.wrap (x34 + (1 : Int))), rfl, h⟩
      · replace h := cond_f h hb; clear hb
        refine VW.exit ?_
        exact arrive [.ren [3] [0]] (by kernel_rfl) ⟨x33, rfl, h⟩
  · rintro s ⟨x24, rfl, h⟩
    unfold F32_j0 at h
    refine VW.seq ?_
    refine VW.region ?_
    refine VO.seg T_ok .dp 2 [2] [0] (s' := ⟨[(2, .lf (.hd 0 0 none))], [ar 0 (.int .i64) x24 .dp]⟩) (φ := True ∧ True ∧ True) (by kernel_rfl) ⟨trivial, trivial, trivial⟩ ?_
    refine VO.nil ?_
    show VW _ _ _ _ _ _ _
    refine VW.ret ?_
    replace h := Option.some.inj h
    subst h
    exact retR [some 0] (by kernel_rfl) rfl

/- loop.example/g00844/impl.isNum -/
def F53 (N : Nat) (a0 : Int) : Option (Bool) :=
  andO (F70 N a0 (-1000000 : Int) (1000000 : Int)) fun y1 => some y1
theorem ok53 (N : Nat) (a0 : Int) {r : Bool} (h : F53 N a0 = some r) : Con Go.Proofs.Try.prog 53 [I a0] [.lf (.v .bool r)] := by
  refine ⟨enters_of Go.Proofs.Try.func53 rfl (by decide), HC.intro [.lf (.v .bool)] T_ok Go.Proofs.Try.func53 rfl (Nat.le_of_ble_eq_true rfl) (Nat.le_of_ble_eq_true rfl) fun w0 E0 => ?_⟩
  unfold F53 at h
  show VW _ _ _ _ _ (retQ _ _ _ _) _
  refine VW.seq ?_
  refine VW.region ?_
  refine VO.seg T_ok .dp 1 [0] [] (s' := ⟨[(0, I a0)], []⟩) (φ := True ∧ True) (by kernel_rfl) ⟨trivial, trivial⟩ ?_
  refine VO.nil ?_
  show VW _ _ _ _ _ _ _
  refine VW.seq ?_
  refine VW.region ?_
  refine VO.seg T_ok .dp 1 [3] [] (s' := ⟨[(3, I a0)], []⟩) (φ := True ∧ True) (by kernel_rfl) ⟨trivial, trivial⟩ ?_
  obtain ⟨y1, hy, h⟩ := andO_some h
  refine VO.call false [.t (.int .i64), .t (.int .i64), .t (.int .i64)] [] T_ok (d := some 4) (by kernel_rfl) (ok70 N _ _ _ hy) rfl ?_
  refine VO.seg T_ok .dp 1 [2] [] (s' := ⟨[(2, B y1)], []⟩) (φ := True ∧ True) (by kernel_rfl) ⟨trivial, trivial⟩ ?_
  refine VO.nil ?_
  show VW _ _ _ _ _ _ _
  refine VW.ret ?_
  replace h := Option.some.inj h
  subst h
  exact retR [] (by kernel_rfl) rfl

/- slices.Index[[]int,int] -/
def F54_j0 (N : Nat) : Option (Int) :=
  some (-1 : Int)
def F54_l0_b (N : Nat) (a0 : (List Int)) (a1 : Int) (nx19 : Int → Int → Option (Int)) (x15 : Int) (x16 : Int) : Option (Int) :=
  cond (decide (x16 < x15)) (gd (InR x16 a0.length) (cond (a1 == (a0.getD x16.toNat (Ty.dflt (.int .i64)))) (some x16) (nx19 x15 (IntKind.i64.wrap (x16 + (1 : Int)))))) (F54_j0 N)
def F54_l0 (N : Nat) (a0 : (List Int)) (a1 : Int) : Nat → Int → Int → Option (Int) := loopF (F54_l0_b N a0 a1) (fun _ _ => none)
theorem F54_l0_s (N : Nat) (a0 : (List Int)) (a1 : Int) {k : Nat} (hk : 0 < k) (x15 : Int) (x16 : Int) : F54_l0 N a0 a1 k x15 x16 = F54_l0_b N a0 a1 (F54_l0 N a0 a1 (k - 1)) x15 x16 := by
  cases k with
  | zero => exact absurd hk (Nat.lt_irrefl 0)
  | succ m => rfl
def F54 (N : Nat) (a0 : (List Int)) (a1 : Int) : Option (Int) :=
  F54_l0 N a0 a1 N (a0.length : Int) (0 : Int)
theorem ok54 (N : Nat) (a0 : (List Int)) (a1 : Int) {r : Int} (h : F54 N a0 a1 = some r) : Con Go.Proofs.Try.prog 54 [.lf (.v (.sl (.int .i64)) a0), I a1] [.lf (.v (.int .i64) r)] := by
  refine ⟨enters_of Go.Proofs.Try.func54 rfl (by decide), HC.intro [.lf (.v (.int .i64))] T_ok Go.Proofs.Try.func54 rfl (Nat.le_of_ble_eq_true rfl) (Nat.le_of_ble_eq_true rfl) fun w0 E0 => ?_⟩
  unfold F54 at h
  show VW _ _ _ _ _ (retQ _ _ _ _) _
  refine VW.seq ?_
  refine VW.region ?_
  refine VO.seg T_ok .dp 1 [0, 1] [] (s' := ⟨[(0, .lf (.v (.sl (.int .i64)) a0)), (1, I a1)], []⟩) (φ := True ∧ True) (by kernel_rfl) ⟨trivial, trivial⟩ ?_
  refine VO.nil ?_
  show VW _ _ _ _ _ _ _
  refine VW.join (fun s => s = ⟨[], []⟩ ∧ F54_j0 N = some r) ?_ ?_
  · refine VW.seq ?_
    refine VW.region ?_
    refine VO.seg T_ok .dp 3 [0, 1, 7, 8] [] (s' := ⟨[(0, .lf (.v (.sl (.int .i64)) a0)), (1, I a1), (7, I (a0.length : Int)), (8, I (0 : Int))], []⟩) (φ := True ∧ True ∧ True ∧ True) (by kernel_rfl) ⟨trivial, trivial, trivial, trivial⟩ ?_
    refine VO.nil ?_
    show VW _ _ _ _ _ _ _
    refine VW.block ?_
    refine VW.loopL (fun k s => ∃ (x15 : Int) (x16 : Int), s = ⟨[(0, .lf (.v (.sl (.int .i64)) a0)), (1, I a1), (7, I x15), (8, I x16)], []⟩ ∧ F54_l0 N a0 a1 k x15 x16 = some r) N [.ren [0, 1, 7, 8] []] (by kernel_rfl) ⟨(a0.length : Int), (0 : Int), rfl, h⟩ ?_
    rintro k19 s ⟨x15, x16, rfl, h⟩
    cases k19 with
    | zero => exact nomatch (show (none : Option (Int)) = some r from h)
    | succ k19 =>
      replace h : F54_l0_b N a0 a1 (F54_l0 N a0 a1 k19) x15 x16 = some r := h
      unfold F54_l0_b at h
      refine VW.seq ?_
      refine VW.region ?_
      refine VO.seg T_ok .dp 1 [0, 1, 7, 8, 9] [] (s' := ⟨[(0, .lf (.v (.sl (.int .i64)) a0)), (1, I a1), (7, I x15), (8, I x16), (9, B (decide (x16 < x15)))], []⟩) (φ := True ∧ True) (by kernel_rfl) ⟨trivial, trivial⟩ ?_
      refine VO.nil ?_
      show VW _ _ _ _ _ _ _
      refine VW.seq ?_
      refine VW.cond (b := (decide (x16 < x15))) (by kernel_rfl) (fun hb => ?_) (fun hb => ?_)
      · replace h := cond_t h hb; clear hb
        refine VW.skip ?_
        show VW _ _ _ _ _ _ _
        refine VW.seq ?_
        refine VW.block ?_
        refine VW.seq ?_
        refine VW.region ?_
        refine VO.seg T_ok .dp 2 [0, 1, 5, 7, 8] [] (s' := ⟨[(0, .lf (.v (.sl (.int .i64)) a0)), (1, I a1), (5, I x16), (7, I x15), (8, I x16)], []⟩) (φ := True ∧ True ∧ True) (by kernel_rfl) ⟨trivial, trivial, trivial⟩ ?_
        refine VO.nil ?_
        show VW _ _ _ _ _ _ _
        refine VW.seq ?_
        refine VW.region ?_
        obtain ⟨g21, h⟩ := gd_some h
        refine VO.seg T_ok .dp 6 [0, 1, 5, 7, 8, 16] [] (s' := ⟨[(0, .lf (.v (.sl (.int .i64)) a0)), (1, I a1), (5, I x16), (7, I x15), (8, I x16), (16, B (a1 == (a0.getD x16.toNat (Ty.dflt (.int .i64)))))], []⟩) (φ := True ∧ True ∧ True ∧ (InR x16 a0.length) ∧ True ∧ True ∧ True) (by kernel_rfl) ⟨trivial, trivial, trivial, g21, trivial, trivial, trivial⟩ ?_
        refine VO.nil ?_
        show VW _ _ _ _ _ _ _
        refine VW.cond (b := (a1 == (a0.getD x16.toNat (Ty.dflt (.int .i64))))) (by kernel_rfl) (fun hb => ?_) (fun hb => ?_)
        · replace h := cond_t h hb; clear hb
          refine VW.seq ?_
          refine VW.region ?_
          refine VO.seg T_ok .dp 2 [4] [] (s' := ⟨[(4, I x16)], []⟩) (φ := True ∧ True ∧ True) (by kernel_rfl) ⟨trivial, trivial, trivial⟩ ?_
          refine VO.nil ?_
          show VW _ _ _ _ _ _ _
          refine VW.ret ?_
          replace h := Option.some.inj h
          subst h
          exact retR [] (by kernel_rfl) rfl
        · replace h := cond_f h hb; clear hb
          refine VW.skip ?_
          show VW _ _ _ _ _ _ _
          refine VW.region ?_
          refine VO.seg T_ok .dp 2 [0, 1, 7, 8] [] (s' := ⟨[(0, .lf (.v (.sl (.int .i64)) a0)), (1, I a1), (7, I x15), (8, I (IntKind.i64.wrap (x16 + (1 : Int))))], []⟩) (φ := True ∧ True ∧ True) (by kernel_rfl) ⟨trivial, trivial, trivial⟩ ?_
          refine VO.nil ?_
          exact around [.ren [0, 1, 7, 8] []] (by kernel_rfl) ⟨x15, (IntKind.i64.wrap (x16 + (1 : Int))), rfl, h⟩
      · replace h := cond_f h hb; clear hb
        refine VW.exit ?_
        exact arrive [.ren [] []] (by kernel_rfl) ⟨rfl, h⟩
  · rintro s ⟨rfl, h⟩
    unfold F54_j0 at h
    refine VW.seq ?_
    refine VW.region ?_
    refine VO.seg T_ok .dp 1 [4] [] (s' := ⟨[(4, I (-1 : Int))], []⟩) (φ := True ∧ True) (by kernel_rfl) ⟨trivial, trivial⟩ ?_
    refine VO.nil ?_
    show VW _ _ _ _ _ _ _
    refine VW.ret ?_
    replace h := Option.some.inj h
    subst h
    exact retR [] (by kernel_rfl) rfl

/- loop.example/g00844/impl.CacheOk -/
def F22_j0 (N : Nat) : Option (Bool) :=
  some true
def F22_l0_b (N : Nat) (nx77 : Int → (List Int) → (List Int) → (List Int) → Int → Int → Option (Bool)) (x61 : Int) (x62 : (List Int)) (x63 : (List Int)) (x64 : (List Int)) (x65 : Int) (x66 : Int) : Option (Bool) :=
  cond (decide (x66 < x65)) (gd (InR x66 x64.length) (andO (F53 N (x64.getD x66.toNat (Ty.dflt (.int .i64)))) fun y84 => cond (!y84) (some false) (gd (InR x66 x63.length) (andO (F53 N (x63.getD x66.toNat (Ty.dflt (.int .i64)))) fun y86 => cond (!y86) (some false) (andO (F54 N x62 (x64.getD x66.toNat (Ty.dflt (.int .i64)))) fun y87 => cond (y87 != x66) (some false) (nx77 x61 x62 x63 x64 x65 (IntKind.i64.wrap (x66 + (1 : Int))))))))) (F22_j0 N)
def F22_l0 (N : Nat) : Nat → Int → (List Int) → (List Int) → (List Int) → Int → Int → Option (Bool) := loopF (F22_l0_b N) (fun _ _ _ _ _ _ => none)
theorem F22_l0_s (N : Nat) {k : Nat} (hk : 0 < k) (x61 : Int) (x62 : (List Int)) (x63 : (List Int)) (x64 : (List Int)) (x65 : Int) (x66 : Int) : F22_l0 N k x61 x62 x63 x64 x65 x66 = F22_l0_b N (F22_l0 N (k - 1)) x61 x62 x63 x64 x65 x66 := by
  cases k with
  | zero => exact absurd hk (Nat.lt_irrefl 0)
  | succ m => rfl
def F22 (N : Nat) (a0 : (Int × ((List Int) × (List Int)))) : Option (Bool) :=
  andO (F49 N a0.1) fun y2 => cond (!y2) (some false) (cond (decide ((a0.2.1.length : Int) > a0.1)) (some false) (cond ((a0.2.2.length : Int) != (a0.2.1.length : Int)) (some false) (F22_l0 N N a0.1 a0.2.1 a0.2.2 a0.2.1 (a0.2.1.length : Int) (0 : Int))))
theorem ok22 (N : Nat) (a0 : (Int × ((List Int) × (List Int)))) {r : Bool} (h : F22 N a0 = some r) : Con Go.Proofs.Try.prog 22 [.agg [.v (.int .i64) a0.1, .v (.sl (.int .i64)) a0.2.1, .v (.sl (.int .i64)) a0.2.2]] [.lf (.v .bool r)] := by
  refine ⟨enters_of Go.Proofs.Try.func22 rfl (by decide), HC.intro [.lf (.v .bool)] T_ok Go.Proofs.Try.func22 rfl (Nat.le_of_ble_eq_true rfl) (Nat.le_of_ble_eq_true rfl) fun w0 E0 => ?_⟩
  unfold F22 at h
  show VW _ _ _ _ _ (retQ _ _ _ _) _
  refine VW.seq ?_
  refine VW.region ?_
  refine VO.seg T_ok .dp 2 [1] [0] (s' := ⟨[(1, .lf (.ptr 0 0 0 0))], [bx [.v (.int .i64) a0.1, .v (.sl (.int .i64)) a0.2.1, .v (.sl (.int .i64)) a0.2.2] 24]⟩) (φ := True ∧ True ∧ True) (by kernel_rfl) ⟨trivial, trivial, trivial⟩ ?_
  refine VO.nil ?_
  show VW _ _ _ _ _ _ _
  refine VW.seq ?_
  refine VW.seq ?_
  refine VW.region ?_
  refine VO.seg T_ok .dp 2 [1, 6] [0] (s' := ⟨[(1, .lf (.ptr 0 0 0 0)), (6, I a0.1)], [bx [.v (.int .i64) a0.1, .v (.sl (.int .i64)) a0.2.1, .v (.sl (.int .i64)) a0.2.2] 24]⟩) (φ := True ∧ True ∧ True) (by kernel_rfl) ⟨trivial, trivial, trivial⟩ ?_
  obtain ⟨y2, hy, h⟩ := andO_some h
  refine VO.call false [.t (.int .i64)] [] T_ok (d := some 7) (by kernel_rfl) (ok49 N _ hy) rfl ?_
  refine VO.seg T_ok .dp 2 [1, 9] [0] (s' := ⟨[(1, .lf (.ptr 0 0 0 0)), (9, B (!y2))], [bx [.v (.int .i64) a0.1, .v (.sl (.int .i64)) a0.2.1, .v (.sl (.int .i64)) a0.2.2] 24]⟩) (φ := True ∧ True ∧ True) (by kernel_rfl) ⟨trivial, trivial, trivial⟩ ?_
  refine VO.splitB 9 (b := (!y2)) (by kernel_rfl) (fun hb => ?_) (fun hb => ?_)
  · replace h := cond_t h hb; clear hb
    refine VO.seg T_ok .dp 16 [1, 25] [0] (s' := ⟨[(1, .lf (.ptr 0 0 0 0)), (25, B true)], [bx [.v (.int .i64) a0.1, .v (.sl (.int .i64)) a0.2.1, .v (.sl (.int .i64)) a0.2.2] 24]⟩) (φ := True ∧ True ∧ True ∧ True ∧ True ∧ True ∧ True ∧ True ∧ True ∧ True ∧ True ∧ True ∧ True ∧ True ∧ True ∧ True ∧ True) (by kernel_rfl) ⟨trivial, trivial, trivial, trivial, trivial, trivial, trivial, trivial, trivial, trivial, trivial, trivial, trivial, trivial, trivial, trivial, trivial⟩ ?_
    refine VO.nil ?_
    show VW _ _ _ _ _ _ _
    refine VW.cond (b := true) (by kernel_rfl) (fun _ => ?_) (fun h' => nomatch h')
    refine VW.seq ?_
    refine VW.region ?_
    refine VO.seg T_ok .dp 1 [2] [] (s' := ⟨[(2, B false)], []⟩) (φ := True ∧ True) (by kernel_rfl) ⟨trivial, trivial⟩ ?_
    refine VO.nil ?_
    show VW _ _ _ _ _ _ _
    refine VW.ret ?_
    replace h := Option.some.inj h
    subst h
    exact retR [] (by kernel_rfl) rfl
  · replace h := cond_f h hb; clear hb
    refine VO.seg T_ok .dp 8 [1, 17] [0] (s' := ⟨[(1, .lf (.ptr 0 0 0 0)), (17, B (decide ((a0.2.1.length : Int) > a0.1)))], [bx [.v (.int .i64) a0.1, .v (.sl (.int .i64)) a0.2.1, .v (.sl (.int .i64)) a0.2.2] 24]⟩) (φ := True ∧ True ∧ True ∧ True ∧ True ∧ True ∧ True ∧ True ∧ True) (by kernel_rfl) ⟨trivial, trivial, trivial, trivial, trivial, trivial, trivial, trivial, trivial⟩ ?_
    refine VO.splitB 17 (b := (decide ((a0.2.1.length : Int) > a0.1))) (by kernel_rfl) (fun hb => ?_) (fun hb => ?_)
    · replace h := cond_t h hb; clear hb
      refine VO.seg T_ok .dp 8 [1, 25] [0] (s' := ⟨[(1, .lf (.ptr 0 0 0 0)), (25, B true)], [bx [.v (.int .i64) a0.1, .v (.sl (.int .i64)) a0.2.1, .v (.sl (.int .i64)) a0.2.2] 24]⟩) (φ := True ∧ True ∧ True ∧ True ∧ True ∧ True ∧ True ∧ True ∧ True) (by kernel_rfl) ⟨trivial, trivial, trivial, trivial, trivial, trivial, trivial, trivial, trivial⟩ ?_
      refine VO.nil ?_
      show VW _ _ _ _ _ _ _
      refine VW.cond (b := true) (by kernel_rfl) (fun _ => ?_) (fun h' => nomatch h')
      refine VW.seq ?_
      refine VW.region ?_
      refine VO.seg T_ok .dp 1 [2] [] (s' := ⟨[(2, B false)], []⟩) (φ := True ∧ True) (by kernel_rfl) ⟨trivial, trivial⟩ ?_
      refine VO.nil ?_
      show VW _ _ _ _ _ _ _
      refine VW.ret ?_
      replace h := Option.some.inj h
      subst h
      exact retR [] (by kernel_rfl) rfl
    · replace h := cond_f h hb; clear hb
      refine VO.seg T_ok .dp 8 [1, 25] [0] (s' := ⟨[(1, .lf (.ptr 0 0 0 0)), (25, B ((a0.2.2.length : Int) != (a0.2.1.length : Int)))], [bx [.v (.int .i64) a0.1, .v (.sl (.int .i64)) a0.2.1, .v (.sl (.int .i64)) a0.2.2] 24]⟩) (φ := True ∧ True ∧ True ∧ True ∧ True ∧ True ∧ True ∧ True ∧ True) (by kernel_rfl) ⟨trivial, trivial, trivial, trivial, trivial, trivial, trivial, trivial, trivial⟩ ?_
      refine VO.nil ?_
      show VW _ _ _ _ _ _ _
      refine VW.cond (b := ((a0.2.2.length : Int) != (a0.2.1.length : Int))) (by kernel_rfl) (fun hb => ?_) (fun hb => ?_)
      · replace h := cond_t h hb; clear hb
        refine VW.seq ?_
        refine VW.region ?_
        refine VO.seg T_ok .dp 1 [2] [] (s' := ⟨[(2, B false)], []⟩) (φ := True ∧ True) (by kernel_rfl) ⟨trivial, trivial⟩ ?_
        refine VO.nil ?_
        show VW _ _ _ _ _ _ _
        refine VW.ret ?_
        replace h := Option.some.inj h
        subst h
        exact retR [] (by kernel_rfl) rfl
      · replace h := cond_f h hb; clear hb
        refine VW.skip ?_
        show VW _ _ _ _ _ _ _
        refine VW.join (fun s => s = ⟨[], []⟩ ∧ F22_j0 N = some r) ?_ ?_
        · refine VW.seq ?_
          refine VW.region ?_
          refine VO.seg T_ok .dp 4 [1, 27, 28, 29] [0] (s' := ⟨[(1, .lf (.ptr 0 0 0 0)), (27, .lf (.v (.sl (.int .i64)) a0.2.1)), (28, I (a0.2.1.length : Int)), (29, I (0 : Int))], [bx [.v (.int .i64) a0.1, .v (.sl (.int .i64)) a0.2.1, .v (.sl (.int .i64)) a0.2.2] 24]⟩) (φ := True ∧ True ∧ True ∧ True ∧ True) (by kernel_rfl) ⟨trivial, trivial, trivial, trivial, trivial⟩ ?_
          refine VO.nil ?_
          show VW _ _ _ _ _ _ _
          refine VW.block ?_
          refine VW.loopL (fun k s => ∃ (x61 : Int) (x62 : (List Int)) (x63 : (List Int)) (x64 : (List Int)) (x65 : Int) (x66 : Int), s = ⟨[(1, .lf (.ptr 0 0 0 0)), (27, .lf (.v (.sl (.int .i64)) x64)), (28, I x65), (29, I x66)], [bx [.v (.int .i64) x61, .v (.sl (.int .i64)) x62, .v (.sl (.int .i64)) x63] 24]⟩ ∧ F22_l0 N k x61 x62 x63 x64 x65 x66 = some r) N [.ren [1, 27, 28, 29] [0]] (by kernel_rfl) ⟨a0.1, a0.2.1, a0.2.2, a0.2.1, (a0.2.1.length : Int), (0 : Int), rfl, h⟩ ?_
          rintro k77 s ⟨x61, x62, x63, x64, x65, x66, rfl, h⟩
          cases k77 with
          | zero => exact nomatch (show (none : Option (Bool)) = some r from h)
          | succ k77 =>
            replace h : F22_l0_b N (F22_l0 N k77) x61 x62 x63 x64 x65 x66 = some r := h
            unfold F22_l0_b at h
            refine VW.seq ?_
            refine VW.region ?_
            refine VO.seg T_ok .dp 1 [1, 27, 28, 29, 30] [0] (s' := ⟨[(1, .lf (.ptr 0 0 0 0)), (27, .lf (.v (.sl (.int .i64)) x64)), (28, I x65), (29, I x66), (30, B (decide (x66 < x65)))], [bx [.v (.int .i64) x61, .v (.sl (.int .i64)) x62, .v (.sl (.int .i64)) x63] 24]⟩) (φ := True ∧ True) (by kernel_rfl) ⟨trivial, trivial⟩ ?_
            refine VO.nil ?_
            show VW _ _ _ _ _ _ _
            refine VW.seq ?_
            refine VW.cond (b := (decide (x66 < x65))) (by kernel_rfl) (fun hb => ?_) (fun hb => ?_)
            · replace h := cond_t h hb; clear hb
              refine VW.skip ?_
              show VW _ _ _ _ _ _ _
              refine VW.seq ?_
              refine VW.block ?_
              refine VW.seq ?_
              refine VW.region ?_
              obtain ⟨g83, h⟩ := gd_some h
              refine VO.seg T_ok .dp 5 [1, 3, 4, 27, 28, 29] [0] (s' := ⟨[(1, .lf (.ptr 0 0 0 0)), (3, I x66), (4, I (x64.getD x66.toNat (Ty.dflt (.int .i64)))), (27, .lf (.v (.sl (.int .i64)) x64)), (28, I x65), (29, I x66)], [bx [.v (.int .i64) x61, .v (.sl (.int .i64)) x62, .v (.sl (.int .i64)) x63] 24]⟩) (φ := True ∧ (InR x66 x64.length) ∧ True ∧ True ∧ True ∧ True) (by kernel_rfl) ⟨trivial, g83, trivial, trivial, trivial, trivial⟩ ?_
              refine VO.nil ?_
              show VW _ _ _ _ _ _ _
              refine VW.seq ?_
              refine VW.region ?_
              refine VO.seg T_ok .dp 1 [1, 3, 4, 27, 28, 29, 34] [0] (s' := ⟨[(1, .lf (.ptr 0 0 0 0)), (3, I x66), (4, I (x64.getD x66.toNat (Ty.dflt (.int .i64)))), (27, .lf (.v (.sl (.int .i64)) x64)), (28, I x65), (29, I x66), (34, I (x64.getD x66.toNat (Ty.dflt (.int .i64))))], [bx [.v (.int .i64) x61, .v (.sl (.int .i64)) x62, .v (.sl (.int .i64)) x63] 24]⟩) (φ := True ∧ True) (by kernel_rfl) ⟨trivial, trivial⟩ ?_
              obtain ⟨y84, hy, h⟩ := andO_some h
              refine VO.call false [.t (.int .i64)] [] T_ok (d := some 35) (by kernel_rfl) (ok53 N _ hy) rfl ?_
              refine VO.seg T_ok .dp 2 [1, 3, 4, 27, 28, 29, 37] [0] (s' := ⟨[(1, .lf (.ptr 0 0 0 0)), (3, I x66), (4, I (x64.getD x66.toNat (Ty.dflt (.int .i64)))), (27, .lf (.v (.sl (.int .i64)) x64)), (28, I x65), (29, I x66), (37, B (!y84))], [bx [.v (.int .i64) x61, .v (.sl (.int .i64)) x62, .v (.sl (.int .i64)) x63] 24]⟩) (φ := True ∧ True ∧ True) (by kernel_rfl) ⟨trivial, trivial, trivial⟩ ?_
              refine VO.splitB 37 (b := (!y84)) (by kernel_rfl) (fun hb => ?_) (fun hb => ?_)
              · replace h := cond_t h hb; clear hb
                refine VO.seg T_ok .dp 16 [1, 27, 28, 29, 53] [0] (s' := ⟨[(1, .lf (.ptr 0 0 0 0)), (27, .lf (.v (.sl (.int .i64)) x64)), (28, I x65), (29, I x66), (53, B true)], [bx [.v (.int .i64) x61, .v (.sl (.int .i64)) x62, .v (.sl (.int .i64)) x63] 24]⟩) (φ := True ∧ True ∧ True ∧ True ∧ True ∧ True ∧ True ∧ True ∧ True ∧ True ∧ True ∧ True ∧ True ∧ True ∧ True ∧ True ∧ True) (by kernel_rfl) ⟨trivial, trivial, trivial, trivial, trivial, trivial, trivial, trivial, trivial, trivial, trivial, trivial, trivial, trivial, trivial, trivial, trivial⟩ ?_
                refine VO.nil ?_
                show VW _ _ _ _ _ _ _
                refine VW.cond (b := true) (by kernel_rfl) (fun _ => ?_) (fun h' => nomatch h')
                refine VW.seq ?_
                refine VW.region ?_
                refine VO.seg T_ok .dp 1 [2] [] (s' := ⟨[(2, B false)], []⟩) (φ := True ∧ True) (by kernel_rfl) ⟨trivial, trivial⟩ ?_
                refine VO.nil ?_
                show VW _ _ _ _ _ _ _
                refine VW.ret ?_
                replace h := Option.some.inj h
                subst h
                exact retR [] (by kernel_rfl) rfl
              · replace h := cond_f h hb; clear hb
                obtain ⟨g85, h⟩ := gd_some h
                refine VO.seg T_ok .dp 5 [1, 3, 4, 27, 28, 29, 37, 42] [0] (s' := ⟨[(1, .lf (.ptr 0 0 0 0)), (3, I x66), (4, I (x64.getD x66.toNat (Ty.dflt (.int .i64)))), (27, .lf (.v (.sl (.int .i64)) x64)), (28, I x65), (29, I x66), (37, B false), (42, I (x63.getD x66.toNat (Ty.dflt (.int .i64))))], [bx [.v (.int .i64) x61, .v (.sl (.int .i64)) x62, .v (.sl (.int .i64)) x63] 24]⟩) (φ := True ∧ True ∧ True ∧ (InR x66 x63.length) ∧ True ∧ True) (by kernel_rfl) ⟨trivial, trivial, trivial, g85, trivial, trivial⟩ ?_
                refine VO.on (j := 3) (want := false) (d := 37) (b := false) rfl rfl rfl (by kernel_rfl) rfl ?_
                obtain ⟨y86, hy, h⟩ := andO_some h
                refine VO.call false [.t (.int .i64)] [] T_ok (d := some 43) (by kernel_rfl) (ok53 N _ hy) rfl ?_
                refine VO.seg T_ok .dp 3 [1, 3, 4, 27, 28, 29, 46] [0] (s' := ⟨[(1, .lf (.ptr 0 0 0 0)), (3, I x66), (4, I (x64.getD x66.toNat (Ty.dflt (.int .i64)))), (27, .lf (.v (.sl (.int .i64)) x64)), (28, I x65), (29, I x66), (46, B (!y86))], [bx [.v (.int .i64) x61, .v (.sl (.int .i64)) x62, .v (.sl (.int .i64)) x63] 24]⟩) (φ := True ∧ True ∧ True ∧ True) (by kernel_rfl) ⟨trivial, trivial, trivial, trivial⟩ ?_
                refine VO.splitB 46 (b := (!y86)) (by kernel_rfl) (fun hb => ?_) (fun hb => ?_)
                · replace h := cond_t h hb; clear hb
                  refine VO.seg T_ok .dp 7 [1, 27, 28, 29, 53] [0] (s' := ⟨[(1, .lf (.ptr 0 0 0 0)), (27, .lf (.v (.sl (.int .i64)) x64)), (28, I x65), (29, I x66), (53, B true)], [bx [.v (.int .i64) x61, .v (.sl (.int .i64)) x62, .v (.sl (.int .i64)) x63] 24]⟩) (φ := True ∧ True ∧ True ∧ True ∧ True ∧ True ∧ True ∧ True) (by kernel_rfl) ⟨trivial, trivial, trivial, trivial, trivial, trivial, trivial, trivial⟩ ?_
                  refine VO.nil ?_
                  show VW _ _ _ _ _ _ _
                  refine VW.cond (b := true) (by kernel_rfl) (fun _ => ?_) (fun h' => nomatch h')
                  refine VW.seq ?_
                  refine VW.region ?_
                  refine VO.seg T_ok .dp 1 [2] [] (s' := ⟨[(2, B false)], []⟩) (φ := True ∧ True) (by kernel_rfl) ⟨trivial, trivial⟩ ?_
                  refine VO.nil ?_
                  show VW _ _ _ _ _ _ _
                  refine VW.ret ?_
                  replace h := Option.some.inj h
                  subst h
                  exact retR [] (by kernel_rfl) rfl
                · replace h := cond_f h hb; clear hb
                  refine VO.seg T_ok .dp 3 [1, 3, 27, 28, 29, 46, 48, 49] [0] (s' := ⟨[(1, .lf (.ptr 0 0 0 0)), (3, I x66), (27, .lf (.v (.sl (.int .i64)) x64)), (28, I x65), (29, I x66), (46, B false), (48, .lf (.v (.sl (.int .i64)) x62)), (49, I (x64.getD x66.toNat (Ty.dflt (.int .i64))))], [bx [.v (.int .i64) x61, .v (.sl (.int .i64)) x62, .v (.sl (.int .i64)) x63] 24]⟩) (φ := True ∧ True ∧ True ∧ True) (by kernel_rfl) ⟨trivial, trivial, trivial, trivial⟩ ?_
                  refine VO.on (j := 12) (want := false) (d := 46) (b := false) rfl rfl rfl (by kernel_rfl) rfl ?_
                  obtain ⟨y87, hy, h⟩ := andO_some h
                  refine VO.call false [.t (.sl (.int .i64)), .t (.int .i64)] [] T_ok (d := some 50) (by kernel_rfl) (ok54 N _ _ hy) rfl ?_
                  refine VO.seg T_ok .dp 3 [1, 27, 28, 29, 53] [0] (s' := ⟨[(1, .lf (.ptr 0 0 0 0)), (27, .lf (.v (.sl (.int .i64)) x64)), (28, I x65), (29, I x66), (53, B (y87 != x66))], [bx [.v (.int .i64) x61, .v (.sl (.int .i64)) x62, .v (.sl (.int .i64)) x63] 24]⟩) (φ := True ∧ True ∧ True ∧ True) (by kernel_rfl) ⟨trivial, trivial, trivial, trivial⟩ ?_
                  refine VO.nil ?_
                  show VW _ _ _ _ _ _ _
                  refine VW.cond (b := (y87 != x66)) (by kernel_rfl) (fun hb => ?_) (fun hb => ?_)
                  · replace h := cond_t h hb; clear hb
                    refine VW.seq ?_
                    refine VW.region ?_
                    refine VO.seg T_ok .dp 1 [2] [] (s' := ⟨[(2, B false)], []⟩) (φ := True ∧ True) (by kernel_rfl) ⟨trivial, trivial⟩ ?_
                    refine VO.nil ?_
                    show VW _ _ _ _ _ _ _
                    refine VW.ret ?_
                    replace h := Option.some.inj h
                    subst h
                    exact retR [] (by kernel_rfl) rfl
                  · replace h := cond_f h hb; clear hb
                    refine VW.skip ?_
                    show VW _ _ _ _ _ _ _
                    refine VW.region ?_
                    refine VO.seg T_ok .dp 2 [1, 27, 28, 29] [0] (s' := ⟨[(1, .lf (.ptr 0 0 0 0)), (27, .lf (.v (.sl (.int .i64)) x64)), (28, I x65), (29, I (IntKind.i64.wrap (x66 + (1 : Int))))], [bx [.v (.int .i64) x61, .v (.sl (.int .i64)) x62, .v (.sl (.int .i64)) x63] 24]⟩) (φ := True ∧ True ∧ True) (by kernel_rfl) ⟨trivial, trivial, trivial⟩ ?_
                    refine VO.nil ?_
                    exact around [.ren [1, 27, 28, 29] [0]] (by kernel_rfl) ⟨x61, x62, x63, x64, x65, (IntKind.i64.wrap (x66 + (1 : Int))), rfl, h⟩
            · replace h := cond_f h hb; clear hb
              refine VW.exit ?_
              exact arrive [.ren [] []] (by kernel_rfl) ⟨rfl, h⟩
        · rintro s ⟨rfl, h⟩
          unfold F22_j0 at h
          refine VW.seq ?_
          refine VW.region ?_
          refine VO.seg T_ok .dp 1 [2] [] (s' := ⟨[(2, B true)], []⟩) (φ := True ∧ True) (by kernel_rfl) ⟨trivial, trivial⟩ ?_
          refine VO.nil ?_
          show VW _ _ _ _ _ _ _
          refine VW.ret ?_
          replace h := Option.some.inj h
          subst h
          exact retR [] (by kernel_rfl) rfl

/- loop.example/g00844/spec.l09At -/
def F55_j0 (N : Nat) : Option (Int) :=
  some (-1 : Int)
def F55_l0_b (N : Nat) (a1 : Int) (nx27 : Int → (List Int) → (List Int) → Int → Option (Int)) (x21 : Int) (x22 : (List Int)) (x23 : (List Int)) (x24 : Int) : Option (Int) :=
  cond (decide (x24 < (x22.length : Int))) (gd (InR x24 x22.length) (cond ((x22.getD x24.toNat (Ty.dflt (.int .i64))) == a1) (some x24) (nx27 x21 x22 x23 (IntKind.i64.wrap (x24 + (1 : Int)))))) (F55_j0 N)
def F55_l0 (N : Nat) (a1 : Int) : Nat → Int → (List Int) → (List Int) → Int → Option (Int) := loopF (F55_l0_b N a1) (fun _ _ _ _ => none)
theorem F55_l0_s (N : Nat) (a1 : Int) {k : Nat} (hk : 0 < k) (x21 : Int) (x22 : (List Int)) (x23 : (List Int)) (x24 : Int) : F55_l0 N a1 k x21 x22 x23 x24 = F55_l0_b N a1 (F55_l0 N a1 (k - 1)) x21 x22 x23 x24 := by
  cases k with
  | zero => exact absurd hk (Nat.lt_irrefl 0)
  | succ m => rfl
def F55 (N : Nat) (a0 : (Int × ((List Int) × (List Int)))) (a1 : Int) : Option (Int) :=
  F55_l0 N a1 N a0.1 a0.2.1 a0.2.2 (0 : Int)
theorem ok55 (N : Nat) (a0 : (Int × ((List Int) × (List Int)))) (a1 : Int) {r : Int} (h : F55 N a0 a1 = some r) : Con Go.Proofs.Try.prog 55 [.agg [.v (.int .i64) a0.1, .v (.sl (.int .i64)) a0.2.1, .v (.sl (.int .i64)) a0.2.2], I a1] [.lf (.v (.int .i64) r)] := by
  refine ⟨enters_of Go.Proofs.Try.func55 rfl (by decide), HC.intro [.lf (.v (.int .i64))] T_ok Go.Proofs.Try.func55 rfl (Nat.le_of_ble_eq_true rfl) (Nat.le_of_ble_eq_true rfl) fun w0 E0 => ?_⟩
  unfold F55 at h
  show VW _ _ _ _ _ (retQ _ _ _ _) _
  refine VW.seq ?_
  refine VW.region ?_
  refine VO.seg T_ok .dp 2 [1, 2] [0] (s' := ⟨[(1, I a1), (2, .lf (.ptr 0 0 0 0))], [bx [.v (.int .i64) a0.1, .v (.sl (.int .i64)) a0.2.1, .v (.sl (.int .i64)) a0.2.2] 24]⟩) (φ := True ∧ True ∧ True) (by kernel_rfl) ⟨trivial, trivial, trivial⟩ ?_
  refine VO.nil ?_
  show VW _ _ _ _ _ _ _
  refine VW.join (fun s => s = ⟨[], []⟩ ∧ F55_j0 N = some r) ?_ ?_
  · refine VW.seq ?_
    refine VW.region ?_
    refine VO.seg T_ok .dp 1 [1, 2, 5] [0] (s' := ⟨[(1, I a1), (2, .lf (.ptr 0 0 0 0)), (5, I (0 : Int))], [bx [.v (.int .i64) a0.1, .v (.sl (.int .i64)) a0.2.1, .v (.sl (.int .i64)) a0.2.2] 24]⟩) (φ := True ∧ True) (by kernel_rfl) ⟨trivial, trivial⟩ ?_
    refine VO.nil ?_
    show VW _ _ _ _ _ _ _
    refine VW.block ?_
    refine VW.loopL (fun k s => ∃ (x21 : Int) (x22 : (List Int)) (x23 : (List Int)) (x24 : Int), s = ⟨[(1, I a1), (2, .lf (.ptr 0 0 0 0)), (5, I x24)], [bx [.v (.int .i64) x21, .v (.sl (.int .i64)) x22, .v (.sl (.int .i64)) x23] 24]⟩ ∧ F55_l0 N a1 k x21 x22 x23 x24 = some r) N [.ren [1, 2, 5] [0]] (by kernel_rfl) ⟨a0.1, a0.2.1, a0.2.2, (0 : Int), rfl, h⟩ ?_
    rintro k27 s ⟨x21, x22, x23, x24, rfl, h⟩
    cases k27 with
    | zero => exact nomatch (show (none : Option (Int)) = some r from h)
    | succ k27 =>
      replace h : F55_l0_b N a1 (F55_l0 N a1 k27) x21 x22 x23 x24 = some r := h
      unfold F55_l0_b at h
      refine VW.seq ?_
      refine VW.seq ?_
      refine VW.region ?_
      refine VO.seg T_ok .dp 5 [1, 2, 5, 10] [0] (s' := ⟨[(1, I a1), (2, .lf (.ptr 0 0 0 0)), (5, I x24), (10, B (decide (x24 < (x22.length : Int))))], [bx [.v (.int .i64) x21, .v (.sl (.int .i64)) x22, .v (.sl (.int .i64)) x23] 24]⟩) (φ := True ∧ True ∧ True ∧ True ∧ True ∧ True) (by kernel_rfl) ⟨trivial, trivial, trivial, trivial, trivial, trivial⟩ ?_
      refine VO.nil ?_
      show VW _ _ _ _ _ _ _
      refine VW.cond (b := (decide (x24 < (x22.length : Int)))) (by kernel_rfl) (fun hb => ?_) (fun hb => ?_)
      · replace h := cond_t h hb; clear hb
        refine VW.skip ?_
        show VW _ _ _ _ _ _ _
        refine VW.seq ?_
        refine VW.block ?_
        refine VW.seq ?_
        refine VW.region ?_
        obtain ⟨g29, h⟩ := gd_some h
        refine VO.seg T_ok .dp 7 [1, 2, 5, 19] [0] (s' := ⟨[(1, I a1), (2, .lf (.ptr 0 0 0 0)), (5, I x24), (19, B ((x22.getD x24.toNat (Ty.dflt (.int .i64))) == a1))], [bx [.v (.int .i64) x21, .v (.sl (.int .i64)) x22, .v (.sl (.int .i64)) x23] 24]⟩) (φ := True ∧ True ∧ True ∧ (InR x24 x22.length) ∧ True ∧ True ∧ True ∧ True) (by kernel_rfl) ⟨trivial, trivial, trivial, g29, trivial, trivial, trivial, trivial⟩ ?_
        refine VO.nil ?_
        show VW _ _ _ _ _ _ _
        refine VW.cond (b := ((x22.getD x24.toNat (Ty.dflt (.int .i64))) == a1)) (by kernel_rfl) (fun hb => ?_) (fun hb => ?_)
        · replace h := cond_t h hb; clear hb
          refine VW.seq ?_
          refine VW.region ?_
          refine VO.seg T_ok .dp 2 [4] [] (s' := ⟨[(4, I x24)], []⟩) (φ := True ∧ True ∧ True) (by kernel_rfl) ⟨trivial, trivial, trivial⟩ ?_
          refine VO.nil ?_
          show VW _ _ _ _ _ _ _
          refine VW.ret ?_
          replace h := Option.some.inj h
          subst h
          exact retR [] (by kernel_rfl) rfl
        · replace h := cond_f h hb; clear hb
          refine VW.skip ?_
          show VW _ _ _ _ _ _ _
          refine VW.region ?_
          refine VO.seg T_ok .dp 3 [1, 2, 5] [0] (s' := ⟨[(1, I a1), (2, .lf (.ptr 0 0 0 0)), (5, I (IntKind.i64.wrap (x24 + (1 : Int))))], [bx [.v (.int .i64) x21, .v (.sl (.int .i64)) x22, .v (.sl (.int .i64)) x23] 24]⟩) (φ := True ∧ True ∧ True ∧ True) (by kernel_rfl) ⟨trivial, trivial, trivial, trivial⟩ ?_
          refine VO.nil ?_
          exact around [.ren [1, 2, 5] [0]] (by kernel_rfl) ⟨x21, x22, x23, (IntKind.i64.wrap (x24 + (1 : Int))), rfl, h⟩
      · replace h := cond_f h hb; clear hb
        refine VW.exit ?_
        exact arrive [.ren [] []] (by kernel_rfl) ⟨rfl, h⟩
  · rintro s ⟨rfl, h⟩
    unfold F55_j0 at h
    refine VW.seq ?_
    refine VW.region ?_
    refine VO.seg T_ok .dp 1 [4] [] (s' := ⟨[(4, I (-1 : Int))], []⟩) (φ := True ∧ True) (by kernel_rfl) ⟨trivial, trivial⟩ ?_
    refine VO.nil ?_
    show VW _ _ _ _ _ _ _
    refine VW.ret ?_
    replace h := Option.some.inj h
    subst h
    exact retR [] (by kernel_rfl) rfl

/- loop.example/g00844/impl.find -/
def F56 (N : Nat) (a0 : (Int × ((List Int) × (List Int)))) (a1 : Int) : Option (Int) :=
  andO (F22 N a0) fun y2 => cond (!y2) (some (-1 : Int)) (andO (F54 N a0.2.1 a1) fun y3 => some y3)
theorem ok56 (N : Nat) (a0 : (Int × ((List Int) × (List Int)))) (a1 : Int) {r : Int} (h : F56 N a0 a1 = some r) : Con Go.Proofs.Try.prog 56 [.agg [.v (.int .i64) a0.1, .v (.sl (.int .i64)) a0.2.1, .v (.sl (.int .i64)) a0.2.2], I a1] [.lf (.v (.int .i64) r)] := by
  refine ⟨enters_of Go.Proofs.Try.func56 rfl (by decide), HC.intro [.lf (.v (.int .i64))] T_ok Go.Proofs.Try.func56 rfl (Nat.le_of_ble_eq_true rfl) (Nat.le_of_ble_eq_true rfl) fun w0 E0 => ?_⟩
  unfold F56 at h
  show VW _ _ _ _ _ (retQ _ _ _ _) _
  refine VW.seq ?_
  refine VW.region ?_
  refine VO.seg T_ok .dp 2 [1, 2] [0] (s' := ⟨[(1, I a1), (2, .lf (.ptr 0 0 0 0))], [bx [.v (.int .i64) a0.1, .v (.sl (.int .i64)) a0.2.1, .v (.sl (.int .i64)) a0.2.2] 24]⟩) (φ := True ∧ True ∧ True) (by kernel_rfl) ⟨trivial, trivial, trivial⟩ ?_
  refine VO.nil ?_
  show VW _ _ _ _ _ _ _
  refine VW.seq ?_
  refine VW.seq ?_
  refine VW.region ?_
  refine VO.seg T_ok .dp 1 [1, 2, 5] [0] (s' := ⟨[(1, I a1), (2, .lf (.ptr 0 0 0 0)), (5, .agg [.v (.int .i64) a0.1, .v (.sl (.int .i64)) a0.2.1, .v (.sl (.int .i64)) a0.2.2])], [bx [.v (.int .i64) a0.1, .v (.sl (.int .i64)) a0.2.1, .v (.sl (.int .i64)) a0.2.2] 24]⟩) (φ := True ∧ True) (by kernel_rfl) ⟨trivial, trivial⟩ ?_
  obtain ⟨y2, hy, h⟩ := andO_some h
  refine VO.call false [.t Y23] [] T_ok (d := some 6) (by kernel_rfl) (ok22 N _ hy) rfl ?_
  refine VO.seg T_ok .dp 1 [1, 2, 7] [0] (s' := ⟨[(1, I a1), (2, .lf (.ptr 0 0 0 0)), (7, B (!y2))], [bx [.v (.int .i64) a0.1, .v (.sl (.int .i64)) a0.2.1, .v (.sl (.int .i64)) a0.2.2] 24]⟩) (φ := True ∧ True) (by kernel_rfl) ⟨trivial, trivial⟩ ?_
  refine VO.nil ?_
  show VW _ _ _ _ _ _ _
  refine VW.cond (b := (!y2)) (by kernel_rfl) (fun hb => ?_) (fun hb => ?_)
  · replace h := cond_t h hb; clear hb
    refine VW.seq ?_
    refine VW.region ?_
    refine VO.seg T_ok .dp 1 [4] [] (s' := ⟨[(4, I (-1 : Int))], []⟩) (φ := True ∧ True) (by kernel_rfl) ⟨trivial, trivial⟩ ?_
    refine VO.nil ?_
    show VW _ _ _ _ _ _ _
    refine VW.ret ?_
    replace h := Option.some.inj h
    subst h
    exact retR [] (by kernel_rfl) rfl
  · replace h := cond_f h hb; clear hb
    refine VW.skip ?_
    show VW _ _ _ _ _ _ _
    refine VW.seq ?_
    refine VW.region ?_
    refine VO.seg T_ok .dp 3 [9, 10] [] (s' := ⟨[(9, .lf (.v (.sl (.int .i64)) a0.2.1)), (10, I a1)], []⟩) (φ := True ∧ True ∧ True ∧ True) (by kernel_rfl) ⟨trivial, trivial, trivial, trivial⟩ ?_
    obtain ⟨y3, hy, h⟩ := andO_some h
    refine VO.call false [.t (.sl (.int .i64)), .t (.int .i64)] [] T_ok (d := some 11) (by kernel_rfl) (ok54 N _ _ hy) rfl ?_
    refine VO.seg T_ok .dp 1 [4] [] (s' := ⟨[(4, I y3)], []⟩) (φ := True ∧ True) (by kernel_rfl) ⟨trivial, trivial⟩ ?_
    refine VO.nil ?_
    show VW _ _ _ _ _ _ _
    refine VW.ret ?_
    replace h := Option.some.inj h
    subst h
    exact retR [] (by kernel_rfl) rfl

/- loop.example/g00844/spec.l01Copy -/
def F71_j0 (N : Nat) (x16 : (List Int)) : Option ((List Int)) :=
  some x16
def F71_l0_b (N : Nat) (a0 : (List Int)) (nx28 : (List Int) → Int → Option ((List Int))) (x22 : (List Int)) (x23 : Int) : Option ((List Int)) :=
  cond (decide (x23 < (a0.length : Int))) (gd (InR x23 a0.length) (gd (x22.length + ([(a0.getD x23.toNat (Ty.dflt (.int .i64)))]).length ≤ lim (.int .i64)) (nx28 (x22 ++ ([(a0.getD x23.toNat (Ty.dflt (.int .i64)))])) (IntKind.i64.wrap (x23 + (1 : Int)))))) (F71_j0 N x22)
def F71_l0 (N : Nat) (a0 : (List Int)) : Nat → (List Int) → Int → Option ((List Int)) := loopF (F71_l0_b N a0) (fun _ _ => none)
theorem F71_l0_s (N : Nat) (a0 : (List Int)) {k : Nat} (hk : 0 < k) (x22 : (List Int)) (x23 : Int) : F71_l0 N a0 k x22 x23 = F71_l0_b N a0 (F71_l0 N a0 (k - 1)) x22 x23 := by
  cases k with
  | zero => exact absurd hk (Nat.lt_irrefl 0)
  | succ m => rfl
def F71 (N : Nat) (a0 : (List Int)) : Option ((List Int)) :=
  F71_l0 N a0 N ([]) (0 : Int)
theorem ok71 (N : Nat) (a0 : (List Int)) {r : (List Int)} (h : F71 N a0 = some r) : Con Go.Proofs.Try.prog 71 [.lf (.v (.sl (.int .i64)) a0)] [.lf (.own (.int .i64) r .dp)] := by
  refine ⟨enters_of Go.Proofs.Try.func71 rfl (by decide), HC.intro [.lf (.own (.int .i64) .dp)] T_ok Go.Proofs.Try.func71 rfl (Nat.le_of_ble_eq_true rfl) (Nat.le_of_ble_eq_true rfl) fun w0 E0 => ?_⟩
  unfold F71 at h
  show VW _ _ _ _ _ (retQ _ _ _ _) _
  refine VW.seq ?_
  refine VW.region ?_
  refine VO.seg T_ok .dp 1 [0] [] (s' := ⟨[(0, .lf (.v (.sl (.int .i64)) a0))], []⟩) (φ := True ∧ True) (by kernel_rfl) ⟨trivial, trivial⟩ ?_
  refine VO.nil ?_
  show VW _ _ _ _ _ _ _
  refine VW.seq ?_
  refine VW.region ?_
  refine VO.seg T_ok .dp 2 [0, 3] [] (s' := ⟨[(0, .lf (.v (.sl (.int .i64)) a0)), (3, .lf (.nil))], []⟩) (φ := True ∧ True ∧ True) (by kernel_rfl) ⟨trivial, trivial, trivial⟩ ?_
  refine VO.nil ?_
  show VW _ _ _ _ _ _ _
  refine VW.join (fun s => ∃ (x16 : (List Int)), s = ⟨[(3, .lf (.hd 0 0 none))], [ar 0 (.int .i64) x16 .dp]⟩ ∧ F71_j0 N x16 = some r) ?_ ?_
  · refine VW.seq ?_
    refine VW.region ?_
    refine VO.seg T_ok .dp 1 [0, 3, 4] [] (s' := ⟨[(0, .lf (.v (.sl (.int .i64)) a0)), (3, .lf (.nil)), (4, I (0 : Int))], []⟩) (φ := True ∧ True) (by kernel_rfl) ⟨trivial, trivial⟩ ?_
    refine VO.nil ?_
    show VW _ _ _ _ _ _ _
    refine VW.block ?_
    refine VW.loopL (fun k s => ∃ (x22 : (List Int)) (x23 : Int), s = ⟨[(0, .lf (.v (.sl (.int .i64)) a0)), (3, .lf (.hd 0 0 none)), (4, I x23)], [ar 0 (.int .i64) x22 .dp]⟩ ∧ F71_l0 N a0 k x22 x23 = some r) N [.nilS 3 (.int .i64) .dp, .ren [0, 3, 4] [0]] (by kernel_rfl) ⟨[], (0 : Int), rfl, h⟩ ?_
    rintro k28 s ⟨x22, x23, rfl, h⟩
    cases k28 with
    | zero => exact nomatch (show (none : Option ((List Int))) = some r from h)
    | succ k28 =>
      replace h : F71_l0_b N a0 (F71_l0 N a0 k28) x22 x23 = some r := h
      unfold F71_l0_b at h
      refine VW.seq ?_
      refine VW.seq ?_
      refine VW.region ?_
      refine VO.seg T_ok .dp 4 [0, 3, 4, 9] [0] (s' := ⟨[(0, .lf (.v (.sl (.int .i64)) a0)), (3, .lf (.hd 0 0 none)), (4, I x23), (9, B (decide (x23 < (a0.length : Int))))], [ar 0 (.int .i64) x22 .dp]⟩) (φ := True ∧ True ∧ True ∧ True ∧ True) (by kernel_rfl) ⟨trivial, trivial, trivial, trivial, trivial⟩ ?_
      refine VO.nil ?_
      show VW _ _ _ _ _ _ _
      refine VW.cond (b := (decide (x23 < (a0.length : Int)))) (by kernel_rfl) (fun hb => ?_) (fun hb => ?_)
      · replace h := cond_t h hb; clear hb
        refine VW.skip ?_
        show VW _ _ _ _ _ _ _
        refine VW.seq ?_
        refine VW.block ?_
        refine VW.region ?_
        obtain ⟨g31, h⟩ := gd_some h
        obtain ⟨g32, h⟩ := gd_some h
        refine VO.seg T_ok .dp 8 [0, 3, 4] [0] (s' := ⟨[(0, .lf (.v (.sl (.int .i64)) a0)), (3, .lf (.hd 0 0 none)), (4, I x23)], [ar 0 (.int .i64) (x22 ++ ([(a0.getD x23.toNat (Ty.dflt (.int .i64)))])) .dp]⟩) (φ := True ∧ True ∧ True ∧ (InR x23 a0.length) ∧ True ∧ True ∧ (x22.length + ([(a0.getD x23.toNat (Ty.dflt (.int .i64)))]).length ≤ lim (.int .i64)) ∧ True ∧ True) (by kernel_rfl) ⟨trivial, trivial, trivial, g31, trivial, trivial, g32, trivial, trivial⟩ ?_
        refine VO.nil ?_
        show VW _ _ _ _ _ _ _
        refine VW.region ?_
        refine VO.seg T_ok .dp 3 [0, 3, 4] [0] (s' := ⟨[(0, .lf (.v (.sl (.int .i64)) a0)), (3, .lf (.hd 0 0 none)), (4, I (IntKind.i64.wrap (x23 + (1 : Int))))], [ar 0 (.int .i64) (x22 ++ ([(a0.getD x23.toNat (Ty.dflt (.int .i64)))])) .dp]⟩) (φ := True ∧ True ∧ True ∧ True) (by kernel_rfl) ⟨trivial, trivial, trivial, trivial⟩ ?_
        refine VO.nil ?_
        exact around [.ren [0, 3, 4] [0]] (by kernel_rfl) ⟨(x22 ++ ([(a0.getD x23.toNat (Ty.dflt (.int .i64)))])), (IntKind.i64.wrap (x23 + (1 : Int))), rfl, h⟩
      · replace h := cond_f h hb; clear hb
        refine VW.exit ?_
        exact arrive [.ren [3] [0]] (by kernel_rfl) ⟨x22, rfl, h⟩
  · rintro s ⟨x16, rfl, h⟩
    unfold F71_j0 at h
    refine VW.seq ?_
    refine VW.region ?_
    refine VO.seg T_ok .dp 2 [2] [0] (s' := ⟨[(2, .lf (.hd 0 0 none))], [ar 0 (.int .i64) x16 .dp]⟩) (φ := True ∧ True ∧ True) (by kernel_rfl) ⟨trivial, trivial, trivial⟩ ?_
    refine VO.nil ?_
    show VW _ _ _ _ _ _ _
    refine VW.ret ?_
    replace h := Option.some.inj h
    subst h
    exact retR [some 0] (by kernel_rfl) rfl

/- loop.example/g00844/spec.l09Copy -/
def F57 (N : Nat) (a0 : (Int × ((List Int) × (List Int)))) : Option ((Int × ((List Int) × (List Int)))) :=
  andO (F71 N a0.2.1) fun y1 => andO (F71 N a0.2.2) fun y2 => some (a0.1, (y1, y2))
theorem ok57 (N : Nat) (a0 : (Int × ((List Int) × (List Int)))) {r : (Int × ((List Int) × (List Int)))} (h : F57 N a0 = some r) : Con Go.Proofs.Try.prog 57 [.agg [.v (.int .i64) a0.1, .v (.sl (.int .i64)) a0.2.1, .v (.sl (.int .i64)) a0.2.2]] [.agg [.v (.int .i64) r.1, .own (.int .i64) r.2.1 .dp, .own (.int .i64) r.2.2 .dp]] := by
  refine ⟨enters_of Go.Proofs.Try.func57 rfl (by decide), HC.intro [.agg [.v (.int .i64), .own (.int .i64) .dp, .own (.int .i64) .dp]] T_ok Go.Proofs.Try.func57 rfl (Nat.le_of_ble_eq_true rfl) (Nat.le_of_ble_eq_true rfl) fun w0 E0 => ?_⟩
  unfold F57 at h
  show VW _ _ _ _ _ (retQ _ _ _ _) _
  refine VW.seq ?_
  refine VW.region ?_
  refine VO.seg T_ok .dp 2 [1, 2] [0, 1] (s' := ⟨[(1, .lf (.ptr 0 0 0 0)), (2, .lf (.ptr 1 0 0 0))], [bx [.v (.int .i64) a0.1, .v (.sl (.int .i64)) a0.2.1, .v (.sl (.int .i64)) a0.2.2] 24, bx [.v (.int .i64) (0 : Int), .nil, .nil] 24]⟩) (φ := True ∧ True ∧ True) (by kernel_rfl) ⟨trivial, trivial, trivial⟩ ?_
  refine VO.nil ?_
  show VW _ _ _ _ _ _ _
  refine VW.seq ?_
  obtain ⟨y1, hy1, h⟩ := andO_some h
  obtain ⟨y2, hy2, h⟩ := andO_some h
  refine VW.drawn (by kernel_rfl) [some (3, .lf (.ptr 0 0 0 0)), some (4, I a0.1), some (5, .lf (.ptr 0 0 0 1)), some (6, .lf (.v (.sl (.int .i64)) a0.2.1)), some (7, .lf (.hd 2 0 none)), some (8, .lf (.ptr 0 0 0 2)), some (9, .lf (.v (.sl (.int .i64)) a0.2.2)), some (10, .lf (.hd 3 0 none)), some (11, .agg [.v (.int .i64) a0.1, .hd 2 0 none, .hd 3 0 none]), none] [4, 7, 9] [[bx [.v (.int .i64) a0.1, .v (.sl (.int .i64)) a0.2.1, .v (.sl (.int .i64)) a0.2.2] 24, bx [.v (.int .i64) (0 : Int), .nil, .nil] 24], [bx [.v (.int .i64) a0.1, .v (.sl (.int .i64)) a0.2.1, .v (.sl (.int .i64)) a0.2.2] 24, bx [.v (.int .i64) (0 : Int), .nil, .nil] 24, ar 0 (.int .i64) y1 .dp], [bx [.v (.int .i64) a0.1, .v (.sl (.int .i64)) a0.2.1, .v (.sl (.int .i64)) a0.2.2] 24, bx [.v (.int .i64) (0 : Int), .nil, .nil] 24, ar 0 (.int .i64) y1 .dp, ar 0 (.int .i64) y2 .dp], [bx [.v (.int .i64) a0.1, .v (.sl (.int .i64)) a0.2.1, .v (.sl (.int .i64)) a0.2.2] 24, bx [.v (.int .i64) a0.1, .hd 2 0 none, .hd 3 0 none] 24, ar 0 (.int .i64) y1 .dp, ar 0 (.int .i64) y2 .dp]] [(0, 0), (0, 1), (0, 2), (1, 0), (1, 1), (1, 2), (2, 0), (2, 1), (2, 2), (3, 0), (4, 0), (5, 0), (5, 1), (5, 2), (6, 0), (6, 1), (7, 1), (8, 2), (9, 2)] [2] [1, 2, 3] (s' := ⟨[(2, .lf (.ptr 0 0 0 0))], [bx [.v (.int .i64) a0.1, .hd 1 0 none, .hd 2 0 none] 24, ar 0 (.int .i64) y1 .dp, ar 0 (.int .i64) y2 .dp]⟩) (by kernel_rfl) (by kernel_rfl) ⟨⟨_, rfl, Stp.ev T_ok (m := .dp) (φ := True) (by kernel_rfl) trivial⟩,
    ⟨_, rfl, Stp.ev T_ok (m := .dp) (φ := True) (by kernel_rfl) trivial⟩,
    ⟨_, rfl, Stp.ev T_ok (m := .dp) (φ := True) (by kernel_rfl) trivial⟩,
    ⟨_, rfl, Stp.ev T_ok (m := .dp) (φ := True) (by kernel_rfl) trivial⟩,
    ⟨_, rfl, Stp.ev T_ok (m := .dp) (φ := True) (by kernel_rfl) trivial⟩,
    ⟨_, rfl, Stp.ev T_ok (m := .dp) (φ := True) (by kernel_rfl) trivial⟩,
    ⟨_, rfl, Stp.ev T_ok (m := .dp) (φ := True) (by kernel_rfl) trivial⟩,
    ⟨_, rfl, Stp.ev T_ok (m := .dp) (φ := True) (by kernel_rfl) trivial⟩,
    ⟨_, rfl, Stp.ev T_ok (m := .dp) (φ := True) (by kernel_rfl) trivial⟩,
    ⟨_, rfl, Stp.ev T_ok (m := .dp) (φ := True) (by kernel_rfl) trivial⟩,
    ⟨_, rfl, Stp.eq (Stp.call false [.t (.sl (.int .i64))] [] T_ok (d := some 7) (by kernel_rfl) (ok71 N _ hy1) rfl) (by kernel_rfl) (by kernel_rfl)⟩,
    ⟨_, rfl, Stp.ev T_ok (m := .dp) (φ := True) (by kernel_rfl) trivial⟩,
    ⟨_, rfl, Stp.ev T_ok (m := .dp) (φ := True) (by kernel_rfl) trivial⟩,
    ⟨_, rfl, Stp.ev T_ok (m := .dp) (φ := True) (by kernel_rfl) trivial⟩,
    ⟨_, rfl, Stp.ev T_ok (m := .dp) (φ := True) (by kernel_rfl) trivial⟩,
    ⟨_, rfl, Stp.ev T_ok (m := .dp) (φ := True) (by kernel_rfl) trivial⟩,
    ⟨_, rfl, Stp.eq (Stp.call false [.t (.sl (.int .i64))] [] T_ok (d := some 10) (by kernel_rfl) (ok71 N _ hy2) rfl) (by kernel_rfl) (by kernel_rfl)⟩,
    ⟨_, rfl, Stp.ev T_ok (m := .dp) (φ := True) (by kernel_rfl) trivial⟩,
    ⟨_, rfl, Stp.ev T_ok (m := .dp) (φ := True) (by kernel_rfl) trivial⟩, trivial⟩ (by kernel_rfl) ?_
  show VW _ _ _ _ _ _ _
  refine VW.ret ?_
  replace h := Option.some.inj h
  subst h
  exact retR [some 1, some 2] (by kernel_rfl) rfl

/- slices.Clone[[]int,int] -/
def F72 (N : Nat) (a0 : (List Int)) : Option ((List Int)) :=
  gd (a0.length ≤ lim (.int .i64)) (some a0)
theorem ok72 (N : Nat) (a0 : (List Int)) {r : (List Int)} (h : F72 N a0 = some r) : Con Go.Proofs.Try.prog 72 [.lf (.v (.sl (.int .i64)) a0)] [.lf (.own (.int .i64) r .dp)] := by
  refine ⟨enters_of Go.Proofs.Try.func72 rfl (by decide), HC.intro [.lf (.own (.int .i64) .dp)] T_ok Go.Proofs.Try.func72 rfl (Nat.le_of_ble_eq_true rfl) (Nat.le_of_ble_eq_true rfl) fun w0 E0 => ?_⟩
  unfold F72 at h
  show VW _ _ _ _ _ (retQ _ _ _ _) _
  refine VW.seq ?_
  refine VW.region ?_
  refine VO.seg T_ok .dp 1 [0] [] (s' := ⟨[(0, .lf (.v (.sl (.int .i64)) a0))], []⟩) (φ := True ∧ True) (by kernel_rfl) ⟨trivial, trivial⟩ ?_
  refine VO.nil ?_
  show VW _ _ _ _ _ _ _
  refine VW.seq ?_
  refine VW.seq ?_
  refine VW.region ?_
  refine VO.seg T_ok .dp 1 [0, 3] [] (s' := ⟨[(0, .lf (.v (.sl (.int .i64)) a0)), (3, .lf (.v (.sl (.int .i64)) a0))], []⟩) (φ := True ∧ True) (by kernel_rfl) ⟨trivial, trivial⟩ ?_
  refine VO.isNil (d := 4) (e := (.int .i64)) (xs := a0) T_ok rfl rfl rfl rfl (by kernel_rfl) (by kernel_rfl) (fun hx => ?_) ?_
  · replace h : some ([]) = some r := by
      subst hx; first | exact h | exact (gd_some h).2
    refine VO.seg T_ok .dp 0 [0, 4] [] (s' := ⟨[(0, .lf (.v (.sl (.int .i64)) a0)), (4, B true)], []⟩) (φ := True) (by kernel_rfl) trivial ?_
    refine VO.nil ?_
    show VW _ _ _ _ _ _ _
    refine VW.cond (b := true) (by kernel_rfl) (fun _ => ?_) (fun h' => nomatch h')
    refine VW.seq ?_
    refine VW.region ?_
    refine VO.seg T_ok .dp 1 [2] [] (s' := ⟨[(2, .lf (.nil))], []⟩) (φ := True ∧ True) (by kernel_rfl) ⟨trivial, trivial⟩ ?_
    refine VO.nil ?_
    show VW _ _ _ _ _ _ _
    refine VW.ret ?_
    replace h := Option.some.inj h
    subst h
    exact retR [none] (by kernel_rfl) rfl
  · refine VO.seg T_ok .dp 0 [0, 4] [] (s' := ⟨[(0, .lf (.v (.sl (.int .i64)) a0)), (4, B false)], []⟩) (φ := True) (by kernel_rfl) trivial ?_
    refine VO.nil ?_
    show VW _ _ _ _ _ _ _
    refine VW.cond (b := false) (by kernel_rfl) (fun h' => nomatch h') (fun _ => ?_)
    refine VW.skip ?_
    show VW _ _ _ _ _ _ _
    refine VW.seq ?_
    refine VW.region ?_
    obtain ⟨g1, h⟩ := gd_some h
    refine VO.seg T_ok .dp 4 [2] [0] (s' := ⟨[(2, .lf (.hd 0 0 none))], [ar 0 (.int .i64) a0 .dp]⟩) (φ := True ∧ True ∧ (a0.length ≤ lim (.int .i64)) ∧ True ∧ True) (by kernel_rfl) ⟨trivial, trivial, g1, trivial, trivial⟩ ?_
    refine VO.nil ?_
    show VW _ _ _ _ _ _ _
    refine VW.ret ?_
    replace h := Option.some.inj h
    subst h
    exact retR [some 0] (by kernel_rfl) rfl

/- loop.example/g00844/impl.ownCache -/
def F58 (N : Nat) (a0 : (Int × ((List Int) × (List Int)))) : Option ((Int × ((List Int) × (List Int)))) :=
  andO (F72 N a0.2.1) fun y1 => andO (F72 N a0.2.2) fun y2 => some (a0.1, (y1, y2))
theorem ok58 (N : Nat) (a0 : (Int × ((List Int) × (List Int)))) {r : (Int × ((List Int) × (List Int)))} (h : F58 N a0 = some r) : Con Go.Proofs.Try.prog 58 [.agg [.v (.int .i64) a0.1, .v (.sl (.int .i64)) a0.2.1, .v (.sl (.int .i64)) a0.2.2]] [.agg [.v (.int .i64) r.1, .own (.int .i64) r.2.1 .dp, .own (.int .i64) r.2.2 .dp]] := by
  refine ⟨enters_of Go.Proofs.Try.func58 rfl (by decide), HC.intro [.agg [.v (.int .i64), .own (.int .i64) .dp, .own (.int .i64) .dp]] T_ok Go.Proofs.Try.func58 rfl (Nat.le_of_ble_eq_true rfl) (Nat.le_of_ble_eq_true rfl) fun w0 E0 => ?_⟩
  unfold F58 at h
  show VW _ _ _ _ _ (retQ _ _ _ _) _
  refine VW.seq ?_
  refine VW.region ?_
  refine VO.seg T_ok .dp 2 [1, 2] [0, 1] (s' := ⟨[(1, .lf (.ptr 0 0 0 0)), (2, .lf (.ptr 1 0 0 0))], [bx [.v (.int .i64) a0.1, .v (.sl (.int .i64)) a0.2.1, .v (.sl (.int .i64)) a0.2.2] 24, bx [.v (.int .i64) (0 : Int), .nil, .nil] 24]⟩) (φ := True ∧ True ∧ True) (by kernel_rfl) ⟨trivial, trivial, trivial⟩ ?_
  refine VO.nil ?_
  show VW _ _ _ _ _ _ _
  refine VW.seq ?_
  refine VW.region ?_
  refine VO.seg T_ok .dp 2 [1, 2, 4] [0, 1] (s' := ⟨[(1, .lf (.ptr 0 0 0 0)), (2, .lf (.ptr 1 0 0 0)), (4, .lf (.v (.sl (.int .i64)) a0.2.1))], [bx [.v (.int .i64) a0.1, .v (.sl (.int .i64)) a0.2.1, .v (.sl (.int .i64)) a0.2.2] 24, bx [.v (.int .i64) (0 : Int), .nil, .nil] 24]⟩) (φ := True ∧ True ∧ True) (by kernel_rfl) ⟨trivial, trivial, trivial⟩ ?_
  obtain ⟨y1, hy, h⟩ := andO_some h
  refine VO.call false [.t (.sl (.int .i64))] [] T_ok (d := some 5) (by kernel_rfl) (ok72 N _ hy) rfl ?_
  refine VO.seg T_ok .dp 2 [1, 2] [0, 2, 1] (s' := ⟨[(1, .lf (.ptr 0 0 0 0)), (2, .lf (.ptr 2 0 0 0))], [bx [.v (.int .i64) a0.1, .hd 1 0 none, .v (.sl (.int .i64)) a0.2.2] 24, ar 0 (.int .i64) y1 .dp, bx [.v (.int .i64) (0 : Int), .nil, .nil] 24]⟩) (φ := True ∧ True ∧ True) (by kernel_rfl) ⟨trivial, trivial, trivial⟩ ?_
  refine VO.nil ?_
  show VW _ _ _ _ _ _ _
  refine VW.seq ?_
  refine VW.region ?_
  refine VO.seg T_ok .dp 2 [1, 2, 8] [0, 1, 2] (s' := ⟨[(1, .lf (.ptr 0 0 0 0)), (2, .lf (.ptr 2 0 0 0)), (8, .lf (.v (.sl (.int .i64)) a0.2.2))], [bx [.v (.int .i64) a0.1, .hd 1 0 none, .v (.sl (.int .i64)) a0.2.2] 24, ar 0 (.int .i64) y1 .dp, bx [.v (.int .i64) (0 : Int), .nil, .nil] 24]⟩) (φ := True ∧ True ∧ True) (by kernel_rfl) ⟨trivial, trivial, trivial⟩ ?_
  obtain ⟨y2, hy, h⟩ := andO_some h
  refine VO.call false [.t (.sl (.int .i64))] [] T_ok (d := some 9) (by kernel_rfl) (ok72 N _ hy) rfl ?_
  refine VO.seg T_ok .dp 2 [1, 2] [0, 1, 3, 2] (s' := ⟨[(1, .lf (.ptr 0 0 0 0)), (2, .lf (.ptr 3 0 0 0))], [bx [.v (.int .i64) a0.1, .hd 1 0 none, .hd 2 0 none] 24, ar 0 (.int .i64) y1 .dp, ar 0 (.int .i64) y2 .dp, bx [.v (.int .i64) (0 : Int), .nil, .nil] 24]⟩) (φ := True ∧ True ∧ True) (by kernel_rfl) ⟨trivial, trivial, trivial⟩ ?_
  refine VO.nil ?_
  show VW _ _ _ _ _ _ _
  refine VW.seq ?_
  refine VW.region ?_
  refine VO.seg T_ok .dp 2 [2] [3, 1, 2] (s' := ⟨[(2, .lf (.ptr 0 0 0 0))], [bx [.v (.int .i64) a0.1, .hd 1 0 none, .hd 2 0 none] 24, ar 0 (.int .i64) y1 .dp, ar 0 (.int .i64) y2 .dp]⟩) (φ := True ∧ True ∧ True) (by kernel_rfl) ⟨trivial, trivial, trivial⟩ ?_
  refine VO.nil ?_
  show VW _ _ _ _ _ _ _
  refine VW.ret ?_
  replace h := Option.some.inj h
  subst h
  exact retR [some 1, some 2] (by kernel_rfl) rfl

/- loop.example/g00844/spec.l09Without -/
def F59_j0 (N : Nat) (x46 : Int) (x47 : (List Int)) (x48 : (List Int)) : Option ((Int × ((List Int) × (List Int)))) :=
  some (x46, (x47, x48))
def F59_j1 (N : Nat) (nx83 : Int → (List Int) → (List Int) → Int → (List Int) → (List Int) → Int → Option ((Int × ((List Int) × (List Int))))) (x65 : Int) (x66 : (List Int)) (x67 : (List Int)) (x68 : Int) (x71 : Int) (x88 : (List Int)) (x89 : (List Int)) : Option ((Int × ((List Int) × (List Int)))) :=
  nx83 x65 x66 x67 x68 x88 x89 (IntKind.i64.wrap (x71 + (1 : Int)))
def F59_l0_b (N : Nat) (a1 : Int) (nx83 : Int → (List Int) → (List Int) → Int → (List Int) → (List Int) → Int → Option ((Int × ((List Int) × (List Int))))) (x65 : Int) (x66 : (List Int)) (x67 : (List Int)) (x68 : Int) (x69 : (List Int)) (x70 : (List Int)) (x71 : Int) : Option ((Int × ((List Int) × (List Int)))) :=
  cond (decide (x71 < (x66.length : Int))) (cond (x71 != a1) (gd (InR x71 x66.length) (gd (x69.length + ([(x66.getD x71.toNat (Ty.dflt (.int .i64)))]).length ≤ lim (.int .i64)) (gd (InR x71 x67.length) (gd (x70.length + ([(x67.getD x71.toNat (Ty.dflt (.int .i64)))]).length ≤ lim (.int .i64)) (F59_j1 N nx83 x65 x66 x67 x68 x71 (x69 ++ ([(x66.getD x71.toNat (Ty.dflt (.int .i64)))])) (x70 ++ ([(x67.getD x71.toNat (Ty.dflt (.int .i64)))]))))))) (F59_j1 N nx83 x65 x66 x67 x68 x71 x69 x70)) (F59_j0 N x68 x69 x70)
def F59_l0 (N : Nat) (a1 : Int) : Nat → Int → (List Int) → (List Int) → Int → (List Int) → (List Int) → Int → Option ((Int × ((List Int) × (List Int)))) := loopF (F59_l0_b N a1) (fun _ _ _ _ _ _ _ => none)
theorem F59_l0_s (N : Nat) (a1 : Int) {k : Nat} (hk : 0 < k) (x65 : Int) (x66 : (List Int)) (x67 : (List Int)) (x68 : Int) (x69 : (List Int)) (x70 : (List Int)) (x71 : Int) : F59_l0 N a1 k x65 x66 x67 x68 x69 x70 x71 = F59_l0_b N a1 (F59_l0 N a1 (k - 1)) x65 x66 x67 x68 x69 x70 x71 := by
  cases k with
  | zero => exact absurd hk (Nat.lt_irrefl 0)
  | succ m => rfl
def F59 (N : Nat) (a0 : (Int × ((List Int) × (List Int)))) (a1 : Int) : Option ((Int × ((List Int) × (List Int)))) :=
  F59_l0 N a1 N a0.1 a0.2.1 a0.2.2 a0.1 ([]) ([]) (0 : Int)
theorem ok59 (N : Nat) (a0 : (Int × ((List Int) × (List Int)))) (a1 : Int) {r : (Int × ((List Int) × (List Int)))} (h : F59 N a0 a1 = some r) : Con Go.Proofs.Try.prog 59 [.agg [.v (.int .i64) a0.1, .v (.sl (.int .i64)) a0.2.1, .v (.sl (.int .i64)) a0.2.2], I a1] [.agg [.v (.int .i64) r.1, .own (.int .i64) r.2.1 .dp, .own (.int .i64) r.2.2 .dp]] := by
  refine ⟨enters_of Go.Proofs.Try.func59 rfl (by decide), HC.intro [.agg [.v (.int .i64), .own (.int .i64) .dp, .own (.int .i64) .dp]] T_ok Go.Proofs.Try.func59 rfl (Nat.le_of_ble_eq_true rfl) (Nat.le_of_ble_eq_true rfl) fun w0 E0 => ?_⟩
  unfold F59 at h
  show VW _ _ _ _ _ (retQ _ _ _ _) _
  refine VW.seq ?_
  refine VW.region ?_
  refine VO.seg T_ok .dp 2 [1, 2, 4] [0, 1] (s' := ⟨[(1, I a1), (2, .lf (.ptr 0 0 0 0)), (4, .lf (.ptr 1 0 0 0))], [bx [.v (.int .i64) a0.1, .v (.sl (.int .i64)) a0.2.1, .v (.sl (.int .i64)) a0.2.2] 24, bx [.v (.int .i64) (0 : Int), .nil, .nil] 24]⟩) (φ := True ∧ True ∧ True) (by kernel_rfl) ⟨trivial, trivial, trivial⟩ ?_
  refine VO.nil ?_
  show VW _ _ _ _ _ _ _
  refine VW.seq ?_
  refine VW.region ?_
  refine VO.seg T_ok .dp 5 [1, 2, 4, 5] [0, 1, 2] (s' := ⟨[(1, I a1), (2, .lf (.ptr 0 0 0 0)), (4, .lf (.ptr 1 0 0 0)), (5, .lf (.ptr 2 0 0 0))], [bx [.v (.int .i64) a0.1, .v (.sl (.int .i64)) a0.2.1, .v (.sl (.int .i64)) a0.2.2] 24, bx [.v (.int .i64) (0 : Int), .nil, .nil] 24, bx [.v (.int .i64) a0.1, .nil, .nil] 24]⟩) (φ := True ∧ True ∧ True ∧ True ∧ True ∧ True) (by kernel_rfl) ⟨trivial, trivial, trivial, trivial, trivial, trivial⟩ ?_
  refine VO.nil ?_
  show VW _ _ _ _ _ _ _
  refine VW.join (fun s => ∃ (x46 : Int) (x47 : (List Int)) (x48 : (List Int)), s = ⟨[(4, .lf (.ptr 0 0 0 0)), (5, .lf (.ptr 1 0 0 0))], [bx [.v (.int .i64) (0 : Int), .nil, .nil] 24, bx [.v (.int .i64) x46, .hd 2 0 none, .hd 3 0 none] 24, ar 0 (.int .i64) x47 .dp, ar 0 (.int .i64) x48 .dp]⟩ ∧ F59_j0 N x46 x47 x48 = some r) ?_ ?_
  · refine VW.seq ?_
    refine VW.region ?_
    refine VO.seg T_ok .dp 1 [1, 2, 4, 5, 6] [0, 1, 2] (s' := ⟨[(1, I a1), (2, .lf (.ptr 0 0 0 0)), (4, .lf (.ptr 1 0 0 0)), (5, .lf (.ptr 2 0 0 0)), (6, I (0 : Int))], [bx [.v (.int .i64) a0.1, .v (.sl (.int .i64)) a0.2.1, .v (.sl (.int .i64)) a0.2.2] 24, bx [.v (.int .i64) (0 : Int), .nil, .nil] 24, bx [.v (.int .i64) a0.1, .nil, .nil] 24]⟩) (φ := True ∧ True) (by kernel_rfl) ⟨trivial, trivial⟩ ?_
    refine VO.nil ?_
    show VW _ _ _ _ _ _ _
    refine VW.block ?_
    refine VW.loopL (fun k s => ∃ (x65 : Int) (x66 : (List Int)) (x67 : (List Int)) (x68 : Int) (x69 : (List Int)) (x70 : (List Int)) (x71 : Int), s = ⟨[(1, I a1), (2, .lf (.ptr 0 0 0 0)), (4, .lf (.ptr 1 0 0 0)), (5, .lf (.ptr 2 0 0 0)), (6, I x71)], [bx [.v (.int .i64) x65, .v (.sl (.int .i64)) x66, .v (.sl (.int .i64)) x67] 24, bx [.v (.int .i64) (0 : Int), .nil, .nil] 24, bx [.v (.int .i64) x68, .hd 3 0 none, .hd 4 0 none] 24, ar 0 (.int .i64) x69 .dp, ar 0 (.int .i64) x70 .dp]⟩ ∧ F59_l0 N a1 k x65 x66 x67 x68 x69 x70 x71 = some r) N [.nil 2 1 (.int .i64) .dp, .nil 2 2 (.int .i64) .dp, .ren [1, 2, 4, 5, 6] [0, 1, 2, 3, 4]] (by kernel_rfl) ⟨a0.1, a0.2.1, a0.2.2, a0.1, [], [], (0 : Int), rfl, h⟩ ?_
    rintro k83 s ⟨x65, x66, x67, x68, x69, x70, x71, rfl, h⟩
    cases k83 with
    | zero => exact nomatch (show (none : Option ((Int × ((List Int) × (List Int))))) = some r from h)
    | succ k83 =>
      replace h : F59_l0_b N a1 (F59_l0 N a1 k83) x65 x66 x67 x68 x69 x70 x71 = some r := h
      unfold F59_l0_b at h
      refine VW.seq ?_
      refine VW.seq ?_
      refine VW.region ?_
      refine VO.seg T_ok .dp 5 [1, 2, 4, 5, 6, 14] [0, 1, 2, 3, 4] (s' := ⟨[(1, I a1), (2, .lf (.ptr 0 0 0 0)), (4, .lf (.ptr 1 0 0 0)), (5, .lf (.ptr 2 0 0 0)), (6, I x71), (14, B (decide (x71 < (x66.length : Int))))], [bx [.v (.int .i64) x65, .v (.sl (.int .i64)) x66, .v (.sl (.int .i64)) x67] 24, bx [.v (.int .i64) (0 : Int), .nil, .nil] 24, bx [.v (.int .i64) x68, .hd 3 0 none, .hd 4 0 none] 24, ar 0 (.int .i64) x69 .dp, ar 0 (.int .i64) x70 .dp]⟩) (φ := True ∧ True ∧ True ∧ True ∧ True ∧ True) (by kernel_rfl) ⟨trivial, trivial, trivial, trivial, trivial, trivial⟩ ?_
      refine VO.nil ?_
      show VW _ _ _ _ _ _ _
      refine VW.cond (b := (decide (x71 < (x66.length : Int)))) (by kernel_rfl) (fun hb => ?_) (fun hb => ?_)
      · replace h := cond_t h hb; clear hb
        refine VW.skip ?_
        show VW _ _ _ _ _ _ _
        refine VW.join (fun s => ∃ (x88 : (List Int)) (x89 : (List Int)), s = ⟨[(1, I a1), (2, .lf (.ptr 0 0 0 0)), (4, .lf (.ptr 1 0 0 0)), (5, .lf (.ptr 2 0 0 0)), (6, I x71)], [bx [.v (.int .i64) x65, .v (.sl (.int .i64)) x66, .v (.sl (.int .i64)) x67] 24, bx [.v (.int .i64) (0 : Int), .nil, .nil] 24, bx [.v (.int .i64) x68, .hd 3 0 none, .hd 4 0 none] 24, ar 0 (.int .i64) x88 .dp, ar 0 (.int .i64) x89 .dp]⟩ ∧ F59_j1 N (F59_l0 N a1 k83) x65 x66 x67 x68 x71 x88 x89 = some r) ?_ ?_
        · refine VW.block ?_
          refine VW.seq ?_
          refine VW.region ?_
          refine VO.seg T_ok .dp 3 [1, 2, 4, 5, 6, 19] [0, 1, 2, 3, 4] (s' := ⟨[(1, I a1), (2, .lf (.ptr 0 0 0 0)), (4, .lf (.ptr 1 0 0 0)), (5, .lf (.ptr 2 0 0 0)), (6, I x71), (19, B (x71 != a1))], [bx [.v (.int .i64) x65, .v (.sl (.int .i64)) x66, .v (.sl (.int .i64)) x67] 24, bx [.v (.int .i64) (0 : Int), .nil, .nil] 24, bx [.v (.int .i64) x68, .hd 3 0 none, .hd 4 0 none] 24, ar 0 (.int .i64) x69 .dp, ar 0 (.int .i64) x70 .dp]⟩) (φ := True ∧ True ∧ True ∧ True) (by kernel_rfl) ⟨trivial, trivial, trivial, trivial⟩ ?_
          refine VO.nil ?_
          show VW _ _ _ _ _ _ _
          refine VW.cond (b := (x71 != a1)) (by kernel_rfl) (fun hb => ?_) (fun hb => ?_)
          · replace h := cond_t h hb; clear hb
            refine VW.seq ?_
            obtain ⟨g91, h⟩ := gd_some h
            obtain ⟨g92, h⟩ := gd_some h
            refine VW.drawn (by kernel_rfl) [some (20, .lf (.ptr 2 0 0 1)), some (21, .lf (.hd 3 0 none)), some (22, .lf (.ptr 0 0 0 1)), some (23, .lf (.v (.sl (.int .i64)) x66)), some (24, I x71), some (25, .lf (.fp (.int .i64) (x66.getD x71.toNat (Ty.dflt (.int .i64))) 0)), some (26, I (x66.getD x71.toNat (Ty.dflt (.int .i64)))), some (27, .lf (.hd 5 0 none)), some (28, .lf (.hd 3 1 none)), some (29, .lf (.ptr 2 0 0 1)), none] [7, 8, 10] [[bx [.v (.int .i64) x65, .v (.sl (.int .i64)) x66, .v (.sl (.int .i64)) x67] 24, bx [.v (.int .i64) (0 : Int), .nil, .nil] 24, bx [.v (.int .i64) x68, .hd 3 0 none, .hd 4 0 none] 24, ar 0 (.int .i64) x69 .dp, ar 0 (.int .i64) x70 .dp], [bx [.v (.int .i64) x65, .v (.sl (.int .i64)) x66, .v (.sl (.int .i64)) x67] 24, bx [.v (.int .i64) (0 : Int), .nil, .nil] 24, bx [.v (.int .i64) x68, .hd 3 0 none, .hd 4 0 none] 24, ar 0 (.int .i64) x69 .dp, ar 0 (.int .i64) x70 .dp, ar 0 (.int .i64) ([(x66.getD x71.toNat (Ty.dflt (.int .i64)))]) .dp], [bx [.v (.int .i64) x65, .v (.sl (.int .i64)) x66, .v (.sl (.int .i64)) x67] 24, bx [.v (.int .i64) (0 : Int), .nil, .nil] 24, bx [.v (.int .i64) x68, .hd 3 0 none, .hd 4 0 none] 24, ar 1 (.int .i64) (x69 ++ ([(x66.getD x71.toNat (Ty.dflt (.int .i64)))])) .dp, ar 0 (.int .i64) x70 .dp, ar 0 (.int .i64) ([(x66.getD x71.toNat (Ty.dflt (.int .i64)))]) .dp], [bx [.v (.int .i64) x65, .v (.sl (.int .i64)) x66, .v (.sl (.int .i64)) x67] 24, bx [.v (.int .i64) (0 : Int), .nil, .nil] 24, bx [.v (.int .i64) x68, .hd 3 1 none, .hd 4 0 none] 24, ar 1 (.int .i64) (x69 ++ ([(x66.getD x71.toNat (Ty.dflt (.int .i64)))])) .dp, ar 0 (.int .i64) x70 .dp, ar 0 (.int .i64) ([(x66.getD x71.toNat (Ty.dflt (.int .i64)))]) .dp]] [(0, 0), (0, 1), (0, 2), (1, 0), (1, 1), (2, 0), (2, 1), (2, 2), (3, 0), (3, 1), (3, 2), (4, 0), (4, 1), (4, 2), (5, 0), (5, 1), (5, 2), (6, 0), (7, 0), (8, 1), (9, 2), (10, 2)] [1, 2, 4, 5, 6] [0, 1, 2, 3, 4] (s' := ⟨[(1, I a1), (2, .lf (.ptr 0 0 0 0)), (4, .lf (.ptr 1 0 0 0)), (5, .lf (.ptr 2 0 0 0)), (6, I x71)], [bx [.v (.int .i64) x65, .v (.sl (.int .i64)) x66, .v (.sl (.int .i64)) x67] 24, bx [.v (.int .i64) (0 : Int), .nil, .nil] 24, bx [.v (.int .i64) x68, .hd 3 0 none, .hd 4 0 none] 24, ar 0 (.int .i64) (x69 ++ ([(x66.getD x71.toNat (Ty.dflt (.int .i64)))])) .dp, ar 0 (.int .i64) x70 .dp]⟩) (by kernel_rfl) (by kernel_rfl) ⟨⟨_, rfl, Stp.ev T_ok (m := .dp) (φ := True) (by kernel_rfl) trivial⟩,
    ⟨_, rfl, Stp.ev T_ok (m := .dp) (φ := True) (by kernel_rfl) trivial⟩,
    ⟨_, rfl, Stp.ev T_ok (m := .dp) (φ := True) (by kernel_rfl) trivial⟩,
    ⟨_, rfl, Stp.ev T_ok (m := .dp) (φ := True) (by kernel_rfl) trivial⟩,
    ⟨_, rfl, Stp.ev T_ok (m := .dp) (φ := True) (by kernel_rfl) trivial⟩,
    ⟨_, rfl, Stp.ev T_ok (m := .dp) (φ := True) (by kernel_rfl) trivial⟩,
    ⟨_, rfl, Stp.ev T_ok (m := .dp) (φ := True) (by kernel_rfl) trivial⟩,
    ⟨_, rfl, Stp.ev T_ok (m := .dp) (φ := True) (by kernel_rfl) trivial⟩,
    ⟨_, rfl, Stp.ev T_ok (m := .dp) (φ := True) (by kernel_rfl) trivial⟩,
    ⟨_, rfl, Stp.ev T_ok (m := .dp) (φ := True) (by kernel_rfl) trivial⟩,
    ⟨_, rfl, Stp.ev T_ok (m := .dp) (φ := True) (by kernel_rfl) trivial⟩,
    ⟨_, rfl, Stp.ev T_ok (m := .dp) (φ := True) (by kernel_rfl) trivial⟩,
    ⟨_, rfl, Stp.ev T_ok (m := .dp) (φ := True) (by kernel_rfl) trivial⟩,
    ⟨_, rfl, Stp.ev T_ok (m := .dp) (φ := True) (by kernel_rfl) trivial⟩,
    ⟨_, rfl, Stp.ev T_ok (m := .dp) (φ := InR x71 x66.length) (by kernel_rfl) g91⟩,
    ⟨_, rfl, Stp.ev T_ok (m := .dp) (φ := InR x71 x66.length) (by kernel_rfl) g91⟩,
    ⟨_, rfl, Stp.ev T_ok (m := .dp) (φ := InR x71 x66.length) (by kernel_rfl) g91⟩,
    ⟨_, rfl, Stp.ev T_ok (m := .dp) (φ := True) (by kernel_rfl) trivial⟩,
    ⟨_, rfl, Stp.ev T_ok (m := .dp) (φ := True) (by kernel_rfl) trivial⟩,
    ⟨_, rfl, Stp.ev T_ok (m := .dp) (φ := x69.length + ([(x66.getD x71.toNat (Ty.dflt (.int .i64)))]).length ≤ lim (.int .i64)) (by kernel_rfl) g92⟩,
    ⟨_, rfl, Stp.ev T_ok (m := .dp) (φ := True) (by kernel_rfl) trivial⟩,
    ⟨_, rfl, Stp.ev T_ok (m := .dp) (φ := True) (by kernel_rfl) trivial⟩, trivial⟩ (by kernel_rfl) ?_
            show VW _ _ _ _ _ _ _
            obtain ⟨g93, h⟩ := gd_some h
            obtain ⟨g94, h⟩ := gd_some h
            refine VW.drawn (by kernel_rfl) [some (30, .lf (.ptr 2 0 0 2)), some (31, .lf (.hd 4 0 none)), some (32, .lf (.ptr 0 0 0 2)), some (33, .lf (.v (.sl (.int .i64)) x67)), some (34, I x71), some (35, .lf (.fp (.int .i64) (x67.getD x71.toNat (Ty.dflt (.int .i64))) 0)), some (36, I (x67.getD x71.toNat (Ty.dflt (.int .i64)))), some (37, .lf (.hd 5 0 none)), some (38, .lf (.hd 4 1 none)), some (39, .lf (.ptr 2 0 0 2)), none] [7, 8, 10] [[bx [.v (.int .i64) x65, .v (.sl (.int .i64)) x66, .v (.sl (.int .i64)) x67] 24, bx [.v (.int .i64) (0 : Int), .nil, .nil] 24, bx [.v (.int .i64) x68, .hd 3 0 none, .hd 4 0 none] 24, ar 0 (.int .i64) (x69 ++ ([(x66.getD x71.toNat (Ty.dflt (.int .i64)))])) .dp, ar 0 (.int .i64) x70 .dp], [bx [.v (.int .i64) x65, .v (.sl (.int .i64)) x66, .v (.sl (.int .i64)) x67] 24, bx [.v (.int .i64) (0 : Int), .nil, .nil] 24, bx [.v (.int .i64) x68, .hd 3 0 none, .hd 4 0 none] 24, ar 0 (.int .i64) (x69 ++ ([(x66.getD x71.toNat (Ty.dflt (.int .i64)))])) .dp, ar 0 (.int .i64) x70 .dp, ar 0 (.int .i64) ([(x67.getD x71.toNat (Ty.dflt (.int .i64)))]) .dp], [bx [.v (.int .i64) x65, .v (.sl (.int .i64)) x66, .v (.sl (.int .i64)) x67] 24, bx [.v (.int .i64) (0 : Int), .nil, .nil] 24, bx [.v (.int .i64) x68, .hd 3 0 none, .hd 4 0 none] 24, ar 0 (.int .i64) (x69 ++ ([(x66.getD x71.toNat (Ty.dflt (.int .i64)))])) .dp, ar 1 (.int .i64) (x70 ++ ([(x67.getD x71.toNat (Ty.dflt (.int .i64)))])) .dp, ar 0 (.int .i64) ([(x67.getD x71.toNat (Ty.dflt (.int .i64)))]) .dp], [bx [.v (.int .i64) x65, .v (.sl (.int .i64)) x66, .v (.sl (.int .i64)) x67] 24, bx [.v (.int .i64) (0 : Int), .nil, .nil] 24, bx [.v (.int .i64) x68, .hd 3 0 none, .hd 4 1 none] 24, ar 0 (.int .i64) (x69 ++ ([(x66.getD x71.toNat (Ty.dflt (.int .i64)))])) .dp, ar 1 (.int .i64) (x70 ++ ([(x67.getD x71.toNat (Ty.dflt (.int .i64)))])) .dp, ar 0 (.int .i64) ([(x67.getD x71.toNat (Ty.dflt (.int .i64)))]) .dp]] [(0, 0), (0, 1), (0, 2), (1, 0), (1, 1), (2, 0), (2, 1), (2, 2), (3, 0), (3, 1), (3, 2), (4, 0), (4, 1), (4, 2), (5, 0), (5, 1), (5, 2), (6, 0), (7, 0), (8, 1), (9, 2), (10, 2)] [1, 2, 4, 5, 6] [0, 1, 2, 3, 4] (s' := ⟨[(1, I a1), (2, .lf (.ptr 0 0 0 0)), (4, .lf (.ptr 1 0 0 0)), (5, .lf (.ptr 2 0 0 0)), (6, I x71)], [bx [.v (.int .i64) x65, .v (.sl (.int .i64)) x66, .v (.sl (.int .i64)) x67] 24, bx [.v (.int .i64) (0 : Int), .nil, .nil] 24, bx [.v (.int .i64) x68, .hd 3 0 none, .hd 4 0 none] 24, ar 0 (.int .i64) (x69 ++ ([(x66.getD x71.toNat (Ty.dflt (.int .i64)))])) .dp, ar 0 (.int .i64) (x70 ++ ([(x67.getD x71.toNat (Ty.dflt (.int .i64)))])) .dp]⟩) (by kernel_rfl) (by kernel_rfl) ⟨⟨_, rfl, Stp.ev T_ok (m := .dp) (φ := True) (by kernel_rfl) trivial⟩,
    ⟨_, rfl, Stp.ev T_ok (m := .dp) (φ := True) (by kernel_rfl) trivial⟩,
    ⟨_, rfl, Stp.ev T_ok (m := .dp) (φ := True) (by kernel_rfl) trivial⟩,
    ⟨_, rfl, Stp.ev T_ok (m := .dp) (φ := True) (by kernel_rfl) trivial⟩,
    ⟨_, rfl, Stp.ev T_ok (m := .dp) (φ := True) (by kernel_rfl) trivial⟩,
    ⟨_, rfl, Stp.ev T_ok (m := .dp) (φ := True) (by kernel_rfl) trivial⟩,
    ⟨_, rfl, Stp.ev T_ok (m := .dp) (φ := True) (by kernel_rfl) trivial⟩,
    ⟨_, rfl, Stp.ev T_ok (m := .dp) (φ := True) (by kernel_rfl) trivial⟩,
    ⟨_, rfl, Stp.ev T_ok (m := .dp) (φ := True) (by kernel_rfl) trivial⟩,
    ⟨_, rfl, Stp.ev T_ok (m := .dp) (φ := True) (by kernel_rfl) trivial⟩,
    ⟨_, rfl, Stp.ev T_ok (m := .dp) (φ := True) (by kernel_rfl) trivial⟩,
    ⟨_, rfl, Stp.ev T_ok (m := .dp) (φ := True) (by kernel_rfl) trivial⟩,
    ⟨_, rfl, Stp.ev T_ok (m := .dp) (φ := True) (by kernel_rfl) trivial⟩,
    ⟨_, rfl, Stp.ev T_ok (m := .dp) (φ := True) (by kernel_rfl) trivial⟩,
    ⟨_, rfl, Stp.ev T_ok (m := .dp) (φ := InR x71 x67.length) (by kernel_rfl) g93⟩,
    ⟨_, rfl, Stp.ev T_ok (m := .dp) (φ := InR x71 x67.length) (by kernel_rfl) g93⟩,
    ⟨_, rfl, Stp.ev T_ok (m := .dp) (φ := InR x71 x67.length) (by kernel_rfl) g93⟩,
    ⟨_, rfl, Stp.ev T_ok (m := .dp) (φ := True) (by kernel_rfl) trivial⟩,
    ⟨_, rfl, Stp.ev T_ok (m := .dp) (φ := True) (by kernel_rfl) trivial⟩,
    ⟨_, rfl, Stp.ev T_ok (m := .dp) (φ := x70.length + ([(x67.getD x71.toNat (Ty.dflt (.int .i64)))]).length ≤ lim (.int .i64)) (by kernel_rfl) g94⟩,
    ⟨_, rfl, Stp.ev T_ok (m := .dp) (φ := True) (by kernel_rfl) trivial⟩,
    ⟨_, rfl, Stp.ev T_ok (m := .dp) (φ := True) (by kernel_rfl) trivial⟩, trivial⟩ (by kernel_rfl) ?_
            exact arrive [.ren [1, 2, 4, 5, 6] [0, 1, 2, 3, 4]] (by kernel_rfl) ⟨(x69 ++ ([(x66.getD x71.toNat (Ty.dflt (.int .i64)))])), (x70 ++ ([(x67.getD x71.toNat (Ty.dflt (.int .i64)))])), rfl, h⟩
          · replace h := cond_f h hb; clear hb
            refine VW.skip ?_
            exact arrive [.ren [1, 2, 4, 5, 6] [0, 1, 2, 3, 4]] (by kernel_rfl) ⟨x69, x70, rfl, h⟩
        · rintro s ⟨x88, x89, rfl, h⟩
          unfold F59_j1 at h
          refine VW.region ?_
          refine VO.seg T_ok .dp 3 [1, 2, 4, 5, 6] [0, 1, 2, 3, 4] (s' := ⟨[(1, I a1), (2, .lf (.ptr 0 0 0 0)), (4, .lf (.ptr 1 0 0 0)), (5, .lf (.ptr 2 0 0 0)), (6, I (IntKind.i64.wrap (x71 + (1 : Int))))], [bx [.v (.int .i64) x65, .v (.sl (.int .i64)) x66, .v (.sl (.int .i64)) x67] 24, bx [.v (.int .i64) (0 : Int), .nil, .nil] 24, bx [.v (.int .i64) x68, .hd 3 0 none, .hd 4 0 none] 24, ar 0 (.int .i64) x88 .dp, ar 0 (.int .i64) x89 .dp]⟩) (φ := True ∧ True ∧ True ∧ True) (by kernel_rfl) ⟨trivial, trivial, trivial, trivial⟩ ?_
          refine VO.nil ?_
          exact around [.ren [1, 2, 4, 5, 6] [0, 1, 2, 3, 4]] (by kernel_rfl) ⟨x65, x66, x67, x68, x88, x89, (IntKind.i64.wrap (x71 + (1 : Int))), rfl, h⟩
      · replace h := cond_f h hb; clear hb
        refine VW.exit ?_
        exact arrive [.ren [4, 5] [1, 2, 3, 4]] (by kernel_rfl) ⟨x68, x69, x70, rfl, h⟩
  · rintro s ⟨x46, x47, x48, rfl, h⟩
    unfold F59_j0 at h
    refine VW.seq ?_
    refine VW.region ?_
    refine VO.seg T_ok .dp 2 [4] [0, 2, 3] (s' := ⟨[(4, .lf (.ptr 0 0 0 0))], [bx [.v (.int .i64) x46, .hd 1 0 none, .hd 2 0 none] 24, ar 0 (.int .i64) x47 .dp, ar 0 (.int .i64) x48 .dp]⟩) (φ := True ∧ True ∧ True) (by kernel_rfl) ⟨trivial, trivial, trivial⟩ ?_
    refine VO.nil ?_
    show VW _ _ _ _ _ _ _
    refine VW.ret ?_
    replace h := Option.some.inj h
    subst h
    exact retR [some 1, some 2] (by kernel_rfl) rfl

/- loop.example/g00844/spec.DropKey -/
def F29 (N : Nat) (a0 : (Int × ((List Int) × (List Int)))) (a1 : Int) : Option ((Int × ((List Int) × (List Int))) × Bool) :=
  andO (F55 N a0 a1) fun y1 => andO (F20 N a0) fun y5 => cond (!y5) (andO (F57 N a0) fun y6 => some (y6, false)) (cond (decide (y1 < (0 : Int))) (andO (F57 N a0) fun y7 => some (y7, false)) (andO (F59 N a0 y1) fun y8 => some (y8, true)))
theorem ok29 (N : Nat) (a0 : (Int × ((List Int) × (List Int)))) (a1 : Int) {r : (Int × ((List Int) × (List Int))) × Bool} (h : F29 N a0 a1 = some r) : Con Go.Proofs.Try.prog 29 [.agg [.v (.int .i64) a0.1, .v (.sl (.int .i64)) a0.2.1, .v (.sl (.int .i64)) a0.2.2], I a1] [.agg [.v (.int .i64) r.1.1, .own (.int .i64) r.1.2.1 .dp, .own (.int .i64) r.1.2.2 .dp], .lf (.v .bool r.2)] := by
  refine ⟨enters_of Go.Proofs.Try.func29 rfl (by decide), HC.intro [.agg [.v (.int .i64), .own (.int .i64) .dp, .own (.int .i64) .dp], .lf (.v .bool)] T_ok Go.Proofs.Try.func29 rfl (Nat.le_of_ble_eq_true rfl) (Nat.le_of_ble_eq_true rfl) fun w0 E0 => ?_⟩
  unfold F29 at h
  show VW _ _ _ _ _ (retQ _ _ _ _) _
  refine VW.seq ?_
  refine VW.region ?_
  refine VO.seg T_ok .dp 3 [1, 2, 4] [0, 1] (s' := ⟨[(1, I a1), (2, .lf (.ptr 0 0 0 0)), (4, .lf (.ptr 1 0 0 0))], [bx [.v (.int .i64) a0.1, .v (.sl (.int .i64)) a0.2.1, .v (.sl (.int .i64)) a0.2.2] 24, bx [.v (.int .i64) (0 : Int), .nil, .nil] 24]⟩) (φ := True ∧ True ∧ True ∧ True) (by kernel_rfl) ⟨trivial, trivial, trivial, trivial⟩ ?_
  refine VO.nil ?_
  show VW _ _ _ _ _ _ _
  refine VW.seq ?_
  refine VW.region ?_
  refine VO.seg T_ok .dp 2 [2, 4, 7, 8] [0, 1] (s' := ⟨[(2, .lf (.ptr 0 0 0 0)), (4, .lf (.ptr 1 0 0 0)), (7, .agg [.v (.int .i64) a0.1, .v (.sl (.int .i64)) a0.2.1, .v (.sl (.int .i64)) a0.2.2]), (8, I a1)], [bx [.v (.int .i64) a0.1, .v (.sl (.int .i64)) a0.2.1, .v (.sl (.int .i64)) a0.2.2] 24, bx [.v (.int .i64) (0 : Int), .nil, .nil] 24]⟩) (φ := True ∧ True ∧ True) (by kernel_rfl) ⟨trivial, trivial, trivial⟩ ?_
  obtain ⟨y1, hy, h⟩ := andO_some h
  refine VO.call false [.t Y23, .t (.int .i64)] [] T_ok (d := some 9) (by kernel_rfl) (ok55 N _ _ hy) rfl ?_
  refine VO.seg T_ok .dp 1 [2, 4, 6] [0, 1] (s' := ⟨[(2, .lf (.ptr 0 0 0 0)), (4, .lf (.ptr 1 0 0 0)), (6, I y1)], [bx [.v (.int .i64) a0.1, .v (.sl (.int .i64)) a0.2.1, .v (.sl (.int .i64)) a0.2.2] 24, bx [.v (.int .i64) (0 : Int), .nil, .nil] 24]⟩) (φ := True ∧ True) (by kernel_rfl) ⟨trivial, trivial⟩ ?_
  refine VO.nil ?_
  show VW _ _ _ _ _ _ _
  refine VW.seq ?_
  refine VW.seq ?_
  refine VW.region ?_
  refine VO.seg T_ok .dp 1 [2, 4, 6, 10] [0, 1] (s' := ⟨[(2, .lf (.ptr 0 0 0 0)), (4, .lf (.ptr 1 0 0 0)), (6, I y1), (10, .agg [.v (.int .i64) a0.1, .v (.sl (.int .i64)) a0.2.1, .v (.sl (.int .i64)) a0.2.2])], [bx [.v (.int .i64) a0.1, .v (.sl (.int .i64)) a0.2.1, .v (.sl (.int .i64)) a0.2.2] 24, bx [.v (.int .i64) (0 : Int), .nil, .nil] 24]⟩) (φ := True ∧ True) (by kernel_rfl) ⟨trivial, trivial⟩ ?_
  obtain ⟨y5, hy, h⟩ := andO_some h
  refine VO.call false [.t Y23] [] T_ok (d := some 11) (by kernel_rfl) (ok20 N _ hy) rfl ?_
  refine VO.seg T_ok .dp 2 [2, 4, 6, 13] [0, 1] (s' := ⟨[(2, .lf (.ptr 0 0 0 0)), (4, .lf (.ptr 1 0 0 0)), (6, I y1), (13, B (!y5))], [bx [.v (.int .i64) a0.1, .v (.sl (.int .i64)) a0.2.1, .v (.sl (.int .i64)) a0.2.2] 24, bx [.v (.int .i64) (0 : Int), .nil, .nil] 24]⟩) (φ := True ∧ True ∧ True) (by kernel_rfl) ⟨trivial, trivial, trivial⟩ ?_
  refine VO.splitB 13 (b := (!y5)) (by kernel_rfl) (fun hb => ?_) (fun hb => ?_)
  · replace h := cond_t h hb; clear hb
    refine VO.seg T_ok .dp 3 [2, 4, 6, 16] [0, 1] (s' := ⟨[(2, .lf (.ptr 0 0 0 0)), (4, .lf (.ptr 1 0 0 0)), (6, I y1), (16, B true)], [bx [.v (.int .i64) a0.1, .v (.sl (.int .i64)) a0.2.1, .v (.sl (.int .i64)) a0.2.2] 24, bx [.v (.int .i64) (0 : Int), .nil, .nil] 24]⟩) (φ := True ∧ True ∧ True ∧ True) (by kernel_rfl) ⟨trivial, trivial, trivial, trivial⟩ ?_
    refine VO.nil ?_
    show VW _ _ _ _ _ _ _
    refine VW.cond (b := true) (by kernel_rfl) (fun _ => ?_) (fun h' => nomatch h')
    refine VW.seq ?_
    refine VW.region ?_
    refine VO.seg T_ok .dp 1 [4, 17] [1] (s' := ⟨[(4, .lf (.ptr 0 0 0 0)), (17, .agg [.v (.int .i64) a0.1, .v (.sl (.int .i64)) a0.2.1, .v (.sl (.int .i64)) a0.2.2])], [bx [.v (.int .i64) (0 : Int), .nil, .nil] 24]⟩) (φ := True ∧ True) (by kernel_rfl) ⟨trivial, trivial⟩ ?_
    obtain ⟨y6, hy, h⟩ := andO_some h
    refine VO.call false [.t Y23] [] T_ok (d := some 18) (by kernel_rfl) (ok57 N _ hy) rfl ?_
    refine VO.seg T_ok .dp 2 [4, 5] [0, 1, 2] (s' := ⟨[(4, .lf (.ptr 0 0 0 0)), (5, B false)], [bx [.v (.int .i64) y6.1, .hd 1 0 none, .hd 2 0 none] 24, ar 0 (.int .i64) y6.2.1 .dp, ar 0 (.int .i64) y6.2.2 .dp]⟩) (φ := True ∧ True ∧ True) (by kernel_rfl) ⟨trivial, trivial, trivial⟩ ?_
    refine VO.nil ?_
    show VW _ _ _ _ _ _ _
    refine VW.ret ?_
    replace h := Option.some.inj h
    subst h
    exact retR [some 1, some 2] (by kernel_rfl) rfl
  · replace h := cond_f h hb; clear hb
    refine VO.seg T_ok .dp 3 [2, 4, 6, 16] [0, 1] (s' := ⟨[(2, .lf (.ptr 0 0 0 0)), (4, .lf (.ptr 1 0 0 0)), (6, I y1), (16, B (decide (y1 < (0 : Int))))], [bx [.v (.int .i64) a0.1, .v (.sl (.int .i64)) a0.2.1, .v (.sl (.int .i64)) a0.2.2] 24, bx [.v (.int .i64) (0 : Int), .nil, .nil] 24]⟩) (φ := True ∧ True ∧ True ∧ True) (by kernel_rfl) ⟨trivial, trivial, trivial, trivial⟩ ?_
    refine VO.nil ?_
    show VW _ _ _ _ _ _ _
    refine VW.cond (b := (decide (y1 < (0 : Int)))) (by kernel_rfl) (fun hb => ?_) (fun hb => ?_)
    · replace h := cond_t h hb; clear hb
      refine VW.seq ?_
      refine VW.region ?_
      refine VO.seg T_ok .dp 1 [4, 17] [1] (s' := ⟨[(4, .lf (.ptr 0 0 0 0)), (17, .agg [.v (.int .i64) a0.1, .v (.sl (.int .i64)) a0.2.1, .v (.sl (.int .i64)) a0.2.2])], [bx [.v (.int .i64) (0 : Int), .nil, .nil] 24]⟩) (φ := True ∧ True) (by kernel_rfl) ⟨trivial, trivial⟩ ?_
      obtain ⟨y7, hy, h⟩ := andO_some h
      refine VO.call false [.t Y23] [] T_ok (d := some 18) (by kernel_rfl) (ok57 N _ hy) rfl ?_
      refine VO.seg T_ok .dp 2 [4, 5] [0, 1, 2] (s' := ⟨[(4, .lf (.ptr 0 0 0 0)), (5, B false)], [bx [.v (.int .i64) y7.1, .hd 1 0 none, .hd 2 0 none] 24, ar 0 (.int .i64) y7.2.1 .dp, ar 0 (.int .i64) y7.2.2 .dp]⟩) (φ := True ∧ True ∧ True) (by kernel_rfl) ⟨trivial, trivial, trivial⟩ ?_
      refine VO.nil ?_
      show VW _ _ _ _ _ _ _
      refine VW.ret ?_
      replace h := Option.some.inj h
      subst h
      exact retR [some 1, some 2] (by kernel_rfl) rfl
    · replace h := cond_f h hb; clear hb
      refine VW.skip ?_
      show VW _ _ _ _ _ _ _
      refine VW.seq ?_
      refine VW.region ?_
      refine VO.seg T_ok .dp 2 [4, 19, 20] [1] (s' := ⟨[(4, .lf (.ptr 0 0 0 0)), (19, .agg [.v (.int .i64) a0.1, .v (.sl (.int .i64)) a0.2.1, .v (.sl (.int .i64)) a0.2.2]), (20, I y1)], [bx [.v (.int .i64) (0 : Int), .nil, .nil] 24]⟩) (φ := True ∧ True ∧ True) (by kernel_rfl) ⟨trivial, trivial, trivial⟩ ?_
      obtain ⟨y8, hy, h⟩ := andO_some h
      refine VO.call false [.t Y23, .t (.int .i64)] [] T_ok (d := some 21) (by kernel_rfl) (ok59 N _ _ hy) rfl ?_
      refine VO.seg T_ok .dp 2 [4, 5] [0, 1, 2] (s' := ⟨[(4, .lf (.ptr 0 0 0 0)), (5, B true)], [bx [.v (.int .i64) y8.1, .hd 1 0 none, .hd 2 0 none] 24, ar 0 (.int .i64) y8.2.1 .dp, ar 0 (.int .i64) y8.2.2 .dp]⟩) (φ := True ∧ True ∧ True) (by kernel_rfl) ⟨trivial, trivial, trivial⟩ ?_
      refine VO.nil ?_
      show VW _ _ _ _ _ _ _
      refine VW.ret ?_
      replace h := Option.some.inj h
      subst h
      exact retR [some 1, some 2] (by kernel_rfl) rfl

/- slices.Delete[[]int,int] -/
def F73 (N : Nat) (a0 : (List Int)) (a1 : Int) (a2 : Int) : Option ((List Int)) :=
  gd (0 ≤ a1 ∧ a1 ≤ a2 ∧ a2 ≤ (a0.length : Int) ∧ (a0.length : Int) ≤ (a0.length : Int)) (cond (a1 == a2) (some a0) (gd (0 ≤ a1 ∧ a1 ≤ (a0.length : Int)) (gd (0 ≤ a2 ∧ a2 ≤ (a0.length : Int)) (gd (a1.toNat + ((a0.drop a2.toNat).take (a0.length - a2.toNat)).length ≤ a0.length ∧ a0.length ≤ lim (.int .i64)) (gd (0 ≤ ((a1.toNat + ((a0.drop a2.toNat).take (a0.length - a2.toNat)).length) : Int) ∧ ((a1.toNat + ((a0.drop a2.toNat).take (a0.length - a2.toNat)).length) : Int) ≤ (a0.length : Int) ∧ (a0.length : Int) ≤ ((a0.take a1.toNat ++ ((a0.drop a2.toNat).take (a0.length - a2.toNat)) ++ a0.drop (a1.toNat + ((a0.drop a2.toNat).take (a0.length - a2.toNat)).length)).length : Int) - (0 : Int)) (some (((a0.take a1.toNat ++ ((a0.drop a2.toNat).take (a0.length - a2.toNat)) ++ a0.drop (a1.toNat + ((a0.drop a2.toNat).take (a0.length - a2.toNat)).length)).take (0 + ((a1.toNat + ((a0.drop a2.toNat).take (a0.length - a2.toNat)).length) : Int).toNat) ++ List.replicate ((a0.length : Int).toNat - ((a1.toNat + ((a0.drop a2.toNat).take (a0.length - a2.toNat)).length) : Int).toNat) (Ty.dflt (.int .i64)) ++ (a0.take a1.toNat ++ ((a0.drop a2.toNat).take (a0.length - a2.toNat)) ++ a0.drop (a1.toNat + ((a0.drop a2.toNat).take (a0.length - a2.toNat)).length)).drop ((0 + ((a1.toNat + ((a0.drop a2.toNat).take (a0.length - a2.toNat)).length) : Int).toNat) + ((a0.length : Int).toNat - ((a1.toNat + ((a0.drop a2.toNat).take (a0.length - a2.toNat)).length) : Int).toNat))).take (a1.toNat + ((a0.drop a2.toNat).take (a0.length - a2.toNat)).length))))))))
theorem ok73 (N : Nat) (a0 : (List Int)) (a1 : Int) (a2 : Int) {r : (List Int)} (h : F73 N a0 a1 a2 = some r) : ConM Go.Proofs.Try.prog 73 [ar 0 (.int .i64) a0 .dp] [.lf (.hd 0 0 none), I a1, I a2] [.lf (.own (.int .i64) r .dp)] [none] := by
  refine ⟨enters_of Go.Proofs.Try.func73 rfl (by decide), HM.intro [.lf (.own (.int .i64) .dp)] T_ok Go.Proofs.Try.func73 rfl (Nat.le_of_ble_eq_true rfl) (Nat.le_of_ble_eq_true rfl) fun w0 E0 => ?_⟩
  unfold F73 at h
  show VW _ _ _ _ _ (retM _ _ _ _ _) _
  refine VW.seq ?_
  refine VW.region ?_
  refine VO.seg T_ok .dp 1 [0, 1, 2] [0] (s' := ⟨[(0, .lf (.hd 0 0 none)), (1, I a1), (2, I a2)], [ar 0 (.int .i64) a0 .dp]⟩) (φ := True ∧ True) (by kernel_rfl) ⟨trivial, trivial⟩ ?_
  refine VO.nil ?_
  show VW _ _ _ _ _ _ _
  refine VW.seq ?_
  refine VW.region ?_
  obtain ⟨g1, h⟩ := gd_some h
  refine VO.seg T_ok .dp 6 [0, 1, 2] [0] (s' := ⟨[(0, .lf (.hd 0 0 none)), (1, I a1), (2, I a2)], [ar 0 (.int .i64) a0 .dp]⟩) (φ := True ∧ True ∧ True ∧ True ∧ True ∧ (0 ≤ a1 ∧ a1 ≤ a2 ∧ a2 ≤ (a0.length : Int) ∧ (a0.length : Int) ≤ (a0.length : Int)) ∧ True) (by kernel_rfl) ⟨trivial, trivial, trivial, trivial, trivial, g1, trivial⟩ ?_
  refine VO.nil ?_
  show VW _ _ _ _ _ _ _
  refine VW.seq ?_
  refine VW.seq ?_
  refine VW.region ?_
  refine VO.seg T_ok .dp 3 [0, 1, 2, 16] [0] (s' := ⟨[(0, .lf (.hd 0 0 none)), (1, I a1), (2, I a2), (16, B (a1 == a2))], [ar 0 (.int .i64) a0 .dp]⟩) (φ := True ∧ True ∧ True ∧ True) (by kernel_rfl) ⟨trivial, trivial, trivial, trivial⟩ ?_
  refine VO.nil ?_
  show VW _ _ _ _ _ _ _
  refine VW.cond (b := (a1 == a2)) (by kernel_rfl) (fun hb => ?_) (fun hb => ?_)
  · replace h := cond_t h hb; clear hb
    refine VW.seq ?_
    refine VW.region ?_
    refine VO.seg T_ok .dp 2 [6] [0] (s' := ⟨[(6, .lf (.hd 0 0 none))], [ar 0 (.int .i64) a0 .dp]⟩) (φ := True ∧ True ∧ True) (by kernel_rfl) ⟨trivial, trivial, trivial⟩ ?_
    refine VO.nil ?_
    show VW _ _ _ _ _ _ _
    replace h := Option.some.inj h
    subst h
    refine VW.ghl [.ren [6] [100000, 0]] (VW.ret ?_)
    exact ⟨[some 1], by kernel_rfl, by kernel_rfl, by kernel_rfl⟩
  · replace h := cond_f h hb; clear hb
    refine VW.skip ?_
    show VW _ _ _ _ _ _ _
    refine VW.seq ?_
    refine VW.region ?_
    refine VO.seg T_ok .dp 3 [0, 1, 2, 7] [0] (s' := ⟨[(0, .lf (.hd 0 0 none)), (1, I a1), (2, I a2), (7, I (a0.length : Int))], [ar 0 (.int .i64) a0 .dp]⟩) (φ := True ∧ True ∧ True ∧ True) (by kernel_rfl) ⟨trivial, trivial, trivial, trivial⟩ ?_
    refine VO.nil ?_
    show VW _ _ _ _ _ _ _
    refine VW.seq ?_
    obtain ⟨g2, h⟩ := gd_some h
    obtain ⟨g3, h⟩ := gd_some h
    obtain ⟨g4, h⟩ := gd_some h
    refine VW.drawn (by kernel_rfl) [some (20, .lf (.hd 0 0 none)), some (21, I a1), some (22, .lf (.hd 0 0 (some (0, a1.toNat)))), some (23, .lf (.hd 0 0 none)), some (24, I a2), some (25, .lf (.hd 0 0 (some (a2.toNat, (a0.length - a2.toNat))))), some (26, .lf (.hd 0 0 (some (0, (a1.toNat + ((a0.drop a2.toNat).take (a0.length - a2.toNat)).length))))), some (0, .lf (.hd 0 0 (some (0, (a1.toNat + ((a0.drop a2.toNat).take (a0.length - a2.toNat)).length)))))] [6] [[ar 0 (.int .i64) a0 .dp], [ar 0 (.int .i64) (a0.take a1.toNat ++ ((a0.drop a2.toNat).take (a0.length - a2.toNat)) ++ a0.drop (a1.toNat + ((a0.drop a2.toNat).take (a0.length - a2.toNat)).length)) .dp]] [(0, 0), (0, 1), (1, 0), (1, 1), (2, 0), (3, 0), (3, 1), (4, 0), (4, 1), (5, 0), (6, 0), (7, 1)] [0, 7] [0] (s' := ⟨[(0, .lf (.hd 0 0 (some (0, (a1.toNat + ((a0.drop a2.toNat).take (a0.length - a2.toNat)).length))))), (7, I (a0.length : Int))], [ar 0 (.int .i64) (a0.take a1.toNat ++ ((a0.drop a2.toNat).take (a0.length - a2.toNat)) ++ a0.drop (a1.toNat + ((a0.drop a2.toNat).take (a0.length - a2.toNat)).length)) .dp]⟩) (by kernel_rfl) (by kernel_rfl) ⟨⟨_, rfl, Stp.ev T_ok (m := .dp) (φ := True) (by kernel_rfl) trivial⟩,
    ⟨_, rfl, Stp.ev T_ok (m := .dp) (φ := True) (by kernel_rfl) trivial⟩,
    ⟨_, rfl, Stp.ev T_ok (m := .dp) (φ := True) (by kernel_rfl) trivial⟩,
    ⟨_, rfl, Stp.ev T_ok (m := .dp) (φ := True) (by kernel_rfl) trivial⟩,
    ⟨_, rfl, Stp.ev T_ok (m := .dp) (φ := 0 ≤ a1 ∧ a1 ≤ (a0.length : Int)) (by kernel_rfl) g2⟩,
    ⟨_, rfl, Stp.ev T_ok (m := .dp) (φ := True) (by kernel_rfl) trivial⟩,
    ⟨_, rfl, Stp.ev T_ok (m := .dp) (φ := True) (by kernel_rfl) trivial⟩,
    ⟨_, rfl, Stp.ev T_ok (m := .dp) (φ := True) (by kernel_rfl) trivial⟩,
    ⟨_, rfl, Stp.ev T_ok (m := .dp) (φ := True) (by kernel_rfl) trivial⟩,
    ⟨_, rfl, Stp.ev T_ok (m := .dp) (φ := 0 ≤ a2 ∧ a2 ≤ (a0.length : Int)) (by kernel_rfl) g3⟩,
    ⟨_, rfl, Stp.ev T_ok (m := .dp) (φ := a1.toNat + ((a0.drop a2.toNat).take (a0.length - a2.toNat)).length ≤ a0.length ∧ a0.length ≤ lim (.int .i64)) (by kernel_rfl) g4⟩,
    ⟨_, rfl, Stp.ev T_ok (m := .dp) (φ := True) (by kernel_rfl) trivial⟩, trivial⟩ (by kernel_rfl) ?_
    show VW _ _ _ _ _ _ _
    refine VW.seq ?_
    refine VW.region ?_
    obtain ⟨g5, h⟩ := gd_some h
    refine VO.seg T_ok .dp 6 [0] [0] (s' := ⟨[(0, .lf (.hd 0 0 (some (0, (a1.toNat + ((a0.drop a2.toNat).take (a0.length - a2.toNat)).length)))))], [ar 0 (.int .i64) ((a0.take a1.toNat ++ ((a0.drop a2.toNat).take (a0.length - a2.toNat)) ++ a0.drop (a1.toNat + ((a0.drop a2.toNat).take (a0.length - a2.toNat)).length)).take (0 + ((a1.toNat + ((a0.drop a2.toNat).take (a0.length - a2.toNat)).length) : Int).toNat) ++ List.replicate ((a0.length : Int).toNat - ((a1.toNat + ((a0.drop a2.toNat).take (a0.length - a2.toNat)).length) : Int).toNat) (Ty.dflt (.int .i64)) ++ (a0.take a1.toNat ++ ((a0.drop a2.toNat).take (a0.length - a2.toNat)) ++ a0.drop (a1.toNat + ((a0.drop a2.toNat).take (a0.length - a2.toNat)).length)).drop ((0 + ((a1.toNat + ((a0.drop a2.toNat).take (a0.length - a2.toNat)).length) : Int).toNat) + ((a0.length : Int).toNat - ((a1.toNat + ((a0.drop a2.toNat).take (a0.length - a2.toNat)).length) : Int).toNat))) .dp]⟩) (φ := True ∧ True ∧ True ∧ True ∧ (0 ≤ ((a1.toNat + ((a0.drop a2.toNat).take (a0.length - a2.toNat)).length) : Int) ∧ ((a1.toNat + ((a0.drop a2.toNat).take (a0.length - a2.toNat)).length) : Int) ≤ (a0.length : Int) ∧ (a0.length : Int) ≤ ((a0.take a1.toNat ++ ((a0.drop a2.toNat).take (a0.length - a2.toNat)) ++ a0.drop (a1.toNat + ((a0.drop a2.toNat).take (a0.length - a2.toNat)).length)).length : Int) - (0 : Int)) ∧ True ∧ True) (by kernel_rfl) ⟨trivial, trivial, trivial, trivial, g5, trivial, trivial⟩ ?_
    refine VO.nil ?_
    show VW _ _ _ _ _ _ _
    refine VW.seq ?_
    refine VW.region ?_
    refine VO.seg T_ok .dp 2 [6] [0] (s' := ⟨[(6, .lf (.hd 0 0 (some (0, (a1.toNat + ((a0.drop a2.toNat).take (a0.length - a2.toNat)).length)))))], [ar 0 (.int .i64) ((a0.take a1.toNat ++ ((a0.drop a2.toNat).take (a0.length - a2.toNat)) ++ a0.drop (a1.toNat + ((a0.drop a2.toNat).take (a0.length - a2.toNat)).length)).take (0 + ((a1.toNat + ((a0.drop a2.toNat).take (a0.length - a2.toNat)).length) : Int).toNat) ++ List.replicate ((a0.length : Int).toNat - ((a1.toNat + ((a0.drop a2.toNat).take (a0.length - a2.toNat)).length) : Int).toNat) (Ty.dflt (.int .i64)) ++ (a0.take a1.toNat ++ ((a0.drop a2.toNat).take (a0.length - a2.toNat)) ++ a0.drop (a1.toNat + ((a0.drop a2.toNat).take (a0.length - a2.toNat)).length)).drop ((0 + ((a1.toNat + ((a0.drop a2.toNat).take (a0.length - a2.toNat)).length) : Int).toNat) + ((a0.length : Int).toNat - ((a1.toNat + ((a0.drop a2.toNat).take (a0.length - a2.toNat)).length) : Int).toNat))) .dp]⟩) (φ := True ∧ True ∧ True) (by kernel_rfl) ⟨trivial, trivial, trivial⟩ ?_
    refine VO.nil ?_
    show VW _ _ _ _ _ _ _
    replace h := Option.some.inj h
    subst h
    refine VW.ghl [.shr 6, .ren [6] [100000, 0]] (VW.ret ?_)
    exact ⟨[some 1], by kernel_rfl, by kernel_rfl, by kernel_rfl⟩

/- (loop.example/g00844/impl.Cache).without -/
def F60 (N : Nat) (a0 : (Int × ((List Int) × (List Int)))) (a1 : Int) : Option ((Int × ((List Int) × (List Int)))) :=
  andO (F58 N a0) fun y1 => andO (F73 N y1.2.1 a1 (IntKind.i64.wrap (a1 + (1 : Int)))) fun y2 => andO (F73 N y1.2.2 a1 (IntKind.i64.wrap (a1 + (1 : Int)))) fun y3 => some (y1.1, (y2, y3))
theorem ok60 (N : Nat) (a0 : (Int × ((List Int) × (List Int)))) (a1 : Int) {r : (Int × ((List Int) × (List Int)))} (h : F60 N a0 a1 = some r) : Con Go.Proofs.Try.prog 60 [.agg [.v (.int .i64) a0.1, .v (.sl (.int .i64)) a0.2.1, .v (.sl (.int .i64)) a0.2.2], I a1] [.agg [.v (.int .i64) r.1, .own (.int .i64) r.2.1 .dp, .own (.int .i64) r.2.2 .dp]] := by
  refine ⟨enters_of Go.Proofs.Try.func60 rfl (by decide), HC.intro [.agg [.v (.int .i64), .own (.int .i64) .dp, .own (.int .i64) .dp]] T_ok Go.Proofs.Try.func60 rfl (Nat.le_of_ble_eq_true rfl) (Nat.le_of_ble_eq_true rfl) fun w0 E0 => ?_⟩
  unfold F60 at h
  show VW _ _ _ _ _ (retQ _ _ _ _) _
  refine VW.seq ?_
  refine VW.region ?_
  refine VO.seg T_ok .dp 2 [1, 2, 4] [0, 1] (s' := ⟨[(1, I a1), (2, .lf (.ptr 0 0 0 0)), (4, .lf (.ptr 1 0 0 0))], [bx [.v (.int .i64) a0.1, .v (.sl (.int .i64)) a0.2.1, .v (.sl (.int .i64)) a0.2.2] 24, bx [.v (.int .i64) (0 : Int), .nil, .nil] 24]⟩) (φ := True ∧ True ∧ True) (by kernel_rfl) ⟨trivial, trivial, trivial⟩ ?_
  refine VO.nil ?_
  show VW _ _ _ _ _ _ _
  refine VW.seq ?_
  refine VW.region ?_
  refine VO.seg T_ok .dp 1 [1, 4, 6] [1] (s' := ⟨[(1, I a1), (4, .lf (.ptr 0 0 0 0)), (6, .agg [.v (.int .i64) a0.1, .v (.sl (.int .i64)) a0.2.1, .v (.sl (.int .i64)) a0.2.2])], [bx [.v (.int .i64) (0 : Int), .nil, .nil] 24]⟩) (φ := True ∧ True) (by kernel_rfl) ⟨trivial, trivial⟩ ?_
  obtain ⟨y1, hy, h⟩ := andO_some h
  refine VO.call false [.t Y23] [] T_ok (d := some 7) (by kernel_rfl) (ok58 N _ hy) rfl ?_
  refine VO.seg T_ok .dp 2 [1, 4, 5] [0, 3, 1, 2] (s' := ⟨[(1, I a1), (4, .lf (.ptr 0 0 0 0)), (5, .lf (.ptr 1 0 0 0))], [bx [.v (.int .i64) (0 : Int), .nil, .nil] 24, bx [.v (.int .i64) y1.1, .hd 2 0 none, .hd 3 0 none] 24, ar 0 (.int .i64) y1.2.1 .dp, ar 0 (.int .i64) y1.2.2 .dp]⟩) (φ := True ∧ True ∧ True) (by kernel_rfl) ⟨trivial, trivial, trivial⟩ ?_
  refine VO.nil ?_
  show VW _ _ _ _ _ _ _
  refine VW.seq ?_
  refine VW.region ?_
  refine VO.seg T_ok .dp 5 [1, 4, 5, 9, 10, 12] [0, 1, 2, 3] (s' := ⟨[(1, I a1), (4, .lf (.ptr 0 0 0 0)), (5, .lf (.ptr 1 0 0 0)), (9, .lf (.hd 2 0 none)), (10, I a1), (12, I (IntKind.i64.wrap (a1 + (1 : Int))))], [bx [.v (.int .i64) (0 : Int), .nil, .nil] 24, bx [.v (.int .i64) y1.1, .hd 2 0 none, .hd 3 0 none] 24, ar 0 (.int .i64) y1.2.1 .dp, ar 0 (.int .i64) y1.2.2 .dp]⟩) (φ := True ∧ True ∧ True ∧ True ∧ True ∧ True) (by kernel_rfl) ⟨trivial, trivial, trivial, trivial, trivial, trivial⟩ ?_
  obtain ⟨y2, hy, h⟩ := andO_some h
  refine VO.callM [2] [.t (.sl (.int .i64)), .t (.int .i64), .t (.int .i64)] (d := some 13) (by kernel_rfl) (by kernel_rfl) (ok73 N _ _ _ hy) (by kernel_rfl) ?_
  refine VO.seg T_ok .dp 2 [1, 4, 5] [0, 1, 4, 3] (s' := ⟨[(1, I a1), (4, .lf (.ptr 0 0 0 0)), (5, .lf (.ptr 1 0 0 0))], [bx [.v (.int .i64) (0 : Int), .nil, .nil] 24, bx [.v (.int .i64) y1.1, .hd 2 0 none, .hd 3 0 none] 24, ar 0 (.int .i64) y2 .dp, ar 0 (.int .i64) y1.2.2 .dp]⟩) (φ := True ∧ True ∧ True) (by kernel_rfl) ⟨trivial, trivial, trivial⟩ ?_
  refine VO.nil ?_
  show VW _ _ _ _ _ _ _
  refine VW.seq ?_
  refine VW.region ?_
  refine VO.seg T_ok .dp 5 [4, 5, 16, 17, 19] [0, 1, 2, 3] (s' := ⟨[(4, .lf (.ptr 0 0 0 0)), (5, .lf (.ptr 1 0 0 0)), (16, .lf (.hd 3 0 none)), (17, I a1), (19, I (IntKind.i64.wrap (a1 + (1 : Int))))], [bx [.v (.int .i64) (0 : Int), .nil, .nil] 24, bx [.v (.int .i64) y1.1, .hd 2 0 none, .hd 3 0 none] 24, ar 0 (.int .i64) y2 .dp, ar 0 (.int .i64) y1.2.2 .dp]⟩) (φ := True ∧ True ∧ True ∧ True ∧ True ∧ True) (by kernel_rfl) ⟨trivial, trivial, trivial, trivial, trivial, trivial⟩ ?_
  obtain ⟨y3, hy, h⟩ := andO_some h
  refine VO.callM [3] [.t (.sl (.int .i64)), .t (.int .i64), .t (.int .i64)] (d := some 20) (by kernel_rfl) (by kernel_rfl) (ok73 N _ _ _ hy) (by kernel_rfl) ?_
  refine VO.seg T_ok .dp 2 [4, 5] [0, 1, 2, 4] (s' := ⟨[(4, .lf (.ptr 0 0 0 0)), (5, .lf (.ptr 1 0 0 0))], [bx [.v (.int .i64) (0 : Int), .nil, .nil] 24, bx [.v (.int .i64) y1.1, .hd 2 0 none, .hd 3 0 none] 24, ar 0 (.int .i64) y2 .dp, ar 0 (.int .i64) y3 .dp]⟩) (φ := True ∧ True ∧ True) (by kernel_rfl) ⟨trivial, trivial, trivial⟩ ?_
  refine VO.nil ?_
  show VW _ _ _ _ _ _ _
  refine VW.seq ?_
  refine VW.region ?_
  refine VO.seg T_ok .dp 2 [4] [0, 2, 3] (s' := ⟨[(4, .lf (.ptr 0 0 0 0))], [bx [.v (.int .i64) y1.1, .hd 1 0 none, .hd 2 0 none] 24, ar 0 (.int .i64) y2 .dp, ar 0 (.int .i64) y3 .dp]⟩) (φ := True ∧ True ∧ True) (by kernel_rfl) ⟨trivial, trivial, trivial⟩ ?_
  refine VO.nil ?_
  show VW _ _ _ _ _ _ _
  refine VW.ret ?_
  replace h := Option.some.inj h
  subst h
  exact retR [some 1, some 2] (by kernel_rfl) rfl

/- loop.example/g00844/impl.DropKey -/
def F30 (N : Nat) (a0 : (Int × ((List Int) × (List Int)))) (a1 : Int) : Option ((Int × ((List Int) × (List Int))) × Bool) :=
  andO (F56 N a0 a1) fun y1 => cond (decide (y1 < (0 : Int))) (andO (F58 N a0) fun y3 => some (y3, false)) (andO (F60 N a0 y1) fun y4 => some (y4, true))
theorem ok30 (N : Nat) (a0 : (Int × ((List Int) × (List Int)))) (a1 : Int) {r : (Int × ((List Int) × (List Int))) × Bool} (h : F30 N a0 a1 = some r) : Con Go.Proofs.Try.prog 30 [.agg [.v (.int .i64) a0.1, .v (.sl (.int .i64)) a0.2.1, .v (.sl (.int .i64)) a0.2.2], I a1] [.agg [.v (.int .i64) r.1.1, .own (.int .i64) r.1.2.1 .dp, .own (.int .i64) r.1.2.2 .dp], .lf (.v .bool r.2)] := by
  refine ⟨enters_of Go.Proofs.Try.func30 rfl (by decide), HC.intro [.agg [.v (.int .i64), .own (.int .i64) .dp, .own (.int .i64) .dp], .lf (.v .bool)] T_ok Go.Proofs.Try.func30 rfl (Nat.le_of_ble_eq_true rfl) (Nat.le_of_ble_eq_true rfl) fun w0 E0 => ?_⟩
  unfold F30 at h
  show VW _ _ _ _ _ (retQ _ _ _ _) _
  refine VW.seq ?_
  refine VW.region ?_
  refine VO.seg T_ok .dp 3 [1, 2, 4] [0, 1] (s' := ⟨[(1, I a1), (2, .lf (.ptr 0 0 0 0)), (4, .lf (.ptr 1 0 0 0))], [bx [.v (.int .i64) a0.1, .v (.sl (.int .i64)) a0.2.1, .v (.sl (.int .i64)) a0.2.2] 24, bx [.v (.int .i64) (0 : Int), .nil, .nil] 24]⟩) (φ := True ∧ True ∧ True ∧ True) (by kernel_rfl) ⟨trivial, trivial, trivial, trivial⟩ ?_
  refine VO.nil ?_
  show VW _ _ _ _ _ _ _
  refine VW.seq ?_
  refine VW.region ?_
  refine VO.seg T_ok .dp 2 [2, 4, 7, 8] [0, 1] (s' := ⟨[(2, .lf (.ptr 0 0 0 0)), (4, .lf (.ptr 1 0 0 0)), (7, .agg [.v (.int .i64) a0.1, .v (.sl (.int .i64)) a0.2.1, .v (.sl (.int .i64)) a0.2.2]), (8, I a1)], [bx [.v (.int .i64) a0.1, .v (.sl (.int .i64)) a0.2.1, .v (.sl (.int .i64)) a0.2.2] 24, bx [.v (.int .i64) (0 : Int), .nil, .nil] 24]⟩) (φ := True ∧ True ∧ True) (by kernel_rfl) ⟨trivial, trivial, trivial⟩ ?_
  obtain ⟨y1, hy, h⟩ := andO_some h
  refine VO.call false [.t Y23, .t (.int .i64)] [] T_ok (d := some 9) (by kernel_rfl) (ok56 N _ _ hy) rfl ?_
  refine VO.seg T_ok .dp 1 [2, 4, 6] [0, 1] (s' := ⟨[(2, .lf (.ptr 0 0 0 0)), (4, .lf (.ptr 1 0 0 0)), (6, I y1)], [bx [.v (.int .i64) a0.1, .v (.sl (.int .i64)) a0.2.1, .v (.sl (.int .i64)) a0.2.2] 24, bx [.v (.int .i64) (0 : Int), .nil, .nil] 24]⟩) (φ := True ∧ True) (by kernel_rfl) ⟨trivial, trivial⟩ ?_
  refine VO.nil ?_
  show VW _ _ _ _ _ _ _
  refine VW.seq ?_
  refine VW.seq ?_
  refine VW.region ?_
  refine VO.seg T_ok .dp 2 [2, 4, 6, 11] [0, 1] (s' := ⟨[(2, .lf (.ptr 0 0 0 0)), (4, .lf (.ptr 1 0 0 0)), (6, I y1), (11, B (decide (y1 < (0 : Int))))], [bx [.v (.int .i64) a0.1, .v (.sl (.int .i64)) a0.2.1, .v (.sl (.int .i64)) a0.2.2] 24, bx [.v (.int .i64) (0 : Int), .nil, .nil] 24]⟩) (φ := True ∧ True ∧ True) (by kernel_rfl) ⟨trivial, trivial, trivial⟩ ?_
  refine VO.nil ?_
  show VW _ _ _ _ _ _ _
  refine VW.cond (b := (decide (y1 < (0 : Int)))) (by kernel_rfl) (fun hb => ?_) (fun hb => ?_)
  · replace h := cond_t h hb; clear hb
    refine VW.seq ?_
    refine VW.region ?_
    refine VO.seg T_ok .dp 1 [4, 12] [1] (s' := ⟨[(4, .lf (.ptr 0 0 0 0)), (12, .agg [.v (.int .i64) a0.1, .v (.sl (.int .i64)) a0.2.1, .v (.sl (.int .i64)) a0.2.2])], [bx [.v (.int .i64) (0 : Int), .nil, .nil] 24]⟩) (φ := True ∧ True) (by kernel_rfl) ⟨trivial, trivial⟩ ?_
    obtain ⟨y3, hy, h⟩ := andO_some h
    refine VO.call false [.t Y23] [] T_ok (d := some 13) (by kernel_rfl) (ok58 N _ hy) rfl ?_
    refine VO.seg T_ok .dp 2 [4, 5] [0, 1, 2] (s' := ⟨[(4, .lf (.ptr 0 0 0 0)), (5, B false)], [bx [.v (.int .i64) y3.1, .hd 1 0 none, .hd 2 0 none] 24, ar 0 (.int .i64) y3.2.1 .dp, ar 0 (.int .i64) y3.2.2 .dp]⟩) (φ := True ∧ True ∧ True) (by kernel_rfl) ⟨trivial, trivial, trivial⟩ ?_
    refine VO.nil ?_
    show VW _ _ _ _ _ _ _
    refine VW.ret ?_
    replace h := Option.some.inj h
    subst h
    exact retR [some 1, some 2] (by kernel_rfl) rfl
  · replace h := cond_f h hb; clear hb
    refine VW.skip ?_
    show VW _ _ _ _ _ _ _
    refine VW.seq ?_
    refine VW.region ?_
    refine VO.seg T_ok .dp 2 [4, 14, 15] [1] (s' := ⟨[(4, .lf (.ptr 0 0 0 0)), (14, .agg [.v (.int .i64) a0.1, .v (.sl (.int .i64)) a0.2.1, .v (.sl (.int .i64)) a0.2.2]), (15, I y1)], [bx [.v (.int .i64) (0 : Int), .nil, .nil] 24]⟩) (φ := True ∧ True ∧ True) (by kernel_rfl) ⟨trivial, trivial, trivial⟩ ?_
    obtain ⟨y4, hy, h⟩ := andO_some h
    refine VO.call false [.t Y23, .t (.int .i64)] [] T_ok (d := some 16) (by kernel_rfl) (ok60 N _ _ hy) rfl ?_
    refine VO.seg T_ok .dp 2 [4, 5] [0, 1, 2] (s' := ⟨[(4, .lf (.ptr 0 0 0 0)), (5, B true)], [bx [.v (.int .i64) y4.1, .hd 1 0 none, .hd 2 0 none] 24, ar 0 (.int .i64) y4.2.1 .dp, ar 0 (.int .i64) y4.2.2 .dp]⟩) (φ := True ∧ True ∧ True) (by kernel_rfl) ⟨trivial, trivial, trivial⟩ ?_
    refine VO.nil ?_
    show VW _ _ _ _ _ _ _
    refine VW.ret ?_
    replace h := Option.some.inj h
    subst h
    exact retR [some 1, some 2] (by kernel_rfl) rfl

/- loop.example/g00844/spec.l09First -/
def F61_j0 (N : Nat) (x53 : Int) (x54 : (List Int)) (x55 : (List Int)) : Option ((Int × ((List Int) × (List Int)))) :=
  some (x53, (x54, x55))
def F61_l0_b (N : Nat) (nx94 : Int → (List Int) → (List Int) → Int → (List Int) → (List Int) → Int → Option ((Int × ((List Int) × (List Int))))) (x75 : Int) (x76 : (List Int)) (x77 : (List Int)) (x78 : Int) (x79 : (List Int)) (x80 : (List Int)) (x81 : Int) : Option ((Int × ((List Int) × (List Int)))) :=
  cond (decide (x81 < (x76.length : Int))) (gd (InR x81 x76.length) (gd (x81.toNat < x76.length) (gd (x79.length + ([(x76.getD x81.toNat (Ty.dflt (.int .i64)))]).length ≤ lim (.int .i64)) (gd (InR x81 x77.length) (gd (x81.toNat < x77.length) (gd (x80.length + ([(x77.getD x81.toNat (Ty.dflt (.int .i64)))]).length ≤ lim (.int .i64)) (nx94 x75 x76 x77 x78 (x79 ++ ([(x76.getD x81.toNat (Ty.dflt (.int .i64)))])) (x80 ++ ([(x77.getD x81.toNat (Ty.dflt (.int .i64)))])) (IntKind.i64.wrap (x81 + (1 : Int)))))))))) (F61_j0 N x78 x79 x80)
def F61_l0 (N : Nat) : Nat → Int → (List Int) → (List Int) → Int → (List Int) → (List Int) → Int → Option ((Int × ((List Int) × (List Int)))) := loopF (F61_l0_b N) (fun _ _ _ _ _ _ _ => none)
theorem F61_l0_s (N : Nat) {k : Nat} (hk : 0 < k) (x75 : Int) (x76 : (List Int)) (x77 : (List Int)) (x78 : Int) (x79 : (List Int)) (x80 : (List Int)) (x81 : Int) : F61_l0 N k x75 x76 x77 x78 x79 x80 x81 = F61_l0_b N (F61_l0 N (k - 1)) x75 x76 x77 x78 x79 x80 x81 := by
  cases k with
  | zero => exact absurd hk (Nat.lt_irrefl 0)
  | succ m => rfl
def F61 (N : Nat) (a0 : (Int × ((List Int) × (List Int)))) (a1 : Int) (a2 : Int) : Option ((Int × ((List Int) × (List Int)))) :=
  andO (F55 N a0 a1) fun y1 => andO (F59 N a0 y1) fun y2 => F61_l0 N N y2.1 y2.2.1 y2.2.2 a0.1 ([a1]) ([a2]) (0 : Int)
theorem ok61 (N : Nat) (a0 : (Int × ((List Int) × (List Int)))) (a1 : Int) (a2 : Int) {r : (Int × ((List Int) × (List Int)))} (h : F61 N a0 a1 a2 = some r) : Con Go.Proofs.Try.prog 61 [.agg [.v (.int .i64) a0.1, .v (.sl (.int .i64)) a0.2.1, .v (.sl (.int .i64)) a0.2.2], I a1, I a2] [.agg [.v (.int .i64) r.1, .own (.int .i64) r.2.1 .dp, .own (.int .i64) r.2.2 .dp]] := by
  refine ⟨enters_of Go.Proofs.Try.func61 rfl (by decide), HC.intro [.agg [.v (.int .i64), .own (.int .i64) .dp, .own (.int .i64) .dp]] T_ok Go.Proofs.Try.func61 rfl (Nat.le_of_ble_eq_true rfl) (Nat.le_of_ble_eq_true rfl) fun w0 E0 => ?_⟩
  unfold F61 at h
  show VW _ _ _ _ _ (retQ _ _ _ _) _
  refine VW.seq ?_
  refine VW.region ?_
  refine VO.seg T_ok .dp 2 [1, 2, 3, 6] [0, 1] (s' := ⟨[(1, I a1), (2, I a2), (3, .lf (.ptr 0 0 0 0)), (6, .lf (.ptr 1 0 0 0))], [bx [.v (.int .i64) a0.1, .v (.sl (.int .i64)) a0.2.1, .v (.sl (.int .i64)) a0.2.2] 24, bx [.v (.int .i64) (0 : Int), .nil, .nil] 24]⟩) (φ := True ∧ True ∧ True) (by kernel_rfl) ⟨trivial, trivial, trivial⟩ ?_
  refine VO.nil ?_
  show VW _ _ _ _ _ _ _
  refine VW.seq ?_
  obtain ⟨y1, hy1, h⟩ := andO_some h
  obtain ⟨y2, hy2, h⟩ := andO_some h
  refine VW.ideal (by kernel_rfl) [[], [0], [1], [2], [5], [0, 1], [0, 2], [0, 5], [1, 2], [1, 5], [2, 5], [0, 1, 2], [0, 1, 5], [0, 2, 5], [1, 2, 3], [1, 2, 5], [0, 1, 2, 3], [0, 1, 2, 5], [1, 2, 3, 5], [0, 1, 2, 3, 4], [0, 1, 2, 3, 5], [0, 1, 2, 3, 4, 5], [0, 1, 2, 3, 4, 5, 6]] [⟨[(1, I a1), (2, I a2), (3, .lf (.ptr 0 0 0 0)), (6, .lf (.ptr 1 0 0 0))], [bx [.v (.int .i64) a0.1, .v (.sl (.int .i64)) a0.2.1, .v (.sl (.int .i64)) a0.2.2] 24, bx [.v (.int .i64) (0 : Int), .nil, .nil] 24]⟩,
    ⟨[(1, I a1), (2, I a2), (3, .lf (.ptr 0 0 0 0)), (6, .lf (.ptr 1 0 0 0)), (10, .agg [.v (.int .i64) a0.1, .v (.sl (.int .i64)) a0.2.1, .v (.sl (.int .i64)) a0.2.2])], [bx [.v (.int .i64) a0.1, .v (.sl (.int .i64)) a0.2.1, .v (.sl (.int .i64)) a0.2.2] 24, bx [.v (.int .i64) (0 : Int), .nil, .nil] 24]⟩,
    ⟨[(1, I a1), (2, I a2), (3, .lf (.ptr 0 0 0 0)), (6, .lf (.ptr 1 0 0 0)), (11, .agg [.v (.int .i64) a0.1, .v (.sl (.int .i64)) a0.2.1, .v (.sl (.int .i64)) a0.2.2])], [bx [.v (.int .i64) a0.1, .v (.sl (.int .i64)) a0.2.1, .v (.sl (.int .i64)) a0.2.2] 24, bx [.v (.int .i64) (0 : Int), .nil, .nil] 24]⟩,
    ⟨[(1, I a1), (2, I a2), (3, .lf (.ptr 0 0 0 0)), (6, .lf (.ptr 1 0 0 0)), (12, I a1)], [bx [.v (.int .i64) a0.1, .v (.sl (.int .i64)) a0.2.1, .v (.sl (.int .i64)) a0.2.2] 24, bx [.v (.int .i64) (0 : Int), .nil, .nil] 24]⟩,
    ⟨[(1, I a1), (2, I a2), (3, .lf (.ptr 0 0 0 0)), (6, .lf (.ptr 1 0 0 0)), (7, .lf (.ptr 2 0 0 0))], [bx [.v (.int .i64) a0.1, .v (.sl (.int .i64)) a0.2.1, .v (.sl (.int .i64)) a0.2.2] 24, bx [.v (.int .i64) (0 : Int), .nil, .nil] 24, bx [.v (.int .i64) (0 : Int), .nil, .nil] 24]⟩,
    ⟨[(1, I a1), (2, I a2), (3, .lf (.ptr 0 0 0 0)), (6, .lf (.ptr 1 0 0 0)), (10, .agg [.v (.int .i64) a0.1, .v (.sl (.int .i64)) a0.2.1, .v (.sl (.int .i64)) a0.2.2]), (11, .agg [.v (.int .i64) a0.1, .v (.sl (.int .i64)) a0.2.1, .v (.sl (.int .i64)) a0.2.2])], [bx [.v (.int .i64) a0.1, .v (.sl (.int .i64)) a0.2.1, .v (.sl (.int .i64)) a0.2.2] 24, bx [.v (.int .i64) (0 : Int), .nil, .nil] 24]⟩,
    ⟨[(1, I a1), (2, I a2), (3, .lf (.ptr 0 0 0 0)), (6, .lf (.ptr 1 0 0 0)), (10, .agg [.v (.int .i64) a0.1, .v (.sl (.int .i64)) a0.2.1, .v (.sl (.int .i64)) a0.2.2]), (12, I a1)], [bx [.v (.int .i64) a0.1, .v (.sl (.int .i64)) a0.2.1, .v (.sl (.int .i64)) a0.2.2] 24, bx [.v (.int .i64) (0 : Int), .nil, .nil] 24]⟩,
    ⟨[(1, I a1), (2, I a2), (3, .lf (.ptr 0 0 0 0)), (6, .lf (.ptr 1 0 0 0)), (7, .lf (.ptr 2 0 0 0)), (10, .agg [.v (.int .i64) a0.1, .v (.sl (.int .i64)) a0.2.1, .v (.sl (.int .i64)) a0.2.2])], [bx [.v (.int .i64) a0.1, .v (.sl (.int .i64)) a0.2.1, .v (.sl (.int .i64)) a0.2.2] 24, bx [.v (.int .i64) (0 : Int), .nil, .nil] 24, bx [.v (.int .i64) (0 : Int), .nil, .nil] 24]⟩,
    ⟨[(1, I a1), (2, I a2), (3, .lf (.ptr 0 0 0 0)), (6, .lf (.ptr 1 0 0 0)), (11, .agg [.v (.int .i64) a0.1, .v (.sl (.int .i64)) a0.2.1, .v (.sl (.int .i64)) a0.2.2]), (12, I a1)], [bx [.v (.int .i64) a0.1, .v (.sl (.int .i64)) a0.2.1, .v (.sl (.int .i64)) a0.2.2] 24, bx [.v (.int .i64) (0 : Int), .nil, .nil] 24]⟩,
    ⟨[(1, I a1), (2, I a2), (3, .lf (.ptr 0 0 0 0)), (6, .lf (.ptr 1 0 0 0)), (7, .lf (.ptr 2 0 0 0)), (11, .agg [.v (.int .i64) a0.1, .v (.sl (.int .i64)) a0.2.1, .v (.sl (.int .i64)) a0.2.2])], [bx [.v (.int .i64) a0.1, .v (.sl (.int .i64)) a0.2.1, .v (.sl (.int .i64)) a0.2.2] 24, bx [.v (.int .i64) (0 : Int), .nil, .nil] 24, bx [.v (.int .i64) (0 : Int), .nil, .nil] 24]⟩,
    ⟨[(1, I a1), (2, I a2), (3, .lf (.ptr 0 0 0 0)), (6, .lf (.ptr 1 0 0 0)), (7, .lf (.ptr 2 0 0 0)), (12, I a1)], [bx [.v (.int .i64) a0.1, .v (.sl (.int .i64)) a0.2.1, .v (.sl (.int .i64)) a0.2.2] 24, bx [.v (.int .i64) (0 : Int), .nil, .nil] 24, bx [.v (.int .i64) (0 : Int), .nil, .nil] 24]⟩,
    ⟨[(1, I a1), (2, I a2), (3, .lf (.ptr 0 0 0 0)), (6, .lf (.ptr 1 0 0 0)), (10, .agg [.v (.int .i64) a0.1, .v (.sl (.int .i64)) a0.2.1, .v (.sl (.int .i64)) a0.2.2]), (11, .agg [.v (.int .i64) a0.1, .v (.sl (.int .i64)) a0.2.1, .v (.sl (.int .i64)) a0.2.2]), (12, I a1)], [bx [.v (.int .i64) a0.1, .v (.sl (.int .i64)) a0.2.1, .v (.sl (.int .i64)) a0.2.2] 24, bx [.v (.int .i64) (0 : Int), .nil, .nil] 24]⟩,
    ⟨[(1, I a1), (2, I a2), (3, .lf (.ptr 0 0 0 0)), (6, .lf (.ptr 1 0 0 0)), (7, .lf (.ptr 2 0 0 0)), (10, .agg [.v (.int .i64) a0.1, .v (.sl (.int .i64)) a0.2.1, .v (.sl (.int .i64)) a0.2.2]), (11, .agg [.v (.int .i64) a0.1, .v (.sl (.int .i64)) a0.2.1, .v (.sl (.int .i64)) a0.2.2])], [bx [.v (.int .i64) a0.1, .v (.sl (.int .i64)) a0.2.1, .v (.sl (.int .i64)) a0.2.2] 24, bx [.v (.int .i64) (0 : Int), .nil, .nil] 24, bx [.v (.int .i64) (0 : Int), .nil, .nil] 24]⟩,
    ⟨[(1, I a1), (2, I a2), (3, .lf (.ptr 0 0 0 0)), (6, .lf (.ptr 1 0 0 0)), (7, .lf (.ptr 2 0 0 0)), (10, .agg [.v (.int .i64) a0.1, .v (.sl (.int .i64)) a0.2.1, .v (.sl (.int .i64)) a0.2.2]), (12, I a1)], [bx [.v (.int .i64) a0.1, .v (.sl (.int .i64)) a0.2.1, .v (.sl (.int .i64)) a0.2.2] 24, bx [.v (.int .i64) (0 : Int), .nil, .nil] 24, bx [.v (.int .i64) (0 : Int), .nil, .nil] 24]⟩,
    ⟨[(1, I a1), (2, I a2), (3, .lf (.ptr 0 0 0 0)), (6, .lf (.ptr 1 0 0 0)), (13, I y1)], [bx [.v (.int .i64) a0.1, .v (.sl (.int .i64)) a0.2.1, .v (.sl (.int .i64)) a0.2.2] 24, bx [.v (.int .i64) (0 : Int), .nil, .nil] 24]⟩,
    ⟨[(1, I a1), (2, I a2), (3, .lf (.ptr 0 0 0 0)), (6, .lf (.ptr 1 0 0 0)), (7, .lf (.ptr 2 0 0 0)), (11, .agg [.v (.int .i64) a0.1, .v (.sl (.int .i64)) a0.2.1, .v (.sl (.int .i64)) a0.2.2]), (12, I a1)], [bx [.v (.int .i64) a0.1, .v (.sl (.int .i64)) a0.2.1, .v (.sl (.int .i64)) a0.2.2] 24, bx [.v (.int .i64) (0 : Int), .nil, .nil] 24, bx [.v (.int .i64) (0 : Int), .nil, .nil] 24]⟩,
    ⟨[(1, I a1), (2, I a2), (3, .lf (.ptr 0 0 0 0)), (6, .lf (.ptr 1 0 0 0)), (10, .agg [.v (.int .i64) a0.1, .v (.sl (.int .i64)) a0.2.1, .v (.sl (.int .i64)) a0.2.2]), (13, I y1)], [bx [.v (.int .i64) a0.1, .v (.sl (.int .i64)) a0.2.1, .v (.sl (.int .i64)) a0.2.2] 24, bx [.v (.int .i64) (0 : Int), .nil, .nil] 24]⟩,
    ⟨[(1, I a1), (2, I a2), (3, .lf (.ptr 0 0 0 0)), (6, .lf (.ptr 1 0 0 0)), (7, .lf (.ptr 2 0 0 0)), (10, .agg [.v (.int .i64) a0.1, .v (.sl (.int .i64)) a0.2.1, .v (.sl (.int .i64)) a0.2.2]), (11, .agg [.v (.int .i64) a0.1, .v (.sl (.int .i64)) a0.2.1, .v (.sl (.int .i64)) a0.2.2]), (12, I a1)], [bx [.v (.int .i64) a0.1, .v (.sl (.int .i64)) a0.2.1, .v (.sl (.int .i64)) a0.2.2] 24, bx [.v (.int .i64) (0 : Int), .nil, .nil] 24, bx [.v (.int .i64) (0 : Int), .nil, .nil] 24]⟩,
    ⟨[(1, I a1), (2, I a2), (3, .lf (.ptr 0 0 0 0)), (6, .lf (.ptr 1 0 0 0)), (7, .lf (.ptr 2 0 0 0)), (13, I y1)], [bx [.v (.int .i64) a0.1, .v (.sl (.int .i64)) a0.2.1, .v (.sl (.int .i64)) a0.2.2] 24, bx [.v (.int .i64) (0 : Int), .nil, .nil] 24, bx [.v (.int .i64) (0 : Int), .nil, .nil] 24]⟩,
    ⟨[(1, I a1), (2, I a2), (3, .lf (.ptr 0 0 0 0)), (6, .lf (.ptr 1 0 0 0)), (14, .agg [.v (.int .i64) y2.1, .hd 2 0 none, .hd 3 0 none])], [bx [.v (.int .i64) a0.1, .v (.sl (.int .i64)) a0.2.1, .v (.sl (.int .i64)) a0.2.2] 24, bx [.v (.int .i64) (0 : Int), .nil, .nil] 24, ar 0 (.int .i64) y2.2.1 .dp, ar 0 (.int .i64) y2.2.2 .dp]⟩,
    ⟨[(1, I a1), (2, I a2), (3, .lf (.ptr 0 0 0 0)), (6, .lf (.ptr 1 0 0 0)), (7, .lf (.ptr 2 0 0 0)), (10, .agg [.v (.int .i64) a0.1, .v (.sl (.int .i64)) a0.2.1, .v (.sl (.int .i64)) a0.2.2]), (13, I y1)], [bx [.v (.int .i64) a0.1, .v (.sl (.int .i64)) a0.2.1, .v (.sl (.int .i64)) a0.2.2] 24, bx [.v (.int .i64) (0 : Int), .nil, .nil] 24, bx [.v (.int .i64) (0 : Int), .nil, .nil] 24]⟩,
    ⟨[(1, I a1), (2, I a2), (3, .lf (.ptr 0 0 0 0)), (6, .lf (.ptr 1 0 0 0)), (7, .lf (.ptr 2 0 0 0)), (14, .agg [.v (.int .i64) y2.1, .hd 3 0 none, .hd 4 0 none])], [bx [.v (.int .i64) a0.1, .v (.sl (.int .i64)) a0.2.1, .v (.sl (.int .i64)) a0.2.2] 24, bx [.v (.int .i64) (0 : Int), .nil, .nil] 24, bx [.v (.int .i64) (0 : Int), .nil, .nil] 24, ar 0 (.int .i64) y2.2.1 .dp, ar 0 (.int .i64) y2.2.2 .dp]⟩,
    ⟨[(1, I a1), (2, I a2), (3, .lf (.ptr 0 0 0 0)), (6, .lf (.ptr 1 0 0 0)), (7, .lf (.ptr 2 0 0 0))], [bx [.v (.int .i64) a0.1, .v (.sl (.int .i64)) a0.2.1, .v (.sl (.int .i64)) a0.2.2] 24, bx [.v (.int .i64) (0 : Int), .nil, .nil] 24, bx [.v (.int .i64) y2.1, .hd 3 0 none, .hd 4 0 none] 24, ar 0 (.int .i64) y2.2.1 .dp, ar 0 (.int .i64) y2.2.2 .dp]⟩] [(0, 0, 1), (0, 1, 2), (0, 2, 3), (0, 5, 4), (1, 1, 5), (1, 2, 6), (1, 5, 7), (2, 0, 5), (2, 2, 8), (2, 5, 9), (3, 0, 6), (3, 1, 8), (3, 5, 10), (4, 0, 7), (4, 1, 9), (4, 2, 10), (5, 2, 11), (5, 5, 12), (6, 1, 11), (6, 5, 13), (7, 1, 12), (7, 2, 13), (8, 0, 11), (8, 3, 14), (8, 5, 15), (9, 0, 12), (9, 2, 15), (10, 0, 13), (10, 1, 15), (11, 3, 16), (11, 5, 17), (12, 2, 17), (13, 1, 17), (14, 0, 16), (14, 5, 18), (15, 0, 17), (15, 3, 18), (16, 4, 19), (16, 5, 20), (17, 3, 20), (18, 0, 20), (19, 5, 21), (20, 4, 21), (21, 6, 22)] 22 (s' := ⟨[(1, I a1), (2, I a2), (3, .lf (.ptr 0 0 0 0)), (6, .lf (.ptr 1 0 0 0)), (7, .lf (.ptr 2 0 0 0))], [bx [.v (.int .i64) a0.1, .v (.sl (.int .i64)) a0.2.1, .v (.sl (.int .i64)) a0.2.2] 24, bx [.v (.int .i64) (0 : Int), .nil, .nil] 24, bx [.v (.int .i64) y2.1, .hd 3 0 none, .hd 4 0 none] 24, ar 0 (.int .i64) y2.2.1 .dp, ar 0 (.int .i64) y2.2.2 .dp]⟩) (by kernel_rfl) rfl rfl ⟨⟨_, _, _, rfl, rfl, rfl, VO.seg T_ok .dp 1 [1, 2, 3, 6, 10] [0, 1] (φ := True ∧ True) (by kernel_rfl) ⟨trivial, trivial⟩ (VI.fin rfl)⟩,
    ⟨_, _, _, rfl, rfl, rfl, VO.seg T_ok .dp 1 [1, 2, 3, 6, 11] [0, 1] (φ := True ∧ True) (by kernel_rfl) ⟨trivial, trivial⟩ (VI.fin rfl)⟩,
    ⟨_, _, _, rfl, rfl, rfl, VO.seg T_ok .dp 1 [1, 2, 3, 6, 12] [0, 1] (φ := True ∧ True) (by kernel_rfl) ⟨trivial, trivial⟩ (VI.fin rfl)⟩,
    ⟨_, _, _, rfl, rfl, rfl, VO.seg T_ok .dp 1 [1, 2, 3, 6, 7] [0, 1, 2] (φ := True ∧ True) (by kernel_rfl) ⟨trivial, trivial⟩ (VI.fin rfl)⟩,
    ⟨_, _, _, rfl, rfl, rfl, VO.seg T_ok .dp 1 [1, 2, 3, 6, 10, 11] [0, 1] (φ := True ∧ True) (by kernel_rfl) ⟨trivial, trivial⟩ (VI.fin rfl)⟩,
    ⟨_, _, _, rfl, rfl, rfl, VO.seg T_ok .dp 1 [1, 2, 3, 6, 10, 12] [0, 1] (φ := True ∧ True) (by kernel_rfl) ⟨trivial, trivial⟩ (VI.fin rfl)⟩,
    ⟨_, _, _, rfl, rfl, rfl, VO.seg T_ok .dp 1 [1, 2, 3, 6, 7, 10] [0, 1, 2] (φ := True ∧ True) (by kernel_rfl) ⟨trivial, trivial⟩ (VI.fin rfl)⟩,
    ⟨_, _, _, rfl, rfl, rfl, VO.seg T_ok .dp 1 [1, 2, 3, 6, 10, 11] [0, 1] (φ := True ∧ True) (by kernel_rfl) ⟨trivial, trivial⟩ (VI.fin rfl)⟩,
    ⟨_, _, _, rfl, rfl, rfl, VO.seg T_ok .dp 1 [1, 2, 3, 6, 11, 12] [0, 1] (φ := True ∧ True) (by kernel_rfl) ⟨trivial, trivial⟩ (VI.fin rfl)⟩,
    ⟨_, _, _, rfl, rfl, rfl, VO.seg T_ok .dp 1 [1, 2, 3, 6, 7, 11] [0, 1, 2] (φ := True ∧ True) (by kernel_rfl) ⟨trivial, trivial⟩ (VI.fin rfl)⟩,
    ⟨_, _, _, rfl, rfl, rfl, VO.seg T_ok .dp 1 [1, 2, 3, 6, 10, 12] [0, 1] (φ := True ∧ True) (by kernel_rfl) ⟨trivial, trivial⟩ (VI.fin rfl)⟩,
    ⟨_, _, _, rfl, rfl, rfl, VO.seg T_ok .dp 1 [1, 2, 3, 6, 11, 12] [0, 1] (φ := True ∧ True) (by kernel_rfl) ⟨trivial, trivial⟩ (VI.fin rfl)⟩,
    ⟨_, _, _, rfl, rfl, rfl, VO.seg T_ok .dp 1 [1, 2, 3, 6, 7, 12] [0, 1, 2] (φ := True ∧ True) (by kernel_rfl) ⟨trivial, trivial⟩ (VI.fin rfl)⟩,
    ⟨_, _, _, rfl, rfl, rfl, VO.seg T_ok .dp 1 [1, 2, 3, 6, 7, 10] [0, 1, 2] (φ := True ∧ True) (by kernel_rfl) ⟨trivial, trivial⟩ (VI.fin rfl)⟩,
    ⟨_, _, _, rfl, rfl, rfl, VO.seg T_ok .dp 1 [1, 2, 3, 6, 7, 11] [0, 1, 2] (φ := True ∧ True) (by kernel_rfl) ⟨trivial, trivial⟩ (VI.fin rfl)⟩,
    ⟨_, _, _, rfl, rfl, rfl, VO.seg T_ok .dp 1 [1, 2, 3, 6, 7, 12] [0, 1, 2] (φ := True ∧ True) (by kernel_rfl) ⟨trivial, trivial⟩ (VI.fin rfl)⟩,
    ⟨_, _, _, rfl, rfl, rfl, VO.seg T_ok .dp 1 [1, 2, 3, 6, 10, 11, 12] [0, 1] (φ := True ∧ True) (by kernel_rfl) ⟨trivial, trivial⟩ (VI.fin rfl)⟩,
    ⟨_, _, _, rfl, rfl, rfl, VO.seg T_ok .dp 1 [1, 2, 3, 6, 7, 10, 11] [0, 1, 2] (φ := True ∧ True) (by kernel_rfl) ⟨trivial, trivial⟩ (VI.fin rfl)⟩,
    ⟨_, _, _, rfl, rfl, rfl, VO.seg T_ok .dp 1 [1, 2, 3, 6, 10, 11, 12] [0, 1] (φ := True ∧ True) (by kernel_rfl) ⟨trivial, trivial⟩ (VI.fin rfl)⟩,
    ⟨_, _, _, rfl, rfl, rfl, VO.seg T_ok .dp 1 [1, 2, 3, 6, 7, 10, 12] [0, 1, 2] (φ := True ∧ True) (by kernel_rfl) ⟨trivial, trivial⟩ (VI.fin rfl)⟩,
    ⟨_, _, _, rfl, rfl, rfl, VO.seg T_ok .dp 1 [1, 2, 3, 6, 7, 10, 11] [0, 1, 2] (φ := True ∧ True) (by kernel_rfl) ⟨trivial, trivial⟩ (VI.fin rfl)⟩,
    ⟨_, _, _, rfl, rfl, rfl, VO.seg T_ok .dp 1 [1, 2, 3, 6, 7, 10, 12] [0, 1, 2] (φ := True ∧ True) (by kernel_rfl) ⟨trivial, trivial⟩ (VI.fin rfl)⟩,
    ⟨_, _, _, rfl, rfl, rfl, VO.seg T_ok .dp 1 [1, 2, 3, 6, 10, 11, 12] [0, 1] (φ := True ∧ True) (by kernel_rfl) ⟨trivial, trivial⟩ (VI.fin rfl)⟩,
    ⟨_, _, _, rfl, rfl, rfl, by
      refine VO.call false [.t Y23, .t (.int .i64)] [] T_ok (d := some 13) (by kernel_rfl) (ok55 N _ _ hy1) rfl ?_
      exact VO.ghl [.ren [1, 2, 3, 6, 13] [0, 1]] (VI.fin (by kernel_rfl))⟩,
    ⟨_, _, _, rfl, rfl, rfl, VO.seg T_ok .dp 1 [1, 2, 3, 6, 7, 11, 12] [0, 1, 2] (φ := True ∧ True) (by kernel_rfl) ⟨trivial, trivial⟩ (VI.fin rfl)⟩,
    ⟨_, _, _, rfl, rfl, rfl, VO.seg T_ok .dp 1 [1, 2, 3, 6, 7, 10, 11] [0, 1, 2] (φ := True ∧ True) (by kernel_rfl) ⟨trivial, trivial⟩ (VI.fin rfl)⟩,
    ⟨_, _, _, rfl, rfl, rfl, VO.seg T_ok .dp 1 [1, 2, 3, 6, 7, 11, 12] [0, 1, 2] (φ := True ∧ True) (by kernel_rfl) ⟨trivial, trivial⟩ (VI.fin rfl)⟩,
    ⟨_, _, _, rfl, rfl, rfl, VO.seg T_ok .dp 1 [1, 2, 3, 6, 7, 10, 12] [0, 1, 2] (φ := True ∧ True) (by kernel_rfl) ⟨trivial, trivial⟩ (VI.fin rfl)⟩,
    ⟨_, _, _, rfl, rfl, rfl, VO.seg T_ok .dp 1 [1, 2, 3, 6, 7, 11, 12] [0, 1, 2] (φ := True ∧ True) (by kernel_rfl) ⟨trivial, trivial⟩ (VI.fin rfl)⟩,
    ⟨_, _, _, rfl, rfl, rfl, by
      refine VO.call false [.t Y23, .t (.int .i64)] [] T_ok (d := some 13) (by kernel_rfl) (ok55 N _ _ hy1) rfl ?_
      exact VO.ghl [.ren [1, 2, 3, 6, 10, 13] [0, 1]] (VI.fin (by kernel_rfl))⟩,
    ⟨_, _, _, rfl, rfl, rfl, VO.seg T_ok .dp 1 [1, 2, 3, 6, 7, 10, 11, 12] [0, 1, 2] (φ := True ∧ True) (by kernel_rfl) ⟨trivial, trivial⟩ (VI.fin rfl)⟩,
    ⟨_, _, _, rfl, rfl, rfl, VO.seg T_ok .dp 1 [1, 2, 3, 6, 7, 10, 11, 12] [0, 1, 2] (φ := True ∧ True) (by kernel_rfl) ⟨trivial, trivial⟩ (VI.fin rfl)⟩,
    ⟨_, _, _, rfl, rfl, rfl, VO.seg T_ok .dp 1 [1, 2, 3, 6, 7, 10, 11, 12] [0, 1, 2] (φ := True ∧ True) (by kernel_rfl) ⟨trivial, trivial⟩ (VI.fin rfl)⟩,
    ⟨_, _, _, rfl, rfl, rfl, VO.seg T_ok .dp 1 [1, 2, 3, 6, 10, 13] [0, 1] (φ := True ∧ True) (by kernel_rfl) ⟨trivial, trivial⟩ (VI.fin rfl)⟩,
    ⟨_, _, _, rfl, rfl, rfl, VO.seg T_ok .dp 1 [1, 2, 3, 6, 7, 13] [0, 1, 2] (φ := True ∧ True) (by kernel_rfl) ⟨trivial, trivial⟩ (VI.fin rfl)⟩,
    ⟨_, _, _, rfl, rfl, rfl, VO.seg T_ok .dp 1 [1, 2, 3, 6, 7, 10, 11, 12] [0, 1, 2] (φ := True ∧ True) (by kernel_rfl) ⟨trivial, trivial⟩ (VI.fin rfl)⟩,
    ⟨_, _, _, rfl, rfl, rfl, by
      refine VO.call false [.t Y23, .t (.int .i64)] [] T_ok (d := some 13) (by kernel_rfl) (ok55 N _ _ hy1) rfl ?_
      exact VO.ghl [.ren [1, 2, 3, 6, 7, 13] [0, 1, 2]] (VI.fin (by kernel_rfl))⟩,
    ⟨_, _, _, rfl, rfl, rfl, by
      refine VO.call false [.t Y23, .t (.int .i64)] [] T_ok (d := some 14) (by kernel_rfl) (ok59 N _ _ hy2) rfl ?_
      exact VO.ghl [.ren [1, 2, 3, 6, 14] [0, 1, 2, 3]] (VI.fin (by kernel_rfl))⟩,
    ⟨_, _, _, rfl, rfl, rfl, VO.seg T_ok .dp 1 [1, 2, 3, 6, 7, 10, 13] [0, 1, 2] (φ := True ∧ True) (by kernel_rfl) ⟨trivial, trivial⟩ (VI.fin rfl)⟩,
    ⟨_, _, _, rfl, rfl, rfl, by
      refine VO.call false [.t Y23, .t (.int .i64)] [] T_ok (d := some 13) (by kernel_rfl) (ok55 N _ _ hy1) rfl ?_
      exact VO.ghl [.ren [1, 2, 3, 6, 7, 10, 13] [0, 1, 2]] (VI.fin (by kernel_rfl))⟩,
    ⟨_, _, _, rfl, rfl, rfl, VO.seg T_ok .dp 1 [1, 2, 3, 6, 7, 10, 13] [0, 1, 2] (φ := True ∧ True) (by kernel_rfl) ⟨trivial, trivial⟩ (VI.fin rfl)⟩,
    ⟨_, _, _, rfl, rfl, rfl, VO.seg T_ok .dp 1 [1, 2, 3, 6, 7, 14] [0, 1, 4, 2, 3] (φ := True ∧ True) (by kernel_rfl) ⟨trivial, trivial⟩ (VI.fin rfl)⟩,
    ⟨_, _, _, rfl, rfl, rfl, by
      refine VO.call false [.t Y23, .t (.int .i64)] [] T_ok (d := some 14) (by kernel_rfl) (ok59 N _ _ hy2) rfl ?_
      exact VO.ghl [.ren [1, 2, 3, 6, 7, 14] [0, 1, 2, 3, 4]] (VI.fin (by kernel_rfl))⟩,
    ⟨_, _, _, rfl, rfl, rfl, VO.seg T_ok .dp 1 [1, 2, 3, 6, 7] [0, 1, 2, 3, 4] (φ := True ∧ True) (by kernel_rfl) ⟨trivial, trivial⟩ (VI.fin rfl)⟩, trivial⟩ ?_
  show VW _ _ _ _ _ _ _
  refine VW.seq ?_
  refine VW.region ?_
  refine VO.seg T_ok .dp 9 [6, 7, 8] [1, 2, 3, 4, 7, 5, 6] (s' := ⟨[(6, .lf (.ptr 0 0 0 0)), (7, .lf (.ptr 1 0 0 0)), (8, .lf (.ptr 4 0 0 0))], [bx [.v (.int .i64) (0 : Int), .nil, .nil] 24, bx [.v (.int .i64) y2.1, .hd 2 0 none, .hd 3 0 none] 24, ar 0 (.int .i64) y2.2.1 .dp, ar 0 (.int .i64) y2.2.2 .dp, bx [.v (.int .i64) a0.1, .hd 5 0 none, .hd 6 0 none] 24, ar 0 (.int .i64) ([a1]) .dp, ar 0 (.int .i64) ([a2]) .dp]⟩) (φ := True ∧ True ∧ True ∧ True ∧ True ∧ True ∧ True ∧ True ∧ True ∧ True) (by kernel_rfl) ⟨trivial, trivial, trivial, trivial, trivial, trivial, trivial, trivial, trivial, trivial⟩ ?_
  refine VO.nil ?_
  show VW _ _ _ _ _ _ _
  refine VW.join (fun s => ∃ (x53 : Int) (x54 : (List Int)) (x55 : (List Int)), s = ⟨[(6, .lf (.ptr 0 0 0 0)), (8, .lf (.ptr 1 0 0 0))], [bx [.v (.int .i64) (0 : Int), .nil, .nil] 24, bx [.v (.int .i64) x53, .hd 2 0 none, .hd 3 0 none] 24, ar 0 (.int .i64) x54 .dp, ar 0 (.int .i64) x55 .dp]⟩ ∧ F61_j0 N x53 x54 x55 = some r) ?_ ?_
  · refine VW.seq ?_
    refine VW.region ?_
    refine VO.seg T_ok .dp 1 [6, 7, 8, 9] [0, 1, 2, 3, 4, 5, 6] (s' := ⟨[(6, .lf (.ptr 0 0 0 0)), (7, .lf (.ptr 1 0 0 0)), (8, .lf (.ptr 4 0 0 0)), (9, I (0 : Int))], [bx [.v (.int .i64) (0 : Int), .nil, .nil] 24, bx [.v (.int .i64) y2.1, .hd 2 0 none, .hd 3 0 none] 24, ar 0 (.int .i64) y2.2.1 .dp, ar 0 (.int .i64) y2.2.2 .dp, bx [.v (.int .i64) a0.1, .hd 5 0 none, .hd 6 0 none] 24, ar 0 (.int .i64) ([a1]) .dp, ar 0 (.int .i64) ([a2]) .dp]⟩) (φ := True ∧ True) (by kernel_rfl) ⟨trivial, trivial⟩ ?_
    refine VO.nil ?_
    show VW _ _ _ _ _ _ _
    refine VW.block ?_
    refine VW.loopL (fun k s => ∃ (x75 : Int) (x76 : (List Int)) (x77 : (List Int)) (x78 : Int) (x79 : (List Int)) (x80 : (List Int)) (x81 : Int), s = ⟨[(6, .lf (.ptr 0 0 0 0)), (7, .lf (.ptr 1 0 0 0)), (8, .lf (.ptr 4 0 0 0)), (9, I x81)], [bx [.v (.int .i64) (0 : Int), .nil, .nil] 24, bx [.v (.int .i64) x75, .hd 2 0 none, .hd 3 0 none] 24, ar 0 (.int .i64) x76 .dp, ar 0 (.int .i64) x77 .dp, bx [.v (.int .i64) x78, .hd 5 0 none, .hd 6 0 none] 24, ar 0 (.int .i64) x79 .dp, ar 0 (.int .i64) x80 .dp]⟩ ∧ F61_l0 N k x75 x76 x77 x78 x79 x80 x81 = some r) N [.ren [6, 7, 8, 9] [0, 1, 2, 3, 4, 5, 6]] (by kernel_rfl) ⟨y2.1, y2.2.1, y2.2.2, a0.1, [a1], [a2], (0 : Int), rfl, h⟩ ?_
    rintro k94 s ⟨x75, x76, x77, x78, x79, x80, x81, rfl, h⟩
    cases k94 with
    | zero => exact nomatch (show (none : Option ((Int × ((List Int) × (List Int))))) = some r from h)
    | succ k94 =>
      replace h : F61_l0_b N (F61_l0 N k94) x75 x76 x77 x78 x79 x80 x81 = some r := h
      unfold F61_l0_b at h
      refine VW.seq ?_
      refine VW.seq ?_
      refine VW.region ?_
      refine VO.seg T_ok .dp 5 [6, 7, 8, 9, 26] [0, 1, 2, 3, 4, 5, 6] (s' := ⟨[(6, .lf (.ptr 0 0 0 0)), (7, .lf (.ptr 1 0 0 0)), (8, .lf (.ptr 4 0 0 0)), (9, I x81), (26, B (decide (x81 < (x76.length : Int))))], [bx [.v (.int .i64) (0 : Int), .nil, .nil] 24, bx [.v (.int .i64) x75, .hd 2 0 none, .hd 3 0 none] 24, ar 0 (.int .i64) x76 .dp, ar 0 (.int .i64) x77 .dp, bx [.v (.int .i64) x78, .hd 5 0 none, .hd 6 0 none] 24, ar 0 (.int .i64) x79 .dp, ar 0 (.int .i64) x80 .dp]⟩) (φ := True ∧ True ∧ True ∧ True ∧ True ∧ True) (by kernel_rfl) ⟨trivial, trivial, trivial, trivial, trivial, trivial⟩ ?_
      refine VO.nil ?_
      show VW _ _ _ _ _ _ _
      refine VW.cond (b := (decide (x81 < (x76.length : Int)))) (by kernel_rfl) (fun hb => ?_) (fun hb => ?_)
      · replace h := cond_t h hb; clear hb
        refine VW.skip ?_
        show VW _ _ _ _ _ _ _
        refine VW.seq ?_
        refine VW.block ?_
        refine VW.seq ?_
        obtain ⟨g101, h⟩ := gd_some h
        obtain ⟨g102, h⟩ := gd_some h
        obtain ⟨g103, h⟩ := gd_some h
        refine VW.drawn (by kernel_rfl) [some (29, .lf (.ptr 4 0 0 1)), some (30, .lf (.hd 5 0 none)), some (31, .lf (.ptr 1 0 0 1)), some (32, .lf (.hd 2 0 none)), some (33, I x81), some (34, .lf (.ptr 2 0 x81.toNat 0)), some (35, I (x76.getD x81.toNat (Ty.dflt (.int .i64)))), some (36, .lf (.hd 7 0 none)), some (37, .lf (.hd 5 1 none)), some (38, .lf (.ptr 4 0 0 1)), none] [7, 8, 10] [[bx [.v (.int .i64) (0 : Int), .nil, .nil] 24, bx [.v (.int .i64) x75, .hd 2 0 none, .hd 3 0 none] 24, ar 0 (.int .i64) x76 .dp, ar 0 (.int .i64) x77 .dp, bx [.v (.int .i64) x78, .hd 5 0 none, .hd 6 0 none] 24, ar 0 (.int .i64) x79 .dp, ar 0 (.int .i64) x80 .dp], [bx [.v (.int .i64) (0 : Int), .nil, .nil] 24, bx [.v (.int .i64) x75, .hd 2 0 none, .hd 3 0 none] 24, ar 0 (.int .i64) x76 .dp, ar 0 (.int .i64) x77 .dp, bx [.v (.int .i64) x78, .hd 5 0 none, .hd 6 0 none] 24, ar 0 (.int .i64) x79 .dp, ar 0 (.int .i64) x80 .dp, ar 0 (.int .i64) ([(x76.getD x81.toNat (Ty.dflt (.int .i64)))]) .dp], [bx [.v (.int .i64) (0 : Int), .nil, .nil] 24, bx [.v (.int .i64) x75, .hd 2 0 none, .hd 3 0 none] 24, ar 0 (.int .i64) x76 .dp, ar 0 (.int .i64) x77 .dp, bx [.v (.int .i64) x78, .hd 5 0 none, .hd 6 0 none] 24, ar 1 (.int .i64) (x79 ++ ([(x76.getD x81.toNat (Ty.dflt (.int .i64)))])) .dp, ar 0 (.int .i64) x80 .dp, ar 0 (.int .i64) ([(x76.getD x81.toNat (Ty.dflt (.int .i64)))]) .dp], [bx [.v (.int .i64) (0 : Int), .nil, .nil] 24, bx [.v (.int .i64) x75, .hd 2 0 none, .hd 3 0 none] 24, ar 0 (.int .i64) x76 .dp, ar 0 (.int .i64) x77 .dp, bx [.v (.int .i64) x78, .hd 5 1 none, .hd 6 0 none] 24, ar 1 (.int .i64) (x79 ++ ([(x76.getD x81.toNat (Ty.dflt (.int .i64)))])) .dp, ar 0 (.int .i64) x80 .dp, ar 0 (.int .i64) ([(x76.getD x81.toNat (Ty.dflt (.int .i64)))]) .dp]] [(0, 0), (0, 1), (0, 2), (1, 0), (1, 1), (2, 0), (2, 1), (2, 2), (3, 0), (3, 1), (3, 2), (4, 0), (4, 1), (4, 2), (5, 0), (5, 1), (5, 2), (6, 0), (7, 0), (8, 1), (9, 2), (10, 2)] [6, 7, 8, 9] [0, 1, 2, 3, 4, 5, 6] (s' := ⟨[(6, .lf (.ptr 0 0 0 0)), (7, .lf (.ptr 1 0 0 0)), (8, .lf (.ptr 4 0 0 0)), (9, I x81)], [bx [.v (.int .i64) (0 : Int), .nil, .nil] 24, bx [.v (.int .i64) x75, .hd 2 0 none, .hd 3 0 none] 24, ar 0 (.int .i64) x76 .dp, ar 0 (.int .i64) x77 .dp, bx [.v (.int .i64) x78, .hd 5 0 none, .hd 6 0 none] 24, ar 0 (.int .i64) (x79 ++ ([(x76.getD x81.toNat (Ty.dflt (.int .i64)))])) .dp, ar 0 (.int .i64) x80 .dp]⟩) (by kernel_rfl) (by kernel_rfl) ⟨⟨_, rfl, Stp.ev T_ok (m := .dp) (φ := True) (by kernel_rfl) trivial⟩,
    ⟨_, rfl, Stp.ev T_ok (m := .dp) (φ := True) (by kernel_rfl) trivial⟩,
    ⟨_, rfl, Stp.ev T_ok (m := .dp) (φ := True) (by kernel_rfl) trivial⟩,
    ⟨_, rfl, Stp.ev T_ok (m := .dp) (φ := True) (by kernel_rfl) trivial⟩,
    ⟨_, rfl, Stp.ev T_ok (m := .dp) (φ := True) (by kernel_rfl) trivial⟩,
    ⟨_, rfl, Stp.ev T_ok (m := .dp) (φ := True) (by kernel_rfl) trivial⟩,
    ⟨_, rfl, Stp.ev T_ok (m := .dp) (φ := True) (by kernel_rfl) trivial⟩,
    ⟨_, rfl, Stp.ev T_ok (m := .dp) (φ := True) (by kernel_rfl) trivial⟩,
    ⟨_, rfl, Stp.ev T_ok (m := .dp) (φ := True) (by kernel_rfl) trivial⟩,
    ⟨_, rfl, Stp.ev T_ok (m := .dp) (φ := True) (by kernel_rfl) trivial⟩,
    ⟨_, rfl, Stp.ev T_ok (m := .dp) (φ := True) (by kernel_rfl) trivial⟩,
    ⟨_, rfl, Stp.ev T_ok (m := .dp) (φ := True) (by kernel_rfl) trivial⟩,
    ⟨_, rfl, Stp.ev T_ok (m := .dp) (φ := True) (by kernel_rfl) trivial⟩,
    ⟨_, rfl, Stp.ev T_ok (m := .dp) (φ := True) (by kernel_rfl) trivial⟩,
    ⟨_, rfl, Stp.ev T_ok (m := .dp) (φ := InR x81 x76.length) (by kernel_rfl) g101⟩,
    ⟨_, rfl, Stp.ev T_ok (m := .dp) (φ := InR x81 x76.length) (by kernel_rfl) g101⟩,
    ⟨_, rfl, Stp.ev T_ok (m := .dp) (φ := InR x81 x76.length) (by kernel_rfl) g101⟩,
    ⟨_, rfl, Stp.ev T_ok (m := .dp) (φ := x81.toNat < x76.length) (by kernel_rfl) g102⟩,
    ⟨_, rfl, Stp.ev T_ok (m := .dp) (φ := True) (by kernel_rfl) trivial⟩,
    ⟨_, rfl, Stp.ev T_ok (m := .dp) (φ := x79.length + ([(x76.getD x81.toNat (Ty.dflt (.int .i64)))]).length ≤ lim (.int .i64)) (by kernel_rfl) g103⟩,
    ⟨_, rfl, Stp.ev T_ok (m := .dp) (φ := True) (by kernel_rfl) trivial⟩,
    ⟨_, rfl, Stp.ev T_ok (m := .dp) (φ := True) (by kernel_rfl) trivial⟩, trivial⟩ (by kernel_rfl) ?_
        show VW _ _ _ _ _ _ _
        obtain ⟨g104, h⟩ := gd_some h
        obtain ⟨g105, h⟩ := gd_some h
        obtain ⟨g106, h⟩ := gd_some h
        refine VW.drawn (by kernel_rfl) [some (39, .lf (.ptr 4 0 0 2)), some (40, .lf (.hd 6 0 none)), some (41, .lf (.ptr 1 0 0 2)), some (42, .lf (.hd 3 0 none)), some (43, I x81), some (44, .lf (.ptr 3 0 x81.toNat 0)), some (45, I (x77.getD x81.toNat (Ty.dflt (.int .i64)))), some (46, .lf (.hd 7 0 none)), some (47, .lf (.hd 6 1 none)), some (48, .lf (.ptr 4 0 0 2)), none] [7, 8, 10] [[bx [.v (.int .i64) (0 : Int), .nil, .nil] 24, bx [.v (.int .i64) x75, .hd 2 0 none, .hd 3 0 none] 24, ar 0 (.int .i64) x76 .dp, ar 0 (.int .i64) x77 .dp, bx [.v (.int .i64) x78, .hd 5 0 none, .hd 6 0 none] 24, ar 0 (.int .i64) (x79 ++ ([(x76.getD x81.toNat (Ty.dflt (.int .i64)))])) .dp, ar 0 (.int .i64) x80 .dp], [bx [.v (.int .i64) (0 : Int), .nil, .nil] 24, bx [.v (.int .i64) x75, .hd 2 0 none, .hd 3 0 none] 24, ar 0 (.int .i64) x76 .dp, ar 0 (.int .i64) x77 .dp, bx [.v (.int .i64) x78, .hd 5 0 none, .hd 6 0 none] 24, ar 0 (.int .i64) (x79 ++ ([(x76.getD x81.toNat (Ty.dflt (.int .i64)))])) .dp, ar 0 (.int .i64) x80 .dp, ar 0 (.int .i64) ([(x77.getD x81.toNat (Ty.dflt (.int .i64)))]) .dp], [bx [.v (.int .i64) (0 : Int), .nil, .nil] 24, bx [.v (.int .i64) x75, .hd 2 0 none, .hd 3 0 none] 24, ar 0 (.int .i64) x76 .dp, ar 0 (.int .i64) x77 .dp, bx [.v (.int .i64) x78, .hd 5 0 none, .hd 6 0 none] 24, ar 0 (.int .i64) (x79 ++ ([(x76.getD x81.toNat (Ty.dflt (.int .i64)))])) .dp, ar 1 (.int .i64) (x80 ++ ([(x77.getD x81.toNat (Ty.dflt (.int .i64)))])) .dp, ar 0 (.int .i64) ([(x77.getD x81.toNat (Ty.dflt (.int .i64)))]) .dp], [bx [.v (.int .i64) (0 : Int), .nil, .nil] 24, bx [.v (.int .i64) x75, .hd 2 0 none, .hd 3 0 none] 24, ar 0 (.int .i64) x76 .dp, ar 0 (.int .i64) x77 .dp, bx [.v (.int .i64) x78, .hd 5 0 none, .hd 6 1 none] 24, ar 0 (.int .i64) (x79 ++ ([(x76.getD x81.toNat (Ty.dflt (.int .i64)))])) .dp, ar 1 (.int .i64) (x80 ++ ([(x77.getD x81.toNat (Ty.dflt (.int .i64)))])) .dp, ar 0 (.int .i64) ([(x77.getD x81.toNat (Ty.dflt (.int .i64)))]) .dp]] [(0, 0), (0, 1), (0, 2), (1, 0), (1, 1), (2, 0), (2, 1), (2, 2), (3, 0), (3, 1), (3, 2), (4, 0), (4, 1), (4, 2), (5, 0), (5, 1), (5, 2), (6, 0), (7, 0), (8, 1), (9, 2), (10, 2)] [6, 7, 8, 9] [0, 1, 2, 3, 4, 5, 6] (s' := ⟨[(6, .lf (.ptr 0 0 0 0)), (7, .lf (.ptr 1 0 0 0)), (8, .lf (.ptr 4 0 0 0)), (9, I x81)], [bx [.v (.int .i64) (0 : Int), .nil, .nil] 24, bx [.v (.int .i64) x75, .hd 2 0 none, .hd 3 0 none] 24, ar 0 (.int .i64) x76 .dp, ar 0 (.int .i64) x77 .dp, bx [.v (.int .i64) x78, .hd 5 0 none, .hd 6 0 none] 24, ar 0 (.int .i64) (x79 ++ ([(x76.getD x81.toNat (Ty.dflt (.int .i64)))])) .dp, ar 0 (.int .i64) (x80 ++ ([(x77.getD x81.toNat (Ty.dflt (.int .i64)))])) .dp]⟩) (by kernel_rfl) (by kernel_rfl) ⟨⟨_, rfl, Stp.ev T_ok (m := .dp) (φ := True) (by kernel_rfl) trivial⟩,
    ⟨_, rfl, Stp.ev T_ok (m := .dp) (φ := True) (by kernel_rfl) trivial⟩,
    ⟨_, rfl, Stp.ev T_ok (m := .dp) (φ := True) (by kernel_rfl) trivial⟩,
    ⟨_, rfl, Stp.ev T_ok (m := .dp) (φ := True) (by kernel_rfl) trivial⟩,
    ⟨_, rfl, Stp.ev T_ok (m := .dp) (φ := True) (by kernel_rfl) trivial⟩,
    ⟨_, rfl, Stp.ev T_ok (m := .dp) (φ := True) (by kernel_rfl) trivial⟩,
    ⟨_, rfl, Stp.ev T_ok (m := .dp) (φ := True) (by kernel_rfl) trivial⟩,
    ⟨_, rfl, Stp.ev T_ok (m := .dp) (φ := True) (by kernel_rfl) trivial⟩,
    ⟨_, rfl, Stp.ev T_ok (m := .dp) (φ := True) (by kernel_rfl) trivial⟩,
    ⟨_, rfl, Stp.ev T_ok (m := .dp) (φ := True) (by kernel_rfl) trivial⟩,
    ⟨_, rfl, Stp.ev T_ok (m := .dp) (φ := True) (by kernel_rfl) trivial⟩,
    ⟨_, rfl, Stp.ev T_ok (m := .dp) (φ := True) (by kernel_rfl) trivial⟩,
    ⟨_, rfl, Stp.ev T_ok (m := .dp) (φ := True) (by kernel_rfl) trivial⟩,
    ⟨_, rfl, Stp.ev T_ok (m := .dp) (φ := True) (by kernel_rfl) trivial⟩,
    ⟨_, rfl, Stp.ev T_ok (m := .dp) (φ := InR x81 x77.length) (by kernel_rfl) g104⟩,
    ⟨_, rfl, Stp.ev T_ok (m := .dp) (φ := InR x81 x77.length) (by kernel_rfl) g104⟩,
    ⟨_, rfl, Stp.ev T_ok (m := .dp) (φ := InR x81 x77.length) (by kernel_rfl) g104⟩,
    ⟨_, rfl, Stp.ev T_ok (m := .dp) (φ := x81.toNat < x77.length) (by kernel_rfl) g105⟩,
    ⟨_, rfl, Stp.ev T_ok (m := .dp) (φ := True) (by kernel_rfl) trivial⟩,
    ⟨_, rfl, Stp.ev T_ok (m := .dp) (φ := x80.length + ([(x77.getD x81.toNat (Ty.dflt (.int .i64)))]).length ≤ lim (.int .i64)) (by kernel_rfl) g106⟩,
    ⟨_, rfl, Stp.ev T_ok (m := .dp) (φ := True) (by kernel_rfl) trivial⟩,
    ⟨_, rfl, Stp.ev T_ok (m := .dp) (φ := True) (by kernel_rfl) trivial⟩, trivial⟩ (by kernel_rfl) ?_
        show VW _ _ _ _ _ _ _
        refine VW.region ?_
        refine VO.seg T_ok .dp 3 [6, 7, 8, 9] [0, 1, 2, 3, 4, 5, 6] (s' := ⟨[(6, .lf (.ptr 0 0 0 0)), (7, .lf (.ptr 1 0 0 0)), (8, .lf (.ptr 4 0 0 0)), (9, I (IntKind.i64.wrap (x81 + (1 : Int))))], [bx [.v (.int .i64) (0 : Int), .nil, .nil] 24, bx [.v (.int .i64) x75, .hd 2 0 none, .hd 3 0 none] 24, ar 0 (.int .i64) x76 .dp, ar 0 (.int .i64) x77 .dp, bx [.v (.int .i64) x78, .hd 5 0 none, .hd 6 0 none] 24, ar 0 (.int .i64) (x79 ++ ([(x76.getD x81.toNat (Ty.dflt (.int .i64)))])) .dp, ar 0 (.int .i64) (x80 ++ ([(x77.getD x81.toNat (Ty.dflt (.int .i64)))])) .dp]⟩) (φ := True ∧ True ∧ True ∧ True) (by kernel_rfl) ⟨trivial, trivial, trivial, trivial⟩ ?_
        refine VO.nil ?_
        exact around [.ren [6, 7, 8, 9] [0, 1, 2, 3, 4, 5, 6]] (by kernel_rfl) ⟨x75, x76, x77, x78, (x79 ++ ([(x76.getD x81.toNat (Ty.dflt (.int .i64)))])), (x80 ++ ([(x77.getD x81.toNat (Ty.dflt (.int .i64)))])), (IntKind.i64.wrap (x81 + (1 : Int))), rfl, h⟩
      · replace h := cond_f h hb; clear hb
        refine VW.exit ?_
        exact arrive [.ren [6, 8] [0, 4, 5, 6]] (by kernel_rfl) ⟨x78, x79, x80, rfl, h⟩
  · rintro s ⟨x53, x54, x55, rfl, h⟩
    unfold F61_j0 at h
    refine VW.seq ?_
    refine VW.region ?_
    refine VO.seg T_ok .dp 2 [6] [0, 2, 3] (s' := ⟨[(6, .lf (.ptr 0 0 0 0))], [bx [.v (.int .i64) x53, .hd 1 0 none, .hd 2 0 none] 24, ar 0 (.int .i64) x54 .dp, ar 0 (.int .i64) x55 .dp]⟩) (φ := True ∧ True ∧ True) (by kernel_rfl) ⟨trivial, trivial, trivial⟩ ?_
    refine VO.nil ?_
    show VW _ _ _ _ _ _ _
    refine VW.ret ?_
    replace h := Option.some.inj h
    subst h
    exact retR [some 1, some 2] (by kernel_rfl) rfl

/- loop.example/g00844/spec.GetKey -/
def F35 (N : Nat) (a0 : (Int × ((List Int) × (List Int)))) (a1 : Int) : Option ((Int × ((List Int) × (List Int))) × Int × Bool) :=
  andO (F55 N a0 a1) fun y1 => andO (F20 N a0) fun y5 => cond (!y5) (andO (F57 N a0) fun y6 => some (y6, (0 : Int), false)) (cond (decide (y1 < (0 : Int))) (andO (F57 N a0) fun y7 => some (y7, (0 : Int), false)) (gd (InR y1 a0.2.2.length) (andO (F61 N a0 a1 (a0.2.2.getD y1.toNat (Ty.dflt (.int .i64)))) fun y9 => gd (InR y1 a0.2.2.length) (some (y9, (a0.2.2.getD y1.toNat (Ty.dflt (.int .i64))), true)))))
theorem ok35 (N : Nat) (a0 : (Int × ((List Int) × (List Int)))) (a1 : Int) {r : (Int × ((List Int) × (List Int))) × Int × Bool} (h : F35 N a0 a1 = some r) : Con Go.Proofs.Try.prog 35 [.agg [.v (.int .i64) a0.1, .v (.sl (.int .i64)) a0.2.1, .v (.sl (.int .i64)) a0.2.2], I a1] [.agg [.v (.int .i64) r.1.1, .own (.int .i64) r.1.2.1 .dp, .own (.int .i64) r.1.2.2 .dp], .lf (.v (.int .i64) r.2.1), .lf (.v .bool r.2.2)] := by
  refine ⟨enters_of Go.Proofs.Try.func35 rfl (by decide), HC.intro [.agg [.v (.int .i64), .own (.int .i64) .dp, .own (.int .i64) .dp], .lf (.v (.int .i64)), .lf (.v .bool)] T_ok Go.Proofs.Try.func35 rfl (Nat.le_of_ble_eq_true rfl) (Nat.le_of_ble_eq_true rfl) fun w0 E0 => ?_⟩
  unfold F35 at h
  show VW _ _ _ _ _ (retQ _ _ _ _) _
  refine VW.seq ?_
  refine VW.region ?_
  refine VO.seg T_ok .dp 4 [1, 2, 4] [0, 1] (s' := ⟨[(1, I a1), (2, .lf (.ptr 0 0 0 0)), (4, .lf (.ptr 1 0 0 0))], [bx [.v (.int .i64) a0.1, .v (.sl (.int .i64)) a0.2.1, .v (.sl (.int .i64)) a0.2.2] 24, bx [.v (.int .i64) (0 : Int), .nil, .nil] 24]⟩) (φ := True ∧ True ∧ True ∧ True ∧ True) (by kernel_rfl) ⟨trivial, trivial, trivial, trivial, trivial⟩ ?_
  refine VO.nil ?_
  show VW _ _ _ _ _ _ _
  refine VW.seq ?_
  refine VW.region ?_
  refine VO.seg T_ok .dp 2 [1, 2, 4, 8, 9] [0, 1] (s' := ⟨[(1, I a1), (2, .lf (.ptr 0 0 0 0)), (4, .lf (.ptr 1 0 0 0)), (8, .agg [.v (.int .i64) a0.1, .v (.sl (.int .i64)) a0.2.1, .v (.sl (.int .i64)) a0.2.2]), (9, I a1)], [bx [.v (.int .i64) a0.1, .v (.sl (.int .i64)) a0.2.1, .v (.sl (.int .i64)) a0.2.2] 24, bx [.v (.int .i64) (0 : Int), .nil, .nil] 24]⟩) (φ := True ∧ True ∧ True) (by kernel_rfl) ⟨trivial, trivial, trivial⟩ ?_
  obtain ⟨y1, hy, h⟩ := andO_some h
  refine VO.call false [.t Y23, .t (.int .i64)] [] T_ok (d := some 10) (by kernel_rfl) (ok55 N _ _ hy) rfl ?_
  refine VO.seg T_ok .dp 1 [1, 2, 4, 7] [0, 1] (s' := ⟨[(1, I a1), (2, .lf (.ptr 0 0 0 0)), (4, .lf (.ptr 1 0 0 0)), (7, I y1)], [bx [.v (.int .i64) a0.1, .v (.sl (.int .i64)) a0.2.1, .v (.sl (.int .i64)) a0.2.2] 24, bx [.v (.int .i64) (0 : Int), .nil, .nil] 24]⟩) (φ := True ∧ True) (by kernel_rfl) ⟨trivial, trivial⟩ ?_
  refine VO.nil ?_
  show VW _ _ _ _ _ _ _
  refine VW.seq ?_
  refine VW.seq ?_
  refine VW.region ?_
  refine VO.seg T_ok .dp 1 [1, 2, 4, 7, 11] [0, 1] (s' := ⟨[(1, I a1), (2, .lf (.ptr 0 0 0 0)), (4, .lf (.ptr 1 0 0 0)), (7, I y1), (11, .agg [.v (.int .i64) a0.1, .v (.sl (.int .i64)) a0.2.1, .v (.sl (.int .i64)) a0.2.2])], [bx [.v (.int .i64) a0.1, .v (.sl (.int .i64)) a0.2.1, .v (.sl (.int .i64)) a0.2.2] 24, bx [.v (.int .i64) (0 : Int), .nil, .nil] 24]⟩) (φ := True ∧ True) (by kernel_rfl) ⟨trivial, trivial⟩ ?_
  obtain ⟨y5, hy, h⟩ := andO_some h
  refine VO.call false [.t Y23] [] T_ok (d := some 12) (by kernel_rfl) (ok20 N _ hy) rfl ?_
  refine VO.seg T_ok .dp 2 [1, 2, 4, 7, 14] [0, 1] (s' := ⟨[(1, I a1), (2, .lf (.ptr 0 0 0 0)), (4, .lf (.ptr 1 0 0 0)), (7, I y1), (14, B (!y5))], [bx [.v (.int .i64) a0.1, .v (.sl (.int .i64)) a0.2.1, .v (.sl (.int .i64)) a0.2.2] 24, bx [.v (.int .i64) (0 : Int), .nil, .nil] 24]⟩) (φ := True ∧ True ∧ True) (by kernel_rfl) ⟨trivial, trivial, trivial⟩ ?_
  refine VO.splitB 14 (b := (!y5)) (by kernel_rfl) (fun hb => ?_) (fun hb => ?_)
  · replace h := cond_t h hb; clear hb
    refine VO.seg T_ok .dp 3 [1, 2, 4, 7, 17] [0, 1] (s' := ⟨[(1, I a1), (2, .lf (.ptr 0 0 0 0)), (4, .lf (.ptr 1 0 0 0)), (7, I y1), (17, B true)], [bx [.v (.int .i64) a0.1, .v (.sl (.int .i64)) a0.2.1, .v (.sl (.int .i64)) a0.2.2] 24, bx [.v (.int .i64) (0 : Int), .nil, .nil] 24]⟩) (φ := True ∧ True ∧ True ∧ True) (by kernel_rfl) ⟨trivial, trivial, trivial, trivial⟩ ?_
    refine VO.nil ?_
    show VW _ _ _ _ _ _ _
    refine VW.cond (b := true) (by kernel_rfl) (fun _ => ?_) (fun h' => nomatch h')
    refine VW.seq ?_
    refine VW.region ?_
    refine VO.seg T_ok .dp 1 [4, 18] [1] (s' := ⟨[(4, .lf (.ptr 0 0 0 0)), (18, .agg [.v (.int .i64) a0.1, .v (.sl (.int .i64)) a0.2.1, .v (.sl (.int .i64)) a0.2.2])], [bx [.v (.int .i64) (0 : Int), .nil, .nil] 24]⟩) (φ := True ∧ True) (by kernel_rfl) ⟨trivial, trivial⟩ ?_
    obtain ⟨y6, hy, h⟩ := andO_some h
    refine VO.call false [.t Y23] [] T_ok (d := some 19) (by kernel_rfl) (ok57 N _ hy) rfl ?_
    refine VO.seg T_ok .dp 3 [4, 5, 6] [0, 1, 2] (s' := ⟨[(4, .lf (.ptr 0 0 0 0)), (5, I (0 : Int)), (6, B false)], [bx [.v (.int .i64) y6.1, .hd 1 0 none, .hd 2 0 none] 24, ar 0 (.int .i64) y6.2.1 .dp, ar 0 (.int .i64) y6.2.2 .dp]⟩) (φ := True ∧ True ∧ True ∧ True) (by kernel_rfl) ⟨trivial, trivial, trivial, trivial⟩ ?_
    refine VO.nil ?_
    show VW _ _ _ _ _ _ _
    refine VW.ret ?_
    replace h := Option.some.inj h
    subst h
    exact retR [some 1, some 2] (by kernel_rfl) rfl
  · replace h := cond_f h hb; clear hb
    refine VO.seg T_ok .dp 3 [1, 2, 4, 7, 17] [0, 1] (s' := ⟨[(1, I a1), (2, .lf (.ptr 0 0 0 0)), (4, .lf (.ptr 1 0 0 0)), (7, I y1), (17, B (decide (y1 < (0 : Int))))], [bx [.v (.int .i64) a0.1, .v (.sl (.int .i64)) a0.2.1, .v (.sl (.int .i64)) a0.2.2] 24, bx [.v (.int .i64) (0 : Int), .nil, .nil] 24]⟩) (φ := True ∧ True ∧ True ∧ True) (by kernel_rfl) ⟨trivial, trivial, trivial, trivial⟩ ?_
    refine VO.nil ?_
    show VW _ _ _ _ _ _ _
    refine VW.cond (b := (decide (y1 < (0 : Int)))) (by kernel_rfl) (fun hb => ?_) (fun hb => ?_)
    · replace h := cond_t h hb; clear hb
      refine VW.seq ?_
      refine VW.region ?_
      refine VO.seg T_ok .dp 1 [4, 18] [1] (s' := ⟨[(4, .lf (.ptr 0 0 0 0)), (18, .agg [.v (.int .i64) a0.1, .v (.sl (.int .i64)) a0.2.1, .v (.sl (.int .i64)) a0.2.2])], [bx [.v (.int .i64) (0 : Int), .nil, .nil] 24]⟩) (φ := True ∧ True) (by kernel_rfl) ⟨trivial, trivial⟩ ?_
      obtain ⟨y7, hy, h⟩ := andO_some h
      refine VO.call false [.t Y23] [] T_ok (d := some 19) (by kernel_rfl) (ok57 N _ hy) rfl ?_
      refine VO.seg T_ok .dp 3 [4, 5, 6] [0, 1, 2] (s' := ⟨[(4, .lf (.ptr 0 0 0 0)), (5, I (0 : Int)), (6, B false)], [bx [.v (.int .i64) y7.1, .hd 1 0 none, .hd 2 0 none] 24, ar 0 (.int .i64) y7.2.1 .dp, ar 0 (.int .i64) y7.2.2 .dp]⟩) (φ := True ∧ True ∧ True ∧ True) (by kernel_rfl) ⟨trivial, trivial, trivial, trivial⟩ ?_
      refine VO.nil ?_
      show VW _ _ _ _ _ _ _
      refine VW.ret ?_
      replace h := Option.some.inj h
      subst h
      exact retR [some 1, some 2] (by kernel_rfl) rfl
    · replace h := cond_f h hb; clear hb
      refine VW.skip ?_
      show VW _ _ _ _ _ _ _
      refine VW.seq ?_
      obtain ⟨g8, h⟩ := gd_some h
      obtain ⟨y9, hy9, h⟩ := andO_some h
      obtain ⟨g10, h⟩ := gd_some h
      refine VW.drawn (by kernel_rfl) [some (20, .agg [.v (.int .i64) a0.1, .v (.sl (.int .i64)) a0.2.1, .v (.sl (.int .i64)) a0.2.2]), some (21, I a1), some (22, .lf (.ptr 0 0 0 2)), some (23, .lf (.v (.sl (.int .i64)) a0.2.2)), some (24, I y1), some (25, .lf (.fp (.int .i64) (a0.2.2.getD y1.toNat (Ty.dflt (.int .i64))) 0)), some (26, I (a0.2.2.getD y1.toNat (Ty.dflt (.int .i64)))), some (27, .agg [.v (.int .i64) y9.1, .hd 2 0 none, .hd 3 0 none]), some (28, .lf (.ptr 0 0 0 2)), some (29, .lf (.v (.sl (.int .i64)) a0.2.2)), some (30, I y1), some (31, .lf (.fp (.int .i64) (a0.2.2.getD y1.toNat (Ty.dflt (.int .i64))) 0)), some (32, I (a0.2.2.getD y1.toNat (Ty.dflt (.int .i64)))), none, some (5, I (a0.2.2.getD y1.toNat (Ty.dflt (.int .i64)))), some (6, B true)] [7, 13] [[bx [.v (.int .i64) a0.1, .v (.sl (.int .i64)) a0.2.1, .v (.sl (.int .i64)) a0.2.2] 24, bx [.v (.int .i64) (0 : Int), .nil, .nil] 24], [bx [.v (.int .i64) a0.1, .v (.sl (.int .i64)) a0.2.1, .v (.sl (.int .i64)) a0.2.2] 24, bx [.v (.int .i64) (0 : Int), .nil, .nil] 24, ar 0 (.int .i64) y9.2.1 .dp, ar 0 (.int .i64) y9.2.2 .dp], [bx [.v (.int .i64) a0.1, .v (.sl (.int .i64)) a0.2.1, .v (.sl (.int .i64)) a0.2.2] 24, bx [.v (.int .i64) y9.1, .hd 2 0 none, .hd 3 0 none] 24, ar 0 (.int .i64) y9.2.1 .dp, ar 0 (.int .i64) y9.2.2 .dp]] [(0, 0), (1, 0), (2, 0), (2, 1), (3, 0), (3, 1), (4, 0), (4, 1), (5, 0), (5, 1), (6, 0), (7, 0), (8, 0), (8, 1), (8, 2), (9, 0), (9, 1), (9, 2), (10, 0), (10, 1), (10, 2), (11, 0), (11, 1), (11, 2), (12, 0), (12, 1), (12, 2), (13, 1), (14, 2), (15, 2)] [4, 5, 6] [1, 2, 3] (s' := ⟨[(4, .lf (.ptr 0 0 0 0)), (5, I (a0.2.2.getD y1.toNat (Ty.dflt (.int .i64)))), (6, B true)], [bx [.v (.int .i64) y9.1, .hd 1 0 none, .hd 2 0 none] 24, ar 0 (.int .i64) y9.2.1 .dp, ar 0 (.int .i64) y9.2.2 .dp]⟩) (by kernel_rfl) (by kernel_rfl) ⟨⟨_, rfl, Stp.ev T_ok (m := .dp) (φ := True) (by kernel_rfl) trivial⟩,
    ⟨_, rfl, Stp.ev T_ok (m := .dp) (φ := True) (by kernel_rfl) trivial⟩,
    ⟨_, rfl, Stp.ev T_ok (m := .dp) (φ := True) (by kernel_rfl) trivial⟩,
    ⟨_, rfl, Stp.ev T_ok (m := .dp) (φ := True) (by kernel_rfl) trivial⟩,
    ⟨_, rfl, Stp.ev T_ok (m := .dp) (φ := True) (by kernel_rfl) trivial⟩,
    ⟨_, rfl, Stp.ev T_ok (m := .dp) (φ := True) (by kernel_rfl) trivial⟩,
    ⟨_, rfl, Stp.ev T_ok (m := .dp) (φ := True) (by kernel_rfl) trivial⟩,
    ⟨_, rfl, Stp.ev T_ok (m := .dp) (φ := True) (by kernel_rfl) trivial⟩,
    ⟨_, rfl, Stp.ev T_ok (m := .dp) (φ := InR y1 a0.2.2.length) (by kernel_rfl) g8⟩,
    ⟨_, rfl, Stp.ev T_ok (m := .dp) (φ := InR y1 a0.2.2.length) (by kernel_rfl) g8⟩,
    ⟨_, rfl, Stp.ev T_ok (m := .dp) (φ := True) (by kernel_rfl) trivial⟩,
    ⟨_, rfl, Stp.eq (Stp.call false [.t Y23, .t (.int .i64), .t (.int .i64)] [] T_ok (d := some 27) (by kernel_rfl) (ok61 N _ _ _ hy9) rfl) (by kernel_rfl) (by kernel_rfl)⟩,
    ⟨_, rfl, Stp.ev T_ok (m := .dp) (φ := True) (by kernel_rfl) trivial⟩,
    ⟨_, rfl, Stp.ev T_ok (m := .dp) (φ := True) (by kernel_rfl) trivial⟩,
    ⟨_, rfl, Stp.ev T_ok (m := .dp) (φ := True) (by kernel_rfl) trivial⟩,
    ⟨_, rfl, Stp.ev T_ok (m := .dp) (φ := True) (by kernel_rfl) trivial⟩,
    ⟨_, rfl, Stp.ev T_ok (m := .dp) (φ := True) (by kernel_rfl) trivial⟩,
    ⟨_, rfl, Stp.ev T_ok (m := .dp) (φ := True) (by kernel_rfl) trivial⟩,
    ⟨_, rfl, Stp.ev T_ok (m := .dp) (φ := True) (by kernel_rfl) trivial⟩,
    ⟨_, rfl, Stp.ev T_ok (m := .dp) (φ := True) (by kernel_rfl) trivial⟩,
    ⟨_, rfl, Stp.ev T_ok (m := .dp) (φ := True) (by kernel_rfl) trivial⟩,
    ⟨_, rfl, Stp.ev T_ok (m := .dp) (φ := InR y1 a0.2.2.length) (by kernel_rfl) g10⟩,
    ⟨_, rfl, Stp.ev T_ok (m := .dp) (φ := InR y1 a0.2.2.length) (by kernel_rfl) g10⟩,
    ⟨_, rfl, Stp.ev T_ok (m := .dp) (φ := InR y1 a0.2.2.length) (by kernel_rfl) g10⟩,
    ⟨_, rfl, Stp.ev T_ok (m := .dp) (φ := True) (by kernel_rfl) trivial⟩,
    ⟨_, rfl, Stp.ev T_ok (m := .dp) (φ := True) (by kernel_rfl) trivial⟩,
    ⟨_, rfl, Stp.ev T_ok (m := .dp) (φ := True) (by kernel_rfl) trivial⟩,
    ⟨_, rfl, Stp.ev T_ok (m := .dp) (φ := True) (by kernel_rfl) trivial⟩,
    ⟨_, rfl, Stp.ev T_ok (m := .dp) (φ := True) (by kernel_rfl) trivial⟩,
    ⟨_, rfl, Stp.ev T_ok (m := .dp) (φ := True) (by kernel_rfl) trivial⟩, trivial⟩ (by kernel_rfl) ?_
      show VW _ _ _ _ _ _ _
      refine VW.ret ?_
      replace h := Option.some.inj h
      subst h
      exact retR [some 1, some 2] (by kernel_rfl) rfl

end Go.Proofs.Ytcipgfjhodgncaa.Vc
